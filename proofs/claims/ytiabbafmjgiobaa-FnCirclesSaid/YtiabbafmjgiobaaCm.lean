/-
The law FnCircles, walked.
-/
import Derived.Test.YtiabbafmjgiobaaCk
import Derived.Test.YtiabbafmjgiobaaCl
import Derived.Test.YtiabbafmjgiobaaDr
set_option linter.unusedVariables false
set_option linter.unusedSimpArgs false
namespace Go.Proofs.Ytiabbafmjgiobaa
open Fl Go Go.RowKit

theorem c_b10At {A : Option Addr} {L c : Nat} (i n : Nat) (W : World) (hb : By W A L) (hL : L ≤ 1048576) (hn : 2 ≤ n) (hn2 : n ≤ 65536) (hi : i ≤ 1000) :
    Calls Try.prog 6 #[.slice A L c, .int .i64 i, .int .i64 n] W fun e w' => (∃ x : Nat, x < n ∧ e = .returned (.int .i64 x)) ∧ W = w' := by
  have hnI : ¬ (n : Int) ≤ 1 := by omega
  have hn0 : (n : Int) ≠ 0 := by omega
  by_cases hlt : i < L
  · obtain ⟨b, off, rfl, hbl, hc⟩ : ∃ b off, A = some ⟨b, off, none⟩ ∧ b < W.heap.size ∧ ∀ j, j < L → ∃ x : Nat, x < 256 ∧ W.cell? ⟨b, off + j, none⟩ = some (.int .u8 x) := by
      rcases hb with h | h
      · omega
      · exact h
    obtain ⟨x, hx, hcell⟩ := hc i hlt
    have hltI : (i : Int) < L := by omega
    clear hc hb
    go_enter Try.func6, Try.ntmps6
    go_wp2_with fail
    go_ret
    refine ⟨⟨x % n, Nat.mod_lt _ (by omega), ?_⟩, rfl⟩
    rw [Int.natCast_emod]
    rfl
  · have hltI : ¬ (i : Int) < L := by omega
    clear hb
    go_enter Try.func6, Try.ntmps6
    go_wp2_with fail
    go_ret
    refine ⟨⟨(i * 37 + 11) % n, Nat.mod_lt _ (by omega), ?_⟩, rfl⟩
    rw [Int.natCast_emod, Int.natCast_add, Int.natCast_mul]
    rfl
theorem c_b10Long (A B : Option Addr) (L M c d : Nat) (W : World) :
    Calls Try.prog 5 #[.slice A L c, .slice B M d] W fun e w' => e = .returned (.bool (decide (1048576 < L ∨ 1048576 < M))) ∧ W = w' := by
  by_cases h1 : 1048576 < L
  · have h1I : (1048576 : Int) < L := by omega
    go_enter Try.func5, Try.ntmps5
    go_wp2_with fail
    go_ret
    exact ⟨by rw [decide_eq_true (Or.inl h1)]; rfl, rfl⟩
  · have h1I : ¬ (1048576 : Int) < L := by omega
    by_cases h2 : 1048576 < M
    · have h2I : (1048576 : Int) < M := by omega
      go_enter Try.func5, Try.ntmps5
      go_wp2_with fail
      go_ret
      exact ⟨rfl, rfl⟩
    · have h2I : ¬ (1048576 : Int) < M := by omega
      go_enter Try.func5, Try.ntmps5
      go_wp2_with fail
      go_ret
      exact ⟨rfl, rfl⟩

/-- all that the law asks of the two numbers of 64ths -/
structure Circ (x y : Nat) (r1 i1 r2 i2 r3 i3 a aw p pw u v rw : Nat) (wh : Int) : Prop where
  f1 : Fnt (floatOfInt .f64 ((x : Int) - 128))
  f2 : Fnt (floatOfInt .f64 ((y : Int) - 128))
  f3 : Fnt (floatOfInt .f64 ((x : Int) - 128 + ((y : Int) - 128)))
  p1 : ∀ w, Calls Try.prog 16 #[.float .f64 (fdiv (floatOfInt .f64 ((x : Int) - 128)) 4634204016564240384)] w fun e w' => e = .returned (.complex .f32 r1 i1) ∧ ∃ k, w' = w.drewN k
  p2 : ∀ w, Calls Try.prog 16 #[.float .f64 (fdiv (floatOfInt .f64 ((y : Int) - 128)) 4634204016564240384)] w fun e w' => e = .returned (.complex .f32 r2 i2) ∧ ∃ k, w' = w.drewN k
  p3 : ∀ w, Calls Try.prog 16 #[.float .f64 (fdiv (floatOfInt .f64 ((x : Int) - 128 + ((y : Int) - 128))) 4634204016564240384)] w fun e w' => e = .returned (.complex .f32 r3 i3) ∧ ∃ k, w' = w.drewN k
  an : ∀ w, Calls Try.prog 17 #[.complex .f32 r1 i1] w fun e w' => e = .returned (.float .f32 a) ∧ ∃ k, w' = w.drewN k
  ua : UpTo a aw
  fa : Fnt aw
  fg : Fnt (fmul aw 4634204016564240384)
  ft : Fnt (fsub (fmul aw 4634204016564240384) (floatOfInt .f64 ((x : Int) - 128)))
  fs : Fnt (fadd (fsub (fmul aw 4634204016564240384) (floatOfInt .f64 ((x : Int) - 128))) 4666723447345250304)
  cv : ∀ w, (convert 39 2 (.float .f64 (fadd (fsub (fmul aw 4634204016564240384) (floatOfInt .f64 ((x : Int) - 128))) 4666723447345250304))).run Try.prog w = .ok (.int .i64 wh) w
  lo : 9000 ≤ wh
  hi : wh ≤ 11000
  md : (wh - 10000).tmod 64 = 0
  fw : Fnt (floatOfInt .f64 (wh - 10000))
  gt : (FloatKind.f64.format.order (gapN (fsub (fmul aw 4634204016564240384) (floatOfInt .f64 ((x : Int) - 128))) (floatOfInt .f64 (wh - 10000))) 4562254508917369340 == some .gt) = false
  pc : ∀ w, Calls Try.prog 19 #[.complex .f32 r1 i1] w fun e w' => e = .returned (.float .f32 p) ∧ w = w'
  up : UpTo p pw
  fp : Fnt pw
  pg : (FloatKind.f64.format.order (gapN pw 4607182418800017408) 4547007122018943789 == some .gt) = false
  ml : ∀ w, Calls Try.prog 21 #[.complex .f32 r1 i1, .complex .f32 r2 i2] w fun e w' => e = .returned (.complex .f32 u v) ∧ w = w'
  nr : ∀ w, Calls Try.prog 20 #[.complex .f32 u v, .complex .f32 r3 i3, .float .f64 4547007122018943789] w fun e w' => e = .returned (.bool true) ∧ w = w'
  ur : UpTo r1 rw
  fr : Fnt rw
  six : ((x : Int) - 128).tmod 16 = 0 → (FloatKind.f64.format.order (gapN rw 0) 0 == some .eq) = true ∨ (FloatKind.f64.format.order (gapN rw 0) 4607182418800017408 == some .eq) = true
theorem circ_of {x y : Nat} (hx : x < 256) (hy : y < 256) : ∃ r1 i1 r2 i2 r3 i3 a aw p pw u v rw wh, Circ x y r1 i1 r2 i2 r3 i3 a aw p pw u v rw wh := by
  have m1 := mN_lt ((x : Int) - 128)
  have m2 := mN_lt ((y : Int) - 128)
  have m3 := mN_lt ((x : Int) - 128 + ((y : Int) - 128))
  have hk : mN ((x : Int) - 128 + ((y : Int) - 128)) = (mN ((x : Int) - 128) + mN ((y : Int) - 128)) % 64 := by unfold mN; omega
  have W1 := wide_of m1
  have T := turn_of (n := (x : Int) - 128) (by omega) (by omega)
  obtain ⟨Pc, Pn⟩ := c_phPow m1
  obtain ⟨Mc, Mn⟩ := c_phMul m1 m2 hk
  exact ⟨_, _, _, _, _, _, _, _, _, _, _, _, _, _, ⟨int_fnt (by omega) (by omega), int_fnt (by omega) (by omega), int_fnt (by omega) (by omega),
    fun w => c_ph (by omega) (by omega) w, fun w => c_ph (by omega) (by omega) w, fun w => c_ph (by omega) (by omega) w, fun w => c_phAngle m1 w, W1.a, W1.fa, T.g, T.t, T.s, T.cv, T.lo, T.hi, T.md, T.fw, T.gt,
    Pc, Pn.u, Pn.g, Pn.gt, Mc, Mn, W1.r, W1.fr, fun h => by
      have := sixteen h
      unfold chk16 at this
      simpa only [Bool.or_eq_true] using this⟩⟩

end Go.Proofs.Ytiabbafmjgiobaa
