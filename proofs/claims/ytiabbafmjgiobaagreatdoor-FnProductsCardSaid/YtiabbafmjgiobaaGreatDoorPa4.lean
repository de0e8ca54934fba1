/-
Parts of the proof, put together: Pl Oy. No condition.
-/
import Derived.Test.YtiabbafmjgiobaaGreatDoorPa3
import Derived.Deep.QuietTactic
import Derived.BigQuiet
import Derived.OpenShut
import Derived.Carry

/-
The law FnProducts, walked.
-/
set_option linter.unusedVariables false
set_option linter.unusedSimpArgs false
namespace Go.Proofs.YtiabbafmjgiobaaGreatDoor
open Fl Go Go.RowKit

theorem Fc.drewN {w : World} {A : Option Addr} {xs : List (Nat × Nat)} (h : Fc w A xs) (n : Nat) : Fc (w.drewN n) A xs := h
theorem textC_size (xs : List (Nat × Nat)) (hl : xs.length ≤ 256) : (⟨(textL (xs.map hexC)).toArray⟩ : ByteArray).size ≤ 1048576 := by
  show (textL (xs.map hexC)).toArray.size ≤ _
  rw [List.size_toArray]
  unfold textL
  split
  · simp
  · have := join_bound (B := 16) (ds := xs.map hexC) (by
      intro d hd
      simp only [List.mem_map] at hd
      obtain ⟨v, _, rfl⟩ := hd
      exact Nat.le_of_eq (hexC_len _))
    rw [List.length_map] at this
    omega
theorem allC_of {xs : List (Nat × Nat)} (h : ∀ x ∈ xs, x.1 < 4294967296 ∧ x.2 < 4294967296) : AllC xs := by
  intro j
  by_cases hj : j < xs.length
  · have e : xs.getD j (0, 0) = xs[j] := by simp [List.getD_eq_getElem?_getD, hj]
    rw [e]; exact h _ (List.getElem_mem hj)
  · have e : xs.getD j (0, 0) = (0, 0) := by simp [List.getD_eq_getElem?_getD, hj]
    rw [e]; exact ⟨Nat.zero_lt_succ _, Nat.zero_lt_succ _⟩
def nbC (x : Nat × Nat) : Nat × Nat := (nb x.1, nb x.2)

set_option maxRecDepth 100000 in
theorem c_b10Same (A B : Option Addr) (c d : Nat) (xs : List (Nat × Nat)) (w : World) (hA : Fc w A (xs.map nbC)) (hB : Fc w B xs) (hx : AllC xs) (hm : xs.length ≤ 1000) :
    Calls Tryz.prog 23 #[.slice A xs.length c, .slice B xs.length d] w (RB true w) := by
  have HA := hide_ hA
  have HB := hide_ hB
  clear hA hB
  unfold RB
  go_enter Tryz.func23, Tryz.ntmps23
  go_wp2_with fail
  go_loopw [13] (fun i wr => ∃ k m : Nat, k ≤ xs.length ∧ i = .int .i64 k ∧ wr = w.drewN m) (fun i _ => xs.length - (intOf i).toNat)
  case atStart => exact ⟨0, 0, Nat.zero_le _, rfl, rfl⟩
  case round =>
    obtain ⟨k, m, hk, rfl, rfl⟩ := hrel
    by_cases hlt : k < xs.length
    · obtain ⟨b, off, rfl, hb, hc⟩ := HA.out.of_pos (by rw [List.length_map]; omega)
      obtain ⟨b', off', rfl, hb', hc'⟩ := HB.out.of_pos (by omega)
      have h1 := hc k (by rw [List.length_map]; exact hlt)
      have h2 := hc' k hlt
      have e2 : (xs.map nbC).getD k (0, 0) = nbC (xs.getD k (0, 0)) := by simp [List.getD_eq_getElem?_getD, hlt]
      rw [e2] at h1
      have hvk := hx k
      generalize xs.getD k (0, 0) = v at h1 h2 hvk
      obtain ⟨v1, v2⟩ := v
      obtain ⟨hv1, hv2⟩ := hvk
      simp only [nbC, cxV] at h1 h2 hv1 hv2
      have SV := hide_ (fun W => c_specSameC (nb v1) (nb v2) v1 v2 (nb_lt hv1) (nb_lt hv2) hv1 hv2 (same_nb v1) (same_nb v2) W)
      generalize nb v1 = b1 at h1 SV
      generalize nb v2 = b2 at h1 SV
      clear hc hc' e2
      have hltI : (k : Int) < xs.length := by omega
      have h1' : (w.drewN m).cell? ⟨b, off + k, none⟩ = some (.complex .f32 b1 b2) := h1
      have h2' : (w.drewN m).cell? ⟨b', off' + k, none⟩ = some (.complex .f32 v1 v2) := h2
      clear h1 h2
      generalize hwq : w.drewN m = wq at h1' h2' ⊢
      have HWQ := hide_ hwq
      clear hwq
      go_wp2_with fail
      go_quiet ((go_at_call 59; exact Calls.quiet_of_same ((SV.out _).mono fun e w' h => ⟨h.1, h.2.symm⟩)))
      go_wp2_with fail
      go_roundw
      case rel => exact ⟨k + 1, m + _, by omega, by go_num, by rw [← HWQ.out, World.drewN_drewN]⟩
      case measure => simp [intOf]; omega
    · have hks : k = xs.length := by omega
      subst hks
      go_wp2_with fail
      go_ret
      exact ⟨rfl, m, rfl⟩

theorem back_all : (List.range 401).all (fun z => floatToIntVal .f32 (floatOfInt .f32 ((z : Int) - 200)) .i64 == some ((z : Int) - 200)) = true := by kernel_rfl
theorem back_int {z : Nat} (h : z < 401) : ∀ w, (convert 28 2 (.float .f32 (floatOfInt .f32 ((z : Int) - 200)))).run Tryz.prog w = .ok (.int .i64 ((z : Int) - 200)) w := by
  have := eq_of_beq (List.all_eq_true.1 back_all z (List.mem_range.2 h))
  exact fun w => run_convert_float_int w _ _ _ _ _ _ (by rw [Tryz.underlying28]; rfl) Tryz.underlying2 this
/-- what is known of a part that was drawn -/
structure Part (x : Nat) (i : Int) : Prop where
  val : FV .f32 x i
  lo : -200 ≤ i
  hi : i ≤ 200
  back : ∀ w, (convert 28 2 (.float .f32 x)).run Tryz.prog w = .ok (.int .i64 i) w
  eq : x = floatOfInt .f32 i
theorem part_of {z : Nat} (h : z < 401) : Part (floatOfInt .f32 ((z : Int) - 200)) ((z : Int) - 200) :=
  ⟨fv_int .f32 _ (Nat.lt_of_lt_of_le (show ((z : Int) - 200).natAbs < 16777216 by omega) (by decide)), by omega, by omega, back_int h, rfl⟩
theorem Part.abs {x : Nat} {i : Int} (h : Part x i) : i.natAbs ≤ 200 := by have := h.lo; have := h.hi; omega
theorem fv_zero : FV .f32 0 0 := by
  have := fv_int .f32 0 (by decide)
  have e : floatOfInt .f32 0 = 0 := by kernel_rfl
  rw [e] at this; exact this
/-- the root of the power, in both ways -/
theorem long_of {x1 x2 : Nat} {i1 i2 : Int} (h1 : Part x1 i1) (h2 : Part x2 i2) (w : World) : Calls Tryz.prog 11 #[.complex .f32 x1 x2] w (RF .f32 (rootV (floatOfInt .f32 (i1 * i1 + i2 * i2))) w) := by
  have a1 := h1.abs
  have a2 := h2.abs
  obtain ⟨A, fA, uA, cA⟩ := up_of h1.val (by omega)
  obtain ⟨B, fB, uB, cB⟩ := up_of h2.val (by omega)
  have n1 := mul_bound a1 a1
  have n2 := mul_bound a2 a2
  have m1 := mulF fA fA (by omega)
  have m2 := mulF fB fB (by omega)
  have sm := addF m1 m2 (by omega)
  have hs := fv_int .f32 (i1 * i1 + i2 * i2) (Nat.lt_of_lt_of_le (show (i1 * i1 + i2 * i2).natAbs < 16777216 by omega) (by decide))
  refine c_long x1 x2 A B _ uA uB fA.fnt fB.fnt m1.fnt m2.fnt hs.lt32 ?_ sm.fnt w
  by_cases h0 : i1 * i1 + i2 * i2 = 0
  · have z1 : 0 ≤ i1 * i1 := by rw [← Int.natAbs_mul_self]; exact Int.natCast_nonneg _
    have z2 : 0 ≤ i2 * i2 := by rw [← Int.natAbs_mul_self]; exact Int.natCast_nonneg _
    have e1 : i1 = 0 := by
      have : i1 * i1 = 0 := by omega
      rcases Int.mul_eq_zero.1 this with h | h <;> exact h
    have e2 : i2 = 0 := by
      have : i2 * i2 = 0 := by omega
      rcases Int.mul_eq_zero.1 this with h | h <;> exact h
    rw [h0]
    subst e1; subst e2
    have q1 : x1 = 0 := h1.eq.trans (by kernel_rfl)
    have q2 : x2 = 0 := h2.eq.trans (by kernel_rfl)
    subst q1; subst q2
    have k0 : cvf .f32 .f64 (fv .f32 0) = some 0 := by kernel_rfl
    rw [k0] at cA cB
    have eA := (Option.some.inj cA).symm
    have eB := (Option.some.inj cB).symm
    subst eA; subst eB
    show cvf .f32 .f64 (fv .f32 (floatOfInt .f32 0)) = some (fadd (fmul 0 0) (fmul 0 0))
    kernel_rfl
  · obtain ⟨P, fP, _, cP⟩ := up_of hs (by omega)
    rw [cP, fv_uniq fP sm h0]
theorem eq_fact {x y : Nat} {i j : Int} (hx : FV .f32 x i) (hy : FV .f32 y j) (h : i = j) : (FloatKind.f32.format.order x y == some .eq) = true := by
  rw [fv_eq hx hy, decide_eq_true h]

/-- the one number that was drawn -/
theorem whole_cell {base : Nat} {zs : List (Nat × Nat)} {v : Value} {W : World} (hl : zs.length = 1) (hO : OwnC base (zs.map whC) v W) (hz : ∀ z ∈ zs, z.1 < 401 ∧ z.2 < 401) :
    ∃ (b off cap : Nat) (x1 x2 : Nat) (i1 i2 : Int), v = .slice (some ⟨b, off, none⟩) 1 cap ∧ W.cell? ⟨b, off, none⟩ = some (.complex .f32 x1 x2) ∧ Part x1 i1 ∧ Part x2 i2 := by
  obtain ⟨z, rfl⟩ := List.length_eq_one_iff.1 hl
  obtain ⟨A, cap, rfl, hF⟩ := Fc.of_own hO
  obtain ⟨b, off, rfl, _, hc⟩ := hF.of_pos (by simp)
  have h0 := hc 0 (by simp)
  obtain ⟨h1, h2⟩ := hz z (by simp)
  exact ⟨b, off, cap, _, _, _, _, rfl, h0, part_of h1, part_of h2⟩

theorem sq_ne {j k : Int} (h : j ≠ 0 ∨ k ≠ 0) : j * j + k * k ≠ 0 := by
  have z1 : 0 ≤ j * j := by rw [← Int.natAbs_mul_self]; exact Int.natCast_nonneg _
  have z2 : 0 ≤ k * k := by rw [← Int.natAbs_mul_self]; exact Int.natCast_nonneg _
  intro h0
  have e1 : j * j = 0 := by omega
  have e2 : k * k = 0 := by omega
  have f1 : j = 0 := by rcases Int.mul_eq_zero.1 e1 with h | h <;> exact h
  have f2 : k = 0 := by rcases Int.mul_eq_zero.1 e2 with h | h <;> exact h
  rcases h with h | h
  · exact h f1
  · exact h f2

set_option maxRecDepth 100000 in
set_option maxHeartbeats 4000000 in
theorem walk_FnProducts (A : Option Addr) (c L : Nat) (B : Option Addr) (d M : Nat) (w : World) (hA : By w A L) (hB : By w B M) (hv : VarsM w) (hz : Tz w) :
    Calls Tryz.prog 3 #[.slice A L c, .slice B M d] w (LawD w) := by
  have HLong := hide_ (c_b10Long A B L M c d w)
  by_cases hlong : 1048576 < L ∨ 1048576 < M
  · rw [decide_eq_true hlong] at HLong
    clear hA hB hv hz
    go_enter Tryz.func3, Tryz.ntmps3
    go_wp2_with fail
    go_at_call 5
    refine Calls.mono HLong.out ?_
    rintro e w1 ⟨rfl, rfl⟩
    go_wp2_with fail
    go_ret
    exact ⟨rfl, Below.refl _ _⟩
  · rw [decide_eq_false hlong] at HLong
    obtain ⟨hL, hM⟩ : L ≤ 1048576 ∧ M ≤ 1048576 := by omega
    clear hlong
    have HA := hide_ hA
    have HB := hide_ hB
    have HV := hide_ hv
    have HZ := hide_ hz
    have NA := hide_ (c_B10Whole (A := A) (L := L) (c := c) 1 w hA hL (by decide))
    have NB := hide_ (fun W h => c_B10Whole (A := B) (L := M) (c := d) 1 W h hM (by decide))
    have NAt := hide_ (fun W h => c_b10At (A := A) (L := L) (c := c) 0 9 W h hL (by decide) (by decide) (by decide))
    have NL := hide_ (fun n (hn : n ≤ 1000) W h => c_B10Any (A := B) (L := M) (c := d) n W h hM hn)
    have NZ := hide_ (fun W h => c_B10Number (A := A) (L := L) (c := c) W h hL)
    have NW := hide_ (fun W h => c_B10Complex (A := A) (L := L) (c := c) W h hL)
    clear hA hB hv hz
    go_enter Tryz.func3, Tryz.ntmps3
    go_wp2_with fail
    go_at_call 5
    refine Calls.mono HLong.out ?_
    rintro e w0 ⟨rfl, rfl⟩
    go_wp2_with fail
    go_at_call 6
    refine Calls.mono NA.out ?_
    rintro e w1 ⟨v, zs, rfl, hl, hO, hzs, hB1⟩
    obtain ⟨ab, ao, ac, x1, x2, i1, i2, rfl, hac, P1, P2⟩ := whole_cell hl hO hzs
    have B1 := hide_ hB1
    have HP1 := hide_ P1
    have HP2 := hide_ P2
    clear hB1 hl hO hzs P1 P2
    go_wp2_with fail
    go_at_call 6
    refine Calls.mono (NB.out _ (HB.out.keep B1.out (Nat.le_refl _))) ?_
    rintro e w2 ⟨v, zs, rfl, hl, hO, hzs, hB2⟩
    obtain ⟨bb, bo, bc, y1, y2, j1, j2, rfl, hbc, P3, P4⟩ := whole_cell hl hO hzs
    have B2 := hide_ (B1.out.trans (hB2.mono B1.out.size))
    have HP3 := hide_ P3
    have HP4 := hide_ P4
    clear hB2 hl hO hzs P3 P4 hac
    have n1 := HP1.out.abs
    have n2 := HP2.out.abs
    have n3 := HP3.out.abs
    have n4 := HP4.out.abs
    have M1 := hide_ (fun W => c_mulI x1 x2 y1 y2 i1 i2 j1 j2 HP1.out.val HP2.out.val HP3.out.val HP4.out.val (by omega) (by omega) (by omega) (by omega) W)
    have M2 := hide_ (fun W => c_mulI y1 y2 x1 x2 j1 j2 i1 i2 HP3.out.val HP4.out.val HP1.out.val HP2.out.val (by omega) (by omega) (by omega) (by omega) W)
    have M3 := hide_ (fun W => c_mulI x1 x2 x1 (Op.negFloat .f32 x2) i1 i2 i1 (-i2) HP1.out.val HP2.out.val HP1.out.val (fv_neg HP2.out.val) (by omega) (by omega) (by omega) (by omega) W)
    have PW := hide_ (fun W => c_powerOf x1 x2 i1 i2 HP1.out.val HP2.out.val (by omega) (by omega) W)
    have CJ := hide_ (fun W => c_conj x1 x2 W)
    have LO := hide_ (fun W => long_of HP1.out HP2.out W)
    have SC := hide_ (fun W => c_scale2 x1 x2 i1 i2 HP1.out.val HP2.out.val (by omega) (by omega) W)
    have p11 := mul_bound n1 n1
    have p22 := mul_bound n2 n2
    have p13 := mul_bound n1 n3
    have p24 := mul_bound n2 n4
    have p14 := mul_bound n1 n4
    have p23 := mul_bound n2 n3
    have FX := hide_ (fv_int .f32 (i1 * j1 - i2 * j2) (Nat.lt_of_lt_of_le (show (i1 * j1 - i2 * j2).natAbs < 16777216 by omega) (by decide)))
    have FY := hide_ (fv_int .f32 (i1 * j2 + i2 * j1) (Nat.lt_of_lt_of_le (show (i1 * j2 + i2 * j1).natAbs < 16777216 by omega) (by decide)))
    have FP := hide_ (fv_int .f32 (i1 * i1 + i2 * i2) (Nat.lt_of_lt_of_le (show (i1 * i1 + i2 * i2).natAbs < 16777216 by omega) (by decide)))
    have q1 : -40000 ≤ i1 * j1 ∧ i1 * j1 ≤ 40000 := by omega
    have q2 : -40000 ≤ i2 * j2 ∧ i2 * j2 ≤ 40000 := by omega
    have q3 : -40000 ≤ i1 * j2 ∧ i1 * j2 ≤ 40000 := by omega
    have q4 : -40000 ≤ i2 * j1 ∧ i2 * j1 ≤ 40000 := by omega
    have q5 : -40000 ≤ i1 * i1 ∧ i1 * i1 ≤ 40000 := by omega
    have q6 : -40000 ≤ i2 * i2 ∧ i2 * i2 ≤ 40000 := by omega
    have k1 := HP1.out.back
    have k2 := HP2.out.back
    have k3 := HP3.out.back
    have k4 := HP4.out.back
    clear p11 p22 p13 p24 p14 p23 n1 n2 n3 n4
    go_wp2_with fail
    go_at_call 7
    refine Calls.mono (M1.out _) ?_
    rintro e w3 ⟨⟨u, v, fu, fv', rfl⟩, rfl⟩
    have HU := hide_ fu
    have HVV := hide_ fv'
    have o1 := eq_fact fu FX.out rfl
    have o2 := eq_fact fv' FY.out rfl
    clear fu fv'
    go_wp2_with fail
    go_at_call 7
    refine Calls.mono (M2.out _) ?_
    rintro e w4 ⟨⟨u2, v2, fu, fv', rfl⟩, rfl⟩
    have o3 := eq_fact fu HU.out (by rw [Int.mul_comm j1 i1, Int.mul_comm j2 i2])
    have o4 := eq_fact fv' HVV.out (by rw [Int.mul_comm j1 i2, Int.mul_comm j2 i1, Int.add_comm])
    clear fu fv' o1 o2
    go_wp2_with fail
    go_at_call 8
    refine Calls.mono (PW.out _) ?_
    rintro e w5 ⟨⟨u3, fu, rfl⟩, rfl⟩
    have o5 := eq_fact fu FP.out rfl
    have o5' : (FloatKind.f32.format.order u3 (floatOfInt .f32 (i1 * i1 + i2 * i2)) != some .eq) = false := by rw [bne, o5]; rfl
    clear fu o3 o4
    go_wp2_with fail
    go_at_call 9
    refine Calls.mono (CJ.out _) ?_
    rintro e w6 ⟨rfl, rfl⟩
    clear o5 o5'
    go_wp2_with fail
    go_at_call 7
    refine Calls.mono (M3.out _) ?_
    rintro e w7 ⟨⟨u4, v4, fu, fv', rfl⟩, rfl⟩
    have o6 := eq_fact fu FP.out (by rw [Int.mul_neg, Int.sub_neg])
    have o7 := eq_fact fv' fv_zero (by rw [Int.mul_neg, Int.mul_comm i2 i1]; omega)
    clear fu fv'
    go_wp2_with fail
    go_at_call 11
    refine Calls.mono (LO.out _) ?_
    rintro e w8 ⟨s1, hs1, rfl, n8, hw8⟩
    have B8 := hide_ (show Below w.heap.size w w8 by rw [hw8]; exact B2.out.trans (drew_belowN _ _))
    have HS1 := hide_ hs1
    clear hs1 hw8 o6 o7
    go_wp2_with fail
    go_at_call 12
    refine Calls.mono (c_specRoot _ FP.out.lt32 _) ?_
    rintro e w9 ⟨s2, hs2, rfl, n9, hw9⟩
    have B9 := hide_ (show Below w.heap.size w w9 by rw [hw9]; exact B8.out.trans (drew_belowN _ _))
    have SS := hide_ (fun W => c_sameYes s1 s2 (rv32 HS1.out) (rv32 hs2) (same_fv (HS1.out.1.trans hs2.1.symm)) W)
    clear hs2 hw9
    go_wp2_with fail
    go_at_call 10
    refine Calls.mono (SS.out _) ?_
    rintro e w10 ⟨rfl, rfl⟩
    have z1 := fv_eq HP3.out.val fv_zero
    have z2 := fv_eq HP4.out.val fv_zero
    have hzz : ((FloatKind.f32.format.order y1 0 == some .eq) = true ∧ (FloatKind.f32.format.order y2 0 == some .eq) = true) ∨ ((FloatKind.f32.format.order y1 0 == some .eq) = false ∧ j1 * j1 + j2 * j2 ≠ 0) ∨ ((FloatKind.f32.format.order y1 0 == some .eq) = true ∧ (FloatKind.f32.format.order y2 0 == some .eq) = false ∧ j1 * j1 + j2 * j2 ≠ 0) := by
      rw [z1, z2]
      by_cases h1 : j1 = 0
      · by_cases h2 : j2 = 0
        · exact .inl ⟨decide_eq_true h1, decide_eq_true h2⟩
        · exact .inr (.inr ⟨decide_eq_true h1, decide_eq_false h2, sq_ne (.inr h2)⟩)
      · exact .inr (.inl ⟨decide_eq_false h1, sq_ne (.inl h1)⟩)
    clear z1 z2
    have HZ3 := hide_ hzz
    clear hzz
    obtain ⟨g1, hg1, fg1⟩ := fv_add HP1.out.val HP1.out.val (Nat.lt_of_lt_of_le (show (i1 + i1).natAbs < 16777216 by have := HP1.out.abs; omega) (by decide))
    obtain ⟨g2, hg2, fg2⟩ := fv_add HP2.out.val HP2.out.val (Nat.lt_of_lt_of_le (show (i2 + i2).natAbs < 16777216 by have := HP2.out.abs; omega) (by decide))
    have ra : ∀ w, (binOp .add 24 (.complex .f32 x1 x2) (.complex .f32 x1 x2)).run Tryz.prog w = .ok (.complex .f32 g1 g2) w := fun w => run_complex_sum w .add (.inl rfl) _ _ _ _ _ _ _ _ (by unfold cSumBits; rw [hg1]; simp only [Option.bind_some]; rw [hg2]; rfl)
    have HG1 := hide_ fg1
    have HG2 := hide_ fg2
    clear hg1 hg2 fg1 fg2
    have HQ := hide_ (fun (h0 : j1 * j1 + j2 * j2 ≠ 0) W => c_quotI u v y1 y2 (i1 * j1 - i2 * j2) (i1 * j2 + i2 * j1) j1 j2 i1 i2 HU.out HVV.out HP3.out.val HP4.out.val (by omega) (by omega) (by have := HP3.out.abs; omega) (by have := HP4.out.abs; omega) h0 (by grind) (by grind) (by have := HP1.out.abs; omega) (by have := HP2.out.abs; omega) W)
    clear q1 q2 q3 q4 q5 q6 k1 k2 k3 k4
    obtain ⟨z1, z2⟩ | ⟨z1, hne⟩ | ⟨z1, z2, hne⟩ := HZ3.out
    case' inl =>
      go_wp2_with fail
      clear z1 z2
    case' inr.inl =>
      have HQ2 := hide_ (HQ.out hne)
      clear hne
      go_wp2_with fail
      go_at_call 13
      refine Calls.mono (HQ2.out _) ?_
      rintro e w11 ⟨⟨u5, v5, fu, fv', rfl⟩, rfl⟩
      have o8 := eq_fact fu HP1.out.val rfl
      have o9 := eq_fact fv' HP2.out.val rfl
      clear fu fv' HQ2 z1
      go_wp2_with fail
      clear o8 o9
    case' inr.inr =>
      have HQ2 := hide_ (HQ.out hne)
      clear hne
      go_wp2_with fail
      go_at_call 13
      refine Calls.mono (HQ2.out _) ?_
      rintro e w11 ⟨⟨u5, v5, fu, fv', rfl⟩, rfl⟩
      have o8 := eq_fact fu HP1.out.val rfl
      have o9 := eq_fact fv' HP2.out.val rfl
      clear fu fv' HQ2 z1 z2
      go_wp2_with fail
      clear o8 o9
    all_goals
      clear HQ HZ3 HU HVV M1 M2 M3 PW CJ LO FX FY FP SS HLong NA NB
      go_at_call 14
      refine Calls.mono (SC.out _) ?_
      rintro e w12 ⟨⟨u6, v6, fu, fv', rfl⟩, rfl⟩
      have o10 := eq_fact fu HG1.out (by omega)
      have o11 := eq_fact fv' HG2.out (by omega)
      clear fu fv' SC HG1 HG2
      go_wp2_with fail
      clear ra o10 o11
      go_at_call 16
      refine Calls.mono (NAt.out _ (HA.out.keep B9.out (Nat.le_refl _))) ?_
      rintro e w13 ⟨⟨n, hn, rfl⟩, rfl⟩
      go_wp2_with fail
      go_at_call 15
      refine Calls.mono (NL.out n (by omega) _ (HB.out.keep B9.out (Nat.le_refl _))) ?_
      rintro e w14 ⟨v, xs, rfl, hxl, hO, hxs, hB14⟩
      subst hxl
      obtain ⟨A14, c14, rfl, hF14⟩ := Fc.of_own hO
      have hx256 : xs.length ≤ 256 := by omega
      have B14 := hide_ (B9.out.trans (hB14.mono B9.out.size))
      have F14 := hide_ hF14
      have AX := hide_ (allC_of hxs)
      have XS := hide_ hxs
      clear hB14 hO hF14 hxs B9
      have NT := hide_ (c_implCText A14 c14 xs w14 F14.out AX.out hx256 (HZ.out.keep B14.out))
      have RN := hide_ (fun W hv hz => c_implReadComplex ⟨(textL (xs.map hexC)).toArray⟩ W (textC_size xs hx256) hv hz)
      unfold CReadGives at RN
      rw [(textC_back xs XS.out hx256).1, (textC_back xs XS.out hx256).2] at RN
      generalize (⟨(textL (xs.map hexC)).toArray⟩ : ByteArray) = T at NT RN
      go_wp2_with fail
      go_at_call 17
      refine Calls.mono NT.out ?_
      rintro e w15 ⟨rfl, hB15⟩
      have B15 := hide_ (B14.out.trans (hB15.mono B14.out.size))
      have F15 := hide_ (F14.out.keep hB15 (Nat.le_refl _))
      clear hB15 NT F14 B14
      go_wp2_with fail
      go_at_call 18
      refine Calls.mono (RN.out _ (HV.out.keep B15.out) (HZ.out.keep B15.out)) ?_
      rintro e w16 ⟨v, rfl, hO, hB16⟩
      obtain ⟨A16, c16, rfl, hF16⟩ := Fc.of_own hO
      have B16 := hide_ (B15.out.trans (hB16.mono B15.out.size))
      have F16 := hide_ (F15.out.keep hB16 (Nat.le_refl _))
      have G16 := hide_ (show Fc w16 A16 (xs.map nbC) from hF16)
      rw [List.length_map]
      clear hB16 hO hF16 F15 B15 RN
      go_wp2_with fail
      go_at_call 19
      refine Calls.mono (NZ.out _ (HA.out.keep B16.out (Nat.le_refl _))) ?_
      rintro e w17 ⟨⟨z, hz, rfl⟩, hB17⟩
      have B17 := hide_ (B16.out.trans (hB17.mono B16.out.size))
      have F17 := hide_ (F16.out.keep hB17 (Nat.le_refl _))
      have G17 := hide_ (G16.out.keep hB17 (Nat.le_refl _))
      clear hB17 F16 G16 B16 NZ
      go_wp2_with fail
      go_at_call 21
      refine Calls.mono (c_bitsOf z hz _) ?_
      rintro e w18 ⟨rfl, rfl⟩
      have FB := hide_ (fun W => c_fromBits z hz W)
      have SB := hide_ (fun W => c_sameYes (nb z) z (nb_lt hz) hz (same_nb z) W)
      generalize nb z = bz at FB SB
      go_wp2_with fail
      go_at_call 20
      refine Calls.mono (FB.out _) ?_
      rintro e w19 ⟨rfl, rfl⟩
      go_wp2_with fail
      go_at_call 22
      refine Calls.mono (NW.out _ (HA.out.keep B17.out (Nat.le_refl _))) ?_
      rintro e w20 ⟨⟨r1, r2, hr1, hr2, rfl⟩, hB20⟩
      have B20 := hide_ (B17.out.trans (hB20.mono B17.out.size))
      have F20 := hide_ (F17.out.keep hB20 (Nat.le_refl _))
      have G20 := hide_ (G17.out.keep hB20 (Nat.le_refl _))
      clear hB20 F17 G17 B17 NW
      go_wp2_with ((with_reducible refine upon_widen Tryz.underlying28 Tryz.underlying46 hr1 ?_); intro a1 n1 ha1)
      go_wp2_with ((with_reducible refine upon_widen Tryz.underlying28 Tryz.underlying46 hr2 ?_); intro a2 n2 ha2)
      have B21 := hide_ (show Below w.heap.size w (w20.drewN (n1 + n2)) from B20.out.trans (drew_belowN _ _))
      have F21 := hide_ (show Fc (w20.drewN (n1 + n2)) A14 xs from F20.out.drewN _)
      have G21 := hide_ (show Fc (w20.drewN (n1 + n2)) A16 (xs.map nbC) from G20.out.drewN _)
      clear F20 G20 B20
      generalize w20.drewN (n1 + n2) = w21 at B21 F21 G21 ⊢
      have BS := hide_ (c_b10Same A16 A14 c16 c14 xs w21 G21.out F21.out AX.out (by omega))
      unfold RB at BS
      have NC := hide_ (fun W => c_narrowC r1 r2 a1 a2 hr1 hr2 ha1 ha2 W)
      have CJ1 := hide_ (fun W => c_conj r1 r2 W)
      have CJ2 := hide_ (fun W => c_conj r1 (Op.negFloat .f32 r2) W)
      rw [neg_negF] at CJ2
      generalize Op.negFloat .f32 r2 = nr2 at CJ1 CJ2
      have S2 := hide_ (fun W => c_sameC r1 r2 r1 r2 hr1 hr2 hr1 hr2 (same_fv rfl) (same_fv rfl) W)
      have FC := hide_ (fun W => c_finC r1 r2 W)
      have FI1 := hide_ (fun W => c_specIsFinite r1 W)
      have FI2 := hide_ (fun W => c_specIsFinite r2 W)
      unfold RB at S2 FC FI1 FI2
      generalize isFin (fv .f32 r1) = p at FC FI1
      generalize isFin (fv .f32 r2) = q at FC FI2
      clear F21 G21 AX XS ha1 ha2
      go_wp2_with fail
      go_at_call 23
      refine Calls.mono BS.out ?_
      rintro e w22 ⟨rfl, n22, hw22⟩
      have B22 := hide_ (show Below w.heap.size w w22 by rw [hw22]; exact B21.out.trans (drew_belowN _ _))
      clear hw22 B21 BS
      go_wp2_with fail
      go_at_call 10
      refine Calls.mono (SB.out _) ?_
      rintro e w23 ⟨rfl, rfl⟩
      go_wp2_with fail
      go_at_call 25
      refine Calls.mono (NC.out _) ?_
      rintro e w24 ⟨⟨b1, b2, hb1, hb2, rfl⟩, n24, hw24⟩
      have B24 := hide_ (show Below w.heap.size w w24 by rw [hw24]; exact B22.out.trans (drew_belowN _ _))
      have S1 := hide_ (fun W => c_sameC b1 b2 r1 r2 (rv32 hb1) (rv32 hb2) hr1 hr2 (same_fv hb1.1) (same_fv hb2.1) W)
      unfold RB at S1
      clear hw24 B22 hb1 hb2 NC
      go_wp2_with fail
      go_at_call 24
      refine Calls.mono (S1.out _) ?_
      rintro e w25 ⟨rfl, n25, hw25⟩
      have B25 := hide_ (show Below w.heap.size w w25 by rw [hw25]; exact B24.out.trans (drew_belowN _ _))
      clear hw25 B24 S1
      go_wp2_with fail
      go_at_call 9
      refine Calls.mono (CJ1.out _) ?_
      rintro e w26 ⟨rfl, rfl⟩
      go_wp2_with fail
      go_at_call 9
      refine Calls.mono (CJ2.out _) ?_
      rintro e w27 ⟨rfl, rfl⟩
      go_wp2_with fail
      go_at_call 24
      refine Calls.mono (S2.out _) ?_
      rintro e w28 ⟨rfl, n28, hw28⟩
      have B28 := hide_ (show Below w.heap.size w w28 by rw [hw28]; exact B25.out.trans (drew_belowN _ _))
      clear hw28 B25 S2
      go_wp2_with fail
      go_at_call 26
      refine Calls.mono (FC.out _) ?_
      rintro e w29 ⟨rfl, n29, hw29⟩
      have B29 := hide_ (show Below w.heap.size w w29 by rw [hw29]; exact B28.out.trans (drew_belowN _ _))
      clear hw29 B28 FC
      cases p
      · go_wp2_with fail
        go_at_call 27
        refine Calls.mono (FI1.out _) ?_
        rintro e w30 ⟨rfl, n30, hw30⟩
        have B30 := hide_ (show Below w.heap.size w w30 by rw [hw30]; exact B29.out.trans (drew_belowN _ _))
        clear hw30 B29
        go_wp2_with fail
        go_ret
        exact ⟨rfl, B30.out⟩
      · go_wp2_with fail
        go_at_call 27
        refine Calls.mono (FI1.out _) ?_
        rintro e w30 ⟨rfl, n30, hw30⟩
        have B30 := hide_ (show Below w.heap.size w w30 by rw [hw30]; exact B29.out.trans (drew_belowN _ _))
        clear hw30 B29
        go_wp2_with fail
        go_at_call 27
        refine Calls.mono (FI2.out _) ?_
        rintro e w31 ⟨rfl, n31, hw31⟩
        have B31 := hide_ (show Below w.heap.size w w31 by rw [hw31]; exact B30.out.trans (drew_belowN _ _))
        clear hw31 B30
        cases q
        · go_wp2_with fail
          go_ret
          exact ⟨rfl, B31.out⟩
        · go_wp2_with fail
          go_ret
          exact ⟨rfl, B31.out⟩

end Go.Proofs.YtiabbafmjgiobaaGreatDoor

/-
A slice of bytes that came in, opened.
-/
namespace Go.Proofs.YtiabbafmjgiobaaGreatDoor
open Go Go.RowKit Go.ChangeShapes Go.WideShapes Go.ChangeAt
set_option linter.unusedVariables false

theorem trod_u8 {H : Type} {enc : TypeId × Value → H} {P : Program} {w : World} {base : Nat} {spare : Nat → Bool} {held : Bool} {fuel : Nat} {t : TypeId} {k : IntKind} {cs : List Value} {x : DataW H × List MemPlace}
    (ht : P.underlying t = some (.int k)) (h : DataW.trod enc P w base spare held fuel t cs = some x) : ∃ n, cs = [.int k n] ∧ (Lit.int k n).wf = true := by
  cases fuel with
  | zero => simp [DataW.trod] at h
  | succ n =>
    unfold DataW.trod at h
    rw [ht] at h
    split at h <;> simp_all
theorem wf_u8 {n : Int} (h : (Lit.int .u8 n).wf = true) : 0 ≤ n ∧ n < 256 := by
  have e1 : IntKind.u8.min = 0 := rfl
  have e2 : IntKind.u8.max = 255 := rfl
  simp only [Lit.wf, Bool.and_eq_true, decide_eq_true_eq, e1, e2] at h
  omega
theorem cells_u8 : Tryz.prog.cellsOf 5 = 1 := by kernel_rfl
theorem open_byP {H : Type} {enc : TypeId × Value → H} {P : Program} {w : World} {base : Nat} {spare : Nat → Bool} {held : Bool} {fuel : Nat} {t e : TypeId} {A : Option Addr} {n cap : Nat} {x : DataW H × List MemPlace}
    (ht : P.underlying t = some (.slice e)) (he : P.underlying e = some (.int .u8)) (hc : P.cellsOf e = 1)
    (h : DataW.trod enc P w base spare held fuel t [.slice A n cap] = some x) : By w A n := by
  rcases DataW.trod_slice ht h with ⟨h0, _⟩ | ⟨a, len, cap', elems, rest, m, _, h0, _, hb, hl, hm, hlen, hel, _, _⟩
  · simp only [List.cons.injEq, Value.slice.injEq, and_true] at h0
    exact .inl h0.2.1
  · simp only [List.cons.injEq, Value.slice.injEq, and_true] at h0
    obtain ⟨rfl, rfl, rfl⟩ := h0
    have each : ∀ i, i < n → ∃ x : Nat, x < 256 ∧ w.cell? (a.add i) = some (.int .u8 x) := by
      intro i hi
      have h1 := hel i hi
      rw [List.getElem?_eq_getElem (by omega), Option.bind_eq_some_iff] at h1
      obtain ⟨cs', hcs, hy⟩ := h1
      obtain ⟨v, rfl, hv⟩ := trod_u8 he hy
      rw [hc, Nat.mul_one] at hcs
      obtain ⟨z0, z1⟩ := wf_u8 hv
      refine ⟨v.toNat, by omega, ?_⟩
      rw [cell_of_cells?_one hcs]
      congr 2
      omega
    by_cases hn : n = 0
    · exact .inl hn
    · refine .inr ?_
      obtain ⟨b, off, spot⟩ := a
      obtain ⟨x0, _, hx0⟩ := each 0 (by omega)
      have hs := World.cell?_spot hx0
      have hspot : spot = none := by simpa [Addr.add] using hs
      subst hspot
      have hblk := World.block_lt_of_cell? _ _ hx0
      refine ⟨b, off, rfl, by simpa [Addr.add] using hblk, fun j hj => ?_⟩
      obtain ⟨x, hx, h2⟩ := each j hj
      rw [Addr.add_lit] at h2
      exact ⟨x, hx, h2⟩
set_option maxRecDepth 100000 in
theorem open_by {H : Type} {enc : TypeId × Value → H} {w : World} {base0 base : Nat} {spare : Nat → Bool} {held : Bool} {v : Value} {d : DataW H} {ps : List MemPlace}
    (hv : Value.okWide Tryz.prog w .any base0 22 v) (h : DataW.Trod enc Tryz.prog w base spare held 22 v d ps) : ∃ A cap L, v = .slice A L cap ∧ By w A L := by
  obtain ⟨A, n, cap, rfl⟩ := okWide_slice Tryz.underlying22 hv
  obtain ⟨fuel, hf⟩ := h
  exact ⟨A, cap, n, rfl, open_byP Tryz.underlying22 Tryz.underlying5 cells_u8 hf⟩

end Go.Proofs.YtiabbafmjgiobaaGreatDoor
