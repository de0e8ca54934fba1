/-
The source of draws: a struct of bytes, a place and a seed, read and moved by its methods.
-/
import Derived.Test.YtiabbafmjgiobaaDa
import Derived.WalkKit
import Derived.ProofKit
import Derived.Carry
import Derived.OneCell
import Derived.Below
import Derived.Deep.QuietTactic
import Derived.BigQuiet
import Derived.IntWalk
set_option linter.unusedVariables false
set_option linter.unusedSimpArgs false
namespace Go.Proofs.Ytiabbafmjgiobaa
open Go Go.RowKit

/-- bytes that came in -/
def By (w : World) (A : Option Addr) (L : Nat) : Prop :=
  L = 0 ∨ ∃ b off, A = some ⟨b, off, none⟩ ∧ b < w.heap.size ∧ ∀ j, j < L → ∃ x : Nat, x < 256 ∧ w.cell? ⟨b, off + j, none⟩ = some (.int .u8 x)
theorem By.keep {B : Nat} {w w' : World} {A : Option Addr} {L : Nat} (h : By w A L) (hb : Below B w w') (hB : w.heap.size ≤ B) : By w' A L := by
  rcases h with rfl | ⟨b, off, rfl, hbl, hc⟩
  · exact .inl rfl
  · refine .inr ⟨b, off, rfl, Nat.lt_of_lt_of_le hbl hb.size, fun j hj => ?_⟩
    obtain ⟨x, hx, h1⟩ := hc j hj
    exact ⟨x, hx, by rw [hb.cell (p := ⟨b, off + j, none⟩) (by show b < B; omega)]; exact h1⟩
/-- the source's block: its place is at most K -/
def Src (w0 : World) (A : Option Addr) (L c : Nat) (g K : Nat) (W : World) : Prop :=
  Below w0.heap.size w0 W ∧ w0.heap.size ≤ g ∧ ∃ (k : Nat) (seed : Int), k ≤ K ∧ W.heap[g]? = some (.cells #[.slice A L c, .int .i64 k, .int .u64 seed] 62 (0, 0))
theorem Src.mono {w0 : World} {A : Option Addr} {L c g K K' : Nat} {W : World} (h : Src w0 A L c g K W) (hK : K ≤ K') : Src w0 A L c g K' W := by
  obtain ⟨h1, h2, k, seed, h3, h4⟩ := h
  exact ⟨h1, h2, k, seed, Nat.le_trans h3 hK, h4⟩
theorem Src.lt {w0 : World} {A : Option Addr} {L c g K : Nat} {W : World} (h : Src w0 A L c g K W) : g < W.heap.size := by
  obtain ⟨_, _, k, seed, _, h4⟩ := h
  exact (Array.getElem?_eq_some_iff.1 h4).1
/-- another block grows -/
theorem Src.grown {w0 : World} {A : Option Addr} {L c g K : Nat} {W W' : World} {row : Option Nat} (h : Src w0 A L c g K W) (hg : W.grownBy W' row) (hr : ∀ q, row = some q → w0.heap.size ≤ q) (hn : row ≠ some g) : Src w0 A L c g K W' := by
  have hlt := h.lt
  obtain ⟨h1, h2, k, seed, h3, h4⟩ := h
  exact ⟨h1.grown hg h1.size hr, h2, k, seed, h3, by rw [hg.block g hlt (fun e => hn e.symm)]; exact h4⟩
theorem Src.keep {w0 : World} {A : Option Addr} {L c g K : Nat} {W W' : World} (h : Src w0 A L c g K W) (hb : Below W.heap.size W W') : Src w0 A L c g K W' := by
  have hlt := h.lt
  obtain ⟨h1, h2, k, seed, h3, h4⟩ := h
  exact ⟨h1.trans (hb.mono h1.size), h2, k, seed, h3, by rw [hb.block g hlt]; exact h4⟩
/-- what a draw leaves: the source moved on, all else as it was -/
def Drawn (w0 : World) (A : Option Addr) (L c g K : Nat) (W W' : World) : Prop := Src w0 A L c g K W' ∧ W.grownBy W' (some g)
theorem Drawn.mono {w0 : World} {A : Option Addr} {L c g K K' : Nat} {W W' : World} (h : Drawn w0 A L c g K W W') (hK : K ≤ K') : Drawn w0 A L c g K' W W' := ⟨h.1.mono hK, h.2⟩
theorem setCell_grownD (w : World) (a : Addr) (u : Value) : w.grownBy (w.setCell a u) (some a.block) :=
  ⟨rfl, rfl, rfl, by simp [World.setCell], fun k hk hne => Below.heap_setCell w a u k (fun e => hne (by rw [e]))⟩
theorem grown_transD {a b c : World} {row : Option Nat} (h : a.grownBy b row) (k : b.grownBy c row) : a.grownBy c row :=
  ⟨k.os.trans h.os, k.tape.trans h.tape, k.output.trans h.output, Nat.le_trans h.size k.size, fun i hi hne => (k.block i (Nat.lt_of_lt_of_le hi h.size) hne).trans (h.block i hi hne)⟩
theorem Drawn.trans {w0 : World} {A : Option Addr} {L c g K K' : Nat} {W W' W2 : World} (h : Drawn w0 A L c g K W W') (h' : Drawn w0 A L c g K' W' W2) : Drawn w0 A L c g K' W W2 := ⟨h'.1, grown_transD h.2 h'.2⟩
theorem box_cellD {w : World} {b : Nat} {cs : Array Value} {t : TypeId} (h : w.heap[b]? = some (.cells cs t (0, 0))) (j : Nat) (v : Value) (hv : cs[j]? = some v) : w.cell? ⟨b, j, none⟩ = some v := by
  rw [cell_of_row w b j cs t (0, 0) h]; exact hv
theorem box_freeD {w : World} {b : Nat} {cs : Array Value} {t : TypeId} (h : w.heap[b]? = some (.cells cs t (0, 0))) (j : Nat) : w.frozen? ⟨b, j, none⟩ = false := frozen_of_row w b j cs t h
theorem heap_set {w : World} {b : Nat} {cs : Array Value} {t : TypeId} (h : w.heap[b]? = some (.cells cs t (0, 0))) (j : Nat) (v : Value) : (w.setCell ⟨b, j, none⟩ v).heap[b]? = some (.cells (cs.setIfInBounds j v) t (0, 0)) := by
  simp [World.setCell, Array.getElem?_modify, h]

theorem and255 (z : Int) (h0 : 0 ≤ z) (h1 : z < 18446744073709551616) : bits .and .u64 z 255 = z % 256 := by
  have h := bits_and_u64_nat z.toNat 255 (by omega) (by omega)
  have e : ((z.toNat : Nat) : Int) = z := by omega
  rw [e] at h
  rw [show ((255 : Nat) : Int) = 255 from rfl] at h
  rw [h, Nat.and_two_pow_sub_one_eq_mod z.toNat 8]
  omega
theorem seed_byte (y : Int) : ∃ x : Nat, x < 256 ∧ wrap64 (bits .and .u64 (IntKind.u64.wrap y / 1099511627776) 255) = (x : Int) := by
  obtain ⟨h0, h1⟩ : 0 ≤ IntKind.u64.wrap y ∧ IntKind.u64.wrap y < 18446744073709551616 := by
    unfold IntKind.wrap
    simp only [IntKind.bits, IntKind.signed]
    constructor
    · exact Int.emod_nonneg _ (by decide)
    · exact Int.emod_lt_of_pos _ (by decide)
  generalize IntKind.u64.wrap y = z at *
  rw [and255 _ (by omega) (by omega)]
  refine ⟨(z / 1099511627776 % 256).toNat, by omega, ?_⟩
  unfold wrap64
  omega

/-- the two fields that a draw writes -/
theorem drawn_two {w0 W : World} {A : Option Addr} {L c g K : Nat} {v1 v2 : Value} (h : W.heap[g]? = some (.cells #[.slice A L c, v1, v2] 62 (0, 0))) (hB : Below w0.heap.size w0 W) (hg : w0.heap.size ≤ g) (n m : Nat) (k : Nat) (hk : k ≤ K) (i s : Int) (hi : i = (k : Int)) :
    Drawn w0 A L c g K W ((((W.drewN n).setCell ⟨g, 1, none⟩ (.int .i64 i)).setCell ⟨g, 2, none⟩ (.int .u64 s)).drewN m) := by
  subst hi
  have h1 := heap_set (w := W.drewN n) (b := g) h 1 (.int .i64 (k : Int))
  have h2 := heap_set h1 2 (.int .u64 s)
  have hG : W.grownBy ((((W.drewN n).setCell ⟨g, 1, none⟩ (.int .i64 (k : Int))).setCell ⟨g, 2, none⟩ (.int .u64 s)).drewN m) (some g) :=
    grown_transD (b := W.drewN n) ⟨rfl, rfl, rfl, Nat.le_refl _, fun _ _ _ => rfl⟩ (grown_transD (setCell_grownD _ ⟨g, 1, none⟩ _) (grown_transD (setCell_grownD _ ⟨g, 2, none⟩ _) ⟨rfl, rfl, rfl, Nat.le_refl _, fun _ _ _ => rfl⟩))
  exact ⟨⟨hB.grown hG hB.size (fun q hq => by cases hq; exact hg), hg, k, s, hk, h2⟩, hG⟩

set_option maxRecDepth 100000 in
theorem c_next (w0 : World) (A : Option Addr) (L c g K : Nat) (W : World) (hb : By w0 A L) (hL : L ≤ 1048576) (hK : K ≤ 1000000000) (hs : Src w0 A L c g K W) :
    Calls Try.prog 53 #[.pointer (some ⟨g, 0, none⟩)] W fun e w' => (∃ x : Nat, x < 256 ∧ e = .returned (.int .i64 x)) ∧ Drawn w0 A L c g (K + 1) W w' := by
  obtain ⟨h1, h2, k, seed, h3, h4⟩ := hs
  have q0 : W.cell? ⟨g, 0, none⟩ = some (.slice A L c) := box_cellD h4 0 _ rfl
  have q1 : W.cell? ⟨g, 1, none⟩ = some (.int .i64 k) := box_cellD h4 1 _ rfl
  have q2 : W.cell? ⟨g, 2, none⟩ = some (.int .u64 seed) := box_cellD h4 2 _ rfl
  have z1 := box_freeD h4 1
  have z2 := box_freeD h4 2
  have HH := hide_ h4
  have HB := hide_ h1
  clear h4 h1
  by_cases hlt : k < L
  · obtain ⟨b, off, rfl, hbl, hc⟩ : ∃ b off, A = some ⟨b, off, none⟩ ∧ b < w0.heap.size ∧ ∀ j, j < L → ∃ x : Nat, x < 256 ∧ w0.cell? ⟨b, off + j, none⟩ = some (.int .u8 x) := by
      rcases hb with h | h
      · omega
      · exact h
    obtain ⟨x, hx, hx1⟩ := hc k hlt
    have hcell : W.cell? ⟨b, off + k, none⟩ = some (.int .u8 x) := by rw [HB.out.cell (p := ⟨b, off + k, none⟩) hbl]; exact hx1
    have hne : b ≠ g := by omega
    have hltI : (k : Int) < L := by omega
    have hleI : (k : Int) + 1 ≤ L := by omega
    clear hc hx1 hb
    go_enter Try.func53, Try.ntmps53
    go_wp2_with fail
    go_quiet (fail)
    go_wp2_with fail
    go_quiet (fail)
    go_wp2_with fail
    go_quiet (fail)
    go_wp2_with fail
    go_ret
    exact ⟨⟨x, hx, rfl⟩, drawn_two HH.out HB.out h2 _ _ (k + 1) (Nat.succ_le_succ h3) _ _ (by omega)⟩
  · have hltI : ¬ (k : Int) < L := by omega
    have hleI : ¬ (k : Int) + 1 ≤ L := by omega
    clear hb
    go_enter Try.func53, Try.ntmps53
    go_wp2_with fail
    go_quiet (fail)
    go_wp2_with fail
    go_quiet (fail)
    go_wp2_with fail
    go_ret
    obtain ⟨x, hx, e⟩ := seed_byte (IntKind.u64.wrap (IntKind.u64.wrap (seed * 6364136223846793005)) + 1442695040888963407)
    refine ⟨⟨x, hx, ?_⟩, drawn_two HH.out HB.out h2 _ _ (k + 1) (Nat.succ_le_succ h3) _ _ (by omega)⟩
    rw [← e]
    rfl

set_option maxRecDepth 100000 in
theorem c_pick (w0 : World) (A : Option Addr) (L c g K n : Nat) (W : World) (hb : By w0 A L) (hL : L ≤ 1048576) (hK : K ≤ 900000000) (hn : 2 ≤ n) (hn2 : n ≤ 65536) (hs : Src w0 A L c g K W) :
    Calls Try.prog 32 #[.pointer (some ⟨g, 0, none⟩), .int .i64 n] W fun e w' => (∃ x : Nat, x < n ∧ e = .returned (.int .i64 x)) ∧ Drawn w0 A L c g (K + 2) W w' := by
  have N1 := hide_ (c_next w0 A L c g K W hb hL (by omega) hs)
  have N2 := hide_ (fun W' => c_next w0 A L c g (K + 1) W' hb hL (by omega))
  have hnI : ¬ (n : Int) ≤ 1 := by omega
  have hn0 : (n : Int) ≠ 0 := by omega
  clear hb hs
  by_cases h2 : 200 < n
  · have h2I : (200 : Int) < n := by omega
    go_enter Try.func32, Try.ntmps32
    go_wp2_with fail
    go_at_call 53
    refine Calls.mono N1.out ?_
    rintro e w1 ⟨⟨x, hx, rfl⟩, hD1⟩
    have D1 := hide_ hD1
    clear hD1
    go_wp2_with fail
    go_at_call 53
    refine Calls.mono (N2.out w1 D1.out.1) ?_
    rintro e w2 ⟨⟨y, hy, rfl⟩, hD2⟩
    have D2 := hide_ (D1.out.trans hD2)
    clear hD2
    have hxy : (x : Int) * 256 + y < 65536 := by omega
    have hxy0 : 0 ≤ (x : Int) * 256 + y := by omega
    go_wp2_with fail
    go_ret
    refine ⟨⟨(x * 256 + y) % n, Nat.mod_lt _ (by omega), ?_⟩, D2.out⟩
    rw [Int.natCast_emod, Int.natCast_add, Int.natCast_mul]
    rfl
  · have h2I : ¬ (200 : Int) < n := by omega
    go_enter Try.func32, Try.ntmps32
    go_wp2_with fail
    go_at_call 53
    refine Calls.mono N1.out ?_
    rintro e w1 ⟨⟨x, hx, rfl⟩, hD1⟩
    have D1 := hide_ hD1
    clear hD1
    go_wp2_with fail
    go_ret
    refine ⟨⟨x % n, Nat.mod_lt _ (by omega), ?_⟩, D1.out.mono (by omega)⟩
    rw [Int.natCast_emod]
    rfl

end Go.Proofs.Ytiabbafmjgiobaa
