/-
A slice of float32 that came in, opened: the list that it reads as.
-/
import Derived.Test.YticggbmmeefelaaDoorSl
import Derived.ProofKit
import Derived.OpenShut
import Derived.Carry
namespace Go.Proofs.YticggbmmeefelaaDoor
open Fl Go.RowKit Go.ChangeShapes Go.WideShapes Go.ChangeAt
set_option linter.unusedVariables false

theorem trod_f32 {H : Type} {enc : TypeId × Value → H} {P : Program} {w : World} {base : Nat} {spare : Nat → Bool} {held : Bool} {fuel : Nat} {t : TypeId} {k : FloatKind} {cs : List Value} {x : DataW H × List MemPlace}
    (ht : P.underlying t = some (.float k)) (h : DataW.trod enc P w base spare held fuel t cs = some x) : ∃ n, cs = [.float k n] ∧ (Lit.float k n).wf = true := by
  cases fuel with
  | zero => simp [DataW.trod] at h
  | succ n =>
    unfold DataW.trod at h
    rw [ht] at h
    split at h <;> simp_all

/-- a slice of float32 reads as a list -/
theorem open_f32s {H : Type} {enc : TypeId × Value → H} {P : Program} {w : World} {base : Nat} {spare : Nat → Bool} {held : Bool} {fuel : Nat} {t e : TypeId} {A : Option Addr} {n cap : Nat} {x : DataW H × List MemPlace}
    (ht : P.underlying t = some (.slice e)) (he : P.underlying e = some (.float .f32)) (hc : P.cellsOf e = 1)
    (h : DataW.trod enc P w base spare held fuel t [.slice A n cap] = some x) : ∃ xs, n = xs.length ∧ n ≤ maxLen ∧ Fl32 w A xs ∧ All32 xs := by
  rcases DataW.trod_slice ht h with ⟨h0, _⟩ | ⟨a, len, cap', elems, rest, m, _, h0, _, hb, hl, hm, hlen, hel, _, _⟩
  · simp only [List.cons.injEq, Value.slice.injEq, and_true] at h0
    obtain ⟨rfl, rfl, rfl⟩ := h0
    exact ⟨[], rfl, by unfold maxLen; omega, .inl rfl, fun j => by simp⟩
  · simp only [List.cons.injEq, Value.slice.injEq, and_true] at h0
    obtain ⟨rfl, rfl, rfl⟩ := h0
    have each : ∀ i, i < n → ∃ v, w.cell? (a.add i) = some (.float .f32 v) ∧ v < 4294967296 := by
      intro i hi
      have h1 := hel i hi
      rw [List.getElem?_eq_getElem (by omega), Option.bind_eq_some_iff] at h1
      obtain ⟨cs', hcs, hy⟩ := h1
      obtain ⟨v, rfl, hv⟩ := trod_f32 he hy
      rw [hc, Nat.mul_one] at hcs
      exact ⟨v, cell_of_cells?_one hcs, wf_lt hv⟩
    have pick : ∃ f : Nat → Nat, ∀ i, i < n → w.cell? (a.add i) = some (.float .f32 (f i)) ∧ f i < 4294967296 := by
      refine ⟨fun i => if h : i < n then Classical.choose (each i h) else 0, fun i hi => ?_⟩
      simp only [dif_pos hi]
      exact Classical.choose_spec (each i hi)
    obtain ⟨f, hf⟩ := pick
    refine ⟨(List.range n).map f, by simp, by omega, ?_, ?_⟩
    · by_cases hn : n = 0
      · left; subst hn; rfl
      · right
        obtain ⟨b, off, spot⟩ := a
        have hs := World.cell?_spot (hf 0 (by omega)).1
        have hspot : spot = none := by simpa [Addr.add] using hs
        subst hspot
        have hblk := World.block_lt_of_cell? _ _ (hf 0 (by omega)).1
        refine ⟨b, off, rfl, by simpa [Addr.add] using hblk, fun j hj => ?_⟩
        have hj' : j < n := by simpa using hj
        have h2 := (hf j hj').1
        have e : ((List.range n).map f).getD j 0 = f j := by simp [List.getD_eq_getElem?_getD, hj']
        rw [e]
        rw [Addr.add_lit] at h2
        exact h2
    · intro j
      by_cases hj : j < n
      · have e : ((List.range n).map f).getD j 0 = f j := by simp [List.getD_eq_getElem?_getD, hj]
        rw [e]; exact (hf j hj).2
      · have e : ((List.range n).map f).getD j 0 = 0 := by simp [List.getD_eq_getElem?_getD, hj]
        rw [e]; omega

theorem cells32 : Tryd.prog.cellsOf 52 = 1 := by kernel_rfl
set_option maxRecDepth 100000 in
/-- the same, of an argument -/
theorem open_list {H : Type} {enc : TypeId × Value → H} {w : World} {base0 base : Nat} {spare : Nat → Bool} {held : Bool} {v : Value} {d : DataW H} {ps : List MemPlace}
    (hv : Value.okWide Tryd.prog w .any base0 30 v) (h : DataW.Trod enc Tryd.prog w base spare held 30 v d ps) : ∃ A cap xs, v = .slice A xs.length cap ∧ xs.length ≤ maxLen ∧ Fl32 w A xs ∧ All32 xs := by
  obtain ⟨A, n, cap, rfl⟩ := okWide_slice Tryd.underlying30 hv
  obtain ⟨fuel, hf⟩ := h
  obtain ⟨xs, rfl, h1, h2, h3⟩ := open_f32s Tryd.underlying30 Tryd.underlying52 cells32 hf
  exact ⟨A, cap, xs, rfl, h1, h2, h3⟩

end Go.Proofs.YticggbmmeefelaaDoor
