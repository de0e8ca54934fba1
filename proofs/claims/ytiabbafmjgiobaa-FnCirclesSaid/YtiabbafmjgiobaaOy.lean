/-
A slice of bytes that came in, opened.
-/
import Derived.Test.YtiabbafmjgiobaaDr
import Derived.OpenShut
import Derived.Carry
namespace Go.Proofs.Ytiabbafmjgiobaa
open Go Go.RowKit Go.ChangeShapes Go.WideShapes Go.ChangeAt
set_option linter.unusedVariables false

theorem trod_u8 {H : Type} {enc : TypeId × Value → H} {P : Program} {w : World} {base : Nat} {spare : Nat → Bool} {held : Bool} {fuel : Nat} {t : TypeId} {k : IntKind} {cs : List Value} {x : DataW H × List MemPlace}
    (ht : P.underlying t = some (.int k)) (h : DataW.trod enc P w base spare held fuel t cs = some x) : ∃ n, cs = [.int k n] ∧ (Lit.int k n).wf = true := by
  cases fuel with
  | zero => simp [DataW.trod] at h
  | succ n =>
    unfold DataW.trod at h
    rw [ht] at h
    split at h <;> simp_all
theorem wf_u8 {n : Int} (h : (Lit.int .u8 n).wf = true) : 0 ≤ n ∧ n < 256 := by
  have e1 : IntKind.u8.min = 0 := rfl
  have e2 : IntKind.u8.max = 255 := rfl
  simp only [Lit.wf, Bool.and_eq_true, decide_eq_true_eq, e1, e2] at h
  omega
theorem cells_u8 : Try.prog.cellsOf 5 = 1 := by kernel_rfl
theorem open_byP {H : Type} {enc : TypeId × Value → H} {P : Program} {w : World} {base : Nat} {spare : Nat → Bool} {held : Bool} {fuel : Nat} {t e : TypeId} {A : Option Addr} {n cap : Nat} {x : DataW H × List MemPlace}
    (ht : P.underlying t = some (.slice e)) (he : P.underlying e = some (.int .u8)) (hc : P.cellsOf e = 1)
    (h : DataW.trod enc P w base spare held fuel t [.slice A n cap] = some x) : By w A n := by
  rcases DataW.trod_slice ht h with ⟨h0, _⟩ | ⟨a, len, cap', elems, rest, m, _, h0, _, hb, hl, hm, hlen, hel, _, _⟩
  · simp only [List.cons.injEq, Value.slice.injEq, and_true] at h0
    exact .inl h0.2.1
  · simp only [List.cons.injEq, Value.slice.injEq, and_true] at h0
    obtain ⟨rfl, rfl, rfl⟩ := h0
    have each : ∀ i, i < n → ∃ x : Nat, x < 256 ∧ w.cell? (a.add i) = some (.int .u8 x) := by
      intro i hi
      have h1 := hel i hi
      rw [List.getElem?_eq_getElem (by omega), Option.bind_eq_some_iff] at h1
      obtain ⟨cs', hcs, hy⟩ := h1
      obtain ⟨v, rfl, hv⟩ := trod_u8 he hy
      rw [hc, Nat.mul_one] at hcs
      obtain ⟨z0, z1⟩ := wf_u8 hv
      refine ⟨v.toNat, by omega, ?_⟩
      rw [cell_of_cells?_one hcs]
      congr 2
      omega
    by_cases hn : n = 0
    · exact .inl hn
    · refine .inr ?_
      obtain ⟨b, off, spot⟩ := a
      obtain ⟨x0, _, hx0⟩ := each 0 (by omega)
      have hs := World.cell?_spot hx0
      have hspot : spot = none := by simpa [Addr.add] using hs
      subst hspot
      have hblk := World.block_lt_of_cell? _ _ hx0
      refine ⟨b, off, rfl, by simpa [Addr.add] using hblk, fun j hj => ?_⟩
      obtain ⟨x, hx, h2⟩ := each j hj
      rw [Addr.add_lit] at h2
      exact ⟨x, hx, h2⟩
set_option maxRecDepth 100000 in
theorem open_by {H : Type} {enc : TypeId × Value → H} {w : World} {base0 base : Nat} {spare : Nat → Bool} {held : Bool} {v : Value} {d : DataW H} {ps : List MemPlace}
    (hv : Value.okWide Try.prog w .any base0 22 v) (h : DataW.Trod enc Try.prog w base spare held 22 v d ps) : ∃ A cap L, v = .slice A L cap ∧ By w A L := by
  obtain ⟨A, n, cap, rfl⟩ := okWide_slice Try.underlying22 hv
  obtain ⟨fuel, hf⟩ := h
  exact ⟨A, cap, n, rfl, open_byP Try.underlying22 Try.underlying5 cells_u8 hf⟩

end Go.Proofs.Ytiabbafmjgiobaa
