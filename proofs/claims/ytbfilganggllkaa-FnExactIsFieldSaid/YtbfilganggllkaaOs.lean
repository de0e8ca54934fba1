/-
A sheet and a field that came in, opened.
-/
import Derived.Test.YtbfilganggllkaaOp
namespace Go.Proofs.Ytbfilganggllkaa
open Fl Go.RowKit Go.ChangeShapes Go.WideShapes Go.ChangeAt
set_option linter.unusedVariables false

theorem trod_i64 {H : Type} {enc : TypeId × Value → H} {P : Program} {w : World} {base : Nat} {spare : Nat → Bool} {held : Bool} {fuel : Nat} {t : TypeId} {k : IntKind} {cs : List Value} {x : DataW H × List MemPlace}
    (ht : P.underlying t = some (.int k)) (h : DataW.trod enc P w base spare held fuel t cs = some x) : ∃ n, cs = [.int k n] ∧ (Lit.int k n).wf = true := by
  cases fuel with
  | zero => simp [DataW.trod] at h
  | succ n =>
    unfold DataW.trod at h
    rw [ht] at h
    split at h <;> simp_all
theorem trod_bit {H : Type} {enc : TypeId × Value → H} {P : Program} {w : World} {base : Nat} {spare : Nat → Bool} {held : Bool} {fuel : Nat} {t : TypeId} {cs : List Value} {x : DataW H × List MemPlace}
    (ht : P.underlying t = some .bool) (h : DataW.trod enc P w base spare held fuel t cs = some x) : ∃ b, cs = [.bool b] := by
  cases fuel with
  | zero => simp [DataW.trod] at h
  | succ n =>
    unfold DataW.trod at h
    rw [ht] at h
    split at h <;> simp_all
/-- a slice of float32, by its reading alone -/
theorem trod_list {H : Type} {enc : TypeId × Value → H} {w : World} {base : Nat} {spare : Nat → Bool} {held : Bool} {fuel : Nat} {v : Value} {x : DataW H × List MemPlace}
    (h : DataW.trod enc Try.prog w base spare held fuel 22 [v] = some x) : ∃ A cap xs, v = .slice A xs.length cap ∧ xs.length ≤ maxLen ∧ Fl32 w A xs ∧ All32 xs := by
  have hform : ∃ A n cap, v = .slice A n cap := by
    rcases DataW.trod_slice Try.underlying22 h with ⟨h0, _⟩ | ⟨a, len, cap', elems, rest, m, _, h0, _⟩
    · exact ⟨_, _, _, by simpa using h0⟩
    · exact ⟨_, _, _, by simpa using h0⟩
  obtain ⟨A, n, cap, rfl⟩ := hform
  obtain ⟨xs, rfl, h1, h2, h3⟩ := open_f32s Try.underlying22 Try.underlying38 cells32 h
  exact ⟨A, cap, xs, rfl, h1, h2, h3⟩

theorem cellsSheet : Try.prog.cellsOf 24 = 5 := by kernel_rfl
theorem cellsI : Try.prog.cellsOf 2 = 1 := by kernel_rfl
theorem cellsB : Try.prog.cellsOf 4 = 1 := by kernel_rfl
theorem cellsL : Try.prog.cellsOf 22 = 1 := by kernel_rfl

theorem open_sheet {H : Type} {enc : TypeId × Value → H} {w : World} {base0 base : Nat} {spare : Nat → Bool} {held : Bool} {v : Value} {d : DataW H} {ps : List MemPlace}
    (hv : Value.okWide Try.prog w .any base0 24 v) (h : DataW.Trod enc Try.prog w base spare held 24 v d ps) :
    ∃ wide high wrap A c B q xs ys, v = .agg #[.int .i64 wide, .int .i64 high, .bool wrap, .slice A (xs : List Nat).length c, .slice B (ys : List Nat).length q] ∧ xs.length ≤ maxLen ∧ ys.length ≤ maxLen ∧ Fl32 w A xs ∧ Fl32 w B ys ∧ All32 xs ∧ All32 ys := by
  obtain ⟨cs, rfl, hsz⟩ := okWide_struct Try.underlying24 hv
  obtain ⟨l⟩ := cs
  match l, hsz.trans cellsSheet with
  | [c0, c1, c2, c3, c4], _ =>
    obtain ⟨fuel, hf⟩ := h
    obtain ⟨zs, n, _, _, _, hlen, hg⟩ := DataW.trod_struct Try.underlying24 hf
    match zs, hlen with
    | [z0, z1, z2, z3, z4], _ =>
      have g0 := hg 0 _ rfl
      have g1 := hg 1 _ rfl
      have g2 := hg 2 _ rfl
      have g3 := hg 3 _ rfl
      have g4 := hg 4 _ rfl
      have k0 : DataW.trod enc Try.prog w base spare held n 2 [c0] = some z0 := by simpa [Value.cells, cellsI, cellsB, cellsL] using g0
      have k1 : DataW.trod enc Try.prog w base spare held n 2 [c1] = some z1 := by simpa [Value.cells, cellsI, cellsB, cellsL] using g1
      have k2 : DataW.trod enc Try.prog w base spare held n 4 [c2] = some z2 := by simpa [Value.cells, cellsI, cellsB, cellsL] using g2
      have k3 : DataW.trod enc Try.prog w base spare held n 22 [c3] = some z3 := by simpa [Value.cells, cellsI, cellsB, cellsL] using g3
      have k4 : DataW.trod enc Try.prog w base spare held n 22 [c4] = some z4 := by simpa [Value.cells, cellsI, cellsB, cellsL] using g4
      obtain ⟨wide, e0, _⟩ := trod_i64 Try.underlying2 k0
      obtain ⟨high, e1, _⟩ := trod_i64 Try.underlying2 k1
      obtain ⟨wrap, e2⟩ := trod_bit Try.underlying4 k2
      obtain ⟨A, c, xs, rfl, a1, a2, a3⟩ := trod_list k3
      obtain ⟨B, q, ys, rfl, b1, b2, b3⟩ := trod_list k4
      simp only [List.cons.injEq, and_true] at e0 e1 e2
      subst e0; subst e1; subst e2
      exact ⟨wide, high, wrap, A, c, B, q, xs, ys, rfl, a1, b1, a2, b2, a3, b3⟩

theorem cellsField : Try.prog.cellsOf 32 = 3 := by kernel_rfl
theorem open_field {H : Type} {enc : TypeId × Value → H} {w : World} {base0 base : Nat} {spare : Nat → Bool} {held : Bool} {v : Value} {d : DataW H} {ps : List MemPlace}
    (hv : Value.okWide Try.prog w .any base0 32 v) (h : DataW.Trod enc Try.prog w base spare held 32 v d ps) :
    ∃ A a B b C c xs ys zs, v = .agg #[.slice A (xs : List Nat).length a, .slice B (ys : List Nat).length b, .slice C (zs : List Nat).length c] ∧ xs.length ≤ maxLen ∧ ys.length ≤ maxLen ∧ zs.length ≤ maxLen ∧ Fl32 w A xs ∧ Fl32 w B ys ∧ Fl32 w C zs ∧ All32 xs ∧ All32 ys ∧ All32 zs := by
  obtain ⟨cs, rfl, hsz⟩ := okWide_struct Try.underlying32 hv
  obtain ⟨l⟩ := cs
  match l, hsz.trans cellsField with
  | [c0, c1, c2], _ =>
    obtain ⟨fuel, hf⟩ := h
    obtain ⟨zs, n, _, _, _, hlen, hg⟩ := DataW.trod_struct Try.underlying32 hf
    match zs, hlen with
    | [z0, z1, z2], _ =>
      have g0 := hg 0 _ rfl
      have g1 := hg 1 _ rfl
      have g2 := hg 2 _ rfl
      have k0 : DataW.trod enc Try.prog w base spare held n 22 [c0] = some z0 := by simpa [Value.cells, cellsL] using g0
      have k1 : DataW.trod enc Try.prog w base spare held n 22 [c1] = some z1 := by simpa [Value.cells, cellsL] using g1
      have k2 : DataW.trod enc Try.prog w base spare held n 22 [c2] = some z2 := by simpa [Value.cells, cellsL] using g2
      obtain ⟨A, a, xs, rfl, a1, a2, a3⟩ := trod_list k0
      obtain ⟨B, b, ys, rfl, b1, b2, b3⟩ := trod_list k1
      obtain ⟨C, c, zs, rfl, c1, c2, c3⟩ := trod_list k2
      exact ⟨A, a, B, b, C, c, xs, ys, zs, rfl, a1, b1, c1, a2, b2, c2, a3, b3, c3⟩

end Go.Proofs.Ytbfilganggllkaa
