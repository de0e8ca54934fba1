/-
Complex numbers: conversions part by part, as laws for the walk.
-/
import Derived.Test.YtiabbafmjgiobaaFl
import Derived.Laws.ComplexArith
namespace Go.Proofs.Ytiabbafmjgiobaa.Fl
open Go Ieee

section
variable {P : Program} {o : Oper} {a : Act} {w : World} {K : Act → World → Prop} {Q : Exit → Act → World → Prop}

theorem run_ff (P : Program) (w : World) {k d : FloatKind} {bx : Nat} (hw : bx < 2 ^ k.format.width) (hf : FitsF k d (fv k bx)) :
    ∃ r n, RV d (cvf k d (fv k bx)) r ∧ (Conv.floatToFloat k bx d).run P w = .ok (.float d r) (w.drewN n) := by
  by_cases he : k = d
  · subst he
    refine ⟨bx, 0, ⟨?_, hw⟩, run_floatToFloat w (by simp [floatToFloatBits])⟩
    unfold cvf fv
    split <;> simp [floatToFloatBits]
  · by_cases hn : (k.decode bx).isNaN = true
    · have e : fv k bx = none := fv_none.2 hn
      rw [e]
      refine ⟨(Question.nanConv d bx).cut (w.tape w.drawn (.nanConv d bx)), 1, rv_nanConv d bx _, ?_⟩
      cases hdd : k.decode bx <;> simp [hdd, Datum.isNaN] at hn
      simp [Conv.floatToFloat, he, hdd, Question.forced] <;> rfl
    · have e : fv k bx = some bx := by unfold fv; rw [if_neg hn]
      rw [e] at hf ⊢
      obtain ⟨r, hr⟩ := Option.isSome_iff_exists.1 (hf bx rfl)
      refine ⟨r, 0, ⟨?_, ?_⟩, run_floatToFloat w hr⟩
      · show fv d r = floatToFloatBits k bx d
        rw [hr]
        unfold floatToFloatBits at hr
        rw [if_neg he] at hr
        split at hr
        · cases hr
        · cases hr; exact write_fv d rfl
        · split at hr
          · cases hr
          · cases hr; exact write_fv d rfl
      · have hw' : (Lit.float k bx).wf = true := wf_of_lt k bx hw
        exact wf_lt (floatToFloatBits_wf hw' hr)

theorem run_ccv (P : Program) (w : World) {s t : TypeId} {k d : FloatKind} {x y : Nat} (hs : (P.underlying s).isSome = true) (hd : P.underlying t = some (.complex d))
    (hx : x < 2 ^ k.format.width) (hy : y < 2 ^ k.format.width) (fx : FitsF k d (fv k x)) (fy : FitsF k d (fv k y)) :
    ∃ r q n, RV d (cvf k d (fv k x)) r ∧ RV d (cvf k d (fv k y)) q ∧ (convert s t (.complex k x y)).run P w = .ok (.complex d r q) (w.drewN n) := by
  obtain ⟨r, n, hr, h1⟩ := run_ff P w hx fx
  obtain ⟨q, m, hq, h2⟩ := run_ff P (w.drewN n) hy fy
  refine ⟨r, q, n + m, hr, hq, ?_⟩
  obtain ⟨u, hs'⟩ := Option.isSome_iff_exists.1 hs
  cases u <;> simp [convert, run_underlying hs', run_underlying hd, Conv.complexToComplex, h1, h2]

theorem upon_ccv {s t : TypeId} {k d : FloatKind} {x y : Nat} (hs : (P.underlying s).isSome = true) (hd : P.underlying t = some (.complex d))
    (hx : x < 2 ^ k.format.width) (hy : y < 2 ^ k.format.width) (fx : FitsF k d (fv k x)) (fy : FitsF k d (fv k y))
    (h : ∀ r q n, RV d (cvf k d (fv k x)) r → RV d (cvf k d (fv k y)) q → K (a.put o.dst (.complex d r q)) (w.drewN n)) :
    Oper.upon P o a K Q ((Sem.run P (convert s t (.complex k x y)) w).andThen fun a w' => Result.ok (Next.value a) w') := by
  obtain ⟨r, q, n, hr, hq, hrun⟩ := run_ccv P w hs hd hx hy fx fy
  rw [hrun]
  exact h r q n hr hq

/-- a conversion whose two parts are known -/
theorem upon_cto {s t : TypeId} {k d : FloatKind} {x y r q : Nat} (hs : (P.underlying s).isSome = true) (hd : P.underlying t = some (.complex d))
    (h1 : floatToFloatBits k x d = some r) (h2 : floatToFloatBits k y d = some q)
    (h : K (a.put o.dst (.complex d r q)) w) :
    Oper.upon P o a K Q ((Sem.run P (convert s t (.complex k x y)) w).andThen fun a w' => Result.ok (Next.value a) w') := by
  rw [run_convert_complex w s t k d x y r q hs hd (by unfold cConvBits; rw [h1]; simp only [Option.bind_some]; rw [h2]; rfl)]
  exact h
end

end Go.Proofs.Ytiabbafmjgiobaa.Fl
