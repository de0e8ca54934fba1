/-
Contracts: sameFloat on two floats of one value; conversions from bits; the root.
-/
import Derived.Test.YtgkecanodapmgaaNu
import Derived.Test.YtgkecanodapmgaaFd
namespace Go.Proofs.Ytgkecanodapmgaa
open Fl Go.RowKit

theorem below_n {B : Nat} {a w : World} (h : Below B a w) (n : Nat) : Below B a (w.drewN n) := h.trans ⟨rfl, rfl, rfl, Nat.le_refl _, fun _ _ => rfl⟩
/-- what a law's walk ends in -/
def Law (w : World) (e : Ending) (w' : World) : Prop := e = .returned (.bool true) ∧ Below w.heap.size w w'

@[go_sem] theorem cv64 (b : Nat) (w : World) : (convert 26 26 (.float .f64 b)).run Try.prog w = .ok (.float .f64 b) w :=
  run_convert_float_float w _ _ _ _ b b (by rw [Try.underlying26]; rfl) Try.underlying26 (by simp [floatToFloatBits])
@[go_sem] theorem cv32 (b : Nat) (w : World) : (convert 22 22 (.float .f32 b)).run Try.prog w = .ok (.float .f32 b) w :=
  run_convert_float_float w _ _ _ _ b b (by rw [Try.underlying22]; rfl) Try.underlying22 (by simp [floatToFloatBits])

theorem Fl.RV.same {k : FloatKind} {v : Option Nat} {r r' : Nat} (h : RV k v r) (h' : RV k v r') : fv k r = fv k r' := h.1.trans h'.1.symm
theorem cmp_same {k : FloatKind} {v : Option Nat} {r r' : Nat} (h : RV k v r) (h' : RV k v r') (c : Nat) (o : Option Ordering) : (k.format.order r c == o) = (k.format.order r' c == o) := by
  rw [order_fv, order_fv k r', h.1, h'.1]

theorem c_sameFloat (a b : Nat) (h : fv .f64 a = fv .f64 b) (w : World) : Calls Try.prog 14 #[.float .f64 a, .float .f64 b] w (RB true w) := by
  have ha := ne_self .f64 a
  have hb := ne_self .f64 b
  by_cases na : (FloatKind.f64.decode a).isNaN = true
  · have e1 := fv_none.2 na
    rw [e1] at ha h
    rw [← h] at hb
    clear na e1 h
    go_enter Try.func14, Try.ntmps14
    go_wp2_with fail
    go_ret
    exact ⟨rfl, 0, rfl⟩
  · have na' : (FloatKind.f64.decode a).isNaN = false := by simpa using na
    have e1 : fv .f64 a = some a := fv_some.2 ⟨na', rfl⟩
    rw [e1] at h
    have e2 : b = a := (fv_some.1 h.symm).2
    subst e2
    rw [e1] at ha
    have hs : (FloatKind.f64.format.order b b == some .eq) = true := by rw [order_self .f64 b na']; rfl
    clear na na' hb h e1
    cases hz : (FloatKind.f64.format.order b 0 == some .eq)
    · go_enter Try.func14, Try.ntmps14
      go_wp2_with fail
      go_ret
      exact ⟨rfl, 0, rfl⟩
    · go_enter Try.func14, Try.ntmps14
      go_wp2_with (first | ((with_reducible refine upon_fbin ?_ ?_); exact rfl; intro r n hr))
      go_ret
      refine ⟨ret_bool (beq_iff_eq.2 (cmp_same ?_ hr _ _)), _, rfl⟩
      assumption

@[go_sem] theorem x_f32from (b : Int) (w : World) : (callFunc 37 #[.int .u32 b]).run Try.prog w = .ok (.value (.float .f32 b.toNat)) w := by
  rw [run_callFunc_extern Try.func37 (by kernel_rfl) (by kernel_rfl) (by kernel_rfl) (e := Extern.MathFloatBits.float32frombits) (by kernel_rfl)]; rfl
theorem x_sqrt (x : Nat) (w : World) : (callFunc 64 #[.float .f64 x]).run Try.prog w = ((Extern.MathSqrt.sqrt #[.float .f64 x]).run Try.prog w).andThen fun v w' => .ok (.value v) w' := by
  rw [run_callFunc_extern Try.func64 (by kernel_rfl) (by kernel_rfl) (by kernel_rfl) (e := Extern.MathSqrt.sqrt) (by kernel_rfl)]
theorem x_sqrt_any (x : Nat) (w : World) : ∃ r n, RV .f64 (sqf (fv .f64 x)) r ∧ (callFunc 64 #[.float .f64 x]).run Try.prog w = .ok (.value (.float .f64 r)) (w.drewN n) := by
  rw [x_sqrt, ← sqrt_fv]
  have e : Extern.MathSqrt.sqrt #[.float .f64 x] = (match FloatKind.f64.format.sqrt x with | some r => pure (.float .f64 r) | none => do pure (.float .f64 (← choose (.nanBits .f64 x x)))) := rfl
  rw [e]
  cases h : FloatKind.f64.format.sqrt x with
  | some r =>
    refine ⟨r, 0, ⟨sqrt_val h, FloatKind.f64.format.sqrt_lt h⟩, ?_⟩
    rfl
  | none =>
    refine ⟨(Question.nanBits .f64 x x).cut (w.tape w.drawn (.nanBits .f64 x x)), 1, rv_nanBits .f64 x x _, ?_⟩
    simp [Question.forced]
    rfl
theorem upon_sqrt {o : Oper} {a : Act} {w : World} {K : Act → World → Prop} {Q : Exit → Act → World → Prop} {x : Nat}
    (h : ∀ r n, RV .f64 (sqf (fv .f64 x)) r → K (a.put o.dst (.float .f64 r)) (w.drewN n)) : Oper.upon Try.prog o a K Q ((callFunc 64 #[.float .f64 x]).run Try.prog w) := by
  obtain ⟨r, n, hr, hrun⟩ := x_sqrt_any x w
  rw [hrun]
  exact h r n hr
theorem c_sqrt (x : Nat) (w : World) : Calls Try.prog 50 #[.float .f64 x] w (RF .f64 (sqf (fv .f64 x)) w) := by
  go_enter Try.func50, Try.ntmps50
  go_wp2_with ((with_reducible refine upon_sqrt ?_); intro r n hr)
  go_ret
  exact ⟨r, hr, rfl, n, rfl⟩

end Go.Proofs.Ytgkecanodapmgaa
