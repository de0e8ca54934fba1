/-
Contracts: sameFloat on two floats of one value; conversions from bits; the root.
-/
import Derived.Test.YtiabbafmjgiobaaNu
import Derived.Test.YtiabbafmjgiobaaFd
namespace Go.Proofs.Ytiabbafmjgiobaa
open Fl Go.RowKit

theorem below_n {B : Nat} {a w : World} (h : Below B a w) (n : Nat) : Below B a (w.drewN n) := h.trans ⟨rfl, rfl, rfl, Nat.le_refl _, fun _ _ => rfl⟩
/-- what a law's walk ends in -/
def Law (w : World) (e : Ending) (w' : World) : Prop := e = .returned (.bool true) ∧ Below w.heap.size w w'

@[go_sem] theorem cv64 (b : Nat) (w : World) : (convert 39 39 (.float .f64 b)).run Try.prog w = .ok (.float .f64 b) w :=
  run_convert_float_float w _ _ _ _ b b (by rw [Try.underlying39]; rfl) Try.underlying39 (by simp [floatToFloatBits])
@[go_sem] theorem cv32 (b : Nat) (w : World) : (convert 34 34 (.float .f32 b)).run Try.prog w = .ok (.float .f32 b) w :=
  run_convert_float_float w _ _ _ _ b b (by rw [Try.underlying34]; rfl) Try.underlying34 (by simp [floatToFloatBits])

theorem Fl.RV.same {k : FloatKind} {v : Option Nat} {r r' : Nat} (h : RV k v r) (h' : RV k v r') : fv k r = fv k r' := h.1.trans h'.1.symm
theorem cmp_same {k : FloatKind} {v : Option Nat} {r r' : Nat} (h : RV k v r) (h' : RV k v r') (c : Nat) (o : Option Ordering) : (k.format.order r c == o) = (k.format.order r' c == o) := by
  rw [order_fv, order_fv k r', h.1, h'.1]


set_option maxRecDepth 100000 in
@[go_sem] theorem x_f32from (b : Int) (w : World) : (callFunc 72 #[.int .u32 b]).run Try.prog w = .ok (.value (.float .f32 b.toNat)) w := by
  rw [run_callFunc_extern Try.func72 (by kernel_rfl) (by kernel_rfl) (by kernel_rfl) (e := Extern.MathFloatBits.float32frombits) (by kernel_rfl)]; rfl
set_option maxRecDepth 100000 in
theorem x_sqrt (x : Nat) (w : World) : (callFunc 62 #[.float .f64 x]).run Try.prog w = ((Extern.MathSqrt.sqrt #[.float .f64 x]).run Try.prog w).andThen fun v w' => .ok (.value v) w' := by
  rw [run_callFunc_extern Try.func62 (by kernel_rfl) (by kernel_rfl) (by kernel_rfl) (e := Extern.MathSqrt.sqrt) (by kernel_rfl)]
set_option maxRecDepth 100000 in
theorem x_sqrt_any (x : Nat) (w : World) : ∃ r n, RV .f64 (sqf (fv .f64 x)) r ∧ (callFunc 62 #[.float .f64 x]).run Try.prog w = .ok (.value (.float .f64 r)) (w.drewN n) := by
  rw [x_sqrt, ← sqrt_fv]
  have e : Extern.MathSqrt.sqrt #[.float .f64 x] = (match FloatKind.f64.format.sqrt x with | some r => pure (.float .f64 r) | none => do pure (.float .f64 (← choose (.nanBits .f64 x x)))) := rfl
  rw [e]
  cases h : FloatKind.f64.format.sqrt x with
  | some r =>
    refine ⟨r, 0, ⟨sqrt_val h, FloatKind.f64.format.sqrt_lt h⟩, ?_⟩
    rfl
  | none =>
    refine ⟨(Question.nanBits .f64 x x).cut (w.tape w.drawn (.nanBits .f64 x x)), 1, rv_nanBits .f64 x x _, ?_⟩
    simp [Question.forced]
    rfl
set_option maxRecDepth 100000 in
theorem upon_sqrt {o : Oper} {a : Act} {w : World} {K : Act → World → Prop} {Q : Exit → Act → World → Prop} {x : Nat}
    (h : ∀ r n, RV .f64 (sqf (fv .f64 x)) r → K (a.put o.dst (.float .f64 r)) (w.drewN n)) : Oper.upon Try.prog o a K Q ((callFunc 62 #[.float .f64 x]).run Try.prog w) := by
  obtain ⟨r, n, hr, hrun⟩ := x_sqrt_any x w
  rw [hrun]
  exact h r n hr
set_option maxRecDepth 100000 in
theorem c_sqrt (x : Nat) (w : World) : Calls Try.prog 56 #[.float .f64 x] w (RF .f64 (sqf (fv .f64 x)) w) := by
  go_enter Try.func56, Try.ntmps56
  go_wp2_with ((with_reducible refine upon_sqrt ?_); intro r n hr)
  go_ret
  exact ⟨r, hr, rfl, n, rfl⟩

end Go.Proofs.Ytiabbafmjgiobaa
