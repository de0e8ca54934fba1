/-
Contracts: sameFloat on two floats of one value; conversions from bits; the root.
-/
import Derived.Test.YticggbmmeefelaaDoorNu
import Derived.Test.YticggbmmeefelaaDoorFd
namespace Go.Proofs.YticggbmmeefelaaDoor
open Fl Go.RowKit

theorem below_n {B : Nat} {a w : World} (h : Below B a w) (n : Nat) : Below B a (w.drewN n) := h.trans ⟨rfl, rfl, rfl, Nat.le_refl _, fun _ _ => rfl⟩
/-- what a law's walk ends in -/
def Law (w : World) (e : Ending) (w' : World) : Prop := e = .returned (.bool true) ∧ Below w.heap.size w w'

@[go_sem] theorem cv64 (b : Nat) (w : World) : (convert 57 57 (.float .f64 b)).run Tryd.prog w = .ok (.float .f64 b) w :=
  run_convert_float_float w _ _ _ _ b b (by rw [Tryd.underlying57]; rfl) Tryd.underlying57 (by simp [floatToFloatBits])
@[go_sem] theorem cv32 (b : Nat) (w : World) : (convert 52 52 (.float .f32 b)).run Tryd.prog w = .ok (.float .f32 b) w :=
  run_convert_float_float w _ _ _ _ b b (by rw [Tryd.underlying52]; rfl) Tryd.underlying52 (by simp [floatToFloatBits])

theorem Fl.RV.same {k : FloatKind} {v : Option Nat} {r r' : Nat} (h : RV k v r) (h' : RV k v r') : fv k r = fv k r' := h.1.trans h'.1.symm
theorem cmp_same {k : FloatKind} {v : Option Nat} {r r' : Nat} (h : RV k v r) (h' : RV k v r') (c : Nat) (o : Option Ordering) : (k.format.order r c == o) = (k.format.order r' c == o) := by
  rw [order_fv, order_fv k r', h.1, h'.1]

theorem c_sameFloat (a b : Nat) (h : fv .f64 a = fv .f64 b) (w : World) : Calls Tryd.prog 45 #[.float .f64 a, .float .f64 b] w (RB true w) := by
  have ha := ne_self .f64 a
  have hb := ne_self .f64 b
  by_cases na : (FloatKind.f64.decode a).isNaN = true
  · have e1 := fv_none.2 na
    rw [e1] at ha h
    rw [← h] at hb
    clear na e1 h
    go_enter Tryd.func45, Tryd.ntmps45
    go_wp2_with fail
    go_ret
    exact ⟨rfl, 0, rfl⟩
  · have na' : (FloatKind.f64.decode a).isNaN = false := by simpa using na
    have e1 : fv .f64 a = some a := fv_some.2 ⟨na', rfl⟩
    rw [e1] at h
    have e2 : b = a := (fv_some.1 h.symm).2
    subst e2
    rw [e1] at ha
    have hs : (FloatKind.f64.format.order b b == some .eq) = true := by rw [order_self .f64 b na']; rfl
    clear na na' hb h e1
    cases hz : (FloatKind.f64.format.order b 0 == some .eq)
    · go_enter Tryd.func45, Tryd.ntmps45
      go_wp2_with fail
      go_ret
      exact ⟨rfl, 0, rfl⟩
    · go_enter Tryd.func45, Tryd.ntmps45
      go_wp2_with (first | ((with_reducible refine upon_fbin ?_ ?_); exact rfl; intro r n hr))
      go_ret
      refine ⟨ret_bool (beq_iff_eq.2 (cmp_same ?_ hr _ _)), _, rfl⟩
      assumption

@[go_sem] theorem x_f32from (b : Int) (w : World) : (callFunc 71 #[.int .u32 b]).run Tryd.prog w = .ok (.value (.float .f32 b.toNat)) w := by
  rw [run_callFunc_extern Tryd.func71 (by kernel_rfl) (by kernel_rfl) (by kernel_rfl) (e := Extern.MathFloatBits.float32frombits) (by kernel_rfl)]; rfl

end Go.Proofs.YticggbmmeefelaaDoor
