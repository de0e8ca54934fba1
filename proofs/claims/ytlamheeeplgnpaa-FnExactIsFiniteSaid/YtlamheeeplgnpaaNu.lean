/-
Contracts of the small functions on floats: what each gives, as a function of the value of its arguments.
-/
import Derived.Test.YtlamheeeplgnpaaChecked
import Derived.Test.YtlamheeeplgnpaaFl
namespace Go.Proofs.Ytlamheeeplgnpaa
open Fl

/-- a bool; the world is as it was but for draws -/
def RB (b : Bool) (w : World) (e : Ending) (w' : World) : Prop := e = .returned (.bool b) ∧ ∃ n, w' = w.drewN n
/-- an integer; the world is as it was but for draws -/
def RI (i : Int) (w : World) (e : Ending) (w' : World) : Prop := e = .returned (.int .i64 i) ∧ ∃ n, w' = w.drewN n
/-- a float of a value -/
def RF (k : FloatKind) (v : Option Nat) (w : World) (e : Ending) (w' : World) : Prop := ∃ r, RV k v r ∧ e = .returned (.float k r) ∧ ∃ n, w' = w.drewN n

@[go_sem] theorem x_f32bits (b : Nat) (w : World) : (callFunc 29 #[.float .f32 b]).run Try.prog w = .ok (.value (.int .u32 b)) w := by
  rw [run_callFunc_extern Try.func29 (by kernel_rfl) (by kernel_rfl) (by kernel_rfl) (e := Extern.MathFloatBits.float32bits) (by kernel_rfl)]; rfl
@[go_sem] theorem x_f64bits (b : Nat) (w : World) : (callFunc 37 #[.float .f64 b]).run Try.prog w = .ok (.value (.int .u64 b)) w := by
  rw [run_callFunc_extern Try.func37 (by kernel_rfl) (by kernel_rfl) (by kernel_rfl) (e := Extern.MathFloatBits.float64bits) (by kernel_rfl)]; rfl
@[go_sem] theorem x_f64from (b : Int) (w : World) : (callFunc 36 #[.int .u64 b]).run Try.prog w = .ok (.value (.float .f64 b.toNat)) w := by
  rw [run_callFunc_extern Try.func36 (by kernel_rfl) (by kernel_rfl) (by kernel_rfl) (e := Extern.MathFloatBits.float64frombits) (by kernel_rfl)]; rfl

def isFin (a : Option Nat) : Bool := ordf .f32 (opf .sub .f32 a a) (some 0) == some .eq

theorem c_l01Finite (x : Nat) (w : World) : Calls Try.prog 26 #[.float .f32 x] w (RB (isFin (fv .f32 x)) w) := by
  go_enter Try.func26, Try.ntmps26
  go_wp2_with ((with_reducible refine upon_fbin ?_ ?_); exact rfl; intro r n hr)
  go_ret
  exact ⟨by rw [order_fv, hr.1]; rfl, _, rfl⟩
theorem c_specIsFinite (x : Nat) (w : World) : Calls Try.prog 11 #[.float .f32 x] w (RB (isFin (fv .f32 x)) w) := by
  go_enter Try.func11, Try.ntmps11
  go_wp2_with (go_at_call 26; refine (c_l01Finite _ _).mono ?_; rintro e w' ⟨rfl, n, rfl⟩)
  go_ret
  exact ⟨rfl, _, rfl⟩
theorem c_implIsFinite (x : Nat) (w : World) : Calls Try.prog 12 #[.float .f32 x] w (RB (isFin (fv .f32 x)) w) := by
  go_enter Try.func12, Try.ntmps12
  go_wp2_with ((with_reducible refine upon_fbin ?_ ?_); exact rfl; intro r n hr)
  go_ret
  exact ⟨by rw [order_fv, hr.1]; rfl, _, rfl⟩

end Go.Proofs.Ytlamheeeplgnpaa
