/-
Contracts and walks of the laws on RootNumber and FlushNumber.
-/
import Derived.Test.YtiabbafmjgiobaaWc
namespace Go.Proofs.Ytiabbafmjgiobaa
open Fl Go.RowKit

theorem c_l01Narrow (y : Nat) (hy : y < 18446744073709551616) (hf : FitsF .f64 .f32 (fv .f64 y)) (w : World) : Calls Try.prog 61 #[.float .f64 y] w (RF .f32 (cvf .f64 .f32 (fv .f64 y)) w) := by
  go_enter Try.func61, Try.ntmps61
  go_wp2_with ((with_reducible refine upon_narrow Try.underlying39 Try.underlying34 hy hf ?_); intro r n hr)
  go_ret
  exact ⟨r, hr, rfl, n, rfl⟩

/-- the root of a float32 -/
def rootV (x : Nat) : Option Nat := cvf .f64 .f32 (sqf (cvf .f32 .f64 (fv .f32 x)))
theorem root_step {x r r' : Nat} (hx : x < 4294967296) (h : RV .f64 (cvf .f32 .f64 (fv .f32 x)) r) (h' : RV .f64 (sqf (fv .f64 r)) r') : FitsF .f64 .f32 (fv .f64 r') ∧ cvf .f64 .f32 (fv .f64 r') = rootV x := by
  rw [h'.1, h.1]; exact ⟨fits_root hx, rfl⟩

end Go.Proofs.Ytiabbafmjgiobaa
