/-
Contracts and walks of the laws on FromBits, RootNumber and FlushNumber.
-/
import Derived.Test.YtiabbafmjgiobaaNv
namespace Go.Proofs.Ytiabbafmjgiobaa
open Fl Go.RowKit

/-- a number within bounds -/
def inV (n a b : Int) : Bool := decide (a ≤ n) && decide (n ≤ b)
theorem c_l01From (n : Int) (h0 : 0 ≤ n) (h1 : n ≤ 4294967295) (w : World) : Calls Try.prog 68 #[.int .i64 n] w fun e w' => e = .returned (.float .f32 n.toNat) ∧ w = w' := by
  go_enter Try.func68, Try.ntmps68
  go_wp2
  go_ret
  exact ⟨rfl, rfl⟩

def fromV (n : Int) : Array Value := if inV n 0 4294967295 then #[.float .f32 n.toNat, .bool true] else #[.float .f32 0, .bool false]


theorem lt_f32 {n : Int} (h0 : 0 ≤ n) (h1 : n ≤ 4294967295) : n.toNat < 4294967296 := by omega


end Go.Proofs.Ytiabbafmjgiobaa
