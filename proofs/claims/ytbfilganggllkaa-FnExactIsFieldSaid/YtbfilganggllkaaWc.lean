/-
Contracts and walks of the laws on FromBits, RootNumber and FlushNumber.
-/
import Derived.Test.YtbfilganggllkaaNv
namespace Go.Proofs.Ytbfilganggllkaa
open Fl Go.RowKit

/-- a number within bounds -/
def inV (n a b : Int) : Bool := decide (a ≤ n) && decide (n ≤ b)
theorem c_l00In (n a b : Int) (w : World) : Calls Try.prog 50 #[.int .i64 n, .int .i64 a, .int .i64 b] w fun e w' => e = .returned (.bool (inV n a b)) ∧ w = w' := by
  unfold inV
  by_cases h1 : a ≤ n
  · go_enter Try.func50, Try.ntmps50
    go_wp2
    go_ret
    exact ⟨by first | rfl | exact ret_bool (by rw [decide_eq_true h1]; rfl) | exact ret_bool (by rw [decide_eq_false (by omega)]; rfl), rfl⟩
  · go_enter Try.func50, Try.ntmps50
    go_wp2
    go_ret
    exact ⟨by first | rfl | exact ret_bool (by rw [decide_eq_true h1]; rfl) | exact ret_bool (by rw [decide_eq_false (by omega)]; rfl), rfl⟩
theorem c_within (n a b : Int) (w : World) : Calls Try.prog 34 #[.int .i64 n, .int .i64 a, .int .i64 b] w fun e w' => e = .returned (.bool (inV n a b)) ∧ w = w' := by
  unfold inV
  by_cases h1 : a ≤ n
  · go_enter Try.func34, Try.ntmps34
    go_wp2
    go_ret
    exact ⟨by first | rfl | exact ret_bool (by rw [decide_eq_true h1]; rfl) | exact ret_bool (by rw [decide_eq_false (by omega)]; rfl), rfl⟩
  · go_enter Try.func34, Try.ntmps34
    go_wp2
    go_ret
    exact ⟨by first | rfl | exact ret_bool (by rw [decide_eq_true h1]; rfl) | exact ret_bool (by rw [decide_eq_false (by omega)]; rfl), rfl⟩

def fromV (n : Int) : Array Value := if inV n 0 4294967295 then #[.float .f32 n.toNat, .bool true] else #[.float .f32 0, .bool false]


theorem lt_f32 {n : Int} (h0 : 0 ≤ n) (h1 : n ≤ 4294967295) : n.toNat < 4294967296 := by omega


end Go.Proofs.Ytbfilganggllkaa
