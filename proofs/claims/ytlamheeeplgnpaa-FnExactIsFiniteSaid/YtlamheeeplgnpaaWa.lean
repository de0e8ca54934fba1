/-
The walks of this seat's laws over the contracts of what they call.
-/
import Derived.Test.YtlamheeeplgnpaaNu
namespace Go.Proofs.Ytlamheeeplgnpaa
open Fl Go.RowKit

theorem below_n {B : Nat} {a w : World} (h : Below B a w) (n : Nat) : Below B a (w.drewN n) := h.trans ⟨rfl, rfl, rfl, Nat.le_refl _, fun _ _ => rfl⟩
/-- what a law's walk ends in -/
def Law (w : World) (e : Ending) (w' : World) : Prop := e = .returned (.bool true) ∧ Below w.heap.size w w'

theorem walk_FnExactConstants (w : World) : Calls Try.prog 3 #[] w (Law w) := by
  go_enter Try.func3, Try.ntmps3
  go_wp2
  go_ret
  exact ⟨rfl, Below.refl _ _⟩

theorem walk_FnExactIsFinite (x : Nat) (_ : (Lit.float .f32 x).wf = true) (w : World) : Calls Try.prog 4 #[.float .f32 x] w (Law w) := by
  go_enter Try.func4, Try.ntmps4
  go_wp2_with (first | (go_at_call 11; refine (c_specIsFinite _ _).mono ?_; rintro e w' ⟨rfl, n, rfl⟩) | (go_at_call 12; refine (c_implIsFinite _ _).mono ?_; rintro e w' ⟨rfl, n, rfl⟩))
  all_goals go_ret
  all_goals exact ⟨rfl, below_n (Below.refl _ _) _⟩

end Go.Proofs.Ytlamheeeplgnpaa
