/-
The walks of the laws on BitsOf, IsSubnormal and SameNumber, over the contracts of what they call.
-/
import Derived.Test.YtlamheeeplgnpaaNu
namespace Go.Proofs.Ytlamheeeplgnpaa
open Fl Go.RowKit

theorem below_n {B : Nat} {a w : World} (h : Below B a w) (n : Nat) : Below B a (w.drewN n) := h.trans ⟨rfl, rfl, rfl, Nat.le_refl _, fun _ _ => rfl⟩
/-- what a law's walk ends in -/
def Law (w : World) (e : Ending) (w' : World) : Prop := e = .returned (.bool true) ∧ Below w.heap.size w w'

theorem walk_FnExactBitsOf (x : Nat) (wx : (Lit.float .f32 x).wf = true) (w : World) : Calls Try.prog 6 #[.float .f32 x] w (Law w) := by
  have hx := wf32 wx
  clear wx
  go_enter Try.func6, Try.ntmps6
  go_wp2_with (first | (go_at_call 16; refine (c_specBitsOf _ hx _).mono ?_; rintro e w' ⟨rfl, rfl⟩) | (go_at_call 17; refine (c_implBitsOf _ hx _).mono ?_; rintro e w' ⟨rfl, rfl⟩))
  all_goals go_ret
  all_goals exact ⟨rfl, Below.refl _ _⟩

theorem walk_FnExactIsSubnormal (x : Nat) (wx : (Lit.float .f32 x).wf = true) (w : World) : Calls Try.prog 8 #[.float .f32 x] w (Law w) := by
  have hx := wf32 wx
  clear wx
  go_enter Try.func8, Try.ntmps8
  go_wp2_with (first | (go_at_call 20; refine (c_specIsSubnormal _ hx _).mono ?_; rintro e w' ⟨rfl, rfl⟩) | (go_at_call 21; refine (c_implIsSubnormal _ hx _).mono ?_; rintro e w' ⟨rfl, n, rfl⟩))
  all_goals go_ret
  all_goals exact ⟨rfl, below_n (Below.refl _ _) _⟩

theorem walk_FnExactSameNumber (x : Nat) (wx : (Lit.float .f32 x).wf = true) (y : Nat) (wy : (Lit.float .f32 y).wf = true) (w : World) : Calls Try.prog 9 #[.float .f32 x, .float .f32 y] w (Law w) := by
  have hx := wf32 wx
  have hy := wf32 wy
  clear wx wy
  go_enter Try.func9, Try.ntmps9
  go_wp2_with (first | (go_at_call 22; refine (c_specSameNumber _ _ hx hy _).mono ?_; rintro e w' ⟨rfl, rfl⟩) | (go_at_call 23; refine (c_implSameNumber _ _ hx hy _).mono ?_; rintro e w' ⟨rfl, n, rfl⟩))
  all_goals go_ret
  all_goals exact ⟨rfl, below_n (Below.refl _ _) _⟩

end Go.Proofs.Ytlamheeeplgnpaa
