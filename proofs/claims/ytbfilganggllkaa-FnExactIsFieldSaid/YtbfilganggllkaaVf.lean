/-
The comparing of fields, over the values of fields.
-/
import Derived.Test.YtbfilganggllkaaVl
import Derived.Test.YtbfilganggllkaaSy
set_option linter.unusedVariables false
namespace Go.Proofs.Ytbfilganggllkaa
open Fl Go.RowKit

theorem szL_nonneg {left : Int} {n : Nat} (h : 0 ≤ szL left n) : 0 ≤ left ∧ (n : Int) ≤ left := by
  unfold szL at h
  split at h <;> omega
theorem g_spec_SameField {xs ys zs xs' ys' zs' : List Nat} {v v' : Value} {w : World} (h : FieldAt xs ys zs v w) (h' : FieldAt xs' ys' zs' v' w) (ax : All32 xs) (ay : All32 ys) (az : All32 zs) (ax' : All32 xs') (ay' : All32 ys') (az' : All32 zs') (hx : xs.length ≤ 1048576) (hy : ys.length ≤ 1048576) (hz : zs.length ≤ 1048576) (hx' : xs'.length ≤ 1048576) (hy' : ys'.length ≤ 1048576) (hz' : zs'.length ≤ 1048576) :
    Calls Try.prog 15 #[v, v'] w (Gives (fun v _ => v = .bool (fieldV xs xs' ys ys' zs zs')) w) := by
  obtain ⟨A, a, B, b, C, c, rfl, h1, h2, h3⟩ := h
  obtain ⟨A', a', B', b', C', c', rfl, h1', h2', h3'⟩ := h'
  exact (c_specSameField A A' B B' C C' a a' b b' c c' xs xs' ys ys' zs zs' w h1 h1' h2 h2' h3 h3' ax ax' ay ay' az az' hx hx' hy hy' hz hz').mono fun e w' ⟨he, hB⟩ => ⟨hB, _, he, rfl⟩
theorem g_impl_SameField {xs ys zs xs' ys' zs' : List Nat} {v v' : Value} {w : World} (h : FieldAt xs ys zs v w) (h' : FieldAt xs' ys' zs' v' w) (ax : All32 xs) (ay : All32 ys) (az : All32 zs) (ax' : All32 xs') (ay' : All32 ys') (az' : All32 zs') (hx : xs.length ≤ 1048576) (hy : ys.length ≤ 1048576) (hz : zs.length ≤ 1048576) (hx' : xs'.length ≤ 1048576) (hy' : ys'.length ≤ 1048576) (hz' : zs'.length ≤ 1048576) :
    Calls Try.prog 17 #[v, v'] w (Gives (fun v _ => v = .bool (fieldV xs xs' ys ys' zs zs')) w) := by
  obtain ⟨A, a, B, b, C, c, rfl, h1, h2, h3⟩ := h
  obtain ⟨A', a', B', b', C', c', rfl, h1', h2', h3'⟩ := h'
  exact (c_implSameField A A' B B' C C' a a' b b' c c' xs xs' ys ys' zs zs' w h1 h1' h2 h2' h3 h3' ax ax' ay ay' az az' hx hx' hy hy' hz hz').mono fun e w' ⟨he, hB⟩ => ⟨hB, _, he, rfl⟩

end Go.Proofs.Ytbfilganggllkaa
