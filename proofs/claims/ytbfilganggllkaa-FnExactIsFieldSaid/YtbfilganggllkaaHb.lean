/-
What a law holds on to while its calls make memory: boxes with known cells, lists of float32, and that nothing older has changed.
-/
import Derived.Test.YtbfilganggllkaaSh
namespace Go.Proofs.Ytbfilganggllkaa
open Fl Go.RowKit

/-- the boxes 'bs' and the lists 'ls' stand in W as they did; W came of w by new memory alone -/
structure Held (w : World) (bs : List (Nat × List Value)) (ls : List (Option Addr × List Nat)) (W : World) : Prop where
  box : ∀ p ∈ bs, p.1 < W.heap.size ∧ ∀ j v, p.2[j]? = some v → W.cell? ⟨p.1, j, none⟩ = some v
  list : ∀ p ∈ ls, Fl32 W p.1 p.2
  low : w.heap.size ≤ W.heap.size
  fr : Below w.heap.size w W
theorem Held.keep {w W W' : World} {bs : List (Nat × List Value)} {ls : List (Option Addr × List Nat)} (h : Held w bs ls W) (hb : Below W.heap.size W W') : Held w bs ls W' where
  box := fun p hp => ⟨Nat.lt_of_lt_of_le (h.box p hp).1 hb.size, fun j v hv => (hb.cell (p := ⟨p.1, j, none⟩) (h.box p hp).1).trans ((h.box p hp).2 j v hv)⟩
  list := fun p hp => (h.list p hp).keep hb (Nat.le_refl _)
  low := Nat.le_trans h.low hb.size
  fr := h.fr.trans (hb.mono h.low)
theorem Held.drew {w W : World} {bs : List (Nat × List Value)} {ls : List (Option Addr × List Nat)} (h : Held w bs ls W) : Held w bs ls W.drew := h.keep (Below.refl _ _).drew
theorem Held.drewN {w W : World} {bs : List (Nat × List Value)} {ls : List (Option Addr × List Nat)} (h : Held w bs ls W) (n : Nat) : Held w bs ls (W.drewN n) := h.keep (below_n (Below.refl _ _) n)
/-- one box more -/
theorem Held.more {w W : World} {bs : List (Nat × List Value)} {ls : List (Option Addr × List Nat)} (h : Held w bs ls W) {b : Nat} {vs : List Value} (hb : b < W.heap.size) (hv : ∀ j v, vs[j]? = some v → W.cell? ⟨b, j, none⟩ = some v) : Held w ((b, vs) :: bs) ls W where
  box := fun p hp => by
    rcases List.mem_cons.1 hp with rfl | hp
    · exact ⟨hb, hv⟩
    · exact h.box p hp
  list := h.list
  low := h.low
  fr := h.fr
/-- one list more -/
theorem Held.also {w W : World} {bs : List (Nat × List Value)} {ls : List (Option Addr × List Nat)} (h : Held w bs ls W) {A : Option Addr} {xs : List Nat} (hl : Fl32 W A xs) : Held w bs ((A, xs) :: ls) W where
  box := h.box
  list := fun p hp => by
    rcases List.mem_cons.1 hp with rfl | hp
    · exact hl
    · exact h.list p hp
  low := h.low
  fr := h.fr
end Go.Proofs.Ytbfilganggllkaa
