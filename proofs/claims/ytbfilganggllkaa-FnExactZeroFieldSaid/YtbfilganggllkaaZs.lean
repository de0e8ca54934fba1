/-
What the law on ZeroField holds in memory: boxes with lists of their own.
-/
import Derived.Test.YtbfilganggllkaaZb
set_option linter.unusedVariables false
set_option linter.unusedSimpArgs false
namespace Go.Proofs.Ytbfilganggllkaa
open Fl Go.RowKit

/-- of what is there, only blocks from 'lo' up to 'hi' may have changed -/
structure Chg (lo hi : Nat) (w w' : World) : Prop where
  os : w'.os = w.os
  tape : w'.tape = w.tape
  output : w'.output = w.output
  size : w.heap.size ≤ w'.heap.size
  block : ∀ k, k < w.heap.size → k < lo ∨ hi ≤ k → w'.heap[k]? = w.heap[k]?
theorem Chg.of_below {w w' : World} (h : Below w.heap.size w w') : Chg w.heap.size w.heap.size w w' := ⟨h.os, h.tape, h.output, h.size, fun k hk _ => h.block k hk⟩
theorem Chg.below {lo hi B : Nat} {w w' : World} (h : Chg lo hi w w') (h1 : B ≤ lo) (h2 : B ≤ w.heap.size) : Below B w w' := ⟨h.os, h.tape, h.output, h.size, fun k hk => h.block k (by omega) (.inl (by omega))⟩

theorem OwnL.chg {base lo hi : Nat} {xs : List Nat} {v : Value} {w w' : World} (h : OwnL base xs v w) (hc : Chg lo hi w w') (h1 : ∀ k, v.ownBlock = some k → k < lo ∨ hi ≤ k) : OwnL base xs v w' := by
  obtain ⟨A, cap, rfl, hl, hr⟩ := h
  refine ⟨A, cap, rfl, hl, ?_⟩
  rcases hr with hr | ⟨g, cp, cur, hv, hb, hh, hr⟩
  · exact .inl hr
  · have hg : (Value.slice A xs.length cap).ownBlock = some g := by rw [hv]; rfl
    exact .inr ⟨g, cp, cur, hv, hb, by rw [hc.block g (Array.getElem?_eq_some_iff.1 hh).1 (h1 g hg)]; exact hh, hr⟩

/-- the box of a field at block p, its lists from 'base' on and below p -/
structure FB (base p : Nat) (xs ys zs : List Nat) (v1 v2 v3 : Value) (w : World) : Prop where
  box : w.heap[p]? = some (.cells #[v1, v2, v3] 35 (0, 0))
  o1 : OwnL base xs v1 w
  o2 : OwnL base ys v2 w
  o3 : OwnL base zs v3 w
  p12 : v1.ownBlock = none ∨ v1.ownBlock ≠ v2.ownBlock
  p13 : v1.ownBlock = none ∨ v1.ownBlock ≠ v3.ownBlock
  p23 : v2.ownBlock = none ∨ v2.ownBlock ≠ v3.ownBlock
  l1 : ∀ k, v1.ownBlock = some k → k < p
  l2 : ∀ k, v2.ownBlock = some k → k < p
  l3 : ∀ k, v3.ownBlock = some k → k < p
theorem FB.lt {base p : Nat} {xs ys zs : List Nat} {v1 v2 v3 : Value} {w : World} (h : FB base p xs ys zs v1 v2 v3 w) : p < w.heap.size := (Array.getElem?_eq_some_iff.1 h.box).1
theorem FB.at {base p : Nat} {xs ys zs : List Nat} {v1 v2 v3 : Value} {w : World} (h : FB base p xs ys zs v1 v2 v3 w) : FieldAt xs ys zs (.agg #[v1, v2, v3]) w :=
  OwnField.field ⟨_, _, _, rfl, h.o1, h.o2, h.o3, h.p12, h.p13, h.p23⟩
theorem FB.chg {base p lo hi : Nat} {xs ys zs : List Nat} {v1 v2 v3 : Value} {w w' : World} (h : FB base p xs ys zs v1 v2 v3 w) (hc : Chg lo hi w w') (hp : p < lo ∨ hi ≤ base ∧ hi ≤ p) : FB base p xs ys zs v1 v2 v3 w' := by
  have key : ∀ (v : Value) (l : List Nat), OwnL base l v w → (∀ k, v.ownBlock = some k → k < p) → ∀ k, v.ownBlock = some k → k < lo ∨ hi ≤ k := fun v l ho hl k hk => by
    have := (ho.low k hk).1
    have := hl k hk
    omega
  exact ⟨by rw [hc.block p h.lt (by omega)]; exact h.box, h.o1.chg hc (key _ _ h.o1 h.l1), h.o2.chg hc (key _ _ h.o2 h.l2), h.o3.chg hc (key _ _ h.o3 h.l3), h.p12, h.p13, h.p23, h.l1, h.l2, h.l3⟩
theorem FB.keep {base p : Nat} {xs ys zs : List Nat} {v1 v2 v3 : Value} {w w' : World} (h : FB base p xs ys zs v1 v2 v3 w) (hb : Below w.heap.size w w') : FB base p xs ys zs v1 v2 v3 w' :=
  h.chg (Chg.of_below hb) (.inl h.lt)
theorem FB.make {base : Nat} {xs ys zs : List Nat} {v1 v2 v3 : Value} {w : World} (h : OwnL base xs v1 w) (h' : OwnL base ys v2 w) (h'' : OwnL base zs v3 w) (p12 : v1.ownBlock = none ∨ v1.ownBlock ≠ v2.ownBlock) (p13 : v1.ownBlock = none ∨ v1.ownBlock ≠ v3.ownBlock) (p23 : v2.ownBlock = none ∨ v2.ownBlock ≠ v3.ownBlock) :
    FB base w.heap.size xs ys zs v1 v2 v3 (w.alloc (.cells #[v1, v2, v3] 35)) := by
  have hB : Below w.heap.size w (w.alloc (.cells #[v1, v2, v3] 35)) := (Below.refl _ _).alloc (Nat.le_refl _) _
  exact ⟨heap_alloc_new _ _, OwnL.keep _ _ _ h hB, OwnL.keep _ _ _ h' hB, OwnL.keep _ _ _ h'' hB, p12, p13, p23, fun k hk => (h.low k hk).2, fun k hk => (h'.low k hk).2, fun k hk => (h''.low k hk).2⟩

/-- the box of a sheet at block p, its lists from 'base' on and below p -/
structure SB (base p : Nat) (wide high : Int) (wrap : Bool) (xs ys : List Nat) (vs vl : Value) (w : World) : Prop where
  box : w.heap[p]? = some (.cells #[.int .i64 wide, .int .i64 high, .bool wrap, vs, vl] 27 (0, 0))
  o1 : OwnL base xs vs w
  o2 : OwnL base ys vl w
  ap : vs.ownBlock = none ∨ vs.ownBlock ≠ vl.ownBlock
  l1 : ∀ k, vs.ownBlock = some k → k < p
  l2 : ∀ k, vl.ownBlock = some k → k < p
theorem SB.lt {base p : Nat} {wide high : Int} {wrap : Bool} {xs ys : List Nat} {vs vl : Value} {w : World} (h : SB base p wide high wrap xs ys vs vl w) : p < w.heap.size := (Array.getElem?_eq_some_iff.1 h.box).1
theorem SB.at {base p : Nat} {wide high : Int} {wrap : Bool} {xs ys : List Nat} {vs vl : Value} {w : World} (h : SB base p wide high wrap xs ys vs vl w) : SheetAt wide high wrap xs ys (.agg #[.int .i64 wide, .int .i64 high, .bool wrap, vs, vl]) w :=
  OwnSheet.sheet ⟨_, _, rfl, h.o1, h.o2, h.ap⟩
theorem SB.chg {base p lo hi : Nat} {wide high : Int} {wrap : Bool} {xs ys : List Nat} {vs vl : Value} {w w' : World} (h : SB base p wide high wrap xs ys vs vl w) (hc : Chg lo hi w w') (hp : p < lo ∨ hi ≤ base ∧ hi ≤ p) : SB base p wide high wrap xs ys vs vl w' := by
  have key : ∀ (v : Value) (l : List Nat), OwnL base l v w → (∀ k, v.ownBlock = some k → k < p) → ∀ k, v.ownBlock = some k → k < lo ∨ hi ≤ k := fun v l ho hl k hk => by
    have := (ho.low k hk).1
    have := hl k hk
    omega
  exact ⟨by rw [hc.block p h.lt (by omega)]; exact h.box, h.o1.chg hc (key _ _ h.o1 h.l1), h.o2.chg hc (key _ _ h.o2 h.l2), h.ap, h.l1, h.l2⟩
theorem SB.keep {base p : Nat} {wide high : Int} {wrap : Bool} {xs ys : List Nat} {vs vl : Value} {w w' : World} (h : SB base p wide high wrap xs ys vs vl w) (hb : Below w.heap.size w w') : SB base p wide high wrap xs ys vs vl w' :=
  h.chg (Chg.of_below hb) (.inl h.lt)
theorem SB.make {base : Nat} {wide high : Int} {wrap : Bool} {xs ys : List Nat} {vs vl : Value} {w : World} (h : OwnL base xs vs w) (h' : OwnL base ys vl w) (ap : vs.ownBlock = none ∨ vs.ownBlock ≠ vl.ownBlock) :
    SB base w.heap.size wide high wrap xs ys vs vl (w.alloc (.cells #[.int .i64 wide, .int .i64 high, .bool wrap, vs, vl] 27)) := by
  have hB : Below w.heap.size w (w.alloc (.cells #[.int .i64 wide, .int .i64 high, .bool wrap, vs, vl] 27)) := (Below.refl _ _).alloc (Nat.le_refl _) _
  exact ⟨heap_alloc_new _ _, OwnL.keep _ _ _ h hB, OwnL.keep _ _ _ h' hB, ap, fun k hk => (h.low k hk).2, fun k hk => (h'.low k hk).2⟩

/-- a marking of the lists of a sheet's box, and of a field's box -/
theorem SB.marked {base p : Nat} {wide high : Int} {wrap : Bool} {xs ys : List Nat} {vs vl : Value} {w w' : World} (h : SB base p wide high wrap xs ys vs vl w) (hM : Marked vs vl w w') : Chg base p w w' :=
  ⟨hM.os, hM.tape, hM.output, hM.size, fun k hk hor => hM.block k hk (fun e => by have := (h.o1.low k e.symm).1; have := h.l1 k e.symm; omega) (fun e => by have := (h.o2.low k e.symm).1; have := h.l2 k e.symm; omega)⟩
theorem SB.remark {base p : Nat} {wide high : Int} {wrap : Bool} {xs ys xs' ys' : List Nat} {vs vl : Value} {w w' : World} (h : SB base p wide high wrap xs ys vs vl w) (hM : Marked vs vl w w') (o1 : OwnL base xs' vs w') (o2 : OwnL base ys' vl w') : SB base p wide high wrap xs' ys' vs vl w' :=
  ⟨by rw [(h.marked hM).block p h.lt (.inr (Nat.le_refl _))]; exact h.box, o1, o2, h.ap, h.l1, h.l2⟩
theorem FB.marked {base p : Nat} {xs ys zs : List Nat} {v1 v2 v3 : Value} {w w' : World} (h : FB base p xs ys zs v1 v2 v3 w) (hM : MarkedF v1 v2 v3 w w') : Chg base p w w' :=
  ⟨hM.os, hM.tape, hM.output, hM.size, fun k hk hor => hM.block k hk (fun e => by have := (h.o1.low k e.symm).1; have := h.l1 k e.symm; omega) (fun e => by have := (h.o2.low k e.symm).1; have := h.l2 k e.symm; omega) (fun e => by have := (h.o3.low k e.symm).1; have := h.l3 k e.symm; omega)⟩
theorem FB.remark {base p : Nat} {xs ys zs xs' ys' zs' : List Nat} {v1 v2 v3 : Value} {w w' : World} (h : FB base p xs ys zs v1 v2 v3 w) (hM : MarkedF v1 v2 v3 w w') (o1 : OwnL base xs' v1 w') (o2 : OwnL base ys' v2 w') (o3 : OwnL base zs' v3 w') : FB base p xs' ys' zs' v1 v2 v3 w' :=
  ⟨by rw [(h.marked hM).block p h.lt (.inr (Nat.le_refl _))]; exact h.box, o1, o2, o3, h.p12, h.p13, h.p23, h.l1, h.l2, h.l3⟩

/-- the law's argument: its box and its lists -/
structure AB (w : World) (wide high : Int) (wrap : Bool) (A : Option Addr) (c : Nat) (B : Option Addr) (d : Nat) (xs ys : List Nat) (W : World) : Prop where
  box : W.heap[w.heap.size]? = some (.cells #[.int .i64 wide, .int .i64 high, .bool wrap, .slice A xs.length c, .slice B ys.length d] 24 (0, 0))
  la : Fl32 w A xs
  lb : Fl32 w B ys
  bel : Below w.heap.size w W
theorem AB.chg {w : World} {wide high : Int} {wrap : Bool} {A : Option Addr} {c : Nat} {B : Option Addr} {d : Nat} {xs ys : List Nat} {W W' : World} {lo hi : Nat} (h : AB w wide high wrap A c B d xs ys W) (hc : Chg lo hi W W') (hl : w.heap.size < lo) : AB w wide high wrap A c B d xs ys W' :=
  ⟨by rw [hc.block _ (Array.getElem?_eq_some_iff.1 h.box).1 (.inl hl)]; exact h.box, h.la, h.lb, h.bel.trans (hc.below (Nat.le_of_lt hl) h.bel.size)⟩
theorem AB.lt {w : World} {wide high : Int} {wrap : Bool} {A : Option Addr} {c : Nat} {B : Option Addr} {d : Nat} {xs ys : List Nat} {W : World} (h : AB w wide high wrap A c B d xs ys W) : w.heap.size < W.heap.size := (Array.getElem?_eq_some_iff.1 h.box).1
theorem AB.keep {w : World} {wide high : Int} {wrap : Bool} {A : Option Addr} {c : Nat} {B : Option Addr} {d : Nat} {xs ys : List Nat} {W W' : World} (h : AB w wide high wrap A c B d xs ys W) (hb : Below W.heap.size W W') : AB w wide high wrap A c B d xs ys W' :=
  h.chg (Chg.of_below hb) h.lt
theorem AB.fa {w : World} {wide high : Int} {wrap : Bool} {A : Option Addr} {c : Nat} {B : Option Addr} {d : Nat} {xs ys : List Nat} {W : World} (h : AB w wide high wrap A c B d xs ys W) : Fl32 W A xs := h.la.keep h.bel (Nat.le_refl _)
theorem AB.fb {w : World} {wide high : Int} {wrap : Bool} {A : Option Addr} {c : Nat} {B : Option Addr} {d : Nat} {xs ys : List Nat} {W : World} (h : AB w wide high wrap A c B d xs ys W) : Fl32 W B ys := h.lb.keep h.bel (Nat.le_refl _)
theorem AB.at {w : World} {wide high : Int} {wrap : Bool} {A : Option Addr} {c : Nat} {B : Option Addr} {d : Nat} {xs ys : List Nat} {W : World} (h : AB w wide high wrap A c B d xs ys W) : SheetAt wide high wrap xs ys (.agg #[.int .i64 wide, .int .i64 high, .bool wrap, .slice A xs.length c, .slice B ys.length d]) W :=
  ⟨A, c, B, d, rfl, h.fa, h.fb⟩

end Go.Proofs.Ytbfilganggllkaa
