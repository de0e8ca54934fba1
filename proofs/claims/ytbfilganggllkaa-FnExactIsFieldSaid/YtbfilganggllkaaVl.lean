/-
The values of sheets and fields in memory, and what the calls of a law make of them.
-/
import Derived.Test.YtbfilganggllkaaGr
import Derived.Test.YtbfilganggllkaaSw
import Derived.Test.YtbfilganggllkaaHb
set_option linter.unusedVariables false
set_option linter.unusedSimpArgs false
namespace Go.Proofs.Ytbfilganggllkaa
open Fl Go.RowKit

/-- a kind of value that outlasts new memory -/
def Keeps (K : Value → World → Prop) : Prop := ∀ v w w', K v w → Below w.heap.size w w' → K v w'
theorem keeps_pure (p : Value → Prop) : Keeps fun v _ => p v := fun _ _ _ h _ => h
theorem keeps_list {Vs : List (Value → World → Prop)} (h : ∀ K ∈ Vs, Keeps K) (i : Nat) (v : Value) (w w' : World) (hi : i < Vs.length) (hv : Vs.getD i (fun _ _ => True) v w) (hB : Below w.heap.size w w') : Vs.getD i (fun _ _ => True) v w' := by
  have e : Vs.getD i (fun _ _ => True) = Vs[i] := by simp [List.getD_eq_getElem?_getD, hi]
  rw [e] at hv ⊢
  exact h _ (List.getElem_mem hi) v w w' hv hB

def SheetAt (wide high : Int) (wrap : Bool) (xs ys : List Nat) (v : Value) (w : World) : Prop :=
  ∃ A a B b, v = .agg #[.int .i64 wide, .int .i64 high, .bool wrap, .slice A xs.length a, .slice B ys.length b] ∧ Fl32 w A xs ∧ Fl32 w B ys
theorem SheetAt.keep {wide high : Int} {wrap : Bool} {xs ys : List Nat} : Keeps (SheetAt wide high wrap xs ys) := fun v w w' ⟨A, a, B, b, e, h1, h2⟩ hB =>
  ⟨A, a, B, b, e, h1.keep hB (Nat.le_refl _), h2.keep hB (Nat.le_refl _)⟩

/-- what a call gives that only makes memory -/
def Gives (K : Value → World → Prop) (w : World) (e : Ending) (w' : World) : Prop := Below w.heap.size w w' ∧ ∃ v, e = .returned v ∧ K v w'

theorem g_toSheet {wide high : Int} {wrap : Bool} {xs ys : List Nat} {v : Value} {w : World} (h : SheetAt wide high wrap xs ys v w) (hx : xs.length ≤ 1048576) (hy : ys.length ≤ 1048576) :
    Calls Try.prog 11 #[v] w (Gives (SheetAt wide high wrap xs ys) w) := by
  obtain ⟨A, a, B, b, rfl, h1, h2⟩ := h
  exact (c_toSheet wide high wrap A a B b xs ys w h1 h2 hx hy).mono fun e w' ⟨A', B', he, hB, _, f1, f2⟩ => ⟨hB, _, he, A', _, B', _, rfl, f1, f2⟩
theorem g_eqSheet {wide high : Int} {wrap : Bool} {xs ys : List Nat} {v v' : Value} {w : World} (h : SheetAt wide high wrap xs ys v w) (h' : SheetAt wide high wrap xs ys v' w) (ax : All32 xs) (ay : All32 ys) (hx : xs.length ≤ 1048576) (hy : ys.length ≤ 1048576) :
    Calls Try.prog 13 #[v, v'] w (Gives (fun v _ => v = .bool true) w) := by
  obtain ⟨A, a, B, b, rfl, h1, h2⟩ := h
  obtain ⟨A', a', B', b', rfl, h1', h2'⟩ := h'
  exact (c_eqSheet wide high wrap A A' a a' B B' b b' xs ys w h1 h1' h2 h2' ax ay hx hy).mono fun e w' ⟨he, hB⟩ => ⟨hB, _, he, rfl⟩

def FieldAt (xs ys zs : List Nat) (v : Value) (w : World) : Prop :=
  ∃ A a B b C c, v = .agg #[.slice A xs.length a, .slice B ys.length b, .slice C zs.length c] ∧ Fl32 w A xs ∧ Fl32 w B ys ∧ Fl32 w C zs
theorem FieldAt.keep {xs ys zs : List Nat} : Keeps (FieldAt xs ys zs) := fun v w w' ⟨A, a, B, b, C, c, e, h1, h2, h3⟩ hB =>
  ⟨A, a, B, b, C, c, e, h1.keep hB (Nat.le_refl _), h2.keep hB (Nat.le_refl _), h3.keep hB (Nat.le_refl _)⟩
theorem g_toField {xs ys zs : List Nat} {v : Value} {w : World} (h : FieldAt xs ys zs v w) (hx : xs.length ≤ 1048576) (hy : ys.length ≤ 1048576) (hz : zs.length ≤ 1048576) :
    Calls Try.prog 16 #[v] w (Gives (FieldAt xs ys zs) w) := by
  obtain ⟨A, a, B, b, C, c, rfl, h1, h2, h3⟩ := h
  exact (c_toField A a B b C c xs ys zs w h1 h2 h3 hx hy hz).mono fun e w' ⟨A', B', C', he, hB, _, f1, f2, f3⟩ => ⟨hB, _, he, A', _, B', _, C', _, rfl, f1, f2, f3⟩
theorem g_eqField {xs ys zs : List Nat} {v v' : Value} {w : World} (h : FieldAt xs ys zs v w) (h' : FieldAt xs ys zs v' w) (ax : All32 xs) (ay : All32 ys) (az : All32 zs) (hx : xs.length ≤ 1048576) (hy : ys.length ≤ 1048576) (hz : zs.length ≤ 1048576) :
    Calls Try.prog 18 #[v, v'] w (Gives (fun v _ => v = .bool true) w) := by
  obtain ⟨A, a, B, b, C, c, rfl, h1, h2, h3⟩ := h
  obtain ⟨A', a', B', b', C', c', rfl, h1', h2', h3'⟩ := h'
  exact (c_eqField A A' a a' B B' b b' C C' c c' xs ys zs w h1 h1' h2 h2' h3 h3' ax ay az hx hy hz).mono fun e w' ⟨he, hB⟩ => ⟨hB, _, he, rfl⟩

end Go.Proofs.Ytbfilganggllkaa
