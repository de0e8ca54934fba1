/-
Fields of a sheet, over the values of sheets and fields.
-/
import Derived.Test.YtbfilganggllkaaFc
set_option linter.unusedVariables false
set_option linter.unusedSimpArgs false
namespace Go.Proofs.Ytbfilganggllkaa
open Fl Go.RowKit

def isFieldV (wide high : Int) (wrap : Bool) (xs ys es fs gs : List Nat) : Bool := sheetV wide high xs ys && fitsN wide.toNat high.toNat wrap es fs gs

theorem c_specIsField (wide high : Int) (wrap : Bool) (XA : Option Addr) (xa : Nat) (XB : Option Addr) (xb : Nat) (xs ys : List Nat) (A : Option Addr) (a : Nat) (B : Option Addr) (b : Nat) (C : Option Addr) (c : Nat) (es fs gs : List Nat) (w : World) (hX : Fl32 w XA xs) (hY : Fl32 w XB ys) (fA : Fl32 w A es) (fB : Fl32 w B fs) (fC : Fl32 w C gs) (hx : xs.length ≤ 1048576) (hy : ys.length ≤ 1048576) (he : es.length ≤ 1048576) (hf : fs.length ≤ 1048576) (hg : gs.length ≤ 1048576) :
    Calls Try.prog 25 #[.agg #[.int .i64 wide, .int .i64 high, .bool wrap, .slice XA xs.length xa, .slice XB ys.length xb], .agg #[.slice A es.length a, .slice B fs.length b, .slice C gs.length c]] w (Gives (fun v _ => v = .bool (isFieldV wide high wrap xs ys es fs gs)) w) := by
  have hB0 : Below w.heap.size w ((w.alloc (Obj.cells #[.int .i64 wide, .int .i64 high, .bool wrap, .slice XA xs.length xa, .slice XB ys.length xb] 27)).alloc (Obj.cells #[.slice A es.length a, .slice B fs.length b, .slice C gs.length c] 35)) := ((Below.refl _ _).alloc (Nat.le_refl _) _).alloc (by simp) _
  have H := hide0 (c_l02Is w.heap.size wide high XA xa XB xb xs ys ((w.alloc (Obj.cells #[.int .i64 wide, .int .i64 high, .bool wrap, .slice XA xs.length xa, .slice XB ys.length xb] 27)).alloc (Obj.cells #[.slice A es.length a, .slice B fs.length b, .slice C gs.length c] 35)) (by simp [go_sem]) (by simp [go_sem]) (by simp [go_sem]) (by simp [go_sem]) (hX.keep hB0 (Nat.le_refl _)) (hY.keep hB0 (Nat.le_refl _)) hx hy)
  have HB := hide0 hB0
  unfold isFieldV
  cases hv : sheetV wide high xs ys
  · rw [hv] at H
    clear hv hB0 hX hY fA fB fC
    go_enter Try.func25, Try.ntmps25
    go_wp2_with fail
    go_at_call 32
    refine Calls.mono H.out ?_
    rintro e w' ⟨rfl, m, rfl⟩
    go_wp2_with fail
    go_ret
    exact ⟨below_n HB.out m, _, rfl, rfl⟩
  · rw [hv] at H
    have hsd : sidesV wide high = true := by
      unfold sheetV at hv
      simp only [Bool.and_eq_true] at hv
      exact hv.1
    obtain ⟨b1, b2, b3, b4⟩ := sides_iff.1 hsd
    obtain ⟨wN, rfl⟩ : ∃ n : Nat, wide = (n : Int) := ⟨wide.toNat, by omega⟩
    obtain ⟨hN, rfl⟩ : ∃ n : Nat, high = (n : Int) := ⟨high.toNat, by omega⟩
    have F := hide0 (c_l02Fits w.heap.size (w.heap.size + 1) wN hN wrap A a B b C c es fs gs ((w.alloc (Obj.cells #[.int .i64 wN, .int .i64 hN, .bool wrap, .slice XA xs.length xa, .slice XB ys.length xb] 27)).alloc (Obj.cells #[.slice A es.length a, .slice B fs.length b, .slice C gs.length c] 35)) (by simp [go_sem]) (by simp [go_sem]) (by simp [go_sem]) (by simp [go_sem]) (by simp [go_sem]) (by simp [go_sem]) (fA.keep hB0 (Nat.le_refl _)) (fB.keep hB0 (Nat.le_refl _)) (fC.keep hB0 (Nat.le_refl _)) (by omega) (by omega) (by omega) (by omega) he hf hg)
    have F' := hide0 (fun n => c_l02Fits w.heap.size (w.heap.size + 1) wN hN wrap A a B b C c es fs gs (((w.alloc (Obj.cells #[.int .i64 wN, .int .i64 hN, .bool wrap, .slice XA xs.length xa, .slice XB ys.length xb] 27)).alloc (Obj.cells #[.slice A es.length a, .slice B fs.length b, .slice C gs.length c] 35)).drewN n) (by simp [go_sem]) (by simp [go_sem]) (by simp [go_sem]) (by simp [go_sem]) (by simp [go_sem]) (by simp [go_sem]) (Fl32.drewN (fA.keep hB0 (Nat.le_refl _)) n) (Fl32.drewN (fB.keep hB0 (Nat.le_refl _)) n) (Fl32.drewN (fC.keep hB0 (Nat.le_refl _)) n) (by omega) (by omega) (by omega) (by omega) he hf hg)
    clear hv hB0 hX hY fA fB fC hsd F
    simp only [Int.toNat_natCast, Bool.true_and]
    go_enter Try.func25, Try.ntmps25
    go_wp2_with fail
    go_at_call 32
    refine Calls.mono H.out ?_
    rintro e w' ⟨rfl, m, rfl⟩
    go_wp2_with fail
    go_at_call 44
    refine Calls.mono (F'.out m) ?_
    rintro e w' ⟨rfl, m', rfl⟩
    go_wp2_with fail
    go_ret
    exact ⟨below_n HB.out (m + m'), _, rfl, rfl⟩
theorem g_spec_IsField {wide high : Int} {wrap : Bool} {xs ys es fs gs : List Nat} {v v' : Value} {w : World} (h : SheetAt wide high wrap xs ys v w) (h' : FieldAt es fs gs v' w) (ax : All32 xs) (ay : All32 ys) (ae : All32 es) (af : All32 fs) (ag : All32 gs) (hx : xs.length ≤ 1048576) (hy : ys.length ≤ 1048576) (he : es.length ≤ 1048576) (hf : fs.length ≤ 1048576) (hg : gs.length ≤ 1048576) :
    Calls Try.prog 25 #[v, v'] w (Gives (fun v _ => v = .bool (isFieldV wide high wrap xs ys es fs gs)) w) := by
  obtain ⟨XA, xa, XB, xb, rfl, h1, h2⟩ := h
  obtain ⟨A, a, B, b, C, c, rfl, f1, f2, f3⟩ := h'
  exact c_specIsField wide high wrap XA xa XB xb xs ys A a B b C c es fs gs w h1 h2 f1 f2 f3 hx hy he hf hg
theorem g_impl_IsField {wide high : Int} {wrap : Bool} {xs ys es fs gs : List Nat} {v v' : Value} {w : World} (h : SheetAt wide high wrap xs ys v w) (h' : FieldAt es fs gs v' w) (ax : All32 xs) (ay : All32 ys) (ae : All32 es) (af : All32 fs) (ag : All32 gs) (hx : xs.length ≤ 1048576) (hy : ys.length ≤ 1048576) (he : es.length ≤ 1048576) (hf : fs.length ≤ 1048576) (hg : gs.length ≤ 1048576) :
    Calls Try.prog 26 #[v, v'] w (Gives (fun v _ => v = .bool (isFieldV wide high wrap xs ys es fs gs)) w) := by
  obtain ⟨XA, xa, XB, xb, rfl, h1, h2⟩ := h
  obtain ⟨A, a, B, b, C, c, rfl, f1, f2, f3⟩ := h'
  cases hv : sheetV wide high xs ys
  · have e : isFieldV wide high wrap xs ys es fs gs = false := by unfold isFieldV; rw [hv]; rfl
    rw [e]
    exact c_implIsField_no wide high wrap XA xa XB xb xs ys A a B b C c es fs gs w h1 h2 f1 f2 f3 hx hy he hf hg hv
  · have hsd : sidesV wide high = true := by
      have hv' := hv
      unfold sheetV at hv'
      simp only [Bool.and_eq_true] at hv'
      exact hv'.1
    obtain ⟨b1, b2, b3, b4⟩ := sides_iff.1 hsd
    obtain ⟨wN, rfl⟩ : ∃ n : Nat, wide = (n : Int) := ⟨wide.toNat, by omega⟩
    obtain ⟨hN, rfl⟩ : ∃ n : Nat, high = (n : Int) := ⟨high.toNat, by omega⟩
    have e : isFieldV wN hN wrap xs ys es fs gs = fitsN wN hN wrap es fs gs := by unfold isFieldV; rw [hv]; simp
    rw [e]
    exact c_implIsField_yes wN hN wrap XA xa XB xb xs ys A a B b C c es fs gs w h1 h2 f1 f2 f3 hx hy he hf hg hv

end Go.Proofs.Ytbfilganggllkaa
