/-
Sheets compared: the contracts in both packages.
-/
import Derived.Test.YtbfilganggllkaaVf
set_option linter.unusedVariables false
set_option linter.unusedSimpArgs false
namespace Go.Proofs.Ytbfilganggllkaa
open Fl Go.RowKit

def sheetE (wide wide' high high' : Int) (wrap wrap' : Bool) (xs xs' ys ys' : List Nat) : Bool := decide (wide = wide') && (decide (high = high') && ((wrap == wrap') && (sameL xs xs' && sameL ys ys')))

theorem c_specSameSheet (wide wide' high high' : Int) (wrap wrap' : Bool) (A A' B B' : Option Addr) (a a' b b' : Nat) (xs xs' ys ys' : List Nat) (w : World) (hA : Fl32 w A xs) (hA' : Fl32 w A' xs') (hB : Fl32 w B ys) (hB' : Fl32 w B' ys') (ax : All32 xs) (ax' : All32 xs') (ay : All32 ys) (ay' : All32 ys') (hx : xs.length ≤ 1048576) (hx' : xs'.length ≤ 1048576) (hy : ys.length ≤ 1048576) (hy' : ys'.length ≤ 1048576) :
    Calls Try.prog 23 #[.agg #[.int .i64 wide, .int .i64 high, .bool wrap, .slice A xs.length a, .slice B ys.length b], .agg #[.int .i64 wide', .int .i64 high', .bool wrap', .slice A' xs'.length a', .slice B' ys'.length b']] w fun e w' => e = .returned (.bool (sheetE wide wide' high high' wrap wrap' xs xs' ys ys')) ∧ Below w.heap.size w w' := by
  have hB0 : Below w.heap.size w ((w.alloc (Obj.cells #[.int .i64 wide, .int .i64 high, .bool wrap, .slice A xs.length a, .slice B ys.length b] 27)).alloc (Obj.cells #[.int .i64 wide', .int .i64 high', .bool wrap', .slice A' xs'.length a', .slice B' ys'.length b'] 27)) := ((Below.refl _ _).alloc (Nat.le_refl _) _).alloc (by simp) _
  have HW : Hid _ := hB0
  have H1 := fun n => c_l01SameAll A A' a a' xs xs' _ (Fl32.drewN (hA.keep hB0 (Nat.le_refl _)) n) (Fl32.drewN (hA'.keep hB0 (Nat.le_refl _)) n) ax ax' hx hx'
  have H2 := fun n => c_l01SameAll B B' b b' ys ys' _ (Fl32.drewN (hB.keep hB0 (Nat.le_refl _)) n) (Fl32.drewN (hB'.keep hB0 (Nat.le_refl _)) n) ay ay' hy hy'
  clear hB0 hA hA' hB hB'
  unfold sheetE
  have K2 : Hid _ := H2
  clear H2
  by_cases e1 : wide = wide'
  · subst e1
    by_cases e2 : high = high'
    · subst e2
      by_cases e3 : wrap = wrap'
      · subst e3
        simp only [decide_true, Bool.true_and, beq_self_eq_true]
        cases e4 : sameL xs xs'
        · rw [e4] at H1
          have K1 : Hid _ := H1
          clear H1 e4
          cases wrap
          all_goals
            go_enter Try.func23, Try.ntmps23
            go_wp2_with fail
            go_at_call 43
            refine (K1.out 0).mono ?_
            rintro e w' ⟨rfl, m, rfl⟩
            go_wp2_with fail
            go_ret
            exact ⟨rfl, below_n HW.out _⟩
        · rw [e4] at H1
          have K1 : Hid _ := H1
          clear H1 e4
          cases wrap
          all_goals
            go_enter Try.func23, Try.ntmps23
            go_wp2_with fail
            go_at_call 43
            refine (K1.out 0).mono ?_
            rintro e w' ⟨rfl, m, rfl⟩
            go_wp2_with fail
            go_at_call 43
            refine (K2.out _).mono ?_
            rintro e w' ⟨rfl, m', rfl⟩
            go_wp2_with fail
            go_ret
            exact ⟨rfl, below_n HW.out _⟩
      · clear H1
        have e : (decide (wide = wide) && (decide (high = high) && ((wrap == wrap') && (sameL xs xs' && sameL ys ys')))) = false := by rw [show (wrap == wrap') = false from beq_eq_false_iff_ne.2 e3]; simp
        rw [e]
        clear e
        cases wrap <;> cases wrap'
        · exact absurd rfl e3
        · clear e3
          go_enter Try.func23, Try.ntmps23
          go_wp2_with fail
          go_ret
          exact ⟨rfl, HW.out⟩
        · clear e3
          go_enter Try.func23, Try.ntmps23
          go_wp2_with fail
          go_ret
          exact ⟨rfl, HW.out⟩
        · exact absurd rfl e3
    · clear H1
      have e : (decide (wide = wide) && (decide (high = high') && ((wrap == wrap') && (sameL xs xs' && sameL ys ys')))) = false := by rw [decide_eq_false e2]; simp
      rw [e]
      clear e
      have h2 : (high == high') = false := beq_eq_false_iff_ne.2 e2
      clear e2
      go_enter Try.func23, Try.ntmps23
      go_wp2_with fail
      go_ret
      exact ⟨rfl, HW.out⟩
  · clear H1
    have e : (decide (wide = wide') && (decide (high = high') && ((wrap == wrap') && (sameL xs xs' && sameL ys ys')))) = false := by rw [decide_eq_false e1]; simp
    rw [e]
    clear e
    have h2 : (wide == wide') = false := beq_eq_false_iff_ne.2 e1
    clear e1
    go_enter Try.func23, Try.ntmps23
    go_wp2_with fail
    go_ret
    exact ⟨rfl, HW.out⟩

theorem g_spec_SameSheet {wide wide' high high' : Int} {wrap wrap' : Bool} {xs ys xs' ys' : List Nat} {v v' : Value} {w : World} (h : SheetAt wide high wrap xs ys v w) (h' : SheetAt wide' high' wrap' xs' ys' v' w) (ax : All32 xs) (ay : All32 ys) (ax' : All32 xs') (ay' : All32 ys') (hx : xs.length ≤ 1048576) (hy : ys.length ≤ 1048576) (hx' : xs'.length ≤ 1048576) (hy' : ys'.length ≤ 1048576) :
    Calls Try.prog 23 #[v, v'] w (Gives (fun v _ => v = .bool (sheetE wide wide' high high' wrap wrap' xs xs' ys ys')) w) := by
  obtain ⟨A, a, B, b, rfl, h1, h2⟩ := h
  obtain ⟨A', a', B', b', rfl, h1', h2'⟩ := h'
  exact (c_specSameSheet wide wide' high high' wrap wrap' A A' B B' a a' b b' xs xs' ys ys' w h1 h1' h2 h2' ax ax' ay ay' hx hx' hy hy').mono fun e w' ⟨he, hB⟩ => ⟨hB, _, he, rfl⟩

theorem c_implSameSheet (wide wide' high high' : Int) (wrap wrap' : Bool) (A A' B B' : Option Addr) (a a' b b' : Nat) (xs xs' ys ys' : List Nat) (w : World) (hA : Fl32 w A xs) (hA' : Fl32 w A' xs') (hB : Fl32 w B ys) (hB' : Fl32 w B' ys') (ax : All32 xs) (ax' : All32 xs') (ay : All32 ys) (ay' : All32 ys') (hx : xs.length ≤ 1048576) (hx' : xs'.length ≤ 1048576) (hy : ys.length ≤ 1048576) (hy' : ys'.length ≤ 1048576) :
    Calls Try.prog 24 #[.agg #[.int .i64 wide, .int .i64 high, .bool wrap, .slice A xs.length a, .slice B ys.length b], .agg #[.int .i64 wide', .int .i64 high', .bool wrap', .slice A' xs'.length a', .slice B' ys'.length b']] w fun e w' => e = .returned (.bool (sheetE wide wide' high high' wrap wrap' xs xs' ys ys')) ∧ Below w.heap.size w w' := by
  have hB0 : Below w.heap.size w ((w.alloc (Obj.cells #[.int .i64 wide, .int .i64 high, .bool wrap, .slice A xs.length a, .slice B ys.length b] 27)).alloc (Obj.cells #[.int .i64 wide', .int .i64 high', .bool wrap', .slice A' xs'.length a', .slice B' ys'.length b'] 27)) := ((Below.refl _ _).alloc (Nat.le_refl _) _).alloc (by simp) _
  have HW : Hid _ := hB0
  have H1 := fun n => c_sameNumbers A A' a a' xs xs' _ (Fl32.drewN (hA.keep hB0 (Nat.le_refl _)) n) (Fl32.drewN (hA'.keep hB0 (Nat.le_refl _)) n) ax ax' hx hx'
  have H2 := fun n => c_sameNumbers B B' b b' ys ys' _ (Fl32.drewN (hB.keep hB0 (Nat.le_refl _)) n) (Fl32.drewN (hB'.keep hB0 (Nat.le_refl _)) n) ay ay' hy hy'
  clear hB0 hA hA' hB hB'
  unfold sheetE
  have K2 : Hid _ := H2
  clear H2
  by_cases e1 : wide = wide'
  · subst e1
    by_cases e2 : high = high'
    · subst e2
      by_cases e3 : wrap = wrap'
      · subst e3
        simp only [decide_true, Bool.true_and, beq_self_eq_true]
        cases e4 : sameL xs xs'
        · rw [e4] at H1
          have K1 : Hid _ := H1
          clear H1 e4
          cases wrap
          all_goals
            go_enter Try.func24, Try.ntmps24
            go_wp2_with fail
            go_at_call 38
            refine (K1.out 0).mono ?_
            rintro e w' ⟨rfl, m, rfl⟩
            go_wp2_with fail
            go_ret
            exact ⟨rfl, below_n HW.out _⟩
        · rw [e4] at H1
          have K1 : Hid _ := H1
          clear H1 e4
          cases wrap
          all_goals
            go_enter Try.func24, Try.ntmps24
            go_wp2_with fail
            go_at_call 38
            refine (K1.out 0).mono ?_
            rintro e w' ⟨rfl, m, rfl⟩
            go_wp2_with fail
            go_at_call 38
            refine (K2.out _).mono ?_
            rintro e w' ⟨rfl, m', rfl⟩
            go_wp2_with fail
            go_ret
            exact ⟨rfl, below_n HW.out _⟩
      · clear H1
        have e : (decide (wide = wide) && (decide (high = high) && ((wrap == wrap') && (sameL xs xs' && sameL ys ys')))) = false := by rw [show (wrap == wrap') = false from beq_eq_false_iff_ne.2 e3]; simp
        rw [e]
        clear e
        cases wrap <;> cases wrap'
        · exact absurd rfl e3
        · clear e3
          go_enter Try.func24, Try.ntmps24
          go_wp2_with fail
          go_ret
          exact ⟨rfl, HW.out⟩
        · clear e3
          go_enter Try.func24, Try.ntmps24
          go_wp2_with fail
          go_ret
          exact ⟨rfl, HW.out⟩
        · exact absurd rfl e3
    · clear H1
      have e : (decide (wide = wide) && (decide (high = high') && ((wrap == wrap') && (sameL xs xs' && sameL ys ys')))) = false := by rw [decide_eq_false e2]; simp
      rw [e]
      clear e
      have h2 : (high == high') = false := beq_eq_false_iff_ne.2 e2
      clear e2
      go_enter Try.func24, Try.ntmps24
      go_wp2_with fail
      go_ret
      exact ⟨rfl, HW.out⟩
  · clear H1
    have e : (decide (wide = wide') && (decide (high = high') && ((wrap == wrap') && (sameL xs xs' && sameL ys ys')))) = false := by rw [decide_eq_false e1]; simp
    rw [e]
    clear e
    have h2 : (wide == wide') = false := beq_eq_false_iff_ne.2 e1
    clear e1
    go_enter Try.func24, Try.ntmps24
    go_wp2_with fail
    go_ret
    exact ⟨rfl, HW.out⟩

theorem g_impl_SameSheet {wide wide' high high' : Int} {wrap wrap' : Bool} {xs ys xs' ys' : List Nat} {v v' : Value} {w : World} (h : SheetAt wide high wrap xs ys v w) (h' : SheetAt wide' high' wrap' xs' ys' v' w) (ax : All32 xs) (ay : All32 ys) (ax' : All32 xs') (ay' : All32 ys') (hx : xs.length ≤ 1048576) (hy : ys.length ≤ 1048576) (hx' : xs'.length ≤ 1048576) (hy' : ys'.length ≤ 1048576) :
    Calls Try.prog 24 #[v, v'] w (Gives (fun v _ => v = .bool (sheetE wide wide' high high' wrap wrap' xs xs' ys ys')) w) := by
  obtain ⟨A, a, B, b, rfl, h1, h2⟩ := h
  obtain ⟨A', a', B', b', rfl, h1', h2'⟩ := h'
  exact (c_implSameSheet wide wide' high high' wrap wrap' A A' B B' a a' b b' xs xs' ys ys' w h1 h1' h2 h2' ax ax' ay ay' hx hx' hy hy').mono fun e w' ⟨he, hB⟩ => ⟨hB, _, he, rfl⟩

end Go.Proofs.Ytbfilganggllkaa
