/-
The border of a sheet; what a field must hold in a cell.
-/
import Derived.Test.YtbfilganggllkaaVf
set_option linter.unusedVariables false
set_option linter.unusedSimpArgs false
namespace Go.Proofs.Ytbfilganggllkaa
open Fl Go.RowKit

theorem hide0 {p : Prop} (h : p) : Hid p := h
/-- is a number not zero, as '!=' says -/
def nz (x : Nat) : Bool := FloatKind.f32.format.order x 0 != some .eq
def bordN (wN hN x y : Nat) : Bool := decide (x = 0) || (decide (x + 1 = wN) || (decide (y = 0) || decide (y + 1 = hN)))
def badAt (wN hN x y ve vf vg : Nat) : Bool := (bordN wN hN x y && nz ve) || ((decide (y + 1 = hN) && nz vf) || (decide (x + 1 = wN) && nz vg))
def badI (wN hN : Nat) (es fs gs : List Nat) (i : Nat) : Bool := badAt wN hN (i % wN) (i / wN) (es.getD i 0) (fs.getD i 0) (gs.getD i 0)

theorem c_l02Border (b wN hN x y : Nat) (w : World) (h0 : w.cell? ⟨b, 0, none⟩ = some (.int .i64 wN)) (h1 : w.cell? ⟨b, 1, none⟩ = some (.int .i64 hN)) (h2 : w.cell? ⟨b, 2, none⟩ = some (.bool false)) (a1 : 3 ≤ wN) (a2 : wN ≤ 16) (a3 : 3 ≤ hN) (a4 : hN ≤ 16) :
    Calls Try.prog 52 #[.pointer (some ⟨b, 0, none⟩), .int .i64 x, .int .i64 y] w fun e w' => e = .returned (.bool (bordN wN hN x y)) ∧ w = w' := by
  by_cases hx0 : x = 0
  · have b0 : ((x : Int) == 0) = true := by simp [hx0]
    have e : bordN wN hN x y = true := by unfold bordN; simp [hx0]
    rw [e]
    clear e
    clear hx0
    go_enter Try.func52, Try.ntmps52
    go_wp2_with fail
    go_ret
    exact ⟨rfl, rfl⟩
  · have b0 : ((x : Int) == 0) = false := by simp; exact hx0
    by_cases hxw : x + 1 = wN
    · have b1 : ((x : Int) == (wN : Int) - 1) = true := by simp; omega
      have e : bordN wN hN x y = true := by unfold bordN; simp [hxw]
      rw [e]
      clear e
      clear hx0 hxw
      go_enter Try.func52, Try.ntmps52
      go_wp2_with fail
      go_ret
      exact ⟨rfl, rfl⟩
    · have b1 : ((x : Int) == (wN : Int) - 1) = false := by simp; omega
      by_cases hy0 : y = 0
      · have b2 : ((y : Int) == 0) = true := by simp [hy0]
        have e : bordN wN hN x y = true := by unfold bordN; simp [hy0]
        rw [e]
        clear e
        clear hx0 hxw hy0
        go_enter Try.func52, Try.ntmps52
        go_wp2_with fail
        go_ret
        exact ⟨rfl, rfl⟩
      · have b2 : ((y : Int) == 0) = false := by simp; exact hy0
        by_cases hyh : y + 1 = hN
        · have b3 : ((y : Int) == (hN : Int) - 1) = true := by simp; omega
          have e : bordN wN hN x y = true := by unfold bordN; simp [hyh]
          rw [e]
          clear e
          clear hx0 hxw hy0 hyh
          go_enter Try.func52, Try.ntmps52
          go_wp2_with fail
          go_ret
          exact ⟨rfl, rfl⟩
        · have b3 : ((y : Int) == (hN : Int) - 1) = false := by simp; omega
          have e : bordN wN hN x y = false := by unfold bordN; simp [hx0, hxw, hy0, hyh]
          rw [e]
          clear e
          clear hx0 hxw hy0 hyh
          go_enter Try.func52, Try.ntmps52
          go_wp2_with fail
          go_ret
          exact ⟨rfl, rfl⟩
theorem c_isBorder (wN hN x y : Nat) (A : Option Addr) (c : Nat) (B : Option Addr) (d n m : Nat) (w : World) (a1 : 3 ≤ wN) (a2 : wN ≤ 16) (a3 : 3 ≤ hN) (a4 : hN ≤ 16) :
    Calls Try.prog 45 #[.agg #[.int .i64 wN, .int .i64 hN, .bool false, .slice A n c, .slice B m d], .int .i64 x, .int .i64 y] w fun e w' => e = .returned (.bool (bordN wN hN x y)) ∧ Below w.heap.size w w' := by
  have HB := hide0 (show Below w.heap.size w (w.alloc (Obj.cells #[.int .i64 wN, .int .i64 hN, .bool false, .slice A n c, .slice B m d] 27)) from (Below.refl _ _).alloc (Nat.le_refl _) _)
  by_cases hx0 : x = 0
  · have b0 : ((x : Int) == 0) = true := by simp [hx0]
    have e : bordN wN hN x y = true := by unfold bordN; simp [hx0]
    rw [e]
    clear e
    clear hx0
    go_enter Try.func45, Try.ntmps45
    go_wp2_with fail
    go_ret
    exact ⟨rfl, HB.out⟩
  · have b0 : ((x : Int) == 0) = false := by simp; exact hx0
    by_cases hxw : x + 1 = wN
    · have b1 : ((x : Int) == (wN : Int) - 1) = true := by simp; omega
      have e : bordN wN hN x y = true := by unfold bordN; simp [hxw]
      rw [e]
      clear e
      clear hx0 hxw
      go_enter Try.func45, Try.ntmps45
      go_wp2_with fail
      go_ret
      exact ⟨rfl, HB.out⟩
    · have b1 : ((x : Int) == (wN : Int) - 1) = false := by simp; omega
      by_cases hy0 : y = 0
      · have b2 : ((y : Int) == 0) = true := by simp [hy0]
        have e : bordN wN hN x y = true := by unfold bordN; simp [hy0]
        rw [e]
        clear e
        clear hx0 hxw hy0
        go_enter Try.func45, Try.ntmps45
        go_wp2_with fail
        go_ret
        exact ⟨rfl, HB.out⟩
      · have b2 : ((y : Int) == 0) = false := by simp; exact hy0
        by_cases hyh : y + 1 = hN
        · have b3 : ((y : Int) == (hN : Int) - 1) = true := by simp; omega
          have e : bordN wN hN x y = true := by unfold bordN; simp [hyh]
          rw [e]
          clear e
          clear hx0 hxw hy0 hyh
          go_enter Try.func45, Try.ntmps45
          go_wp2_with fail
          go_ret
          exact ⟨rfl, HB.out⟩
        · have b3 : ((y : Int) == (hN : Int) - 1) = false := by simp; omega
          have e : bordN wN hN x y = false := by unfold bordN; simp [hx0, hxw, hy0, hyh]
          rw [e]
          clear e
          clear hx0 hxw hy0 hyh
          go_enter Try.func45, Try.ntmps45
          go_wp2_with fail
          go_ret
          exact ⟨rfl, HB.out⟩

end Go.Proofs.Ytbfilganggllkaa
