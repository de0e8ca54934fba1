/-
Comparing lists of float32 number by number, in both packages.
-/
import Derived.Test.YtbfilganggllkaaSh
import Derived.Deep.QuietTactic
import Derived.BigQuiet
set_option linter.unusedVariables false
set_option linter.unusedSimpArgs false
namespace Go.Proofs.Ytbfilganggllkaa
open Fl Go.RowKit

/-- a call that leaves the world, within a region that reads and draws, behind draws -/
theorem stillAdd {P : Program} {f : FuncId} {args : Array Value} {w : World} {a n : Nat} {v : Value} (h : Calls P f args (w.drewN (a + n)) fun e w' => e = .returned v ∧ w.drewN (a + n) = w') :
    Calls P f args (w.drewN (a + n)) fun e w' => e = .returned v ∧ ∃ m, w' = w.drewN (a + m) := h.mono fun _ _ h => ⟨h.1, n, h.2.symm⟩

theorem drawAdd {P : Program} {f : FuncId} {args : Array Value} {w : World} {a n : Nat} {b : Bool} (h : Calls P f args (w.drewN (a + n)) (RB b (w.drewN (a + n)))) :
    Calls P f args (w.drewN (a + n)) fun e w' => e = .returned (.bool b) ∧ ∃ m, w' = w.drewN (a + m) := h.mono fun _ _ ⟨he, m, hm⟩ => ⟨he, n + m, by rw [hm, World.drewN_drewN, Nat.add_assoc]⟩

/-- two lists hold the same numbers -/
def sameL (xs ys : List Nat) : Bool := decide (xs.length = ys.length) && (List.range xs.length).all fun k => sameV (xs.getD k 0) (ys.getD k 0)
theorem sameL_len {xs ys : List Nat} (h : xs.length ≠ ys.length) : sameL xs ys = false := by unfold sameL; rw [decide_eq_false h]; rfl
theorem sameL_no {xs ys : List Nat} {k : Nat} (hk : k < xs.length) (h : sameV (xs.getD k 0) (ys.getD k 0) = false) : sameL xs ys = false := by
  unfold sameL
  rw [Bool.and_eq_false_iff]
  right
  rw [List.all_eq_false]
  exact ⟨k, List.mem_range.2 hk, by rw [h]; decide⟩
theorem sameL_yes {xs ys : List Nat} (hl : xs.length = ys.length) (h : ∀ k, k < xs.length → sameV (xs.getD k 0) (ys.getD k 0) = true) : sameL xs ys = true := by
  unfold sameL
  rw [decide_eq_true hl, Bool.true_and, List.all_eq_true]
  intro k hk
  exact h k (List.mem_range.1 hk)

theorem c_l01SameAll (A B : Option Addr) (c d : Nat) (xs ys : List Nat) (w : World) (hA : Fl32 w A xs) (hB : Fl32 w B ys) (ax : All32 xs) (ay : All32 ys) (hx : xs.length ≤ 1048576) (hy : ys.length ≤ 1048576) :
    Calls Try.prog 43 #[.slice A xs.length c, .slice B ys.length d] w fun e w' => e = .returned (.bool (sameL xs ys)) ∧ ∃ n, w' = w.drewN n := by
  by_cases hl : xs.length = ys.length
  · have hlI : (xs.length : Int) = ys.length := by omega
    go_enter Try.func43, Try.ntmps43
    go_wp2_with fail
    have HX : Hid _ := ax
    have HY : Hid _ := ay
    have HA : Hid (∀ k, k < xs.length → ∃ b off, A = some ⟨b, off, none⟩ ∧ b < w.heap.size ∧ w.cell? ⟨b, off + k, none⟩ = some (.float .f32 (xs.getD k 0))) := fun k hk => hA.at hk
    have HB : Hid (∀ k, k < ys.length → ∃ b off, B = some ⟨b, off, none⟩ ∧ b < w.heap.size ∧ w.cell? ⟨b, off + k, none⟩ = some (.float .f32 (ys.getD k 0))) := fun k hk => hB.at hk
    clear ax ay hA hB
    go_loopw [5] (fun i wr => ∃ k m : Nat, k ≤ xs.length ∧ i = .int .i64 k ∧ (∀ j, j < k → sameV (xs.getD j 0) (ys.getD j 0) = true) ∧ wr = w.drewN m) (fun i _ => xs.length - (intOf i).toNat)
    case atStart => exact ⟨0, 0, Nat.zero_le _, rfl, fun j hj => absurd hj (Nat.not_lt_zero _), rfl⟩
    case round =>
      obtain ⟨k, m, hk, rfl, hok, rfl⟩ := hrel
      have HO : Hid _ := hok
      clear hok
      by_cases hlt : k < xs.length
      · obtain ⟨bx, ox, rfl, hbx, cx⟩ := HA.out k hlt
        obtain ⟨by', oy, rfl, hby, cy⟩ := HB.out k (by omega)
        have hltI : (k : Int) < xs.length := by omega
        have hltY : (k : Int) < ys.length := by omega
        have hS : ∀ w, Calls Try.prog 51 #[.float .f32 (xs.getD k 0), .float .f32 (ys.getD k 0)] w fun e w' => e = .returned (.bool (sameV (xs.getD k 0) (ys.getD k 0))) ∧ w = w' := c_l01Same _ _ (HX.out k) (HY.out k)
        cases hsv : sameV (xs.getD k 0) (ys.getD k 0)
        · have R := sameL_no hlt hsv
          have HR : Hid _ := R
          rw [hsv] at hS
          have HS : Hid _ := hS
          clear R hS hsv
          generalize xs.getD k 0 = x at *
          generalize ys.getD k 0 = y at *
          go_wp2_with fail
          go_quiet ((go_at_call 51; exact stillAdd (HS.out _)))
          go_wp2_with fail
          go_ret
          exact ⟨by rw [HR.out]; rfl, _, World.drewN_drewN _ _ _⟩
        · have HN : Hid _ := hsv
          rw [hsv] at hS
          have HS : Hid _ := hS
          clear hS hsv
          generalize hgx : xs.getD k 0 = x at *
          generalize hgy : ys.getD k 0 = y at *
          have HGX : Hid _ := hgx
          have HGY : Hid _ := hgy
          clear hgx hgy
          go_wp2_with fail
          go_quiet ((go_at_call 51; exact stillAdd (HS.out _)))
          go_wp2_with fail
          go_roundw
          case rel =>
            refine ⟨k + 1, _, by omega, by go_num, fun j hj => ?_, rfl⟩
            rcases Nat.lt_or_eq_of_le (Nat.le_of_lt_succ hj) with h | h
            · exact HO.out j h
            · rw [h, HGX.out, HGY.out]; exact HN.out
          case measure => simp [intOf]; omega
      · have hks : k = xs.length := by omega
        subst hks
        have R : Hid (sameL xs ys = true) := sameL_yes hl fun j hj => HO.out j hj
        go_wp2_with fail
        go_ret
        exact ⟨by rw [R.out]; rfl, _, rfl⟩
  · have hlI : ¬ (xs.length : Int) = ys.length := by omega
    have hv := sameL_len hl
    rw [hv]
    go_enter Try.func43, Try.ntmps43
    go_wp2_with fail
    go_ret
    exact ⟨by first | rfl | simp, 0, rfl⟩

theorem c_sameNumbers (A B : Option Addr) (c d : Nat) (xs ys : List Nat) (w : World) (hA : Fl32 w A xs) (hB : Fl32 w B ys) (ax : All32 xs) (ay : All32 ys) (hx : xs.length ≤ 1048576) (hy : ys.length ≤ 1048576) :
    Calls Try.prog 38 #[.slice A xs.length c, .slice B ys.length d] w fun e w' => e = .returned (.bool (sameL xs ys)) ∧ ∃ n, w' = w.drewN n := by
  by_cases hl : xs.length = ys.length
  · have hlI : (xs.length : Int) = ys.length := by omega
    go_enter Try.func38, Try.ntmps38
    go_wp2_with fail
    have HX : Hid _ := ax
    have HY : Hid _ := ay
    have HA : Hid (∀ k, k < xs.length → ∃ b off, A = some ⟨b, off, none⟩ ∧ b < w.heap.size ∧ w.cell? ⟨b, off + k, none⟩ = some (.float .f32 (xs.getD k 0))) := fun k hk => hA.at hk
    have HB : Hid (∀ k, k < ys.length → ∃ b off, B = some ⟨b, off, none⟩ ∧ b < w.heap.size ∧ w.cell? ⟨b, off + k, none⟩ = some (.float .f32 (ys.getD k 0))) := fun k hk => hB.at hk
    clear ax ay hA hB
    go_loopw [5, 13] (fun v i wr => ∃ k m : Nat, k ≤ xs.length ∧ i = .int .i64 k ∧ (∀ j, j < k → sameV (xs.getD j 0) (ys.getD j 0) = true) ∧ wr = w.drewN m) (fun v i _ => xs.length - (intOf i).toNat)
    case atStart => exact ⟨0, 0, Nat.zero_le _, rfl, fun j hj => absurd hj (Nat.not_lt_zero _), rfl⟩
    case round =>
      obtain ⟨k, m, hk, rfl, hok, rfl⟩ := hrel
      have HO : Hid _ := hok
      clear hok
      by_cases hlt : k < xs.length
      · obtain ⟨bx, ox, rfl, hbx, cx⟩ := HA.out k hlt
        obtain ⟨by', oy, rfl, hby, cy⟩ := HB.out k (by omega)
        have hltI : (k : Int) < xs.length := by omega
        have hltY : (k : Int) < ys.length := by omega
        have hS : ∀ w, Calls Try.prog 49 #[.float .f32 (xs.getD k 0), .float .f32 (ys.getD k 0)] w (RB (sameV (xs.getD k 0) (ys.getD k 0)) w) := c_implSameNumber _ _ (HX.out k) (HY.out k)
        cases hsv : sameV (xs.getD k 0) (ys.getD k 0)
        · have R := sameL_no hlt hsv
          have HR : Hid _ := R
          rw [hsv] at hS
          have HS : Hid _ := hS
          clear R hS hsv
          generalize xs.getD k 0 = x at *
          generalize ys.getD k 0 = y at *
          go_wp2_with fail
          go_quiet ((go_at_call 49; exact drawAdd (HS.out _)))
          go_wp2_with fail
          go_ret
          exact ⟨by rw [HR.out]; rfl, _, World.drewN_drewN _ _ _⟩
        · have HN : Hid _ := hsv
          rw [hsv] at hS
          have HS : Hid _ := hS
          clear hS hsv
          generalize hgx : xs.getD k 0 = x at *
          generalize hgy : ys.getD k 0 = y at *
          have HGX : Hid _ := hgx
          have HGY : Hid _ := hgy
          clear hgx hgy
          go_wp2_with fail
          go_quiet ((go_at_call 49; exact drawAdd (HS.out _)))
          go_wp2_with fail
          go_roundw
          case rel =>
            refine ⟨k + 1, _, by omega, by go_num, fun j hj => ?_, rfl⟩
            rcases Nat.lt_or_eq_of_le (Nat.le_of_lt_succ hj) with h | h
            · exact HO.out j h
            · rw [h, HGX.out, HGY.out]; exact HN.out
          case measure => simp [intOf]; omega
      · have hks : k = xs.length := by omega
        subst hks
        have R : Hid (sameL xs ys = true) := sameL_yes hl fun j hj => HO.out j hj
        go_wp2_with fail
        go_ret
        exact ⟨by rw [R.out]; rfl, _, rfl⟩
  · have hlI : ¬ (xs.length : Int) = ys.length := by omega
    have hv := sameL_len hl
    rw [hv]
    go_enter Try.func38, Try.ntmps38
    go_wp2_with fail
    go_ret
    exact ⟨by first | rfl | simp, 0, rfl⟩

end Go.Proofs.Ytbfilganggllkaa
