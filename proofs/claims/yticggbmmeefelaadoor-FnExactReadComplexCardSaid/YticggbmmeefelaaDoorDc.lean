/-
Lists of integers in memory; bounds; the text of a list in the reference.
-/
import Derived.Test.YticggbmmeefelaaDoorDb
import Derived.Lib.Join
set_option linter.unusedVariables false
set_option linter.unusedSimpArgs false
namespace Go.Proofs.YticggbmmeefelaaDoor
open Go Go.RowKit

def inR (n a b : Int) : Bool := decide (a ≤ n) && decide (n ≤ b)
theorem ret_b {a b : Bool} (h : a = b) : Ending.returned (.bool a) = .returned (.bool b) := by rw [h]
theorem d_l00In (n a b : Int) (w : World) : Calls Tryd.prog 58 #[.int .i64 n, .int .i64 a, .int .i64 b] w fun e w' => e = .returned (.bool (inR n a b)) ∧ w = w' := by
  unfold inR
  by_cases h1 : a ≤ n
  · go_enter Tryd.func58, Tryd.ntmps58
    go_wp2
    go_ret
    exact ⟨by first | rfl | exact ret_b (by rw [decide_eq_true h1]; rfl) | exact ret_b (by rw [decide_eq_false (by omega)]; rfl), rfl⟩
  · go_enter Tryd.func58, Tryd.ntmps58
    go_wp2
    go_ret
    exact ⟨by first | rfl | exact ret_b (by rw [decide_eq_true h1]; rfl) | exact ret_b (by rw [decide_eq_false (by omega)]; rfl), rfl⟩
theorem d_within (n a b : Int) (w : World) : Calls Tryd.prog 65 #[.int .i64 n, .int .i64 a, .int .i64 b] w fun e w' => e = .returned (.bool (inR n a b)) ∧ w = w' := by
  unfold inR
  by_cases h1 : a ≤ n
  · go_enter Tryd.func65, Tryd.ntmps65
    go_wp2
    go_ret
    exact ⟨by first | rfl | exact ret_b (by rw [decide_eq_true h1]; rfl) | exact ret_b (by rw [decide_eq_false (by omega)]; rfl), rfl⟩
  · go_enter Tryd.func65, Tryd.ntmps65
    go_wp2
    go_ret
    exact ⟨by first | rfl | exact ret_b (by rw [decide_eq_true h1]; rfl) | exact ret_b (by rw [decide_eq_false (by omega)]; rfl), rfl⟩
/-- a value: from -MaxValue to MaxValue -/
def isV (n : Int) : Bool := inR n (-1000000000000000) 1000000000000000
theorem c_isValue (n : Int) (w : World) : Calls Tryd.prog 48 #[.int .i64 n] w fun e w' => e = .returned (.bool (isV n)) ∧ w = w' := by
  have H := hide_ (d_within n (-1000000000000000) 1000000000000000)
  go_enter Tryd.func48, Tryd.ntmps48
  go_wp2_with (go_at_call 65; refine (H.out _).mono ?_; rintro e w' ⟨rfl, rfl⟩)
  go_ret
  exact ⟨rfl, rfl⟩

/-- the cells behind an address hold the list's numbers -/
def Fi (w : World) (A : Option Addr) (xs : List Int) : Prop :=
  xs = [] ∨ ∃ b off, A = some ⟨b, off, none⟩ ∧ b < w.heap.size ∧ ∀ j, j < xs.length → w.cell? ⟨b, off + j, none⟩ = some (.int .i64 (xs.getD j 0))
theorem Fi.keep {B : Nat} {w w' : World} {A : Option Addr} {xs : List Int} (h : Fi w A xs) (hb : Below B w w') (hB : w.heap.size ≤ B) : Fi w' A xs := by
  rcases h with rfl | ⟨b, off, rfl, hbl, hc⟩
  · exact .inl rfl
  · exact .inr ⟨b, off, rfl, Nat.lt_of_lt_of_le hbl hb.size, fun j hj => by rw [hb.cell (p := ⟨b, off + j, none⟩) (by show b < B; omega)]; exact hc j hj⟩
theorem Fi.of_pos {w : World} {A : Option Addr} {xs : List Int} (h : Fi w A xs) (hp : 0 < xs.length) : ∃ b off, A = some ⟨b, off, none⟩ ∧ b < w.heap.size ∧ ∀ j, j < xs.length → w.cell? ⟨b, off + j, none⟩ = some (.int .i64 (xs.getD j 0)) := by
  rcases h with rfl | h
  · cases hp
  · exact h
/-- each is an int64 -/
def AllI (xs : List Int) : Prop := ∀ j, j < xs.length → -9223372036854775808 ≤ xs.getD j 0 ∧ xs.getD j 0 ≤ 9223372036854775807

def allR (xs : List Int) : Bool := xs.all isV
theorem allR_false {xs : List Int} {k : Nat} (hk : k < xs.length) (h : isV (xs.getD k 0) = false) : allR xs = false := by
  unfold allR
  rw [List.all_eq_false]
  refine ⟨xs[k], List.getElem_mem hk, ?_⟩
  have e : xs.getD k 0 = xs[k] := by simp [List.getD_eq_getElem?_getD, hk]
  rw [e] at h
  rw [h]; decide
theorem allR_true {xs : List Int} (h : ∀ k, k < xs.length → isV (xs.getD k 0) = true) : allR xs = true := by
  unfold allR
  rw [List.all_eq_true]
  intro x hx
  obtain ⟨k, hk, rfl⟩ := List.getElem_of_mem hx
  have e : xs.getD k 0 = xs[k] := by simp [List.getD_eq_getElem?_getD, hk]
  rw [← e]; exact h k hk
def listV (xs : List Int) : Bool := allR xs && decide (xs.length ≤ 64)

theorem c_l01List (A : Option Addr) (c : Nat) (xs : List Int) (w : World) (hA : Fi w A xs) (hx : xs.length ≤ 1048576) :
    Calls Tryd.prog 37 #[.slice A xs.length c] w fun e w' => e = .returned (.bool (listV xs)) ∧ w = w' := by
  by_cases hp : 0 < xs.length
  · obtain ⟨b, off, rfl, hb, hc⟩ := hA.of_pos hp
    have HC := hide_ hc
    clear hc hA
    go_enter Tryd.func37, Tryd.ntmps37
    go_wp2_with fail
    go_loop [3] (fun i => ∃ k : Nat, k ≤ xs.length ∧ i = .int .i64 k ∧ ∀ j, j < k → isV (xs.getD j 0) = true) (fun i => xs.length - (intOf i).toNat)
    case atStart => exact ⟨0, Nat.zero_le _, rfl, fun j hj => absurd hj (Nat.not_lt_zero _)⟩
    case round =>
      obtain ⟨k, hk, rfl, hok⟩ := hrel
      have HO := hide_ hok
      clear hok
      by_cases hlt : k < xs.length
      · have h1 := HC.out k hlt
        have H : ∀ w, Calls Tryd.prog 58 #[.int .i64 (xs.getD k 0), .int .i64 (-1000000000000000), .int .i64 1000000000000000] w fun e w' => e = .returned (.bool (isV (xs.getD k 0))) ∧ w = w' := d_l00In (xs.getD k 0) (-1000000000000000) 1000000000000000
        cases hv : isV (xs.getD k 0)
        · rw [hv] at H
          have HV := hide_ (show listV xs = false by unfold listV; rw [allR_false hlt hv]; rfl)
          have HH := hide_ H
          clear hv H
          generalize xs.getD k 0 = x at *
          go_wp2_with (go_at_call 58; refine (HH.out _).mono ?_; rintro e w' ⟨rfl, rfl⟩)
          go_ret
          exact ⟨by rw [HV.out]; rfl, rfl⟩
        · rw [hv] at H
          have HV := hide_ hv
          have HH := hide_ H
          clear hv H
          generalize hx : xs.getD k 0 = x at h1 HH
          have HX := hide_ hx
          clear hx
          go_wp2_with (go_at_call 58; refine (HH.out _).mono ?_; rintro e w' ⟨rfl, rfl⟩)
          go_round
          case rel =>
            refine ⟨k + 1, by omega, by go_num, fun j hj => ?_⟩
            rcases Nat.lt_or_eq_of_le (Nat.le_of_lt_succ hj) with h | h
            · exact HO.out j h
            · rw [h]; exact HV.out
          case measure => simp [intOf]; omega
      · obtain rfl : k = xs.length := by omega
        have HV := hide_ (show listV xs = decide (xs.length ≤ 64) by unfold listV; rw [allR_true HO.out]; rfl)
        by_cases h64 : xs.length ≤ 64
        · have h64i : ((xs.length : Int) ≤ 64) := by omega
          go_wp2_with fail
          go_ret
          exact ⟨by rw [HV.out, decide_eq_true h64]; first | rfl | exact ret_b (by simp; omega), rfl⟩
        · have h64i : ¬ ((xs.length : Int) ≤ 64) := by omega
          go_wp2_with fail
          go_ret
          exact ⟨by rw [HV.out, decide_eq_false h64]; first | rfl | exact ret_b (by simp; omega), rfl⟩
  · obtain rfl : xs = [] := List.eq_nil_of_length_eq_zero (by omega)
    go_enter Tryd.func37, Tryd.ntmps37
    go_wp2_with fail
    go_loop [3] (fun i => i = .int .i64 0) (fun _ => 0)
    case atStart => exact rfl
    case round =>
      obtain rfl := hrel
      go_wp2_with fail
      go_ret
      exact ⟨rfl, rfl⟩

theorem c_areValues (A : Option Addr) (c : Nat) (xs : List Int) (w : World) (hA : Fi w A xs) (hx : xs.length ≤ 1048576) :
    Calls Tryd.prog 39 #[.slice A xs.length c] w fun e w' => e = .returned (.bool (listV xs)) ∧ w = w' := by
  by_cases hp : 0 < xs.length
  · obtain ⟨b, off, rfl, hb, hc⟩ := hA.of_pos hp
    have HC := hide_ hc
    clear hc hA
    go_enter Tryd.func39, Tryd.ntmps39
    go_wp2_with fail
    go_loop [4, 7] (fun v i => ∃ k : Nat, k ≤ xs.length ∧ i = .int .i64 k ∧ ∀ j, j < k → isV (xs.getD j 0) = true) (fun v i => xs.length - (intOf i).toNat)
    case atStart => exact ⟨0, Nat.zero_le _, rfl, fun j hj => absurd hj (Nat.not_lt_zero _)⟩
    case round =>
      obtain ⟨k, hk, rfl, hok⟩ := hrel
      have HO := hide_ hok
      clear hok
      by_cases hlt : k < xs.length
      · have h1 := HC.out k hlt
        have H : ∀ w, Calls Tryd.prog 48 #[.int .i64 (xs.getD k 0)] w fun e w' => e = .returned (.bool (isV (xs.getD k 0))) ∧ w = w' := c_isValue (xs.getD k 0)
        cases hv : isV (xs.getD k 0)
        · rw [hv] at H
          have HV := hide_ (show listV xs = false by unfold listV; rw [allR_false hlt hv]; rfl)
          have HH := hide_ H
          clear hv H
          generalize xs.getD k 0 = x at *
          go_wp2_with (go_at_call 48; refine (HH.out _).mono ?_; rintro e w' ⟨rfl, rfl⟩)
          go_ret
          exact ⟨by rw [HV.out]; rfl, rfl⟩
        · rw [hv] at H
          have HV := hide_ hv
          have HH := hide_ H
          clear hv H
          generalize hx : xs.getD k 0 = x at h1 HH
          have HX := hide_ hx
          clear hx
          go_wp2_with (go_at_call 48; refine (HH.out _).mono ?_; rintro e w' ⟨rfl, rfl⟩)
          go_round
          case rel =>
            refine ⟨k + 1, by omega, by go_num, fun j hj => ?_⟩
            rcases Nat.lt_or_eq_of_le (Nat.le_of_lt_succ hj) with h | h
            · exact HO.out j h
            · rw [h]; exact HV.out
          case measure => simp [intOf]; omega
      · obtain rfl : k = xs.length := by omega
        have HV := hide_ (show listV xs = decide (xs.length ≤ 64) by unfold listV; rw [allR_true HO.out]; rfl)
        by_cases h64 : xs.length ≤ 64
        · have h64i : ((xs.length : Int) ≤ 64) := by omega
          go_wp2_with fail
          go_ret
          exact ⟨by rw [HV.out, decide_eq_true h64]; first | rfl | exact ret_b (by simp; omega), rfl⟩
        · have h64i : ¬ ((xs.length : Int) ≤ 64) := by omega
          go_wp2_with fail
          go_ret
          exact ⟨by rw [HV.out, decide_eq_false h64]; first | rfl | exact ret_b (by simp; omega), rfl⟩
  · obtain rfl : xs = [] := List.eq_nil_of_length_eq_zero (by omega)
    go_enter Tryd.func39, Tryd.ntmps39
    go_wp2_with fail
    go_loop [4, 7] (fun v i => i = .int .i64 0) (fun _ _ => 0)
    case atStart => exact rfl
    case round =>
      obtain rfl := hrel
      go_wp2_with fail
      go_ret
      exact ⟨rfl, rfl⟩

end Go.Proofs.YticggbmmeefelaaDoor
