/-
The loops of IsName and CheckOf, in both packages, and the laws on them.
-/
import Derived.Test.YtlamheeeplgnpaaChecked
import Derived.WalkKit
import Derived.WalkLawsBesides
namespace Go.Proofs.Ytlamheeeplgnpaa
open Go.RowKit

theorem ret_boolS {a b : Bool} (h : a = b) : Ending.returned (.bool a) = .returned (.bool b) := by rw [h]
def lowerAt (s : ByteArray) (i : Nat) : Bool := if h : i < s.size then decide (97 ≤ s[i].toNat) && decide (s[i].toNat ≤ 122) else true
def nameV (s : ByteArray) : Bool := (List.range s.size).all (lowerAt s) && (decide (1 ≤ s.size) && decide (s.size ≤ 8))

theorem name_no (s : ByteArray) (k : Nat) (hk : k < s.size) (h : ¬ (97 ≤ (s[k].toNat : Int) ∧ (s[k].toNat : Int) ≤ 122)) : nameV s = false := by
  unfold nameV
  have : (List.range s.size).all (lowerAt s) = false := by
    rw [List.all_eq_false]
    refine ⟨k, List.mem_range.2 hk, ?_⟩
    unfold lowerAt
    rw [dif_pos hk]
    simp only [Bool.and_eq_true, decide_eq_true_eq]
    omega
  rw [this]; rfl

theorem name_yes (s : ByteArray) (h : ∀ k, k < s.size → lowerAt s k = true) : nameV s = (decide (1 ≤ s.size) && decide (s.size ≤ 8)) := by
  unfold nameV
  have : (List.range s.size).all (lowerAt s) = true := by
    rw [List.all_eq_true]
    intro k hk
    exact h k (List.mem_range.1 hk)
  rw [this]; rfl

def lowTo (s : ByteArray) (k : Nat) : Prop := ∀ j, j < k → lowerAt s j = true
theorem lowTo_zero (s : ByteArray) : lowTo s 0 := fun j h => by omega
theorem lowTo_succ {s : ByteArray} {k : Nat} (h : lowTo s k) (hk : k < s.size) (h1 : 97 ≤ (s[k].toNat : Int)) (h2 : (s[k].toNat : Int) ≤ 122) : lowTo s (k + 1) := by
  intro j hj
  rcases Nat.lt_or_eq_of_le (Nat.le_of_lt_succ hj) with h3 | h3
  · exact h j h3
  · subst h3
    unfold lowerAt
    rw [dif_pos hk]
    simp only [Bool.and_eq_true, decide_eq_true_eq]
    omega

theorem c_specIsName (s : ByteArray) (hs : s.size ≤ maxLen) (w : World) : Calls Try.prog 18 #[.string s] w fun e w' => e = .returned (.bool (nameV s)) ∧ w = w' := by
  unfold maxLen at hs
  go_enter Try.func18, Try.ntmps18
  go_wp2
  go_loop [3] (fun i => ∃ k : Nat, k ≤ s.size ∧ i = .int .i64 k ∧ lowTo s k) (fun i => s.size - (intOf i).toNat)
  case atStart => exact ⟨0, Nat.zero_le _, rfl, lowTo_zero s⟩
  case round =>
    obtain ⟨k, hk, rfl, hlow⟩ := hrel
    by_cases hlt : k < s.size
    · by_cases h1 : 97 ≤ (s[k].toNat : Int)
      · by_cases h2 : (s[k].toNat : Int) ≤ 122
        · go_wp2
          go_round
          case rel => exact ⟨k + 1, by omega, by go_num, lowTo_succ hlow hlt h1 h2⟩
          case measure => simp [intOf]; omega
        · have hn := name_no s k hlt (fun h => h2 h.2)
          go_wp2
          go_ret
          exact ⟨by first | rfl | (rw [hn]; rfl), rfl⟩
      · have hn := name_no s k hlt (fun h => h1 h.1)
        go_wp2
        go_ret
        exact ⟨by first | rfl | (rw [hn]; rfl), rfl⟩
    · have hks : k = s.size := by omega
      subst hks
      have hn := name_yes s hlow
      by_cases h1 : 1 ≤ s.size
      · go_wp2
        go_ret
        exact ⟨by first | rfl | exact ret_boolS (by rw [decide_eq_decide]; omega) | (rw [hn, decide_eq_false h1]; rfl), rfl⟩
      · go_wp2
        go_ret
        exact ⟨by first | rfl | exact ret_boolS (by rw [decide_eq_decide]; omega) | (rw [hn, decide_eq_false h1]; rfl), rfl⟩

theorem c_implIsName (s : ByteArray) (hs : s.size ≤ maxLen) (w : World) : Calls Try.prog 19 #[.string s] w fun e w' => e = .returned (.bool (nameV s)) ∧ w = w' := by
  unfold maxLen at hs
  go_enter Try.func19, Try.ntmps19
  go_wp2
  go_loop [6] (fun i => ∃ k : Nat, k ≤ s.size ∧ i = .int .i64 k ∧ lowTo s k) (fun i => s.size - (intOf i).toNat)
  case atStart => exact ⟨0, Nat.zero_le _, rfl, lowTo_zero s⟩
  case round =>
    obtain ⟨k, hk, rfl, hlow⟩ := hrel
    by_cases hlt : k < s.size
    · by_cases h1 : 97 ≤ (s[k].toNat : Int)
      · by_cases h2 : (s[k].toNat : Int) ≤ 122
        · go_wp2
          go_round
          case rel => exact ⟨k + 1, by omega, by go_num, lowTo_succ hlow hlt h1 h2⟩
          case measure => simp [intOf]; omega
        · have hn := name_no s k hlt (fun h => h2 h.2)
          go_wp2
          go_ret
          exact ⟨by first | rfl | (rw [hn]; rfl), rfl⟩
      · have hn := name_no s k hlt (fun h => h1 h.1)
        go_wp2
        go_ret
        exact ⟨by first | rfl | (rw [hn]; rfl), rfl⟩
    · have hks : k = s.size := by omega
      subst hks
      have hn := name_yes s hlow
      by_cases h1 : 1 ≤ s.size
      · go_wp2
        go_ret
        exact ⟨by first | rfl | exact ret_boolS (by rw [decide_eq_decide]; omega) | (rw [hn, decide_eq_false h1]; rfl), rfl⟩
      · go_wp2
        go_ret
        exact ⟨by first | rfl | exact ret_boolS (by rw [decide_eq_decide]; omega) | (rw [hn, decide_eq_false h1]; rfl), rfl⟩

def chkStep (n : Int) (c : UInt8) : Int := (677 * n + (c.toNat : Int) + 31) % 65003
def chk (n : Int) (l : List UInt8) : Int := l.foldl chkStep n
theorem chk_range (l : List UInt8) : ∀ n, 0 ≤ n → n ≤ 65002 → 0 ≤ chk n l ∧ chk n l ≤ 65002 := by
  induction l with
  | nil => intro n h1 h2; exact ⟨h1, h2⟩
  | cons c l ih => intro n h1 h2; exact ih (chkStep n c) (by unfold chkStep; omega) (by unfold chkStep; omega)
theorem chk_snoc (n : Int) (l : List UInt8) (c : UInt8) : chk n (l ++ [c]) = chkStep (chk n l) c := by unfold chk; rw [List.foldl_append]; rfl
theorem take_snocS (s : ByteArray) (k : Nat) (h : k < s.size) : s.data.toList.take (k + 1) = s.data.toList.take k ++ [s[k]] := by
  rw [List.take_succ_eq_append_getElem (by simpa using h)]; rfl

/-- a number within bounds -/
def inV (n a b : Int) : Bool := decide (a ≤ n) && decide (n ≤ b)
theorem c_l00In (n a b : Int) (w : World) : Calls Try.prog 33 #[.int .i64 n, .int .i64 a, .int .i64 b] w fun e w' => e = .returned (.bool (inV n a b)) ∧ w = w' := by
  unfold inV
  by_cases h1 : a ≤ n
  · go_enter Try.func33, Try.ntmps33
    go_wp2
    go_ret
    exact ⟨by first | rfl | exact ret_boolS (by rw [decide_eq_true h1]; rfl) | exact ret_boolS (by rw [decide_eq_false (by omega)]; rfl), rfl⟩
  · go_enter Try.func33, Try.ntmps33
    go_wp2
    go_ret
    exact ⟨by first | rfl | exact ret_boolS (by rw [decide_eq_true h1]; rfl) | exact ret_boolS (by rw [decide_eq_false (by omega)]; rfl), rfl⟩
theorem c_within (n a b : Int) (w : World) : Calls Try.prog 35 #[.int .i64 n, .int .i64 a, .int .i64 b] w fun e w' => e = .returned (.bool (inV n a b)) ∧ w = w' := by
  unfold inV
  by_cases h1 : a ≤ n
  · go_enter Try.func35, Try.ntmps35
    go_wp2
    go_ret
    exact ⟨by first | rfl | exact ret_boolS (by rw [decide_eq_true h1]; rfl) | exact ret_boolS (by rw [decide_eq_false (by omega)]; rfl), rfl⟩
  · go_enter Try.func35, Try.ntmps35
    go_wp2
    go_ret
    exact ⟨by first | rfl | exact ret_boolS (by rw [decide_eq_true h1]; rfl) | exact ret_boolS (by rw [decide_eq_false (by omega)]; rfl), rfl⟩

theorem c_l01Check (n : Int) (s : ByteArray) (h0 : 0 ≤ n) (h1 : n ≤ 65002) (hs : s.size ≤ maxLen) (w : World) :
    Calls Try.prog 34 #[.int .i64 n, .string s] w fun e w' => e = .returned (.int .i64 (chk n s.data.toList)) ∧ w = w' := by
  unfold maxLen at hs
  go_enter Try.func34, Try.ntmps34
  go_wp2
  go_loop [0, 5] (fun v i => ∃ k : Nat, k ≤ s.size ∧ i = .int .i64 k ∧ v = .int .i64 (chk n (s.data.toList.take k))) (fun _ i => s.size - (intOf i).toNat)
  case atStart => exact ⟨0, Nat.zero_le _, rfl, rfl⟩
  case round =>
    obtain ⟨k, hk, rfl, rfl⟩ := hrel
    obtain ⟨c0, c1⟩ := chk_range (s.data.toList.take k) n h0 h1
    by_cases hlt : k < s.size
    · have HS : Hid (chk n (s.data.toList.take (k + 1)) = chkStep (chk n (s.data.toList.take k)) s[k]) := by
        show _ = _
        rw [take_snocS s k hlt, chk_snoc]
      have hb : (s[k].toNat : Int) ≤ 255 := by have := s[k].toNat_lt; omega
      go_wp2
      go_round
      case rel => exact ⟨k + 1, by omega, by go_num, by rw [HS.out]; rfl⟩
      case measure => simp [intOf]; omega
    · have hks : k = s.size := by omega
      subst hks
      have HT : Hid (s.data.toList.take s.size = s.data.toList) := List.take_of_length_le (by simp)
      go_wp2
      go_ret
      exact ⟨by rw [HT.out]; rfl, rfl⟩

theorem c_specCheckOf (n : Int) (s : ByteArray) (hs : s.size ≤ maxLen) (w : World) :
    Calls Try.prog 24 #[.int .i64 n, .string s] w fun e w' => e = .returned (.tuple (if inV n 0 65002 then #[.int .i64 (chk n s.data.toList), .bool true] else #[.int .i64 0, .bool false])) ∧ w = w' := by
  cases hi : inV n 0 65002
  · go_enter Try.func24, Try.ntmps24
    go_wp2_with (go_at_call 33; refine (c_l00In _ _ _ _).mono ?_; rw [hi]; rintro e w' ⟨rfl, rfl⟩)
    go_ret2
    exact ⟨rfl, rfl⟩
  · have hb : 0 ≤ n ∧ n ≤ 65002 := by unfold inV at hi; simpa using hi
    go_enter Try.func24, Try.ntmps24
    go_wp2_with (first | (go_at_call 33; refine (c_l00In _ _ _ _).mono ?_; rw [hi]; rintro e w' ⟨rfl, rfl⟩) | (go_at_call 34; refine (c_l01Check _ _ hb.1 hb.2 hs _).mono ?_; rintro e w' ⟨rfl, rfl⟩))
    go_ret2
    exact ⟨rfl, rfl⟩

theorem c_implCheckOf (n : Int) (s : ByteArray) (hs : s.size ≤ maxLen) (w : World) :
    Calls Try.prog 25 #[.int .i64 n, .string s] w fun e w' => e = .returned (.tuple (if inV n 0 65002 then #[.int .i64 (chk n s.data.toList), .bool true] else #[.int .i64 0, .bool false])) ∧ w = w' := by
  unfold maxLen at hs
  cases hi : inV n 0 65002
  · go_enter Try.func25, Try.ntmps25
    go_wp2_with (go_at_call 35; refine (c_within _ _ _ _).mono ?_; rw [hi]; rintro e w' ⟨rfl, rfl⟩)
    go_ret2
    exact ⟨rfl, rfl⟩
  · obtain ⟨h0, h1⟩ : 0 ≤ n ∧ n ≤ 65002 := by unfold inV at hi; simpa using hi
    go_enter Try.func25, Try.ntmps25
    go_wp2_with (go_at_call 35; refine (c_within _ _ _ _).mono ?_; rw [hi]; rintro e w' ⟨rfl, rfl⟩)
    clear hi
    go_loop [0, 12] (fun v i => ∃ k : Nat, k ≤ s.size ∧ i = .int .i64 k ∧ v = .int .i64 (chk n (s.data.toList.take k))) (fun _ i => s.size - (intOf i).toNat)
    case atStart => exact ⟨0, Nat.zero_le _, rfl, rfl⟩
    case round =>
      obtain ⟨k, hk, rfl, rfl⟩ := hrel
      obtain ⟨c0, c1⟩ := chk_range (s.data.toList.take k) n h0 h1
      by_cases hlt : k < s.size
      · have HS : Hid (chk n (s.data.toList.take (k + 1)) = chkStep (chk n (s.data.toList.take k)) s[k]) := by
          show _ = _
          rw [take_snocS s k hlt, chk_snoc]
        have hb : (s[k].toNat : Int) ≤ 255 := by have := s[k].toNat_lt; omega
        go_wp2
        go_round
        case rel => exact ⟨k + 1, by omega, by go_num, by rw [HS.out]; rfl⟩
        case measure => simp [intOf]; omega
      · have hks : k = s.size := by omega
        subst hks
        have HT : Hid (s.data.toList.take s.size = s.data.toList) := List.take_of_length_le (by simp)
        go_wp2
        go_ret2
        exact ⟨by rw [HT.out]; rfl, rfl⟩

theorem belowS {B : Nat} (w : World) : Below B w w := Below.refl _ _
def LawS (w : World) (e : Ending) (w' : World) : Prop := e = .returned (.bool true) ∧ Below w.heap.size w w'

theorem walk_FnExactIsName (s : ByteArray) (hs : s.size ≤ maxLen) (w : World) : Calls Try.prog 7 #[.string s] w (LawS w) := by
  by_cases hl : (s.size : Int) ≤ 1048576
  · go_enter Try.func7, Try.ntmps7
    go_wp2_with (first | (go_at_call 18; refine (c_specIsName _ hs _).mono ?_; rintro e w' ⟨rfl, rfl⟩) | (go_at_call 19; refine (c_implIsName _ hs _).mono ?_; rintro e w' ⟨rfl, rfl⟩))
    all_goals go_ret
    all_goals exact ⟨rfl, Below.refl _ _⟩
  · go_enter Try.func7, Try.ntmps7
    go_wp2_with fail
    all_goals go_ret
    all_goals exact ⟨rfl, Below.refl _ _⟩

theorem walk_FnExactCheckOf (n : Int) (_ : (Lit.int .i64 n).wf = true) (s : ByteArray) (hs : s.size ≤ maxLen) (w : World) : Calls Try.prog 10 #[.int .i64 n, .string s] w (LawS w) := by
  by_cases hl : (s.size : Int) ≤ 1048576
  · cases hi : inV n 0 65002
    · go_enter Try.func10, Try.ntmps10
      go_wp2_with (first | (go_at_call 24; refine (c_specCheckOf _ _ hs _).mono ?_; rw [hi]; rintro e w' ⟨rfl, rfl⟩) | (go_at_call 25; refine (c_implCheckOf _ _ hs _).mono ?_; rw [hi]; rintro e w' ⟨rfl, rfl⟩))
      all_goals go_ret
      all_goals exact ⟨rfl, Below.refl _ _⟩
    · go_enter Try.func10, Try.ntmps10
      go_wp2_with (first | (go_at_call 24; refine (c_specCheckOf _ _ hs _).mono ?_; rw [hi]; rintro e w' ⟨rfl, rfl⟩) | (go_at_call 25; refine (c_implCheckOf _ _ hs _).mono ?_; rw [hi]; rintro e w' ⟨rfl, rfl⟩))
      all_goals go_ret
      all_goals exact ⟨rfl, Below.refl _ _⟩
  · go_enter Try.func10, Try.ntmps10
    go_wp2_with fail
    all_goals go_ret
    all_goals exact ⟨rfl, Below.refl _ _⟩

end Go.Proofs.Ytlamheeeplgnpaa
