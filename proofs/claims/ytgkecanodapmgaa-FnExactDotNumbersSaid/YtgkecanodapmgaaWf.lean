/-
Contracts and walks of the law on SumNumbers.
-/
import Derived.Test.YtgkecanodapmgaaSl
namespace Go.Proofs.Ytgkecanodapmgaa
open Fl Go.RowKit

theorem c_l01Few (A : Option Addr) (n cap : Nat) (hn : n ≤ 9223372036854775807) (w : World) : Calls Try.prog 41 #[.slice A n cap] w fun e w' => e = .returned (.bool (decide (n ≤ 256))) ∧ w = w' := by
  go_enter Try.func41, Try.ntmps41
  go_wp2
  go_ret
  exact ⟨ret_bool (by rw [decide_eq_decide]; omega), rfl⟩

/-- the sum from left to right -/
def sumV (xs : List Nat) : Option Nat := xs.foldl (fun s x => opf .add .f32 s (fv .f32 x)) (some 0)
theorem sumV_snoc (xs : List Nat) (k : Nat) (hk : k < xs.length) : sumV (xs.take (k + 1)) = opf .add .f32 (sumV (xs.take k)) (fv .f32 (xs.getD k 0)) := by
  rw [List.take_succ_eq_append_getElem hk]
  unfold sumV
  rw [List.foldl_append, List.getD_eq_getElem?_getD, List.getElem?_eq_getElem hk]
  rfl

theorem c_l01Sum (A : Option Addr) (cap : Nat) (xs : List Nat) (w : World) (h : Fl32 w A xs) (hm : xs.length ≤ 9223372036854775807) :
    Calls Try.prog 43 #[.slice A xs.length cap] w (RF .f32 (sumV xs) w) := by
  by_cases hp : 0 < xs.length
  · obtain ⟨b, off, rfl, hb, hc⟩ := h.of_pos hp
    clear h
    go_enter Try.func43, Try.ntmps43
    go_wp2_with fail
    have HC : Hid _ := hc
    clear hc
    go_loopw [3, 4] (fun v i wr => ∃ k m r : Nat, k ≤ xs.length ∧ i = .int .i64 k ∧ v = .float .f32 r ∧ RV .f32 (sumV (xs.take k)) r ∧ wr = w.drewN m) (fun _ i _ => xs.length - (intOf i).toNat)
    case atStart => exact ⟨0, 0, 0, Nat.zero_le _, rfl, rfl, ⟨rfl, by decide⟩, rfl⟩
    case round =>
      obtain ⟨k, m, r, hk, rfl, rfl, hr, rfl⟩ := hrel
      by_cases hlt : k < xs.length
      · have h1 := HC.out k hlt
        have HS : Hid _ := sumV_snoc xs k hlt
        generalize xs.getD k 0 = v at h1 HS
        go_wp2_with ((with_reducible refine upon_fbin ?_ ?_); exact rfl; intro q n hq)
        go_roundw
        case rel => exact ⟨k + 1, _, q, by omega, by go_num, rfl, ⟨by rw [HS.out, hq.1, hr.1], hq.2⟩, rfl⟩
        case measure => simp [intOf]; omega
      · have hks : k = xs.length := by omega
        subst hks
        go_wp2_with fail
        go_ret
        exact ⟨r, by rw [List.take_length] at hr; exact hr, rfl, m, rfl⟩
  · obtain rfl : xs = [] := List.eq_nil_of_length_eq_zero (by omega)
    go_enter Try.func43, Try.ntmps43
    go_wp2_with fail
    go_loop [3, 4] (fun v i => v = .float .f32 0 ∧ i = .int .i64 0) (fun _ _ => 0)
    case atStart => exact ⟨rfl, rfl⟩
    case round =>
      obtain ⟨rfl, rfl⟩ := hrel
      go_wp2_with fail
      go_ret
      exact ⟨0, ⟨rfl, by decide⟩, rfl, 0, rfl⟩

/-- what both give: the sum, or nothing where the list is too long -/
def RS (v : Option Nat) (ok : Bool) (w : World) (e : Ending) (w' : World) : Prop := ∃ r, RV .f32 v r ∧ e = .returned (.tuple #[.float .f32 r, .bool ok]) ∧ ∃ n, w' = w.drewN n

theorem c_implSum (A : Option Addr) (cap : Nat) (xs : List Nat) (w : World) (h : Fl32 w A xs) (hm : xs.length ≤ 256) :
    Calls Try.prog 22 #[.slice A xs.length cap] w (RS (sumV xs) true w) := by
  have hd : decide (256 < (xs.length : Int)) = false := by rw [decide_eq_false_iff_not]; omega
  by_cases hp : 0 < xs.length
  · obtain ⟨b, off, rfl, hb, hc⟩ := h.of_pos hp
    clear h
    go_enter Try.func22, Try.ntmps22
    go_wp2_with fail
    have HC : Hid _ := hc
    clear hc
    go_loopw [4, 12] (fun v i wr => ∃ k m r : Nat, k ≤ xs.length ∧ i = .int .i64 k ∧ v = .float .f32 r ∧ RV .f32 (sumV (xs.take k)) r ∧ wr = w.drewN m) (fun _ i _ => xs.length - (intOf i).toNat)
    case atStart => exact ⟨0, 0, 0, Nat.zero_le _, rfl, rfl, ⟨rfl, by decide⟩, rfl⟩
    case round =>
      obtain ⟨k, m, r, hk, rfl, rfl, hr, rfl⟩ := hrel
      by_cases hlt : k < xs.length
      · have h1 := HC.out k hlt
        have HS : Hid _ := sumV_snoc xs k hlt
        generalize xs.getD k 0 = v at h1 HS
        go_wp2_with ((with_reducible refine upon_fbin ?_ ?_); exact rfl; intro q n hq)
        go_roundw
        case rel => exact ⟨k + 1, _, q, by omega, by go_num, rfl, ⟨by rw [HS.out, hq.1, hr.1], hq.2⟩, rfl⟩
        case measure => simp [intOf]; omega
      · have hks : k = xs.length := by omega
        subst hks
        go_wp2_with fail
        go_ret2
        exact ⟨r, by rw [List.take_length] at hr; exact hr, rfl, m, rfl⟩
  · obtain rfl : xs = [] := List.eq_nil_of_length_eq_zero (by omega)
    clear hd
    go_enter Try.func22, Try.ntmps22
    go_wp2_with fail
    go_loop [4, 12] (fun v i => v = .float .f32 0 ∧ i = .int .i64 0) (fun _ _ => 0)
    case atStart => exact ⟨rfl, rfl⟩
    case round =>
      obtain ⟨rfl, rfl⟩ := hrel
      go_wp2_with fail
      go_ret2
      exact ⟨0, ⟨rfl, by decide⟩, rfl, 0, rfl⟩
theorem c_implSum_no (A : Option Addr) (cap n : Nat) (w : World) (hm : 256 < n) (hn : n ≤ 9223372036854775807) :
    Calls Try.prog 22 #[.slice A n cap] w (RS (some 0) false w) := by
  have hd : decide (256 < (n : Int)) = true := by rw [decide_eq_true_iff]; omega
  go_enter Try.func22, Try.ntmps22
  go_wp2_with fail
  go_ret2
  exact ⟨0, ⟨rfl, by decide⟩, rfl, 0, rfl⟩
theorem c_specSum (A : Option Addr) (cap : Nat) (xs : List Nat) (w : World) (h : Fl32 w A xs) (hm : xs.length ≤ 256) :
    Calls Try.prog 21 #[.slice A xs.length cap] w (RS (sumV xs) true w) := by
  have hd : decide (xs.length ≤ 256) = true := decide_eq_true hm
  go_enter Try.func21, Try.ntmps21
  go_wp2_with (first | (go_at_call 41; refine (c_l01Few _ _ _ (by omega) _).mono ?_; rw [hd]; rintro e w' ⟨rfl, rfl⟩) | (go_at_call 43; refine (c_l01Sum _ _ _ _ h (by omega)).mono ?_; rintro e w' ⟨r, hr, rfl, m, rfl⟩))
  go_ret2
  exact ⟨r, hr, rfl, m, rfl⟩
theorem c_specSum_no (A : Option Addr) (cap n : Nat) (w : World) (hm : 256 < n) (hn : n ≤ 9223372036854775807) :
    Calls Try.prog 21 #[.slice A n cap] w (RS (some 0) false w) := by
  have hd : decide (n ≤ 256) = false := decide_eq_false (by omega)
  go_enter Try.func21, Try.ntmps21
  go_wp2_with (go_at_call 41; refine (c_l01Few _ _ _ hn _).mono ?_; rw [hd]; rintro e w' ⟨rfl, rfl⟩)
  go_ret2
  exact ⟨0, ⟨rfl, by decide⟩, rfl, 0, rfl⟩

theorem law_sum (A : Option Addr) (cap : Nat) (xs : List Nat) (w : World) (hA : Fl32 w A xs) (hx : All32 xs) (h2 : xs.length ≤ 1048576) (v : Option Nat) (ok : Bool)
    (hs : ∀ (B : Option Addr) (c : Nat) (w : World), Fl32 w B xs → Calls Try.prog 21 #[.slice B xs.length c] w (RS v ok w))
    (hi : ∀ (B : Option Addr) (c : Nat) (w : World), Fl32 w B xs → Calls Try.prog 22 #[.slice B xs.length c] w (RS v ok w)) :
    Calls Try.prog 6 #[.slice A xs.length cap] w (Law w) := by
  have HS : Hid _ := hs
  have HI : Hid _ := hi
  clear hs hi
  have hl : (xs.length : Int) ≤ 1048576 := by omega
  go_enter Try.func6, Try.ntmps6
  go_wp2_with fail
  go_at_call 18
  refine (c_toFloat32S A cap xs _ hA h2).mono ?_
  rintro e w1 ⟨rfl, hB1, hs1, hF1⟩
  have hA1 := hA.keep hB1 (Nat.le_refl _)
  go_wp2_with fail
  go_at_call 21
  refine (HS.out _ _ _ hF1).mono ?_
  rintro e w2 ⟨r, hr, rfl, m, rfl⟩
  go_wp2_with fail
  go_at_call 18
  refine (c_toFloat32S A cap xs _ (hA1.drewN m) h2).mono ?_
  rintro e w3 ⟨rfl, hB3, hs3, hF3⟩
  have hA3 := (hA1.drewN m).keep hB3 (Nat.le_refl _)
  have hB3' : Below w.heap.size w w3 := hB1.trans ((below_n (Below.refl _ _) m).trans (hB3.mono (by simpa using Nat.le_of_lt hs1)))
  clear hB1 hB3
  go_wp2_with fail
  go_at_call 22
  refine (HI.out _ _ _ hF3).mono ?_
  rintro e w4 ⟨r', hr', rfl, m', rfl⟩
  go_wp2_with (first | ((with_reducible refine upon_widen Try.underlying22 Try.underlying26 (rv32 hr) ?_); intro q n hq) | ((with_reducible refine upon_widen Try.underlying22 Try.underlying26 (rv32 hr') ?_); intro q' n' hq') | (go_at_call 14; refine (c_sameFloat _ _ (by rw [hq.1, hq'.1, hr.1, hr'.1]) _).mono ?_; rintro e w' ⟨rfl, n'', rfl⟩))
  go_at_call 18
  refine (c_toFloat32S A cap xs _ (hA3.drewN _) h2).mono ?_
  rintro e w5 ⟨rfl, hB5, hs5, hF5⟩
  have hF5' := (hF3.drewN _).keep hB5 (Nat.le_refl _)
  have hB5' : Below w.heap.size w w5 := hB3'.trans ((below_n (Below.refl _ _) _).trans (hB5.mono hB3'.size))
  clear hB5
  go_wp2_with fail
  go_at_call 20
  refine (c_eqFloat32S _ _ _ _ xs _ hF5' hF5 hx (by omega)).mono ?_
  rintro e w6 ⟨rfl, m6, rfl⟩
  go_wp2_with fail
  go_ret
  exact ⟨rfl, below_n hB5' _⟩

theorem walk_FnExactSumNumbers (A : Option Addr) (cap : Nat) (xs : List Nat) (w : World) (hA : Fl32 w A xs) (hx : All32 xs) (hm : xs.length ≤ maxLen) :
    Calls Try.prog 6 #[.slice A xs.length cap] w (Law w) := by
  unfold maxLen at hm
  by_cases h2 : xs.length ≤ 1048576
  · by_cases h1 : xs.length ≤ 256
    · exact law_sum A cap xs w hA hx h2 (sumV xs) true (fun B c w h => c_specSum B c xs w h h1) (fun B c w h => c_implSum B c xs w h h1)
    · exact law_sum A cap xs w hA hx h2 (some 0) false (fun B c w h => c_specSum_no B c _ w (by omega) (by omega)) (fun B c w h => c_implSum_no B c _ w (by omega) (by omega))
  · have hl : 1048576 < (xs.length : Int) := by omega
    go_enter Try.func6, Try.ntmps6
    go_wp2_with fail
    go_ret
    exact ⟨rfl, Below.refl _ _⟩

end Go.Proofs.Ytgkecanodapmgaa
