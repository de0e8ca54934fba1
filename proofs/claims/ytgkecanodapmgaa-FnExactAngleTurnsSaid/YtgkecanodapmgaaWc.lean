/-
Contracts and walks of the laws on FromBits, RootNumber and FlushNumber.
-/
import Derived.Test.YtgkecanodapmgaaNv
namespace Go.Proofs.Ytgkecanodapmgaa
open Fl Go.RowKit

/-- a number within bounds -/
def inV (n a b : Int) : Bool := decide (a ≤ n) && decide (n ≤ b)
theorem c_l00In (n a b : Int) (w : World) : Calls Try.prog 34 #[.int .i64 n, .int .i64 a, .int .i64 b] w fun e w' => e = .returned (.bool (inV n a b)) ∧ w = w' := by
  unfold inV
  by_cases h1 : a ≤ n
  · go_enter Try.func34, Try.ntmps34
    go_wp2
    go_ret
    exact ⟨by first | rfl | exact ret_bool (by rw [decide_eq_true h1]; rfl) | exact ret_bool (by rw [decide_eq_false (by omega)]; rfl), rfl⟩
  · go_enter Try.func34, Try.ntmps34
    go_wp2
    go_ret
    exact ⟨by first | rfl | exact ret_bool (by rw [decide_eq_true h1]; rfl) | exact ret_bool (by rw [decide_eq_false (by omega)]; rfl), rfl⟩
theorem c_within (n a b : Int) (w : World) : Calls Try.prog 36 #[.int .i64 n, .int .i64 a, .int .i64 b] w fun e w' => e = .returned (.bool (inV n a b)) ∧ w = w' := by
  unfold inV
  by_cases h1 : a ≤ n
  · go_enter Try.func36, Try.ntmps36
    go_wp2
    go_ret
    exact ⟨by first | rfl | exact ret_bool (by rw [decide_eq_true h1]; rfl) | exact ret_bool (by rw [decide_eq_false (by omega)]; rfl), rfl⟩
  · go_enter Try.func36, Try.ntmps36
    go_wp2
    go_ret
    exact ⟨by first | rfl | exact ret_bool (by rw [decide_eq_true h1]; rfl) | exact ret_bool (by rw [decide_eq_false (by omega)]; rfl), rfl⟩

theorem c_l01From (n : Int) (h0 : 0 ≤ n) (h1 : n ≤ 4294967295) (w : World) : Calls Try.prog 35 #[.int .i64 n] w fun e w' => e = .returned (.float .f32 n.toNat) ∧ w = w' := by
  go_enter Try.func35, Try.ntmps35
  go_wp2
  go_ret
  exact ⟨rfl, rfl⟩

def fromV (n : Int) : Array Value := if inV n 0 4294967295 then #[.float .f32 n.toNat, .bool true] else #[.float .f32 0, .bool false]

theorem c_specFromBits (n : Int) (w : World) : Calls Try.prog 12 #[.int .i64 n] w fun e w' => e = .returned (.tuple (fromV n)) ∧ w = w' := by
  unfold fromV
  cases hi : inV n 0 4294967295
  · go_enter Try.func12, Try.ntmps12
    go_wp2_with (go_at_call 34; refine (c_l00In _ _ _ _).mono ?_; rw [hi]; rintro e w' ⟨rfl, rfl⟩)
    go_ret2
    exact ⟨rfl, rfl⟩
  · have hb : 0 ≤ n ∧ n ≤ 4294967295 := by unfold inV at hi; simpa using hi
    go_enter Try.func12, Try.ntmps12
    go_wp2_with (first | (go_at_call 34; refine (c_l00In _ _ _ _).mono ?_; rw [hi]; rintro e w' ⟨rfl, rfl⟩) | (go_at_call 35; refine (c_l01From _ hb.1 hb.2 _).mono ?_; rintro e w' ⟨rfl, rfl⟩))
    go_ret2
    exact ⟨rfl, rfl⟩
theorem c_implFromBits (n : Int) (w : World) : Calls Try.prog 13 #[.int .i64 n] w fun e w' => e = .returned (.tuple (fromV n)) ∧ w = w' := by
  unfold fromV
  cases hi : inV n 0 4294967295
  · go_enter Try.func13, Try.ntmps13
    go_wp2_with (go_at_call 36; refine (c_within _ _ _ _).mono ?_; rw [hi]; rintro e w' ⟨rfl, rfl⟩)
    go_ret2
    exact ⟨rfl, rfl⟩
  · obtain ⟨h0, h1⟩ : 0 ≤ n ∧ n ≤ 4294967295 := by unfold inV at hi; simpa using hi
    go_enter Try.func13, Try.ntmps13
    go_wp2_with (go_at_call 36; refine (c_within _ _ _ _).mono ?_; rw [hi]; rintro e w' ⟨rfl, rfl⟩)
    go_ret2
    exact ⟨rfl, rfl⟩

theorem lt_f32 {n : Int} (h0 : 0 ≤ n) (h1 : n ≤ 4294967295) : n.toNat < 4294967296 := by omega

theorem walk_FnExactFromBits (n : Int) (_ : (Lit.int .i64 n).wf = true) (w : World) : Calls Try.prog 3 #[.int .i64 n] w (Law w) := by
  cases hi : inV n 0 4294967295
  · have hf : fromV n = #[.float .f32 0, .bool false] := by unfold fromV; rw [hi]; rfl
    go_enter Try.func3, Try.ntmps3
    go_wp2_with (first | (go_at_call 12; refine (c_specFromBits _ _).mono ?_; rw [hf]; rintro e w' ⟨rfl, rfl⟩) | (go_at_call 13; refine (c_implFromBits _ _).mono ?_; rw [hf]; rintro e w' ⟨rfl, rfl⟩) | ((with_reducible refine upon_widen Try.underlying22 Try.underlying26 (by decide) ?_); intro r n hr) | (go_at_call 14; refine (c_sameFloat _ _ (RV.same (by assumption) (by assumption)) _).mono ?_; rintro e w' ⟨rfl, n, rfl⟩))
    all_goals go_ret
    all_goals exact ⟨rfl, below_n (Below.refl _ _) _⟩
  · have hf : fromV n = #[.float .f32 n.toNat, .bool true] := by unfold fromV; rw [hi]; rfl
    obtain ⟨h0, h1⟩ : 0 ≤ n ∧ n ≤ 4294967295 := by unfold inV at hi; simpa using hi
    have hlt := lt_f32 h0 h1
    generalize n.toNat = x at hf hlt
    go_enter Try.func3, Try.ntmps3
    go_wp2_with (first | (go_at_call 12; refine (c_specFromBits _ _).mono ?_; rw [hf]; rintro e w' ⟨rfl, rfl⟩) | (go_at_call 13; refine (c_implFromBits _ _).mono ?_; rw [hf]; rintro e w' ⟨rfl, rfl⟩) | ((with_reducible refine upon_widen Try.underlying22 Try.underlying26 hlt ?_); intro r n hr) | (go_at_call 14; refine (c_sameFloat _ _ (RV.same (by assumption) (by assumption)) _).mono ?_; rintro e w' ⟨rfl, n, rfl⟩))
    all_goals go_ret
    all_goals exact ⟨rfl, below_n (Below.refl _ _) _⟩

end Go.Proofs.Ytgkecanodapmgaa
