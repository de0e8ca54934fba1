/-
Contracts and walks of the laws on RootNumber and FlushNumber.
-/
import Derived.Test.YtgkecanodapmgaaWc
namespace Go.Proofs.Ytgkecanodapmgaa
open Fl Go.RowKit

theorem c_l01Narrow (y : Nat) (hy : y < 18446744073709551616) (hf : FitsF .f64 .f32 (fv .f64 y)) (w : World) : Calls Try.prog 62 #[.float .f64 y] w (RF .f32 (cvf .f64 .f32 (fv .f64 y)) w) := by
  go_enter Try.func62, Try.ntmps62
  go_wp2_with ((with_reducible refine upon_narrow Try.underlying26 Try.underlying22 hy hf ?_); intro r n hr)
  go_ret
  exact ⟨r, hr, rfl, n, rfl⟩

/-- the root of a float32 -/
def rootV (x : Nat) : Option Nat := cvf .f64 .f32 (sqf (cvf .f32 .f64 (fv .f32 x)))
theorem root_step {x r r' : Nat} (hx : x < 4294967296) (h : RV .f64 (cvf .f32 .f64 (fv .f32 x)) r) (h' : RV .f64 (sqf (fv .f64 r)) r') : FitsF .f64 .f32 (fv .f64 r') ∧ cvf .f64 .f32 (fv .f64 r') = rootV x := by
  rw [h'.1, h.1]; exact ⟨fits_root hx, rfl⟩

theorem c_l01Sqrt (x : Nat) (hx : x < 4294967296) (w : World) : Calls Try.prog 49 #[.float .f32 x] w (RF .f32 (rootV x) w) := by
  go_enter Try.func49, Try.ntmps49
  go_wp2_with (first | ((with_reducible refine upon_widen Try.underlying22 Try.underlying26 hx ?_); intro r n hr) | (go_at_call 50; refine (c_sqrt _ _).mono ?_; rintro e w' ⟨r', hr', rfl, n', rfl⟩) | (go_at_call 62; refine (c_l01Narrow _ (rv64 hr') (root_step hx hr hr').1 _).mono ?_; rintro e w' ⟨q, hq, rfl, n'', rfl⟩))
  go_ret
  exact ⟨q, ⟨hq.1.trans (root_step hx hr hr').2, hq.2⟩, rfl, _, rfl⟩
theorem c_specRoot (x : Nat) (hx : x < 4294967296) (w : World) : Calls Try.prog 25 #[.float .f32 x] w (RF .f32 (rootV x) w) := by
  go_enter Try.func25, Try.ntmps25
  go_wp2_with (go_at_call 49; refine (c_l01Sqrt _ hx _).mono ?_; rintro e w' ⟨q, hq, rfl, n'', rfl⟩)
  go_ret
  exact ⟨q, hq, rfl, _, rfl⟩
theorem c_implRoot (x : Nat) (hx : x < 4294967296) (w : World) : Calls Try.prog 26 #[.float .f32 x] w (RF .f32 (rootV x) w) := by
  go_enter Try.func26, Try.ntmps26
  go_wp2_with (first | ((with_reducible refine upon_widen Try.underlying22 Try.underlying26 hx ?_); intro r n hr) | (go_at_call 50; refine (c_sqrt _ _).mono ?_; rintro e w' ⟨r', hr', rfl, n', rfl⟩) | ((with_reducible refine upon_narrow Try.underlying26 Try.underlying22 (rv64 hr') (root_step hx hr hr').1 ?_); intro q n hq))
  go_ret
  exact ⟨q, ⟨hq.1.trans (root_step hx hr hr').2, hq.2⟩, rfl, _, rfl⟩
theorem walk_FnExactRootNumber (x : Nat) (wx : (Lit.float .f32 x).wf = true) (w : World) : Calls Try.prog 8 #[.float .f32 x] w (Law w) := by
  have hx := wf32 wx
  clear wx
  go_enter Try.func8, Try.ntmps8
  go_wp2_with (first | (go_at_call 25; refine (c_specRoot _ hx _).mono ?_; rintro e w' ⟨q, hq, rfl, n, rfl⟩) | (go_at_call 26; refine (c_implRoot _ hx _).mono ?_; rintro e w' ⟨q', hq', rfl, n, rfl⟩) | ((with_reducible refine upon_widen Try.underlying22 Try.underlying26 (rv32 hq) ?_); intro r n hr) | ((with_reducible refine upon_widen Try.underlying22 Try.underlying26 (rv32 hq') ?_); intro r' n hr') | (go_at_call 14; refine (c_sameFloat _ _ (by rw [hr.1, hr'.1, hq.1, hq'.1]) _).mono ?_; rintro e w' ⟨rfl, n, rfl⟩))
  all_goals go_ret
  all_goals exact ⟨rfl, below_n (Below.refl _ _) _⟩

end Go.Proofs.Ytgkecanodapmgaa
