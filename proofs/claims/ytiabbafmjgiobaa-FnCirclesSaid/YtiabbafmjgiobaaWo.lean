/-
The law on AngleTurns, over the contracts of the angles.
-/
import Derived.Test.YtiabbafmjgiobaaWn
set_option linter.unusedVariables false
set_option linter.unusedSimpArgs false
namespace Go.Proofs.Ytiabbafmjgiobaa
open Fl Go.RowKit

/-- a finite float32 as a double: its rung, its place against zero -/
theorem widen_all {x : Nat} (hx : x < 4294967296) (hf : isFin (fv .f32 x) = true) : ∃ s r, r < Ieee.double.infRung ∧ (∀ w, (convert 34 39 (.float .f32 x)).run Try.prog w = .ok (.float .f64 (Ieee.double.word s r)) w) ∧
    (FloatKind.f64.format.order (Ieee.double.word s r) 0 == some .lt) = (FloatKind.f32.format.order x 0 == some .lt) ∧ (FloatKind.f64.format.order (Ieee.double.word s r) 0 == some .eq) = (FloatKind.f32.format.order x 0 == some .eq) := by
  obtain ⟨y, hF, hy, hB, hc, hconv⟩ := widen_one hx hf
  rw [isFin_iff hx] at hf
  simp only [Bool.and_eq_true, Bool.not_eq_true', decide_eq_true_eq] at hf
  obtain ⟨r', h1, h2, h3, _⟩ := widen_word hx hf.1
  rw [hc] at h2
  have e2 := Option.some.inj h2
  rw [e2] at hconv
  obtain ⟨h4, h5⟩ := h3 hf.2
  have h6 := order_zero hx hf.2 h4 h5
  exact ⟨_, r', h4, hconv, h6.1, h6.2⟩

theorem c_implAngle_nan (y x : Nat) (hf : isFin (fv .f32 x) = false ∨ isFin (fv .f32 x) = true ∧ isFin (fv .f32 y) = false) (w : World) : Calls Try.prog 40 #[.float .f32 y, .float .f32 x] w (RF .f32 none w) := by
  have IY : Hid _ := c_implIsFinite y
  have IX : Hid _ := c_implIsFinite x
  rcases hf with hf | ⟨hf, hf'⟩
  · have IXf : Hid _ := hf
    clear hf IY
    go_enter Try.func40, Try.ntmps40
    go_wp2_with (first | (go_at_call 43; (with_reducible refine (IX.out _).mono ?_); rw [IXf.out]; rintro e w' ⟨rfl, n', rfl⟩) | (go_at_call 36; refine (c_nan _).mono ?_; rintro e w' ⟨rfl, rfl⟩) | ((with_reducible refine upon_narrow Try.underlying39 Try.underlying34 (by decide) (by rw [fv_nan]; exact fits_none) ?_); intro q m hq))
    go_ret
    exact ⟨q, ⟨hq.1.trans (by rw [fv_nan]; rfl), hq.2⟩, rfl, _, rfl⟩
  · have IXf : Hid _ := hf
    have IYf : Hid _ := hf'
    clear hf hf'
    go_enter Try.func40, Try.ntmps40
    go_wp2_with (first | (go_at_call 43; first | ((with_reducible refine (IX.out _).mono ?_); rw [IXf.out]; rintro e w' ⟨rfl, n', rfl⟩) | ((with_reducible refine (IY.out _).mono ?_); rw [IYf.out]; rintro e w' ⟨rfl, n, rfl⟩)) | (go_at_call 36; refine (c_nan _).mono ?_; rintro e w' ⟨rfl, rfl⟩) | ((with_reducible refine upon_narrow Try.underlying39 Try.underlying34 (by decide) (by rw [fv_nan]; exact fits_none) ?_); intro q m hq))
    go_ret
    exact ⟨q, ⟨hq.1.trans (by rw [fv_nan]; rfl), hq.2⟩, rfl, _, rfl⟩
theorem c_implAngle_zero (y x : Nat) (hfy : isFin (fv .f32 y) = true) (hfx : isFin (fv .f32 x) = true) (hz : (FloatKind.f32.format.order x 0 == some .eq) = true) (hz' : (FloatKind.f32.format.order y 0 == some .eq) = true) (w : World) : Calls Try.prog 40 #[.float .f32 y, .float .f32 x] w (RF .f32 (some 0) w) := by
  have IY : Hid _ := c_implIsFinite y
  have IX : Hid _ := c_implIsFinite x
  have IXf : Hid _ := hfx
  have IYf : Hid _ := hfy
  clear hfx hfy
  go_enter Try.func40, Try.ntmps40
  go_wp2_with (go_at_call 43; first | ((with_reducible refine (IX.out _).mono ?_); rw [IXf.out]; rintro e w' ⟨rfl, n', rfl⟩) | ((with_reducible refine (IY.out _).mono ?_); rw [IYf.out]; rintro e w' ⟨rfl, n, rfl⟩))
  go_ret
  exact ⟨0, ⟨rfl, by decide⟩, rfl, _, rfl⟩

theorem zero_eq (s : Bool) : (FloatKind.f64.format.order (Ieee.double.word s 0) 0 == some .eq) = true := by cases s <;> decide

end Go.Proofs.Ytiabbafmjgiobaa
