/-
TenthsOf of K / 64: the walk, with the value between bounds.
-/
import Derived.Test.YtiabbafmjgiobaaTv
set_option linter.unusedVariables false
set_option linter.unusedSimpArgs false
namespace Go.Proofs.Ytiabbafmjgiobaa
open Fl Go Go.RowKit

theorem ri_conv32 {x K : Nat} (h : XV x K) (hK : K < 9007199254740992) : ∃ z, floatToFloatBits .f32 x .f64 = some z ∧ Fl.RI (FloatKind.f64.decode z) 6 (K : Nat) (K : Nat) := by
  obtain ⟨hx, hr⟩ := h
  have h1 := ri_write .f64 (by decide) hr (by rw [Int.natAbs_natCast]; exact hK) (by rw [Int.natAbs_natCast]; exact hK)
  refine ⟨_, ?_, h1.1⟩
  obtain ⟨s, m, e, B, hd, _⟩ := hr
  unfold floatToFloatBits
  rw [if_neg (by decide)]
  have h2 := h1.1
  rw [hd] at h2 ⊢
  obtain ⟨s', m', e', B', hd', _⟩ := h2
  simp only []
  rw [hd']
  rfl
theorem okK_lt {K : Nat} (h : okK K = true) : K < 9007199254740992 := by
  unfold okK at h
  simp only [Bool.and_eq_true, decide_eq_true_eq] at h
  obtain ⟨⟨⟨⟨⟨_, k2⟩, _⟩, _⟩, _⟩, _⟩ := h
  unfold yK at k2
  have := Nat.le_mul_of_pos_right K (Nat.two_pow_pos (40 - lK K))
  omega
theorem okK_pos {K : Nat} (h : okK K = true) : 0 < K := by
  rcases Nat.eq_zero_or_pos K with h0 | h0
  · subst h0
    exact absurd h (by decide)
  · exact h0
theorem tenK_hi {K : Nat} (hok : okK K = true) : (tenK K).2 < 1000000000000000 := by
  unfold okK at hok
  simp only [Bool.and_eq_true, decide_eq_true_eq] at hok
  obtain ⟨⟨⟨⟨⟨k1, k2⟩, k3⟩, k4⟩, k5⟩, k6⟩ := hok
  unfold tenK tZ tE tOut
  generalize (mS (sK K)).1 = m1 at *
  generalize (mS (sK K)).2 = m2 at *
  generalize lK K = l at *
  generalize decide (1099511627776 ≤ yK K) = b
  have hA : ∀ k, k ≤ 12906424415843 → k * 47751183273158 / 1099511627776 + 91647327780904 < 1000000000000000 := by intro k hk; omega
  cases b <;> (simp only [if_true, Bool.false_eq_true, if_false]; split <;> exact hA _ (by omega))
theorem tenK_le {K : Nat} {y : Nat} (h : In y (((tenK K).1 : Int) - 329853488332800) (((tenK K).2 : Int) - 329853488332800)) : (tenK K).1 ≤ (tenK K).2 := by
  have := h.le
  omega
/-- TenthsOf of K / 64 is some whole t that fits the bounds -/
theorem tenths_val {x K : Nat} (hv : XV x K) (hok : okK K = true) : ∃ t : Int, ((tenK K).1 : Int) - 329853488332800 < (t + 1) * 1099511627776 ∧ t * 1099511627776 ≤ ((tenK K).2 : Int) - 329853488332800 ∧
    ∀ w, Calls Try.prog 22 #[.float .f32 x] w fun e w' => e = .returned (.tuple #[.int .i64 t, .bool true]) ∧ ∃ n, w' = w.drewN n := by
  have hx := hv.1
  have hf := hv.fin
  have h := hv.pos (okK_pos hok)
  obtain ⟨r, h1, h2, hconv⟩ := widen_pos hx hf (pos_single hx hf h)
  obtain ⟨z, hz, hri⟩ := ri_conv32 hv (okK_lt hok)
  have hzr : z = Ieee.double.word false r := by
    have e1 := run_convert_float_float default 34 39 _ _ x z (by rw [Try.underlying34]; rfl) Try.underlying39 hz
    rw [hconv default] at e1
    injection e1 with e2
    injection e2 with e3 e4
    exact e4.symm
  rw [hzr] at hri
  clear hzr hz
  obtain ⟨n, m, H⟩ := steps h1 h2
  obtain ⟨hnm, hy⟩ := steps_val rfl H hri hok
  have R := rounds H
  have hin := tenK_in hy hok
  rw [← hnm] at hin
  obtain ⟨t, hcv, t1, t2⟩ := in_floor hin (by have := hin.le; have := tenK_hi hok; omega) (by have := tenK_hi hok; omega)
  refine ⟨t, t1, t2, ?_⟩
  have c1 : ∀ w, Calls Try.prog 45 #[.float .f64 (Ieee.double.word false r)] w fun e w' => e = .returned (.float .f64 (logN (dnW r n m) ((n : Int) - m))) ∧ w = w' := by
    rw [← upW_zero]
    exact fun w => c_naturalLog0 _ _ n m R w
  have f1 := R.log.n.fin
  have f2 := R.log.m
  have f3 : Fnt (fadd (fmul (logN (dnW r n m) ((n : Int) - m)) 4631308968768463603) 4602678819172646912) := R.log.x.fin
  have hcv0 : floatToIntVal .f64 (floorN (fadd (fmul (logN (dnW r n m) ((n : Int) - m)) 4631308968768463603) 4602678819172646912)) .i64 = some t := hcv
  clear R hy hin H t1 t2 hri hv h1 h2 hok hcv
  generalize logN (dnW r n m) ((n : Int) - m) = v at *
  have hcv' : ∀ w, (convert 39 2 (.float .f64 (floorN (fadd (fmul v 4631308968768463603) 4602678819172646912)))).run Try.prog w = .ok (.int .i64 t) w := fun w => run_convert_float_int w _ _ _ _ _ t (by rw [Try.underlying39]; rfl) Try.underlying2 hcv0
  have h43 := fin_43
  have hhf := fin_half
  have C1 : Hid _ := c1
  have CF : Hid _ := c_floor _ f3
  clear c1 hcv0
  generalize Ieee.double.word false r = y at *
  intro w
  go_enter Try.func22, Try.ntmps22
  go_wp2_with (first | (go_at_call 43; refine (c_implIsFinite _ _).mono ?_; rw [hf]; rintro e w' ⟨rfl, n, rfl⟩) | (go_at_call 45; refine (C1.out _).mono ?_; rintro e w' ⟨rfl, rfl⟩) | (go_at_call 44; refine (CF.out _).mono ?_; rintro e w' ⟨rfl, rfl⟩))
  go_ret2
  exact ⟨rfl, _, rfl⟩

end Go.Proofs.Ytiabbafmjgiobaa
