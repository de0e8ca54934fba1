/-
Contracts and the walk of the law on SineTurns: the sine in both packages.
-/
import Derived.Test.YtiabbafmjgiobaaWd
import Derived.Test.YtiabbafmjgiobaaFt
set_option linter.unusedVariables false
namespace Go.Proofs.Ytiabbafmjgiobaa
open Fl Go.RowKit

theorem fin_half : Fnt 4602678819172646912 := bd_half.fin
theorem fin_one : Fnt 4607182418800017408 := bd_one.fin
theorem fin_two : Fnt 4611686018427387904 := fin_lit _ rfl
theorem fin_turn : Fnt 4618760256179416344 := bd_turn.fin

theorem c_fraction (x : Nat) (t : Int) (hF : Fnt x) (hcv : floatToIntVal .f64 x .i64 = some t) (hft : Fnt (floatOfInt .f64 t)) (hb : Bd (fsub x (floatOfInt .f64 t)) 0) (w : World) :
    Calls Try.prog 38 #[.float .f64 x] w fun e w' => e = .returned (.float .f64 (fracN x t)) ∧ w = w' := by
  have hconv : ∀ w, (convert 39 2 (.float .f64 x)).run Try.prog w = .ok (.int .i64 t) w := fun w => run_convert_float_int w _ _ _ _ x t (by rw [Try.underlying39]; rfl) Try.underlying2 hcv
  have h0 := hb.fin
  have h1 := fin_one
  unfold fracN
  cases ht : (FloatKind.f64.format.order (fsub x (floatOfInt .f64 t)) 0 == some .lt)
  · go_enter Try.func38, Try.ntmps38
    go_wp2_with fail
    go_ret
    exact ⟨rfl, rfl⟩
  · go_enter Try.func38, Try.ntmps38
    go_wp2_with fail
    go_ret
    exact ⟨rfl, rfl⟩

/-- what a round of the series needs to know of its counter -/
theorem k_round (k : Nat) (h1 : 1 ≤ k) (h2 : k ≤ 8) : fmul 4611686018427387904 (fk k) = fk (2 * k) ∧ fadd (fk (2 * k)) 4607182418800017408 = fk (2 * k + 1) ∧ fmul (fk (2 * k)) (fk (2 * k + 1)) = den k ∧ fsub (fk k) 4607182418800017408 = fk (k - 1) ∧
    ((FloatKind.f64.format.order (fk k) 4607182418800017408 == some .gt) || (FloatKind.f64.format.order (fk k) 4607182418800017408 == some .eq)) = true ∧ fk (k - 1) < fk k := by
  have : k = 1 ∨ k = 2 ∨ k = 3 ∨ k = 4 ∨ k = 5 ∨ k = 6 ∨ k = 7 ∨ k = 8 := by omega
  rcases this with rfl | rfl | rfl | rfl | rfl | rfl | rfl | rfl <;> exact ⟨rfl, rfl, rfl, rfl, rfl, by decide⟩
theorem k_end : ((FloatKind.f64.format.order (fk 0) 4607182418800017408 == some .gt) || (FloatKind.f64.format.order (fk 0) 4607182418800017408 == some .eq)) = false := by decide
theorem fin_fk (k : Nat) (h : k < 9007199254740992) : Fnt (fk k) := by
  obtain ⟨r, h1, _, h3⟩ := int_read (t := (k : Int)) (by omega)
  unfold fk
  rw [h3]; exact fin_word _ h1
def bitsF : Value → Nat | .float _ b => b | _ => 0

/-- the loop of the series, from wherever the walk stands before it, in the program -/
theorem ser_facts {u : Nat} (hu : Bd u 10) (j : Nat) (hj : j < 8) : Fnt (serN u j) ∧ Fnt (fmul u (serN u j)) ∧ NZ (den (8 - j)) ∧ Fnt (fdiv (fmul u (serN u j)) (den (8 - j))) ∧ fsub 4607182418800017408 (fdiv (fmul u (serN u j)) (den (8 - j))) = serN u (j + 1) := by
  have h1 := ser_bd hu j (by omega)
  have h2 : Bd (fmul u (serN u j)) (10 + 9 * j) := bd_mul hu h1
  have h3 : Bd (fdiv (fmul u (serN u j)) (den (8 - j))) (10 + 9 * j - 2) := bd_div h2 (den_ge (8 - j) (by omega) (by omega))
  exact ⟨h1.fin, h2.fin, ge2_nz (den_ge (8 - j) (by omega) (by omega)), h3.fin, rfl⟩

theorem c_sine0 (x f : Nat) (hcall : ∀ w, Calls Try.prog 38 #[.float .f64 x] w fun e w' => e = .returned (.float .f64 f) ∧ w = w') (hf : Fnt f) (hf1 : Fnt (fsub f 4602678819172646912)) (hf2 : Fnt (fsub 4602678819172646912 (fsub f 4602678819172646912))) (z u : Nat) (ez : fmul (fsub 4602678819172646912 (fsub f 4602678819172646912)) 4618760256179416344 = z) (eu : fmul z z = u) (hz : Fnt z) (hu : Bd u 10)
    (hg : ((FloatKind.f64.format.order f 4602678819172646912 == some .gt) || (FloatKind.f64.format.order f 4602678819172646912 == some .eq)) = true) (hq : (FloatKind.f64.format.order (fsub f 4602678819172646912) 4598175219545276416 == some .gt) = true) (hr : Fnt (serN u 8)) (w : World) :
    Calls Try.prog 39 #[.float .f64 x] w fun e w' => e = .returned (.float .f64 (Op.negFloat .f64 (fmul z (serN u 8)))) ∧ w = w' := by
  have HC : Hid _ := hcall
  clear hcall
  have hh := fin_half
  have hto := fin_turn
  have hone := fin_one
  have htwo := fin_two
  have HU : Hid _ := hu
  have hfu := hu.fin
  clear hu
  go_enter Try.func39, Try.ntmps39
  go_wp2_with (go_at_call 38; refine (HC.out _).mono ?_; rintro e w' ⟨rfl, rfl⟩)
  clear hf hf1 hf2 hg hq hh hto
  clear ez eu
  go_loop [7, 8] (fun p k => ∃ j : Nat, j ≤ 8 ∧ p = .float .f64 (serN u j) ∧ k = .float .f64 (fk (8 - j))) (fun _ k => bitsF k)
  case atStart => exact ⟨0, by omega, rfl, rfl⟩
  case round =>
    obtain ⟨j, hj, rfl, rfl⟩ := hrel
    by_cases hlt : j < 8
    · obtain ⟨s1, s2, s3, s4, s5⟩ := ser_facts HU.out j hlt
      obtain ⟨k1, k2, k3, k4, k5, k6⟩ := k_round (8 - j) (by omega) (by omega)
      have g1 := fin_fk (8 - j) (by omega)
      have g2 := fin_fk (2 * (8 - j)) (by omega)
      have g3 := fin_fk (2 * (8 - j) + 1) (by omega)
      have K6 : Hid _ := k6
      clear k6 hr
      have hk : 8 - j - 1 = 8 - (j + 1) := by omega
      have HK : Hid _ := hk
      clear hk
      go_wp2_with fail
      go_round
      case rel => exact ⟨j + 1, by omega, rfl, by rw [HK.out]⟩
      case measure => exact K6.out
    · have h8 : j = 8 := by omega
      subst h8
      have hk := k_end
      go_wp2_with fail
      go_ret
      exact ⟨rfl, rfl⟩

theorem c_sine1 (x f : Nat) (hcall : ∀ w, Calls Try.prog 38 #[.float .f64 x] w fun e w' => e = .returned (.float .f64 f) ∧ w = w') (hf : Fnt f) (hf1 : Fnt (fsub f 4602678819172646912)) (hf2 : Fnt (fsub f 4602678819172646912)) (z u : Nat) (ez : fmul (fsub f 4602678819172646912) 4618760256179416344 = z) (eu : fmul z z = u) (hz : Fnt z) (hu : Bd u 10)
    (hg : ((FloatKind.f64.format.order f 4602678819172646912 == some .gt) || (FloatKind.f64.format.order f 4602678819172646912 == some .eq)) = true) (hq : (FloatKind.f64.format.order (fsub f 4602678819172646912) 4598175219545276416 == some .gt) = false) (hr : Fnt (serN u 8)) (w : World) :
    Calls Try.prog 39 #[.float .f64 x] w fun e w' => e = .returned (.float .f64 (Op.negFloat .f64 (fmul z (serN u 8)))) ∧ w = w' := by
  have HC : Hid _ := hcall
  clear hcall
  have hh := fin_half
  have hto := fin_turn
  have hone := fin_one
  have htwo := fin_two
  have HU : Hid _ := hu
  have hfu := hu.fin
  clear hu
  go_enter Try.func39, Try.ntmps39
  go_wp2_with (go_at_call 38; refine (HC.out _).mono ?_; rintro e w' ⟨rfl, rfl⟩)
  clear hf hf1 hf2 hg hq hh hto
  clear ez eu
  go_loop [7, 8] (fun p k => ∃ j : Nat, j ≤ 8 ∧ p = .float .f64 (serN u j) ∧ k = .float .f64 (fk (8 - j))) (fun _ k => bitsF k)
  case atStart => exact ⟨0, by omega, rfl, rfl⟩
  case round =>
    obtain ⟨j, hj, rfl, rfl⟩ := hrel
    by_cases hlt : j < 8
    · obtain ⟨s1, s2, s3, s4, s5⟩ := ser_facts HU.out j hlt
      obtain ⟨k1, k2, k3, k4, k5, k6⟩ := k_round (8 - j) (by omega) (by omega)
      have g1 := fin_fk (8 - j) (by omega)
      have g2 := fin_fk (2 * (8 - j)) (by omega)
      have g3 := fin_fk (2 * (8 - j) + 1) (by omega)
      have K6 : Hid _ := k6
      clear k6 hr
      have hk : 8 - j - 1 = 8 - (j + 1) := by omega
      have HK : Hid _ := hk
      clear hk
      go_wp2_with fail
      go_round
      case rel => exact ⟨j + 1, by omega, rfl, by rw [HK.out]⟩
      case measure => exact K6.out
    · have h8 : j = 8 := by omega
      subst h8
      have hk := k_end
      go_wp2_with fail
      go_ret
      exact ⟨rfl, rfl⟩

theorem c_sine2 (x f : Nat) (hcall : ∀ w, Calls Try.prog 38 #[.float .f64 x] w fun e w' => e = .returned (.float .f64 f) ∧ w = w') (hf : Fnt f) (hf1 : Fnt f) (hf2 : Fnt (fsub 4602678819172646912 f)) (z u : Nat) (ez : fmul (fsub 4602678819172646912 f) 4618760256179416344 = z) (eu : fmul z z = u) (hz : Fnt z) (hu : Bd u 10)
    (hg : ((FloatKind.f64.format.order f 4602678819172646912 == some .gt) || (FloatKind.f64.format.order f 4602678819172646912 == some .eq)) = false) (hq : (FloatKind.f64.format.order f 4598175219545276416 == some .gt) = true) (hr : Fnt (serN u 8)) (w : World) :
    Calls Try.prog 39 #[.float .f64 x] w fun e w' => e = .returned (.float .f64 (fmul z (serN u 8))) ∧ w = w' := by
  have HC : Hid _ := hcall
  clear hcall
  have hh := fin_half
  have hto := fin_turn
  have hone := fin_one
  have htwo := fin_two
  have HU : Hid _ := hu
  have hfu := hu.fin
  clear hu
  go_enter Try.func39, Try.ntmps39
  go_wp2_with (go_at_call 38; refine (HC.out _).mono ?_; rintro e w' ⟨rfl, rfl⟩)
  clear hf hf1 hf2 hg hq hh hto
  clear ez eu
  go_loop [7, 8] (fun p k => ∃ j : Nat, j ≤ 8 ∧ p = .float .f64 (serN u j) ∧ k = .float .f64 (fk (8 - j))) (fun _ k => bitsF k)
  case atStart => exact ⟨0, by omega, rfl, rfl⟩
  case round =>
    obtain ⟨j, hj, rfl, rfl⟩ := hrel
    by_cases hlt : j < 8
    · obtain ⟨s1, s2, s3, s4, s5⟩ := ser_facts HU.out j hlt
      obtain ⟨k1, k2, k3, k4, k5, k6⟩ := k_round (8 - j) (by omega) (by omega)
      have g1 := fin_fk (8 - j) (by omega)
      have g2 := fin_fk (2 * (8 - j)) (by omega)
      have g3 := fin_fk (2 * (8 - j) + 1) (by omega)
      have K6 : Hid _ := k6
      clear k6 hr
      have hk : 8 - j - 1 = 8 - (j + 1) := by omega
      have HK : Hid _ := hk
      clear hk
      go_wp2_with fail
      go_round
      case rel => exact ⟨j + 1, by omega, rfl, by rw [HK.out]⟩
      case measure => exact K6.out
    · have h8 : j = 8 := by omega
      subst h8
      have hk := k_end
      go_wp2_with fail
      go_ret
      exact ⟨rfl, rfl⟩

theorem c_sine3 (x f : Nat) (hcall : ∀ w, Calls Try.prog 38 #[.float .f64 x] w fun e w' => e = .returned (.float .f64 f) ∧ w = w') (hf : Fnt f) (hf1 : Fnt f) (hf2 : Fnt f) (z u : Nat) (ez : fmul f 4618760256179416344 = z) (eu : fmul z z = u) (hz : Fnt z) (hu : Bd u 10)
    (hg : ((FloatKind.f64.format.order f 4602678819172646912 == some .gt) || (FloatKind.f64.format.order f 4602678819172646912 == some .eq)) = false) (hq : (FloatKind.f64.format.order f 4598175219545276416 == some .gt) = false) (hr : Fnt (serN u 8)) (w : World) :
    Calls Try.prog 39 #[.float .f64 x] w fun e w' => e = .returned (.float .f64 (fmul z (serN u 8))) ∧ w = w' := by
  have HC : Hid _ := hcall
  clear hcall
  have hh := fin_half
  have hto := fin_turn
  have hone := fin_one
  have htwo := fin_two
  have HU : Hid _ := hu
  have hfu := hu.fin
  clear hu
  go_enter Try.func39, Try.ntmps39
  go_wp2_with (go_at_call 38; refine (HC.out _).mono ?_; rintro e w' ⟨rfl, rfl⟩)
  clear hf hf1 hf2 hg hq hh hto
  clear ez eu
  go_loop [7, 8] (fun p k => ∃ j : Nat, j ≤ 8 ∧ p = .float .f64 (serN u j) ∧ k = .float .f64 (fk (8 - j))) (fun _ k => bitsF k)
  case atStart => exact ⟨0, by omega, rfl, rfl⟩
  case round =>
    obtain ⟨j, hj, rfl, rfl⟩ := hrel
    by_cases hlt : j < 8
    · obtain ⟨s1, s2, s3, s4, s5⟩ := ser_facts HU.out j hlt
      obtain ⟨k1, k2, k3, k4, k5, k6⟩ := k_round (8 - j) (by omega) (by omega)
      have g1 := fin_fk (8 - j) (by omega)
      have g2 := fin_fk (2 * (8 - j)) (by omega)
      have g3 := fin_fk (2 * (8 - j) + 1) (by omega)
      have K6 : Hid _ := k6
      clear k6 hr
      have hk : 8 - j - 1 = 8 - (j + 1) := by omega
      have HK : Hid _ := hk
      clear hk
      go_wp2_with fail
      go_round
      case rel => exact ⟨j + 1, by omega, rfl, by rw [HK.out]⟩
      case measure => exact K6.out
    · have h8 : j = 8 := by omega
      subst h8
      have hk := k_end
      go_wp2_with fail
      go_ret
      exact ⟨rfl, rfl⟩

theorem sine_parts {f : Nat} (hb : Bd f 0) : Fnt (sin1 f) ∧ Fnt (sin2 (sin1 f)) ∧ Fnt (fmul (sin2 (sin1 f)) 4618760256179416344) ∧ Bd (fmul (fmul (sin2 (sin1 f)) 4618760256179416344) (fmul (sin2 (sin1 f)) 4618760256179416344)) 10 ∧
    Fnt (serN (fmul (fmul (sin2 (sin1 f)) 4618760256179416344) (fmul (sin2 (sin1 f)) 4618760256179416344)) 8) := by
  have b1 := sin1_bd hb
  have b2 := sin2_bd b1
  have bz := z_bd b2
  have bu := bd_mul bz bz
  exact ⟨b1.fin, b2.fin, bz.fin, bu, (ser_bd bu 8 (by omega)).fin⟩

theorem c_sine (x f : Nat) (hcall : ∀ w, Calls Try.prog 38 #[.float .f64 x] w fun e w' => e = .returned (.float .f64 f) ∧ w = w') (hb : Bd f 0) (w : World) :
    Calls Try.prog 39 #[.float .f64 x] w fun e w' => e = .returned (.float .f64 (sineN f)) ∧ w = w' := by
  obtain ⟨a1, a2, a3, a4, a5⟩ := sine_parts hb
  unfold sineN
  simp only []
  cases hg : geHalf f
  · have e1 : sin1 f = f := by unfold sin1; rw [hg]; rfl
    rw [e1] at a1 a2 a3 a4 a5 ⊢
    cases hq : gtQuarter f
    · have e2 : sin2 f = f := by unfold sin2; rw [hq]; rfl
      rw [e2] at a2 a3 a4 a5 ⊢
      exact c_sine3 x f hcall hb.fin a1 a2 _ _ rfl rfl a3 a4 hg hq a5 w
    · have e2 : sin2 f = fsub 4602678819172646912 f := by unfold sin2; rw [hq]; rfl
      rw [e2] at a2 a3 a4 a5 ⊢
      exact c_sine2 x f hcall hb.fin a1 a2 _ _ rfl rfl a3 a4 hg hq a5 w
  · have e1 : sin1 f = fsub f 4602678819172646912 := by unfold sin1; rw [hg]; rfl
    rw [e1] at a1 a2 a3 a4 a5 ⊢
    cases hq : gtQuarter (fsub f 4602678819172646912)
    · have e2 : sin2 (fsub f 4602678819172646912) = fsub f 4602678819172646912 := by unfold sin2; rw [hq]; rfl
      rw [e2] at a2 a3 a4 a5 ⊢
      exact c_sine1 x f hcall hb.fin a1 a2 _ _ rfl rfl a3 a4 hg hq a5 w
    · have e2 : sin2 (fsub f 4602678819172646912) = fsub 4602678819172646912 (fsub f 4602678819172646912) := by unfold sin2; rw [hq]; rfl
      rw [e2] at a2 a3 a4 a5 ⊢
      exact c_sine0 x f hcall hb.fin a1 a2 _ _ rfl rfl a3 a4 hg hq a5 w

end Go.Proofs.Ytiabbafmjgiobaa
