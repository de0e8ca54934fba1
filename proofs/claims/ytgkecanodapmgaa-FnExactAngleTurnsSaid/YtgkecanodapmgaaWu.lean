/-
The law on SineTurns, over the contracts of the sines.
-/
import Derived.Test.YtgkecanodapmgaaWt
set_option linter.unusedVariables false
namespace Go.Proofs.Ytgkecanodapmgaa
open Fl Go.RowKit

/-- a finite float32 as a double -/
theorem widen_fin {x y : Nat} (hx : x < 4294967296) (hn : (FloatKind.f32.decode x).isNaN = false) (hi : x % 2147483648 < Ieee.single.infRung) (h : RV .f64 (cvf .f32 .f64 (fv .f32 x)) y) : Fnt y ∧ y < 18446744073709551616 ∧ fv .f64 y = some y := by
  obtain ⟨r', h1, h2, h3, _⟩ := widen_word hx hn
  have e : y = _ := (fv_some.1 (h.1.trans h2)).2
  rw [e]
  have hf := fin_word (decide (2147483648 ≤ x)) (h3 hi).1
  exact ⟨hf, word_lt64 _ h1, hf.fv⟩
theorem widen_notfin {x y : Nat} (hx : x < 4294967296) (hn : (FloatKind.f32.decode x).isNaN = true ∨ x % 2147483648 = Ieee.single.infRung) (h : RV .f64 (cvf .f32 .f64 (fv .f32 x)) y) : opf .sub .f64 (fv .f64 y) (fv .f64 y) = none := by
  rcases hn with hn | hn
  · rw [h.1, fv_none.2 hn]; rfl
  · have hn' : (FloatKind.f32.decode x).isNaN = false := by
      cases hd : (FloatKind.f32.decode x).isNaN with
      | false => rfl
      | true =>
        exfalso
        have e : Ieee.single.signWeight = 2147483648 := rfl
        have h2 : (Ieee.single.read x).isNaN = true := hd
        unfold Ieee.Format.read at h2
        dsimp only at h2
        rw [e, hn] at h2
        generalize (x / 2147483648 % 2 == 1) = s at h2
        revert s
        decide
    obtain ⟨r', h1, h2, _, h4⟩ := widen_word hx hn'
    rw [h.1, h2, h4 hn]
    cases (decide (2147483648 ≤ x)) <;> rfl

/-- a float32 is finite: it less itself is zero -/
theorem isFin_iff {x : Nat} (hx : x < 4294967296) : isFin (fv .f32 x) = (!(FloatKind.f32.decode x).isNaN && decide (x % 2147483648 < Ieee.single.infRung)) := by
  have e : Ieee.single.signWeight = 2147483648 := rfl
  cases hn : (FloatKind.f32.decode x).isNaN with
  | true => rw [fv_none.2 hn]; rfl
  | false =>
    have hle := rung_le_of_not_nan Ieee.single (by decide) x hn
    rw [e] at hle
    rw [fv_some.2 ⟨hn, rfl⟩]
    rcases Nat.lt_or_eq_of_le hle with h | h
    · have hr := read_rung Ieee.single x (by rw [e]; exact h)
      have hs : opf .sub .f32 (some x) (some x) = some 0 := by
        show ((Ieee.single.read x).sum (Ieee.single.read x).opposite).map Ieee.single.write = some 0
        rw [hr]
        generalize (x / Ieee.single.signWeight % 2 == 1) = s
        generalize sig Ieee.single (x % Ieee.single.signWeight) = m
        generalize Ieee.single.leastPlace + ((exq Ieee.single (x % Ieee.single.signWeight) : Nat) : Int) = q
        have hp : (Ieee.Datum.number s m q).sum (Ieee.Datum.number s m q).opposite = some (.number (s && !s) 0 q) := by
          show some _ = some _
          have h0 : Ieee.signed s m (q - min q q).toNat + Ieee.signed (!s) m (q - min q q).toNat = 0 := by
            unfold Ieee.signed
            cases s <;> simp <;> omega
          have e1 : min q q = q := by omega
          rw [h0, e1]
          rfl
        rw [hp]
        cases s <;> rfl
      unfold isFin
      rw [hs, decide_eq_true h]
      rfl
    · have hw := word_of Ieee.single x hx
      rw [e, h] at hw
      rw [hw]
      generalize (x / 2147483648 % 2 == 1) = s
      cases s <;> decide

theorem c_nan (w : World) : Calls Try.prog 46 #[] w fun e w' => e = .returned (.float .f64 9221120237041090561) ∧ w = w' := by
  go_enter Try.func46, Try.ntmps46
  go_wp2
  go_ret
  exact ⟨rfl, rfl⟩
theorem fv_nan : fv .f64 9221120237041090561 = none := rfl

/-- the sine of the reference at what is not finite -/
theorem c_wide_nan (y : Nat) (h : opf .sub .f64 (fv .f64 y) (fv .f64 y) = none) (w : World) : Calls Try.prog 63 #[.float .f64 y] w (RF .f64 none w) := by
  have key : ∀ r, RV .f64 (opf .sub .f64 (fv .f64 y) (fv .f64 y)) r → (FloatKind.f64.format.order r 0 != some .eq) = true := by
    intro r hr
    rw [h] at hr
    unfold bne
    rw [order_fv, hr.1]; rfl
  have KEY : Hid _ := key
  clear key
  go_enter Try.func63, Try.ntmps63
  go_wp2_with (first | ((with_reducible refine upon_fbin ?_ ?_); exact rfl; intro r n hr; have hk := KEY.out r hr) | (go_at_call 46; refine (c_nan _).mono ?_; rintro e w' ⟨rfl, rfl⟩))
  go_ret
  exact ⟨_, ⟨fv_nan, by decide⟩, rfl, _, rfl⟩

/-- .. at what is finite and great -/
theorem c_wide_big (y : Nat) (hy : y < 18446744073709551616) (hF : Fnt y) (hb : bigN y = true) (w : World) : Calls Try.prog 63 #[.float .f64 y] w fun e w' => e = .returned (.float .f64 0) ∧ w = w' := by
  have g1 := ge_r52 hy hF
  have g2 := le_r52 hy hF
  rw [hb, Bool.and_true] at g1 g2
  have gs := sub_self hF
  have h00 : (FloatKind.f64.format.order 0 0 != some .eq) = false := by decide
  by_cases hs : y < 9223372036854775808
  · rw [decide_eq_true hs] at g1
    clear g2
    go_enter Try.func63, Try.ntmps63
    go_wp2_with fail
    go_ret
    exact ⟨rfl, rfl⟩
  · rw [decide_eq_false hs] at g1
    rw [decide_eq_true (by omega)] at g2
    go_enter Try.func63, Try.ntmps63
    go_wp2_with fail
    go_ret
    exact ⟨rfl, rfl⟩

/-- a finite float32 as a double: one value -/
theorem widen_one {x : Nat} (hx : x < 4294967296) (hf : isFin (fv .f32 x) = true) : ∃ y, Fnt y ∧ y < 18446744073709551616 ∧ Bd y 128 ∧ cvf .f32 .f64 (fv .f32 x) = some y ∧ ∀ w, (convert 22 26 (.float .f32 x)).run Try.prog w = .ok (.float .f64 y) w := by
  rw [isFin_iff hx] at hf
  simp only [Bool.and_eq_true, Bool.not_eq_true', decide_eq_true_eq] at hf
  obtain ⟨r', h1, h2, h3, _⟩ := widen_word hx hf.1
  have hF := fin_word (decide (2147483648 ≤ x)) (h3 hf.2).1
  refine ⟨_, hF, word_lt64 _ h1, widen_bd h2 hF, h2, fun w => run_convert_float_float w _ _ _ _ x _ (by rw [Try.underlying22]; rfl) Try.underlying26 ?_⟩
  rw [fv_some.2 ⟨hf.1, rfl⟩] at h2
  exact h2
theorem notFin_cases {x : Nat} (hx : x < 4294967296) (hf : isFin (fv .f32 x) = false) : (FloatKind.f32.decode x).isNaN = true ∨ x % 2147483648 = Ieee.single.infRung := by
  rw [isFin_iff hx] at hf
  cases hn : (FloatKind.f32.decode x).isNaN with
  | true => exact .inl rfl
  | false =>
    rw [hn] at hf
    have hle := rung_le_of_not_nan Ieee.single (by decide) x hn
    have e : Ieee.single.signWeight = 2147483648 := rfl
    rw [e] at hle
    simp only [Bool.not_false, Bool.true_and, decide_eq_false_iff_not] at hf
    exact .inr (by omega)

theorem fits_none : FitsF .f64 .f32 none := fun y hy => by cases hy
theorem rf_none {r : Nat} (h : RV .f64 none r) : FitsF .f64 .f32 (fv .f64 r) ∧ cvf .f64 .f32 (fv .f64 r) = none := by rw [h.1]; exact ⟨fits_none, rfl⟩

theorem c_l01Sine_nan (x : Nat) (hx : x < 4294967296) (hf : isFin (fv .f32 x) = false) (w : World) : Calls Try.prog 44 #[.float .f32 x] w (RF .f32 none w) := by
  have hn := notFin_cases hx hf
  clear hf
  go_enter Try.func44, Try.ntmps44
  go_wp2_with (first | ((with_reducible refine upon_widen Try.underlying22 Try.underlying26 hx ?_); intro y n hy) | (go_at_call 63; refine (c_wide_nan _ (widen_notfin hx hn hy) _).mono ?_; rintro e w' ⟨r, hr, rfl, m, rfl⟩) | (go_at_call 62; refine (c_l01Narrow _ (rv64 hr) (rf_none hr).1 _).mono ?_; rintro e w' ⟨q, hq, rfl, k, rfl⟩))
  go_ret
  exact ⟨q, ⟨hq.1.trans (rf_none hr).2, hq.2⟩, rfl, _, rfl⟩
theorem c_l01Sine_fin (x y v : Nat) (hconv : ∀ w, (convert 22 26 (.float .f32 x)).run Try.prog w = .ok (.float .f64 y) w)
    (hs : ∀ w, Calls Try.prog 63 #[.float .f64 y] w fun e w' => e = .returned (.float .f64 v) ∧ w = w') (hv : Bd v 127) (w : World) : Calls Try.prog 44 #[.float .f32 x] w (RF .f32 (cvf .f64 .f32 (some v)) w) := by
  have HS : Hid _ := hs
  clear hs
  go_enter Try.func44, Try.ntmps44
  go_wp2_with (first | (go_at_call 63; refine (HS.out _).mono ?_; rintro e w' ⟨rfl, rfl⟩) | (go_at_call 62; refine (c_l01Narrow _ hv.1 (fits_bd hv) _).mono ?_; rintro e w' ⟨q, hq, rfl, k, rfl⟩))
  go_ret
  exact ⟨q, ⟨by rw [hq.1, hv.fin.fv], hq.2⟩, rfl, _, rfl⟩
theorem c_specSine (x : Nat) (v : Option Nat) (h : ∀ w, Calls Try.prog 44 #[.float .f32 x] w (RF .f32 v w)) (w : World) : Calls Try.prog 23 #[.float .f32 x] w (RF .f32 v w) := by
  have HS : Hid _ := h
  clear h
  go_enter Try.func23, Try.ntmps23
  go_wp2_with (go_at_call 44; refine (HS.out _).mono ?_; rintro e w' ⟨q, hq, rfl, k, rfl⟩)
  go_ret
  exact ⟨q, hq, rfl, _, rfl⟩
theorem c_implSine_nan (x : Nat) (hf : isFin (fv .f32 x) = false) (w : World) : Calls Try.prog 24 #[.float .f32 x] w (RF .f32 none w) := by
  go_enter Try.func24, Try.ntmps24
  go_wp2_with (first | (go_at_call 45; refine (c_implIsFinite _ _).mono ?_; rw [hf]; rintro e w' ⟨rfl, n, rfl⟩) | (go_at_call 46; refine (c_nan _).mono ?_; rintro e w' ⟨rfl, rfl⟩) | ((with_reducible refine upon_narrow Try.underlying26 Try.underlying22 (by decide) (by rw [fv_nan]; exact fits_none) ?_); intro q m hq))
  go_ret
  exact ⟨q, ⟨hq.1.trans (by rw [fv_nan]; rfl), hq.2⟩, rfl, _, rfl⟩
theorem c_implSine_big (x y : Nat) (hf : isFin (fv .f32 x) = true) (hF : Fnt y) (hy : y < 18446744073709551616) (hb : bigN y = true) (hconv : ∀ w, (convert 22 26 (.float .f32 x)).run Try.prog w = .ok (.float .f64 y) w) (w : World) :
    Calls Try.prog 24 #[.float .f32 x] w (RF .f32 (some 0) w) := by
  have ha := abs_r52 hy hF
  rw [hb] at ha
  go_enter Try.func24, Try.ntmps24
  go_wp2_with (first | (go_at_call 45; refine (c_implIsFinite _ _).mono ?_; rw [hf]; rintro e w' ⟨rfl, n, rfl⟩) | (go_at_call 47; refine (c_abs _ hy _).mono ?_; rintro e w' ⟨rfl, rfl⟩))
  go_ret
  exact ⟨0, ⟨rfl, by decide⟩, rfl, _, rfl⟩
theorem c_implSine_small (x y v : Nat) (hf : isFin (fv .f32 x) = true) (hF : Fnt y) (hy : y < 18446744073709551616) (hb : bigN y = false) (hconv : ∀ w, (convert 22 26 (.float .f32 x)).run Try.prog w = .ok (.float .f64 y) w)
    (hs : ∀ w, Calls Try.prog 48 #[.float .f64 y] w fun e w' => e = .returned (.float .f64 v) ∧ w = w') (hv : Bd v 127) (w : World) :
    Calls Try.prog 24 #[.float .f32 x] w (RF .f32 (cvf .f64 .f32 (some v)) w) := by
  have ha := abs_r52 hy hF
  rw [hb] at ha
  have hv1 : v < 18446744073709551616 := hv.1
  have hv2 := fits_bd hv
  have HS : Hid _ := hs
  clear hs
  go_enter Try.func24, Try.ntmps24
  go_wp2_with (first | (go_at_call 45; refine (c_implIsFinite _ _).mono ?_; rw [hf]; rintro e w' ⟨rfl, n, rfl⟩) | (go_at_call 47; refine (c_abs _ hy _).mono ?_; rintro e w' ⟨rfl, rfl⟩) | (go_at_call 48; refine (HS.out _).mono ?_; rintro e w' ⟨rfl, rfl⟩) | ((with_reducible refine upon_narrow Try.underlying26 Try.underlying22 hv1 hv2 ?_); intro q m hq))
  go_ret
  exact ⟨q, ⟨by rw [hq.1, hv.fin.fv], hq.2⟩, rfl, _, rfl⟩
theorem sine_both (x : Nat) (hx : x < 4294967296) : ∃ v, (∀ w, Calls Try.prog 23 #[.float .f32 x] w (RF .f32 v w)) ∧ (∀ w, Calls Try.prog 24 #[.float .f32 x] w (RF .f32 v w)) := by
  cases hf : isFin (fv .f32 x)
  · exact ⟨none, fun w => c_specSine x _ (fun w => c_l01Sine_nan x hx hf w) w, fun w => c_implSine_nan x hf w⟩
  · obtain ⟨y, hF, hy, _, _, hconv⟩ := widen_one hx hf
    cases hb : bigN y
    · obtain ⟨t, hcv, _, hft, hb0⟩ := frac_sub hF (small_bd hy hF hb)
      have hbf := fracN_bd hb0
      have hv := (sine_bd hbf).mono (by decide : (77 : Int) ≤ 127)
      exact ⟨cvf .f64 .f32 (some (sineN (fracN y t))), fun w => c_specSine x _ (fun w => c_l01Sine_fin x y _ hconv (fun w => c_wide y t hy hF hb hcv hft hb0 w) hv w) w,
        fun w => c_implSine_small x y _ hf hF hy hb hconv (fun w => c_sine y _ (fun w => c_fraction y t hF hcv hft hb0 w) hbf w) hv w⟩
    · have hz : Bd 0 127 := bd_zero.mono (by decide)
      have e : cvf .f64 .f32 (some 0) = some 0 := rfl
      refine ⟨some 0, fun w => c_specSine x _ (fun w => ?_) w, fun w => c_implSine_big x y hf hF hy hb hconv w⟩
      rw [← e]
      exact c_l01Sine_fin x y 0 hconv (fun w => c_wide_big y hy hF hb w) hz w

theorem walk_FnExactSineTurns (x : Nat) (wx : (Lit.float .f32 x).wf = true) (w : World) : Calls Try.prog 7 #[.float .f32 x] w (Law w) := by
  have hx := wf32 wx
  clear wx
  obtain ⟨v, h1, h2⟩ := sine_both x hx
  have H1 : Hid _ := h1
  have H2 : Hid _ := h2
  clear h1 h2
  go_enter Try.func7, Try.ntmps7
  go_wp2_with (first | (go_at_call 23; refine (H1.out _).mono ?_; rintro e w' ⟨q, hq, rfl, n, rfl⟩) | (go_at_call 24; refine (H2.out _).mono ?_; rintro e w' ⟨q', hq', rfl, n, rfl⟩) | ((with_reducible refine upon_widen Try.underlying22 Try.underlying26 (rv32 hq) ?_); intro r n hr) | ((with_reducible refine upon_widen Try.underlying22 Try.underlying26 (rv32 hq') ?_); intro r' n hr') | (go_at_call 14; refine (c_sameFloat _ _ (by rw [hr.1, hr'.1, hq.1, hq'.1]) _).mono ?_; rintro e w' ⟨rfl, n, rfl⟩))
  all_goals go_ret
  all_goals exact ⟨rfl, below_n (Below.refl _ _) _⟩

end Go.Proofs.Ytgkecanodapmgaa
