/-
The law on SineTurns, over the contracts of the sines.
-/
import Derived.Test.YtiabbafmjgiobaaWt
set_option linter.unusedVariables false
namespace Go.Proofs.Ytiabbafmjgiobaa
open Fl Go.RowKit

/-- a finite float32 as a double -/
theorem widen_fin {x y : Nat} (hx : x < 4294967296) (hn : (FloatKind.f32.decode x).isNaN = false) (hi : x % 2147483648 < Ieee.single.infRung) (h : RV .f64 (cvf .f32 .f64 (fv .f32 x)) y) : Fnt y ∧ y < 18446744073709551616 ∧ fv .f64 y = some y := by
  obtain ⟨r', h1, h2, h3, _⟩ := widen_word hx hn
  have e : y = _ := (fv_some.1 (h.1.trans h2)).2
  rw [e]
  have hf := fin_word (decide (2147483648 ≤ x)) (h3 hi).1
  exact ⟨hf, word_lt64 _ h1, hf.fv⟩
theorem widen_notfin {x y : Nat} (hx : x < 4294967296) (hn : (FloatKind.f32.decode x).isNaN = true ∨ x % 2147483648 = Ieee.single.infRung) (h : RV .f64 (cvf .f32 .f64 (fv .f32 x)) y) : opf .sub .f64 (fv .f64 y) (fv .f64 y) = none := by
  rcases hn with hn | hn
  · rw [h.1, fv_none.2 hn]; rfl
  · have hn' : (FloatKind.f32.decode x).isNaN = false := by
      cases hd : (FloatKind.f32.decode x).isNaN with
      | false => rfl
      | true =>
        exfalso
        have e : Ieee.single.signWeight = 2147483648 := rfl
        have h2 : (Ieee.single.read x).isNaN = true := hd
        unfold Ieee.Format.read at h2
        dsimp only at h2
        rw [e, hn] at h2
        generalize (x / 2147483648 % 2 == 1) = s at h2
        revert s
        decide
    obtain ⟨r', h1, h2, _, h4⟩ := widen_word hx hn'
    rw [h.1, h2, h4 hn]
    cases (decide (2147483648 ≤ x)) <;> rfl

/-- a float32 is finite: it less itself is zero -/
theorem isFin_iff {x : Nat} (hx : x < 4294967296) : isFin (fv .f32 x) = (!(FloatKind.f32.decode x).isNaN && decide (x % 2147483648 < Ieee.single.infRung)) := by
  have e : Ieee.single.signWeight = 2147483648 := rfl
  cases hn : (FloatKind.f32.decode x).isNaN with
  | true => rw [fv_none.2 hn]; rfl
  | false =>
    have hle := rung_le_of_not_nan Ieee.single (by decide) x hn
    rw [e] at hle
    rw [fv_some.2 ⟨hn, rfl⟩]
    rcases Nat.lt_or_eq_of_le hle with h | h
    · have hr := read_rung Ieee.single x (by rw [e]; exact h)
      have hs : opf .sub .f32 (some x) (some x) = some 0 := by
        show ((Ieee.single.read x).sum (Ieee.single.read x).opposite).map Ieee.single.write = some 0
        rw [hr]
        generalize (x / Ieee.single.signWeight % 2 == 1) = s
        generalize sig Ieee.single (x % Ieee.single.signWeight) = m
        generalize Ieee.single.leastPlace + ((exq Ieee.single (x % Ieee.single.signWeight) : Nat) : Int) = q
        have hp : (Ieee.Datum.number s m q).sum (Ieee.Datum.number s m q).opposite = some (.number (s && !s) 0 q) := by
          show some _ = some _
          have h0 : Ieee.signed s m (q - min q q).toNat + Ieee.signed (!s) m (q - min q q).toNat = 0 := by
            unfold Ieee.signed
            cases s <;> simp <;> omega
          have e1 : min q q = q := by omega
          rw [h0, e1]
          rfl
        rw [hp]
        cases s <;> rfl
      unfold isFin
      rw [hs, decide_eq_true h]
      rfl
    · have hw := word_of Ieee.single x hx
      rw [e, h] at hw
      rw [hw]
      generalize (x / 2147483648 % 2 == 1) = s
      cases s <;> decide

theorem c_nan (w : World) : Calls Try.prog 36 #[] w fun e w' => e = .returned (.float .f64 9221120237041090561) ∧ w = w' := by
  go_enter Try.func36, Try.ntmps36
  go_wp2
  go_ret
  exact ⟨rfl, rfl⟩
theorem fv_nan : fv .f64 9221120237041090561 = none := rfl

/-- a finite float32 as a double: one value -/
theorem widen_one {x : Nat} (hx : x < 4294967296) (hf : isFin (fv .f32 x) = true) : ∃ y, Fnt y ∧ y < 18446744073709551616 ∧ Bd y 128 ∧ cvf .f32 .f64 (fv .f32 x) = some y ∧ ∀ w, (convert 34 39 (.float .f32 x)).run Try.prog w = .ok (.float .f64 y) w := by
  rw [isFin_iff hx] at hf
  simp only [Bool.and_eq_true, Bool.not_eq_true', decide_eq_true_eq] at hf
  obtain ⟨r', h1, h2, h3, _⟩ := widen_word hx hf.1
  have hF := fin_word (decide (2147483648 ≤ x)) (h3 hf.2).1
  refine ⟨_, hF, word_lt64 _ h1, widen_bd h2 hF, h2, fun w => run_convert_float_float w _ _ _ _ x _ (by rw [Try.underlying34]; rfl) Try.underlying39 ?_⟩
  rw [fv_some.2 ⟨hf.1, rfl⟩] at h2
  exact h2
theorem notFin_cases {x : Nat} (hx : x < 4294967296) (hf : isFin (fv .f32 x) = false) : (FloatKind.f32.decode x).isNaN = true ∨ x % 2147483648 = Ieee.single.infRung := by
  rw [isFin_iff hx] at hf
  cases hn : (FloatKind.f32.decode x).isNaN with
  | true => exact .inl rfl
  | false =>
    rw [hn] at hf
    have hle := rung_le_of_not_nan Ieee.single (by decide) x hn
    have e : Ieee.single.signWeight = 2147483648 := rfl
    rw [e] at hle
    simp only [Bool.not_false, Bool.true_and, decide_eq_false_iff_not] at hf
    exact .inr (by omega)

theorem fits_none : FitsF .f64 .f32 none := fun y hy => by cases hy
theorem rf_none {r : Nat} (h : RV .f64 none r) : FitsF .f64 .f32 (fv .f64 r) ∧ cvf .f64 .f32 (fv .f64 r) = none := by rw [h.1]; exact ⟨fits_none, rfl⟩


end Go.Proofs.Ytiabbafmjgiobaa
