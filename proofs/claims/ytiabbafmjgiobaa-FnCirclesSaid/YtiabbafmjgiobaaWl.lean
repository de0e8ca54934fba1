/-
Contracts and the walk of the law on TenthsOf: the logarithm in both packages, the whole part.
-/
import Derived.Test.YtiabbafmjgiobaaWu
import Derived.Test.YtiabbafmjgiobaaLg
set_option linter.unusedVariables false
set_option linter.unusedSimpArgs false
namespace Go.Proofs.Ytiabbafmjgiobaa
open Fl Go.RowKit

/-- the loops' rounds: n halvings or m doublings lead to a number between 3/4 and 3/2 -/
structure Steps (r n m : Nat) : Prop where
  n_le : n ≤ 129
  m_le : m ≤ 150
  one : n = 0 ∨ m = 0
  lo : 3936146074321813504 ≤ r
  hi : r ≤ 5183643171103440896
  up : ∀ j, j < n → 4609434218613702656 ≤ r - j * 4503599627370496
  end1 : r - n * 4503599627370496 < 4609434218613702656
  dn : ∀ j, j < m → r - n * 4503599627370496 + j * 4503599627370496 < 4604930618986332160
  end2 : 4604930618986332160 ≤ r - n * 4503599627370496 + m * 4503599627370496
  end3 : r - n * 4503599627370496 + m * 4503599627370496 < 4609434218613702656
theorem steps {r : Nat} (h1 : 3936146074321813504 ≤ r) (h2 : r ≤ 5183643171103440896) : ∃ n m, Steps r n m := by
  by_cases a : r < 4609434218613702656
  · by_cases b : r < 4604930618986332160
    · refine ⟨0, (4604930618986332160 - 1 - r) / 4503599627370496 + 1, ⟨by omega, by omega, .inl rfl, h1, h2, fun j hj => absurd hj (Nat.not_lt_zero _), by omega, ?_, by omega, by omega⟩⟩
      intro j hj
      omega
    · exact ⟨0, 0, ⟨by omega, by omega, .inl rfl, h1, h2, fun j hj => absurd hj (Nat.not_lt_zero _), by omega, fun j hj => absurd hj (Nat.not_lt_zero _), by omega, by omega⟩⟩
  · refine ⟨(r - 4609434218613702656) / 4503599627370496 + 1, 0, ⟨by omega, by omega, .inr rfl, h1, h2, ?_, by omega, fun j hj => absurd hj (Nat.not_lt_zero _), by omega, by omega⟩⟩
    intro j hj
    omega

theorem word_false (x : Nat) : Ieee.double.word false x = x := rfl
theorem inf_lit : Ieee.double.infRung = 9218868437227405312 := rfl
@[irreducible] def upW (r j : Nat) : Nat := Ieee.double.word false (r - j * 4503599627370496)
@[irreducible] def dnW (r n j : Nat) : Nat := Ieee.double.word false (r - n * 4503599627370496 + j * 4503599627370496)
theorem upW_zero (r : Nat) : upW r 0 = Ieee.double.word false r := by rw [upW, Nat.zero_mul, Nat.sub_zero]
theorem dnW_zero (r n : Nat) : dnW r n 0 = upW r n := by rw [dnW, upW, Nat.zero_mul, Nat.add_zero]

theorem round_up {r n m j : Nat} (H : Steps r n m) (hj : j < n) :
    ((FloatKind.f64.format.order (upW r j) 4609434218613702656 == some .gt) || (FloatKind.f64.format.order (upW r j) 4609434218613702656 == some .eq)) = true ∧
    Fnt (upW r j) ∧ fdiv (upW r j) 4611686018427387904 = upW r (j + 1) ∧ Fnt (floatOfInt .f64 (j : Int)) ∧ fadd (floatOfInt .f64 (j : Int)) 4607182418800017408 = floatOfInt .f64 ((j + 1 : Nat) : Int) ∧
    upW r (j + 1) < upW r j := by
  have h1 := H.up j hj
  have h2 := H.hi
  have h3 := H.n_le
  have hr' : r - j * 4503599627370496 < 9218868437227405312 := by omega
  have e : r - (j + 1) * 4503599627370496 = r - j * 4503599627370496 - 4503599627370496 := by omega
  have e5 : 9007199254740992 ≤ r - j * 4503599627370496 := by omega
  have e6 : r - (j + 1) * 4503599627370496 < r - j * 4503599627370496 := by
    rw [e]; exact Nat.sub_lt (Nat.lt_of_lt_of_le (by decide) e5) (by decide)
  have e4 : (j : Int).natAbs ≤ 2 ^ 8 := by omega
  have e3 : j < 130 := by omega
  have hr : r - j * 4503599627370496 < Ieee.double.infRung := hr'
  rw [upW, upW]
  refine ⟨?_, fin_word false hr, ?_, (int_bd e4 (by decide)).fin, (e_up e3).trans (by rw [Int.natCast_add, Int.natCast_one]), ?_⟩
  · rw [ge15 hr]; exact decide_eq_true h1
  · rw [e]
    exact halve e5 hr
  · rw [word_false, word_false]; exact e6
theorem end_up {r n m : Nat} (H : Steps r n m) : ((FloatKind.f64.format.order (upW r n) 4609434218613702656 == some .gt) || (FloatKind.f64.format.order (upW r n) 4609434218613702656 == some .eq)) = false := by
  have h1 := H.end1
  have hr : r - n * 4503599627370496 < Ieee.double.infRung := Nat.lt_trans h1 (by decide)
  rw [upW, ge15 hr]
  rw [decide_eq_false_iff_not]; exact Nat.not_le.2 h1
theorem round_dn {r n m j : Nat} (H : Steps r n m) (hj : j < m) :
    (FloatKind.f64.format.order (dnW r n j) 4604930618986332160 == some .lt) = true ∧
    Fnt (dnW r n j) ∧ fmul (dnW r n j) 4611686018427387904 = dnW r n (j + 1) ∧ Fnt (floatOfInt .f64 ((n : Int) - j)) ∧ fsub (floatOfInt .f64 ((n : Int) - j)) 4607182418800017408 = floatOfInt .f64 ((n : Int) - (j + 1 : Nat)) ∧
    4609434218613702656 - dnW r n (j + 1) < 4609434218613702656 - dnW r n j := by
  have h0 : n = 0 := by
    rcases H.one with h | h
    · exact h
    · omega
  have h1 := H.dn j hj
  have h2 := H.lo
  have h3 := H.m_le
  subst h0
  have e : r - 0 * 4503599627370496 + (j + 1) * 4503599627370496 = r - 0 * 4503599627370496 + j * 4503599627370496 + 4503599627370496 := by omega
  have e1 : ((0 : Nat) : Int) - (j : Int) = -(j : Int) := by omega
  have e2 : ((0 : Nat) : Int) - ((j + 1 : Nat) : Int) = -(j : Int) - 1 := by omega
  have e3 : 4609434218613702656 - (r - 0 * 4503599627370496 + (j + 1) * 4503599627370496) < 4609434218613702656 - (r - 0 * 4503599627370496 + j * 4503599627370496) := by omega
  have e4 : 4503599627370496 ≤ r - 0 * 4503599627370496 + j * 4503599627370496 := by omega
  have e5 : r - 0 * 4503599627370496 + j * 4503599627370496 + 4503599627370496 < 9218868437227405312 := by omega
  have e6 : (((0 : Nat) : Int) - (j : Int)).natAbs ≤ 2 ^ 8 := by omega
  have e7 : j < 160 := by omega
  have hr : r - 0 * 4503599627370496 + j * 4503599627370496 < Ieee.double.infRung := Nat.lt_trans h1 (by decide)
  rw [dnW, dnW]
  refine ⟨?_, fin_word false hr, ?_, (int_bd e6 (by decide)).fin, ?_, ?_⟩
  · rw [lt75 hr]; exact decide_eq_true h1
  · rw [e]
    exact dbl e4 e5
  · rw [e1, e2]
    exact e_down e7
  · rw [word_false, word_false]; exact e3
theorem end_dn {r n m : Nat} (H : Steps r n m) : (FloatKind.f64.format.order (dnW r n m) 4604930618986332160 == some .lt) = false := by
  have h1 := H.end2
  have h2 := H.end3
  have hr : r - n * 4503599627370496 + m * 4503599627370496 < Ieee.double.infRung := Nat.lt_trans h2 (by decide)
  rw [dnW, lt75 hr]
  rw [decide_eq_false_iff_not]; exact Nat.not_lt.2 h1
theorem end_fin {r n m : Nat} (H : Steps r n m) : Fnt (dnW r n m) := by rw [dnW]; exact fin_word false (Nat.lt_trans H.end3 (by decide))
theorem end_fin1 {r n m : Nat} (H : Steps r n m) : Fnt (upW r n) := by rw [upW]; exact fin_word false (Nat.lt_trans H.end1 (by decide))

theorem log_steps {r n m : Nat} (H : Steps r n m) : LogOK (dnW r n m) ((n : Int) - m) := by
  have h1 := H.n_le
  have h2 := H.m_le
  have h3 : ((n : Int) - m).natAbs ≤ 256 := by omega
  rw [dnW]
  exact log_ok H.end2 H.end3 h3

/-- what the walks ask of the values in the loops -/
structure Rounds (U D : Nat → Nat) (n m : Nat) : Prop where
  n_le : n ≤ 129
  m_le : m ≤ 150
  up : ∀ j, j < n → ((FloatKind.f64.format.order (U j) 4609434218613702656 == some .gt) || (FloatKind.f64.format.order (U j) 4609434218613702656 == some .eq)) = true ∧ Fnt (U j) ∧ fdiv (U j) 4611686018427387904 = U (j + 1) ∧ Fnt (floatOfInt .f64 (j : Int)) ∧ fadd (floatOfInt .f64 (j : Int)) 4607182418800017408 = floatOfInt .f64 ((j + 1 : Nat) : Int) ∧ U (j + 1) < U j
  end_up : ((FloatKind.f64.format.order (U n) 4609434218613702656 == some .gt) || (FloatKind.f64.format.order (U n) 4609434218613702656 == some .eq)) = false
  d0 : U n = D 0
  dn : ∀ j, j < m → (FloatKind.f64.format.order (D j) 4604930618986332160 == some .lt) = true ∧ Fnt (D j) ∧ fmul (D j) 4611686018427387904 = D (j + 1) ∧ Fnt (floatOfInt .f64 ((n : Int) - j)) ∧ fsub (floatOfInt .f64 ((n : Int) - j)) 4607182418800017408 = floatOfInt .f64 ((n : Int) - (j + 1 : Nat)) ∧ 4609434218613702656 - D (j + 1) < 4609434218613702656 - D j
  end_dn : (FloatKind.f64.format.order (D m) 4604930618986332160 == some .lt) = false
  fin : Fnt (D m)
  log : LogOK (D m) ((n : Int) - m)
theorem rounds {r n m : Nat} (H : Steps r n m) : Rounds (upW r) (dnW r n) n m :=
  ⟨H.n_le, H.m_le, fun j hj => round_up H hj, end_up H, (dnW_zero r n).symm, fun j hj => round_dn H hj, end_dn H, end_fin H, log_steps H⟩

/-- the series' counter -/
def mk (b : Nat) : Nat := if b < 9223372036854775808 then b + 1 else 0
theorem kO_round (j : Nat) (h : j < 13) : fsub (floatOfInt .f64 (kO j)) 4611686018427387904 = floatOfInt .f64 (kO (j + 1)) ∧
    ((FloatKind.f64.format.order (floatOfInt .f64 (kO j)) 4607182418800017408 == some .gt) || (FloatKind.f64.format.order (floatOfInt .f64 (kO j)) 4607182418800017408 == some .eq)) = true ∧
    mk (floatOfInt .f64 (kO (j + 1))) < mk (floatOfInt .f64 (kO j)) ∧ Fnt (floatOfInt .f64 (kO j)) := by
  have : j = 0 ∨ j = 1 ∨ j = 2 ∨ j = 3 ∨ j = 4 ∨ j = 5 ∨ j = 6 ∨ j = 7 ∨ j = 8 ∨ j = 9 ∨ j = 10 ∨ j = 11 ∨ j = 12 := by omega
  rcases this with rfl | rfl | rfl | rfl | rfl | rfl | rfl | rfl | rfl | rfl | rfl | rfl | rfl <;> exact ⟨rfl, by decide, by decide, fin_lit _ (by decide)⟩
theorem kO_end : ((FloatKind.f64.format.order (floatOfInt .f64 (kO 13)) 4607182418800017408 == some .gt) || (FloatKind.f64.format.order (floatOfInt .f64 (kO 13)) 4607182418800017408 == some .eq)) = false := by decide
theorem fin_ln2 : Fnt 4604418534313441775 := bd_ln2.fin
theorem fin_43 : Fnt 4631308968768463603 := bd_43.fin
theorem nz_two : NZ 4611686018427387904 := ⟨_, _, _, read_two, by decide⟩

theorem start_fin {r n m : Nat} (H : Steps r n m) : Fnt (upW r 0) := by
  rw [upW_zero]; exact fin_word false (Nat.lt_of_le_of_lt H.hi (by decide))
theorem pos_word {r n m : Nat} (H : Steps r n m) : (FloatKind.f64.format.order (upW r 0) (upW r 0) != some .eq) = false ∧ (FloatKind.f64.format.order (upW r 0) 0 == some .lt) = false ∧ (FloatKind.f64.format.order (upW r 0) 0 == some .eq) = false ∧ (FloatKind.f64.format.order (upW r 0) 9218868437227405311 == some .gt) = false := by
  have hr : r < Ieee.double.infRung := Nat.lt_of_le_of_lt H.hi (by decide)
  have h0 : un Ieee.double 0 = 0 := un_small Ieee.double (by decide)
  have hp : 0 < un Ieee.double r := by
    have := un_lt Ieee.double (Nat.lt_of_lt_of_le (by decide : 0 < 3936146074321813504) H.lo)
    omega
  have hu : sun false r = (un Ieee.double r : Int) := rfl
  rw [upW_zero]
  refine ⟨?_, ?_, ?_, ?_⟩
  · rw [order_fin false false hr hr]
    unfold bne
    rw [cmp_eq]; simp
  · rw [lt_word false hr (c := 0) (by decide), h0, hu, decide_eq_false_iff_not]; omega
  · have e : FloatKind.f64.format.order (Ieee.double.word false r) 0 = some (compare (sun false r) (sun false 0)) := order_fin false false hr (by decide)
    have e2 : sun false 0 = (un Ieee.double 0 : Int) := rfl
    rw [e, cmp_eq, e2, h0, hu, decide_eq_false_iff_not]; omega
  · rw [gt_word false hr (c := 9218868437227405311) (by decide), hu, decide_eq_false_iff_not]
    have := (un_le_iff Ieee.double r 9218868437227405311).2 (Nat.le_trans H.hi (by decide))
    omega
theorem c_isInf (x : Nat) (h : (FloatKind.f64.format.order x 9218868437227405311 == some .gt) = false) (w : World) : Calls Try.prog 64 #[.float .f64 x, .int .i64 1] w fun e w' => e = .returned (.bool false) ∧ w = w' := by
  go_enter Try.func64, Try.ntmps64
  go_wp2
  go_ret
  exact ⟨rfl, rfl⟩

end Go.Proofs.Ytiabbafmjgiobaa
