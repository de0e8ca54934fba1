/-
Parts of the proof, put together: Wl At Wn Wo We Wf Nb Pr Gt Cd Hm Ce Nl. No condition.
-/
import Derived.Test.YtiabbafmjgiobaaGreatDoorPa2
import Derived.ProofKit
import Derived.Carry
import Derived.Deep.QuietTactic
import Derived.BigQuiet

/-
Contracts and the walk of the law on TenthsOf: the logarithm in both packages, the whole part.
-/
set_option linter.unusedVariables false
set_option linter.unusedSimpArgs false
namespace Go.Proofs.YtiabbafmjgiobaaGreatDoor
open Fl Go.RowKit

/-- the loops' rounds: n halvings or m doublings lead to a number between 3/4 and 3/2 -/
structure Steps (r n m : Nat) : Prop where
  n_le : n ≤ 129
  m_le : m ≤ 150
  one : n = 0 ∨ m = 0
  lo : 3936146074321813504 ≤ r
  hi : r ≤ 5183643171103440896
  up : ∀ j, j < n → 4609434218613702656 ≤ r - j * 4503599627370496
  end1 : r - n * 4503599627370496 < 4609434218613702656
  dn : ∀ j, j < m → r - n * 4503599627370496 + j * 4503599627370496 < 4604930618986332160
  end2 : 4604930618986332160 ≤ r - n * 4503599627370496 + m * 4503599627370496
  end3 : r - n * 4503599627370496 + m * 4503599627370496 < 4609434218613702656
theorem steps {r : Nat} (h1 : 3936146074321813504 ≤ r) (h2 : r ≤ 5183643171103440896) : ∃ n m, Steps r n m := by
  by_cases a : r < 4609434218613702656
  · by_cases b : r < 4604930618986332160
    · refine ⟨0, (4604930618986332160 - 1 - r) / 4503599627370496 + 1, ⟨by omega, by omega, .inl rfl, h1, h2, fun j hj => absurd hj (Nat.not_lt_zero _), by omega, ?_, by omega, by omega⟩⟩
      intro j hj
      omega
    · exact ⟨0, 0, ⟨by omega, by omega, .inl rfl, h1, h2, fun j hj => absurd hj (Nat.not_lt_zero _), by omega, fun j hj => absurd hj (Nat.not_lt_zero _), by omega, by omega⟩⟩
  · refine ⟨(r - 4609434218613702656) / 4503599627370496 + 1, 0, ⟨by omega, by omega, .inr rfl, h1, h2, ?_, by omega, fun j hj => absurd hj (Nat.not_lt_zero _), by omega, by omega⟩⟩
    intro j hj
    omega

theorem word_false (x : Nat) : Ieee.double.word false x = x := rfl
theorem inf_lit : Ieee.double.infRung = 9218868437227405312 := rfl
@[irreducible] def upW (r j : Nat) : Nat := Ieee.double.word false (r - j * 4503599627370496)
@[irreducible] def dnW (r n j : Nat) : Nat := Ieee.double.word false (r - n * 4503599627370496 + j * 4503599627370496)
theorem upW_zero (r : Nat) : upW r 0 = Ieee.double.word false r := by rw [upW, Nat.zero_mul, Nat.sub_zero]
theorem dnW_zero (r n : Nat) : dnW r n 0 = upW r n := by rw [dnW, upW, Nat.zero_mul, Nat.add_zero]

theorem round_up {r n m j : Nat} (H : Steps r n m) (hj : j < n) :
    ((FloatKind.f64.format.order (upW r j) 4609434218613702656 == some .gt) || (FloatKind.f64.format.order (upW r j) 4609434218613702656 == some .eq)) = true ∧
    Fnt (upW r j) ∧ fdiv (upW r j) 4611686018427387904 = upW r (j + 1) ∧ Fnt (floatOfInt .f64 (j : Int)) ∧ fadd (floatOfInt .f64 (j : Int)) 4607182418800017408 = floatOfInt .f64 ((j + 1 : Nat) : Int) ∧
    upW r (j + 1) < upW r j := by
  have h1 := H.up j hj
  have h2 := H.hi
  have h3 := H.n_le
  have hr' : r - j * 4503599627370496 < 9218868437227405312 := by omega
  have e : r - (j + 1) * 4503599627370496 = r - j * 4503599627370496 - 4503599627370496 := by omega
  have e5 : 9007199254740992 ≤ r - j * 4503599627370496 := by omega
  have e6 : r - (j + 1) * 4503599627370496 < r - j * 4503599627370496 := by
    rw [e]; exact Nat.sub_lt (Nat.lt_of_lt_of_le (by decide) e5) (by decide)
  have e4 : (j : Int).natAbs ≤ 2 ^ 8 := by omega
  have e3 : j < 130 := by omega
  have hr : r - j * 4503599627370496 < Ieee.double.infRung := hr'
  rw [upW, upW]
  refine ⟨?_, fin_word false hr, ?_, (int_bd e4 (by decide)).fin, (e_up e3).trans (by rw [Int.natCast_add, Int.natCast_one]), ?_⟩
  · rw [ge15 hr]; exact decide_eq_true h1
  · rw [e]
    exact halve e5 hr
  · rw [word_false, word_false]; exact e6
theorem end_up {r n m : Nat} (H : Steps r n m) : ((FloatKind.f64.format.order (upW r n) 4609434218613702656 == some .gt) || (FloatKind.f64.format.order (upW r n) 4609434218613702656 == some .eq)) = false := by
  have h1 := H.end1
  have hr : r - n * 4503599627370496 < Ieee.double.infRung := Nat.lt_trans h1 (by decide)
  rw [upW, ge15 hr]
  rw [decide_eq_false_iff_not]; exact Nat.not_le.2 h1
theorem round_dn {r n m j : Nat} (H : Steps r n m) (hj : j < m) :
    (FloatKind.f64.format.order (dnW r n j) 4604930618986332160 == some .lt) = true ∧
    Fnt (dnW r n j) ∧ fmul (dnW r n j) 4611686018427387904 = dnW r n (j + 1) ∧ Fnt (floatOfInt .f64 ((n : Int) - j)) ∧ fsub (floatOfInt .f64 ((n : Int) - j)) 4607182418800017408 = floatOfInt .f64 ((n : Int) - (j + 1 : Nat)) ∧
    4609434218613702656 - dnW r n (j + 1) < 4609434218613702656 - dnW r n j := by
  have h0 : n = 0 := by
    rcases H.one with h | h
    · exact h
    · omega
  have h1 := H.dn j hj
  have h2 := H.lo
  have h3 := H.m_le
  subst h0
  have e : r - 0 * 4503599627370496 + (j + 1) * 4503599627370496 = r - 0 * 4503599627370496 + j * 4503599627370496 + 4503599627370496 := by omega
  have e1 : ((0 : Nat) : Int) - (j : Int) = -(j : Int) := by omega
  have e2 : ((0 : Nat) : Int) - ((j + 1 : Nat) : Int) = -(j : Int) - 1 := by omega
  have e3 : 4609434218613702656 - (r - 0 * 4503599627370496 + (j + 1) * 4503599627370496) < 4609434218613702656 - (r - 0 * 4503599627370496 + j * 4503599627370496) := by omega
  have e4 : 4503599627370496 ≤ r - 0 * 4503599627370496 + j * 4503599627370496 := by omega
  have e5 : r - 0 * 4503599627370496 + j * 4503599627370496 + 4503599627370496 < 9218868437227405312 := by omega
  have e6 : (((0 : Nat) : Int) - (j : Int)).natAbs ≤ 2 ^ 8 := by omega
  have e7 : j < 160 := by omega
  have hr : r - 0 * 4503599627370496 + j * 4503599627370496 < Ieee.double.infRung := Nat.lt_trans h1 (by decide)
  rw [dnW, dnW]
  refine ⟨?_, fin_word false hr, ?_, (int_bd e6 (by decide)).fin, ?_, ?_⟩
  · rw [lt75 hr]; exact decide_eq_true h1
  · rw [e]
    exact dbl e4 e5
  · rw [e1, e2]
    exact e_down e7
  · rw [word_false, word_false]; exact e3
theorem end_dn {r n m : Nat} (H : Steps r n m) : (FloatKind.f64.format.order (dnW r n m) 4604930618986332160 == some .lt) = false := by
  have h1 := H.end2
  have h2 := H.end3
  have hr : r - n * 4503599627370496 + m * 4503599627370496 < Ieee.double.infRung := Nat.lt_trans h2 (by decide)
  rw [dnW, lt75 hr]
  rw [decide_eq_false_iff_not]; exact Nat.not_lt.2 h1
theorem end_fin {r n m : Nat} (H : Steps r n m) : Fnt (dnW r n m) := by rw [dnW]; exact fin_word false (Nat.lt_trans H.end3 (by decide))
theorem end_fin1 {r n m : Nat} (H : Steps r n m) : Fnt (upW r n) := by rw [upW]; exact fin_word false (Nat.lt_trans H.end1 (by decide))

theorem log_steps {r n m : Nat} (H : Steps r n m) : LogOK (dnW r n m) ((n : Int) - m) := by
  have h1 := H.n_le
  have h2 := H.m_le
  have h3 : ((n : Int) - m).natAbs ≤ 256 := by omega
  rw [dnW]
  exact log_ok H.end2 H.end3 h3

/-- what the walks ask of the values in the loops -/
structure Rounds (U D : Nat → Nat) (n m : Nat) : Prop where
  n_le : n ≤ 129
  m_le : m ≤ 150
  up : ∀ j, j < n → ((FloatKind.f64.format.order (U j) 4609434218613702656 == some .gt) || (FloatKind.f64.format.order (U j) 4609434218613702656 == some .eq)) = true ∧ Fnt (U j) ∧ fdiv (U j) 4611686018427387904 = U (j + 1) ∧ Fnt (floatOfInt .f64 (j : Int)) ∧ fadd (floatOfInt .f64 (j : Int)) 4607182418800017408 = floatOfInt .f64 ((j + 1 : Nat) : Int) ∧ U (j + 1) < U j
  end_up : ((FloatKind.f64.format.order (U n) 4609434218613702656 == some .gt) || (FloatKind.f64.format.order (U n) 4609434218613702656 == some .eq)) = false
  d0 : U n = D 0
  dn : ∀ j, j < m → (FloatKind.f64.format.order (D j) 4604930618986332160 == some .lt) = true ∧ Fnt (D j) ∧ fmul (D j) 4611686018427387904 = D (j + 1) ∧ Fnt (floatOfInt .f64 ((n : Int) - j)) ∧ fsub (floatOfInt .f64 ((n : Int) - j)) 4607182418800017408 = floatOfInt .f64 ((n : Int) - (j + 1 : Nat)) ∧ 4609434218613702656 - D (j + 1) < 4609434218613702656 - D j
  end_dn : (FloatKind.f64.format.order (D m) 4604930618986332160 == some .lt) = false
  fin : Fnt (D m)
  log : LogOK (D m) ((n : Int) - m)
theorem rounds {r n m : Nat} (H : Steps r n m) : Rounds (upW r) (dnW r n) n m :=
  ⟨H.n_le, H.m_le, fun j hj => round_up H hj, end_up H, (dnW_zero r n).symm, fun j hj => round_dn H hj, end_dn H, end_fin H, log_steps H⟩

/-- the series' counter -/
def mk (b : Nat) : Nat := if b < 9223372036854775808 then b + 1 else 0
theorem kO_round (j : Nat) (h : j < 13) : fsub (floatOfInt .f64 (kO j)) 4611686018427387904 = floatOfInt .f64 (kO (j + 1)) ∧
    ((FloatKind.f64.format.order (floatOfInt .f64 (kO j)) 4607182418800017408 == some .gt) || (FloatKind.f64.format.order (floatOfInt .f64 (kO j)) 4607182418800017408 == some .eq)) = true ∧
    mk (floatOfInt .f64 (kO (j + 1))) < mk (floatOfInt .f64 (kO j)) ∧ Fnt (floatOfInt .f64 (kO j)) := by
  have : j = 0 ∨ j = 1 ∨ j = 2 ∨ j = 3 ∨ j = 4 ∨ j = 5 ∨ j = 6 ∨ j = 7 ∨ j = 8 ∨ j = 9 ∨ j = 10 ∨ j = 11 ∨ j = 12 := by omega
  rcases this with rfl | rfl | rfl | rfl | rfl | rfl | rfl | rfl | rfl | rfl | rfl | rfl | rfl <;> exact ⟨rfl, by decide, by decide, fin_lit _ (by decide)⟩
theorem kO_end : ((FloatKind.f64.format.order (floatOfInt .f64 (kO 13)) 4607182418800017408 == some .gt) || (FloatKind.f64.format.order (floatOfInt .f64 (kO 13)) 4607182418800017408 == some .eq)) = false := by decide
theorem fin_ln2 : Fnt 4604418534313441775 := bd_ln2.fin
theorem fin_43 : Fnt 4631308968768463603 := bd_43.fin
theorem nz_two : NZ 4611686018427387904 := ⟨_, _, _, read_two, by decide⟩

theorem start_fin {r n m : Nat} (H : Steps r n m) : Fnt (upW r 0) := by
  rw [upW_zero]; exact fin_word false (Nat.lt_of_le_of_lt H.hi (by decide))
theorem pos_word {r n m : Nat} (H : Steps r n m) : (FloatKind.f64.format.order (upW r 0) (upW r 0) != some .eq) = false ∧ (FloatKind.f64.format.order (upW r 0) 0 == some .lt) = false ∧ (FloatKind.f64.format.order (upW r 0) 0 == some .eq) = false ∧ (FloatKind.f64.format.order (upW r 0) 9218868437227405311 == some .gt) = false := by
  have hr : r < Ieee.double.infRung := Nat.lt_of_le_of_lt H.hi (by decide)
  have h0 : un Ieee.double 0 = 0 := un_small Ieee.double (by decide)
  have hp : 0 < un Ieee.double r := by
    have := un_lt Ieee.double (Nat.lt_of_lt_of_le (by decide : 0 < 3936146074321813504) H.lo)
    omega
  have hu : sun false r = (un Ieee.double r : Int) := rfl
  rw [upW_zero]
  refine ⟨?_, ?_, ?_, ?_⟩
  · rw [order_fin false false hr hr]
    unfold bne
    rw [cmp_eq]; simp
  · rw [lt_word false hr (c := 0) (by decide), h0, hu, decide_eq_false_iff_not]; omega
  · have e : FloatKind.f64.format.order (Ieee.double.word false r) 0 = some (compare (sun false r) (sun false 0)) := order_fin false false hr (by decide)
    have e2 : sun false 0 = (un Ieee.double 0 : Int) := rfl
    rw [e, cmp_eq, e2, h0, hu, decide_eq_false_iff_not]; omega
  · rw [gt_word false hr (c := 9218868437227405311) (by decide), hu, decide_eq_false_iff_not]
    have := (un_le_iff Ieee.double r 9218868437227405311).2 (Nat.le_trans H.hi (by decide))
    omega
end Go.Proofs.YtiabbafmjgiobaaGreatDoor

/-
Plain laws on doubles for the angle: roots, quotients that are at most 1, the series' bounds.
-/
namespace Go.Proofs.YtiabbafmjgiobaaGreatDoor.Fl
open Go Ieee

/-- a number that is not negative is written so -/
theorem pos_write {p : Datum} {N : Int} (h : ∃ m e, p = .number false m e) (hb : Bd (double.write p) N) : ∃ r, r < double.infRung ∧ double.write p = double.word false r := by
  obtain ⟨m, e, rfl⟩ := h
  have h0 : un double 0 = 0 := un_small double (by decide)
  obtain ⟨r, _, h2, h3⟩ := nearest_mono_ge double false m e 0 (by decide) (x := (e - double.leastPlace).toNat) (y := (double.leastPlace - e).toNat) (by omega) (by rw [h0]; omega)
  have hw : double.write (.number false m e) = double.word false r := h3
  rcases Nat.lt_or_eq_of_le h2 with h4 | h4
  · exact ⟨r, h4, hw⟩
  · exfalso
    subst h4
    rw [hw] at hb
    obtain ⟨s', m', e', hd⟩ := hb.fin
    rw [read_inf double false (by decide)] at hd
    cases hd
theorem pos_sum {d d' : Datum} (h : ∃ m e, d = .number false m e) (h' : ∃ m e, d' = .number false m e) : ∃ p, d.sum d' = some p ∧ ∃ m e, p = .number false m e := by
  obtain ⟨m, e, rfl⟩ := h
  obtain ⟨m', e', rfl⟩ := h'
  refine ⟨_, rfl, ?_⟩
  have s1 : signed false m (e - min e e').toNat = ((m * 2 ^ (e - min e e').toNat : Nat) : Int) := by unfold signed; rw [Nat.shiftLeft_eq]; rfl
  have s2 : signed false m' (e' - min e e').toNat = ((m' * 2 ^ (e' - min e e').toNat : Nat) : Int) := by unfold signed; rw [Nat.shiftLeft_eq]; rfl
  rw [s1, s2]
  generalize m * 2 ^ (e - min e e').toNat = a
  generalize m' * 2 ^ (e' - min e e').toNat = b
  have hs : (if (a : Int) + (b : Int) = 0 then false && false else decide ((a : Int) + (b : Int) < 0)) = false := by
    split
    · rfl
    · rw [decide_eq_false_iff_not]; omega
  rw [hs]
  exact ⟨_, _, rfl⟩
theorem add_pos {r c : Nat} {N : Int} (hr : r < double.infRung) (hc : c < double.infRung) (hb : Bd (fadd (double.word false r) (double.word false c)) N) : ∃ q, q < double.infRung ∧ fadd (double.word false r) (double.word false c) = double.word false q := by
  obtain ⟨p, hp, hf⟩ := pos_sum ⟨_, _, read_word double false r hr⟩ ⟨_, _, read_word double false c hc⟩
  have e : fadd (double.word false r) (double.word false c) = double.write p := by
    show ((((double.read (double.word false r)).sum (double.read (double.word false c))).map double.write).getD 0) = _
    rw [hp]; rfl
  rw [e] at hb ⊢
  exact pos_write hf hb
theorem square_pos {t : Nat} (h : Bd t 0) : ∃ q, q < double.infRung ∧ fmul t t = double.word false q := by
  have hb : Bd (fmul t t) (0 + 0) := bd_mul h h
  obtain ⟨s, m, e, hd⟩ := h.fin
  have e1 : fmul t t = double.write (.number (s ^^ s) (m * m) (e + e)) := by
    show ((((double.read t).product (double.read t)).map double.write).getD 0) = _
    rw [hd]; rfl
  rw [e1] at hb ⊢
  rw [Bool.xor_self] at hb ⊢
  exact pos_write ⟨_, _, rfl⟩ hb

def fsq (x : Nat) : Nat := (FloatKind.f64.format.sqrt x).getD 0
theorem pos_one : Pos2 (double.read 4607182418800017408) 0 := ⟨4503599627370496, -52, 52, rfl, by decide, by decide⟩
theorem one_word : (4607182418800017408 : Nat) = double.word false 4607182418800017408 := rfl

/-- what a walk asks of a halving of the angle -/
structure HalfOK (t : Nat) : Prop where
  tf : Bd t 0
  tt : Fnt (fmul t t)
  x : Fnt (fadd 4607182418800017408 (fmul t t))
  s : FloatKind.f64.format.sqrt (fadd 4607182418800017408 (fmul t t)) = some (fsq (fadd 4607182418800017408 (fmul t t)))
  fs : Fnt (fsq (fadd 4607182418800017408 (fmul t t)))
  nz : NZ (fadd 4607182418800017408 (fsq (fadd 4607182418800017408 (fmul t t))))
  n : Bd (fdiv t (fadd 4607182418800017408 (fsq (fadd 4607182418800017408 (fmul t t))))) 0
theorem half_ok {t : Nat} (h : Bd t 0) : HalfOK t := by
  have htt : Bd (fmul t t) (0 + 0) := bd_mul h h
  obtain ⟨q, hq, eq⟩ := square_pos h
  have hx : Bd (fadd 4607182418800017408 (fmul t t)) (0 + 1) := bd_add bd_one (htt.mono (by omega))
  have hxp : ∃ c, c < double.infRung ∧ fadd 4607182418800017408 (fmul t t) = double.word false c := by
    rw [eq] at hx ⊢
    exact add_pos (r := 4607182418800017408) (by decide) hq hx
  obtain ⟨c, hc, ec⟩ := hxp
  have hl : Le2 (double.read (fadd 4607182418800017408 (fmul t t))) 1 := hx.2
  have hroot : ∃ p, (double.read (fadd 4607182418800017408 (fmul t t))).root 54 = some p ∧ Le2 p 1 ∧ ∃ m' e', p = .number false m' e' := by
    rw [ec, read_word double false c hc] at hl ⊢
    refine le2_root 54 hl (by omega) ?_
    intro hm
    have h0 := sig_zero double hm
    subst h0
    decide
  obtain ⟨p, hp, hpl, hpp⟩ := hroot
  have hsq : FloatKind.f64.format.sqrt (fadd 4607182418800017408 (fmul t t)) = some (double.write p) := by
    show ((double.read (fadd 4607182418800017408 (fmul t t))).root 54).map double.write = _
    rw [hp]; rfl
  have hsb : Bd (double.write p) 1 := write_bd hpl (by omega) (by omega)
  obtain ⟨cs, hcs, ecs⟩ := pos_write hpp hsb
  have hfs : fsq (fadd 4607182418800017408 (fmul t t)) = double.write p := by unfold fsq; rw [hsq]; rfl
  have hd : Bd (fadd 4607182418800017408 (double.write p)) (1 + 1) := bd_add (bd_one.mono (by decide) : Bd 4607182418800017408 1) hsb
  have hg : Ge2 (double.read (fadd 4607182418800017408 (double.write p))) 0 := ge2_add pos_one ⟨_, _, by rw [ecs]; exact read_word double false cs hcs⟩ (by omega) hd
  have hn : Bd (fdiv t (fadd 4607182418800017408 (double.write p))) (0 - 0) := bd_div h hg
  rw [← hfs] at hsb hg hn hsq
  exact ⟨h, htt.fin, hx.fin, hsq, hsb.fin, ge2_nz hg, hn.mono (by omega)⟩

/-- a quotient that is at most 1 -/
theorem quot_one {r c : Nat} (hle : r ≤ c) (h0 : 0 < c) (hc : c < double.infRung) : Bd (fdiv (double.word false r) (double.word false c)) 0 ∧ NZ (double.word false c) := by
  have hr : r < double.infRung := Nat.lt_of_le_of_lt hle hc
  have hs0 : sig double c ≠ 0 := fun h => by have := sig_zero double h; omega
  have hu := (un_le_iff double _ _).2 hle
  refine ⟨?_, ⟨_, _, _, read_word double false c hc, hs0⟩⟩
  obtain ⟨p, hp, hl⟩ := le2_quotient_one 54 (s := false) (t := false) (m := sig double r) (y := sig double c) (i := double.leastPlace + (exq double r : Nat)) (j := double.leastPlace + (exq double c : Nat)) (B := double.leastPlace) hs0 (by omega) (by omega) (by
    intro hm
    have h1 := sig_zero double hm
    have h2 : exq double r = 0 := by rw [h1]; rfl
    omega) (by
    have e1 : (double.leastPlace + ((exq double r : Nat) : Int) - double.leastPlace).toNat = exq double r := by omega
    have e2 : (double.leastPlace + ((exq double c : Nat) : Int) - double.leastPlace).toNat = exq double c := by omega
    rw [e1, e2]; exact hu)
  have e : fdiv (double.word false r) (double.word false c) = double.write p := by
    show ((((double.read (double.word false r)).quotient 54 (double.read (double.word false c))).map double.write).getD 0) = _
    rw [read_word double false r hr, read_word double false c hc, hp]; rfl
  rw [e]; exact write_bd hl (by omega) (by omega)
/-- a quotient of two that are not both zero is some word -/
theorem quot_any {r c : Nat} (hr : r < double.infRung) (hc : c < double.infRung) (h : 0 < r ∨ 0 < c) : ∃ q, floatBits .quo .f64 (double.word false r) (double.word false c) = some q := by
  by_cases h0 : 0 < c
  · have hs0 : sig double c ≠ 0 := fun h => by have := sig_zero double h; omega
    exact ⟨_, div_ok ⟨_, _, _, read_word double false r hr⟩ ⟨_, _, _, read_word double false c hc, hs0⟩⟩
  · have hc0 : c = 0 := by omega
    subst hc0
    have hs0 : sig double r ≠ 0 := fun h => by have := sig_zero double h; omega
    have hz : sig double 0 = 0 := by decide
    refine ⟨double.write (.infinity (false ^^ false)), ?_⟩
    show ((double.read (double.word false r)).quotient 54 (double.read (double.word false 0))).map double.write = _
    rw [read_word double false r hr, read_word double false 0 hc]
    unfold Datum.quotient
    simp only []
    rw [if_pos hz, if_neg hs0]
    rfl

/-! the series -/
def kA (j : Nat) : Int := 15 - 2 * (j : Int)
def angS (u : Nat) : Nat → Nat
  | 0 => 0
  | j + 1 => fsub (fdiv 4607182418800017408 (floatOfInt .f64 (kA j))) (fmul u (angS u j))
theorem kA_ge (j : Nat) (h : j < 8) : Ge2 (double.read (floatOfInt .f64 (kA j))) 0 := by
  have : j = 0 ∨ j = 1 ∨ j = 2 ∨ j = 3 ∨ j = 4 ∨ j = 5 ∨ j = 6 ∨ j = 7 := by omega
  rcases this with rfl | rfl | rfl | rfl | rfl | rfl | rfl | rfl <;> exact ⟨_, _, _, 52, rfl, by decide, by decide⟩
theorem angS_bd {u : Nat} (hu : Bd u 0) : ∀ j : Nat, j ≤ 8 → Bd (angS u j) j := by
  intro j
  induction j with
  | zero => intro _; exact bd_zero
  | succ j ih =>
    intro hj
    have h1 := ih (by omega)
    have h2 : Bd (fmul u (angS u j)) (0 + j) := bd_mul hu h1
    have h3 : Bd (fdiv 4607182418800017408 (floatOfInt .f64 (kA j))) (0 - 0) := bd_div bd_one (kA_ge j (by omega))
    have h4 : Bd (angS u (j + 1)) (0 + j + 1) := bd_sub (h3.mono (by omega)) h2
    exact h4.mono (by omega)
theorem angS_facts {u : Nat} (hu : Bd u 0) (j : Nat) (hj : j < 8) : Fnt (angS u j) ∧ Fnt (fmul u (angS u j)) ∧ NZ (floatOfInt .f64 (kA j)) ∧ Fnt (fdiv 4607182418800017408 (floatOfInt .f64 (kA j))) := by
  have h1 := angS_bd hu j (by omega)
  have h2 : Bd (fmul u (angS u j)) (0 + j) := bd_mul hu h1
  have h3 : Bd (fdiv 4607182418800017408 (floatOfInt .f64 (kA j))) (0 - 0) := bd_div bd_one (kA_ge j hj)
  exact ⟨h1.fin, h2.fin, ge2_nz (kA_ge j hj), h3.fin⟩

theorem bd_eight : Bd 4620693217682128896 3 := ⟨by decide, _, _, _, 52, rfl, by decide, by decide⟩
theorem ge_turn : Ge2 (double.read 4618760256179416344) 2 := ⟨_, _, _, 52, rfl, by decide, by decide⟩
def ang0 (t : Nat) : Nat := fdiv (fmul 4620693217682128896 (fmul t (angS (fmul t t) 8))) 4618760256179416344
def ang1 (o : Bool) (a : Nat) : Nat := if o then fsub 4598175219545276416 a else a
def ang2 (o : Bool) (a : Nat) : Nat := if o then fsub 4602678819172646912 a else a
def ang3 (o : Bool) (a : Nat) : Nat := if o then Op.negFloat .f64 a else a
/-- all that a walk asks behind the halvings -/
structure AngOK (t : Nat) (o xn yn : Bool) : Prop where
  tf : Fnt t
  u : Bd (fmul t t) 0
  p : Fnt (angS (fmul t t) 8)
  tp : Fnt (fmul t (angS (fmul t t) 8))
  e : Fnt (fmul 4620693217682128896 (fmul t (angS (fmul t t) 8)))
  a0 : Fnt (ang0 t)
  a1 : Fnt (ang1 o (ang0 t))
  a2 : Fnt (ang2 xn (ang1 o (ang0 t)))
  a3 : Bd (ang3 yn (ang2 xn (ang1 o (ang0 t)))) 127
theorem ang_ok {t : Nat} (o xn yn : Bool) (h : Bd t 0) : AngOK t o xn yn := by
  have hu : Bd (fmul t t) (0 + 0) := bd_mul h h
  have hp := angS_bd hu 8 (by omega)
  have htp := bd_mul h hp
  have he := bd_mul bd_eight htp
  have h0 : Bd (ang0 t) (3 + (0 + ((8 : Nat) : Int)) - 2) := bd_div he ge_turn
  have h0' := (h0.mono (by omega) : Bd (ang0 t) 9)
  have h1 : Bd (ang1 o (ang0 t)) (9 + 1) := by
    unfold ang1
    split
    · exact bd_sub (bd_quarter.mono (by omega)) h0'
    · exact h0'.mono (by omega)
  have h2 : Bd (ang2 xn (ang1 o (ang0 t))) (9 + 1 + 1) := by
    unfold ang2
    split
    · exact bd_sub (bd_half.mono (by omega)) h1
    · exact h1.mono (by omega)
  have h3 : Bd (ang3 yn (ang2 xn (ang1 o (ang0 t)))) (9 + 1 + 1) := by
    unfold ang3
    split
    · exact bd_neg h2
    · exact h2
  exact ⟨h.fin, hu.mono (by omega), hp.fin, htp.fin, he.fin, h0.fin, h1.fin, h2.fin, h3.mono (by omega)⟩

/-- the halvings -/
def halfT (t : Nat) : Nat → Nat
  | 0 => t
  | j + 1 => fdiv (halfT t j) (fadd 4607182418800017408 (fsq (fadd 4607182418800017408 (fmul (halfT t j) (halfT t j)))))
theorem half_bd {t : Nat} (h : Bd t 0) : ∀ j, Bd (halfT t j) 0
  | 0 => h
  | j + 1 => (half_ok (half_bd h j)).n

/-- a float32 and the same as a double, against zero -/
theorem order_zero {x r' : Nat} (hx : x < 4294967296) (hf : x % single.signWeight < single.infRung) (h1 : r' < double.infRung) (h2 : un double r' = un single (x % single.signWeight) * 2 ^ 925) :
    (FloatKind.f64.format.order (double.word (decide (2147483648 ≤ x)) r') 0 == some .lt) = (FloatKind.f32.format.order x 0 == some .lt) ∧
    (FloatKind.f64.format.order (double.word (decide (2147483648 ≤ x)) r') 0 == some .eq) = (FloatKind.f32.format.order x 0 == some .eq) := by
  have hr := read_rung single x hf
  have h0 : single.read 0 = .number false (sig single 0) (single.leastPlace + (exq single 0 : Nat)) := read_word single false 0 (by decide)
  have hz : un single 0 = 0 := un_small single (by decide)
  have hzd : un double 0 = 0 := un_small double (by decide)
  have ho : FloatKind.f32.format.order x 0 = some (compare (if (x / single.signWeight % 2 == 1) then -(un single (x % single.signWeight) : Int) else (un single (x % single.signWeight) : Int)) (if false = true then -(un single 0 : Int) else (un single 0 : Int))) := by
    show (single.read x).order (single.read 0) = _
    rw [hr, h0, order_number]
  have hd : FloatKind.f64.format.order (double.word (decide (2147483648 ≤ x)) r') 0 = some (compare (sun (decide (2147483648 ≤ x)) r') (sun false 0)) := order_fin _ false h1 (by decide)
  rw [sign_single hx, hz] at ho
  unfold sun at hd
  rw [hzd, h2] at hd
  rw [ho, hd, cmp_lt, cmp_lt, cmp_eq, cmp_eq]
  have hp := Nat.two_pow_pos 925
  generalize un single (x % single.signWeight) = a
  clear h2 hd ho
  generalize 2 ^ 925 = P at hp ⊢
  have hza : a * P = 0 ↔ a = 0 := by
    constructor
    · intro h
      rcases Nat.mul_eq_zero.1 h with h | h
      · exact h
      · omega
    · intro h; rw [h, Nat.zero_mul]
  generalize a * P = b at hza
  cases decide (2147483648 ≤ x)
  · simp only [Bool.false_eq_true, if_false]
    refine ⟨?_, ?_⟩
    · congr 1; exact propext ⟨fun h => by omega, fun h => by omega⟩
    · congr 1; exact propext ⟨fun h => by omega, fun h => by omega⟩
  · simp only [if_true, Bool.false_eq_true, if_false]
    refine ⟨?_, ?_⟩
    · congr 1; exact propext ⟨fun h => by omega, fun h => by omega⟩
    · congr 1; exact propext ⟨fun h => by omega, fun h => by omega⟩
end Go.Proofs.YtiabbafmjgiobaaGreatDoor.Fl

/-
Contracts and walk of the law on AngleTurns.
-/
set_option linter.unusedVariables false
set_option linter.unusedSimpArgs false
namespace Go.Proofs.YtiabbafmjgiobaaGreatDoor
open Fl Go.RowKit

@[go_sem] theorem x_sqrt_ok {x r : Nat} (h : FloatKind.f64.format.sqrt x = some r) (w : World) : (callFunc 70 #[.float .f64 x]).run Tryz.prog w = .ok (.value (.float .f64 r)) w := by
  rw [x_sqrt]
  have e : Extern.MathSqrt.sqrt #[.float .f64 x] = (match FloatKind.f64.format.sqrt x with | some r => pure (.float .f64 r) | none => do pure (.float .f64 (← choose (.nanBits .f64 x x)))) := rfl
  rw [e, h]; rfl
theorem c_sqrt_ok (x r : Nat) (h : FloatKind.f64.format.sqrt x = some r) (w : World) : Calls Tryz.prog 44 #[.float .f64 x] w fun e w' => e = .returned (.float .f64 r) ∧ w = w' := by
  go_enter Tryz.func44, Tryz.ntmps44
  go_wp2_with fail
  go_ret
  exact ⟨rfl, rfl⟩

/-- the series' counter -/
theorem kA_round (j : Nat) (h : j < 8) : fsub (floatOfInt .f64 (kA j)) 4611686018427387904 = floatOfInt .f64 (kA (j + 1)) ∧
    ((FloatKind.f64.format.order (floatOfInt .f64 (kA j)) 4607182418800017408 == some .gt) || (FloatKind.f64.format.order (floatOfInt .f64 (kA j)) 4607182418800017408 == some .eq)) = true ∧
    mk (floatOfInt .f64 (kA (j + 1))) < mk (floatOfInt .f64 (kA j)) ∧ Fnt (floatOfInt .f64 (kA j)) := by
  have : j = 0 ∨ j = 1 ∨ j = 2 ∨ j = 3 ∨ j = 4 ∨ j = 5 ∨ j = 6 ∨ j = 7 := by omega
  rcases this with rfl | rfl | rfl | rfl | rfl | rfl | rfl | rfl <;> exact ⟨rfl, by decide, by decide, fin_lit _ (by decide)⟩
theorem kA_end : ((FloatKind.f64.format.order (floatOfInt .f64 (kA 8)) 4607182418800017408 == some .gt) || (FloatKind.f64.format.order (floatOfInt .f64 (kA 8)) 4607182418800017408 == some .eq)) = false := by decide

/-- what a walk asks of the halvings -/
def Halves (T : Nat → Nat) : Prop := ∀ j, j < 3 → Fnt (T j) ∧ Fnt (fmul (T j) (T j)) ∧ Fnt (fadd 4607182418800017408 (fmul (T j) (T j))) ∧ ∃ s, FloatKind.f64.format.sqrt (fadd 4607182418800017408 (fmul (T j) (T j))) = some s ∧ Fnt s ∧ NZ (fadd 4607182418800017408 s) ∧ fdiv (T j) (fadd 4607182418800017408 s) = T (j + 1)
theorem halves {t : Nat} (h : Bd t 0) : Halves (halfT t) := by
  intro j _
  have H := half_ok (half_bd h j)
  exact ⟨H.tf.fin, H.tt, H.x, _, H.s, H.fs, H.nz, rfl⟩
theorem fin_eight : Fnt 4620693217682128896 := bd_eight.fin
theorem nz_turn : NZ 4618760256179416344 := ge2_nz ge_turn

theorem c_angle00 (y x y' x' : Nat) (T : Nat → Nat) (xn yn : Bool) (v : Nat) (hfy : isFin (fv .f32 y) = true) (hfx : isFin (fv .f32 x) = true) (hcy : ∀ w, (convert 28 46 (.float .f32 y)).run Tryz.prog w = .ok (.float .f64 y') w) (hcx : ∀ w, (convert 28 46 (.float .f32 x)).run Tryz.prog w = .ok (.float .f64 x') w)
    (hy : y' < 18446744073709551616) (hx : x' < 18446744073709551616) (hz : (FloatKind.f32.format.order x 0 == some .eq) = false)
    (ho : (FloatKind.f64.format.order (y' % 9223372036854775808) (x' % 9223372036854775808) == some .gt) = false) (Fa : Fnt (y' % 9223372036854775808)) (Fb : Fnt (x' % 9223372036854775808)) (nz : NZ (x' % 9223372036854775808))
    (q : Nat) (hq : ∀ w, (binOp .quo 46 (.float .f64 (y' % 9223372036854775808)) (.float .f64 (x' % 9223372036854775808))).run Tryz.prog w = .ok (.float .f64 q) w)
    (hT0 : q = T 0) (hT : Halves T) (hL : AngOK (T 3) false xn yn) (hxn : (FloatKind.f32.format.order x 0 == some .lt) = xn) (hyn : (FloatKind.f32.format.order y 0 == some .lt) = yn)
    (hN : ∀ w, (convert 46 28 (.float .f64 (ang3 yn (ang2 xn (ang1 false (ang0 (T 3))))))).run Tryz.prog w = .ok (.float .f32 v) w) (w : World) :
    Calls Tryz.prog 34 #[.float .f32 y, .float .f32 x] w fun e w' => e = .returned (.float .f32 v) ∧ ∃ n, w' = w.drewN n := by
  have HT : Hid _ := hT
  have HL : Hid _ := hL
  have HN : Hid _ := hN
  have IY : Hid _ := c_implIsFinite y
  have IX : Hid _ := c_implIsFinite x
  have AY : Hid _ := c_abs y' hy
  have AX : Hid _ := c_abs x' hx
  have IYf : Hid _ := hfy
  have IXf : Hid _ := hfx
  clear hT hL hy hx hN hfy hfx
  have h1 := fin_one
  have h8 := fin_eight
  have h2 := fin_two
  have ht := nz_turn
  have hqf : Fnt 4598175219545276416 := bd_quarter.fin
  have hhf := fin_half
  generalize y' % 9223372036854775808 = a at *
  generalize x' % 9223372036854775808 = b at *
  clear nz
  go_enter Tryz.func34, Tryz.ntmps34
  go_wp2_with (first | (go_at_call 61; first | ((with_reducible refine (IY.out _).mono ?_); rw [IYf.out]; rintro e w' ⟨rfl, n, rfl⟩) | ((with_reducible refine (IX.out _).mono ?_); rw [IXf.out]; rintro e w' ⟨rfl, n', rfl⟩)) | (go_at_call 65; first | ((with_reducible refine (AY.out _).mono ?_); rintro e w' ⟨rfl, rfl⟩) | ((with_reducible refine (AX.out _).mono ?_); rintro e w' ⟨rfl, rfl⟩)))
  clear hz hcy hcx hq hT0 IY IX AY AX IYf IXf
  go_loop [7, 43] (fun v i => ∃ j : Nat, j ≤ 3 ∧ v = .float .f64 (T j) ∧ i = .int .i64 j) (fun _ i => 3 - (intOf i).toNat)
  case atStart => exact ⟨0, Nat.zero_le _, rfl, rfl⟩
  case round =>
    obtain ⟨j, hj, rfl, rfl⟩ := hrel
    by_cases hlt : j < 3
    · obtain ⟨a1, a2, a3, s, a4, a5, a6, a7⟩ := HT.out j hlt
      have CS : Hid _ := c_sqrt_ok _ _ a4
      obtain ⟨g', eg⟩ : ∃ g', T (j + 1) = g' := ⟨_, rfl⟩
      rw [eg] at a7
      have HG : Hid _ := eg
      clear eg a4
      generalize T j = g at *
      have hj3 : (j : Int) < 3 := by omega
      go_wp2_with (go_at_call 44; refine (CS.out _).mono ?_; rintro e w' ⟨rfl, rfl⟩)
      go_round
      case rel => exact ⟨j + 1, by omega, by rw [HG.out], by go_num⟩
      case measure => simp [intOf]; omega
    · have h3 : j = 3 := by omega
      subst h3
      have L := HL.out
      obtain ⟨t, et⟩ : ∃ t, T 3 = t := ⟨_, rfl⟩
      rw [et] at L
      rw [et]
      have Lt := L.tf
      have Lu := L.u
      have Lp := L.p
      have Ltp := L.tp
      have Le := L.e
      have L0 := L.a0
      have L1 := L.a1
      obtain ⟨u, eu⟩ : ∃ u, fmul t t = u := ⟨_, rfl⟩
      rw [eu] at Lu Lp Ltp Le
      obtain ⟨A0, e0⟩ : ∃ A0, ang0 t = A0 := ⟨_, rfl⟩
      rw [e0] at L0 L1
      have e0' : fdiv (fmul 4620693217682128896 (fmul t (angS u 8))) 4618760256179416344 = A0 := by rw [← e0, ← eu]; rfl
      have L1' : Fnt (A0) := L1
      have HA : Hid (ang0 (T 3) = A0) := by
        show ang0 (T 3) = A0
        rw [et]; exact e0
      clear et e0 L1 L
      have LU : Hid _ := Lu
      have Lf := Lu.fin
      clear Lu
      go_wp2_with fail
      clear eu
      go_loop [9, 10] (fun v i => ∃ i' : Nat, i' ≤ 8 ∧ v = .float .f64 (angS u i') ∧ i = .float .f64 (floatOfInt .f64 (kA i'))) (fun _ k => mk (bitsF k))
      case atStart => exact ⟨0, Nat.zero_le _, rfl, rfl⟩
      case round =>
        obtain ⟨i, hi, rfl, rfl⟩ := hrel
        by_cases hlt : i < 8
        · obtain ⟨b1, b2, b3, b4⟩ := angS_facts LU.out i hlt
          obtain ⟨c1, c2, c3, c4⟩ := kA_round i hlt
          have C3 : Hid _ := c3
          have HL0 : Hid _ := L0
          have HLp : Hid _ := Lp
          clear c3 Ltp Le e0' L1' L0 Lp
          have b5 : fsub (fdiv 4607182418800017408 (floatOfInt .f64 (kA i))) (fmul u (angS u i)) = angS u (i + 1) := rfl
          go_wp2_with fail
          go_round
          case rel => exact ⟨i + 1, by omega, rfl, rfl⟩
          case measure => exact C3.out
        · have h8 : i = 8 := by omega
          subst h8
          have hk := kA_end
          have hn := HN.out
          rw [HA.out] at hn
          clear hlt hi
          cases xn <;> cases yn
          all_goals simp only [ang1, ang2, ang3, if_true, if_false, Bool.false_eq_true] at hn
          all_goals go_wp2_with fail
          all_goals go_ret
          all_goals exact ⟨rfl, _, rfl⟩
theorem c_angle01 (y x y' x' : Nat) (T : Nat → Nat) (xn yn : Bool) (v : Nat) (hfy : isFin (fv .f32 y) = true) (hfx : isFin (fv .f32 x) = true) (hcy : ∀ w, (convert 28 46 (.float .f32 y)).run Tryz.prog w = .ok (.float .f64 y') w) (hcx : ∀ w, (convert 28 46 (.float .f32 x)).run Tryz.prog w = .ok (.float .f64 x') w)
    (hy : y' < 18446744073709551616) (hx : x' < 18446744073709551616) (hz : (FloatKind.f32.format.order x 0 == some .eq) = true) (hz' : (FloatKind.f32.format.order y 0 == some .eq) = false)
    (ho : (FloatKind.f64.format.order (y' % 9223372036854775808) (x' % 9223372036854775808) == some .gt) = false) (Fa : Fnt (y' % 9223372036854775808)) (Fb : Fnt (x' % 9223372036854775808)) (nz : NZ (x' % 9223372036854775808))
    (q : Nat) (hq : ∀ w, (binOp .quo 46 (.float .f64 (y' % 9223372036854775808)) (.float .f64 (x' % 9223372036854775808))).run Tryz.prog w = .ok (.float .f64 q) w)
    (hT0 : q = T 0) (hT : Halves T) (hL : AngOK (T 3) false xn yn) (hxn : (FloatKind.f32.format.order x 0 == some .lt) = xn) (hyn : (FloatKind.f32.format.order y 0 == some .lt) = yn)
    (hN : ∀ w, (convert 46 28 (.float .f64 (ang3 yn (ang2 xn (ang1 false (ang0 (T 3))))))).run Tryz.prog w = .ok (.float .f32 v) w) (w : World) :
    Calls Tryz.prog 34 #[.float .f32 y, .float .f32 x] w fun e w' => e = .returned (.float .f32 v) ∧ ∃ n, w' = w.drewN n := by
  have HT : Hid _ := hT
  have HL : Hid _ := hL
  have HN : Hid _ := hN
  have IY : Hid _ := c_implIsFinite y
  have IX : Hid _ := c_implIsFinite x
  have AY : Hid _ := c_abs y' hy
  have AX : Hid _ := c_abs x' hx
  have IYf : Hid _ := hfy
  have IXf : Hid _ := hfx
  clear hT hL hy hx hN hfy hfx
  have h1 := fin_one
  have h8 := fin_eight
  have h2 := fin_two
  have ht := nz_turn
  have hqf : Fnt 4598175219545276416 := bd_quarter.fin
  have hhf := fin_half
  generalize y' % 9223372036854775808 = a at *
  generalize x' % 9223372036854775808 = b at *
  clear nz
  go_enter Tryz.func34, Tryz.ntmps34
  go_wp2_with (first | (go_at_call 61; first | ((with_reducible refine (IY.out _).mono ?_); rw [IYf.out]; rintro e w' ⟨rfl, n, rfl⟩) | ((with_reducible refine (IX.out _).mono ?_); rw [IXf.out]; rintro e w' ⟨rfl, n', rfl⟩)) | (go_at_call 65; first | ((with_reducible refine (AY.out _).mono ?_); rintro e w' ⟨rfl, rfl⟩) | ((with_reducible refine (AX.out _).mono ?_); rintro e w' ⟨rfl, rfl⟩)))
  clear hz hcy hcx hq hT0 IY IX AY AX IYf IXf hz'
  go_loop [7, 43] (fun v i => ∃ j : Nat, j ≤ 3 ∧ v = .float .f64 (T j) ∧ i = .int .i64 j) (fun _ i => 3 - (intOf i).toNat)
  case atStart => exact ⟨0, Nat.zero_le _, rfl, rfl⟩
  case round =>
    obtain ⟨j, hj, rfl, rfl⟩ := hrel
    by_cases hlt : j < 3
    · obtain ⟨a1, a2, a3, s, a4, a5, a6, a7⟩ := HT.out j hlt
      have CS : Hid _ := c_sqrt_ok _ _ a4
      obtain ⟨g', eg⟩ : ∃ g', T (j + 1) = g' := ⟨_, rfl⟩
      rw [eg] at a7
      have HG : Hid _ := eg
      clear eg a4
      generalize T j = g at *
      have hj3 : (j : Int) < 3 := by omega
      go_wp2_with (go_at_call 44; refine (CS.out _).mono ?_; rintro e w' ⟨rfl, rfl⟩)
      go_round
      case rel => exact ⟨j + 1, by omega, by rw [HG.out], by go_num⟩
      case measure => simp [intOf]; omega
    · have h3 : j = 3 := by omega
      subst h3
      have L := HL.out
      obtain ⟨t, et⟩ : ∃ t, T 3 = t := ⟨_, rfl⟩
      rw [et] at L
      rw [et]
      have Lt := L.tf
      have Lu := L.u
      have Lp := L.p
      have Ltp := L.tp
      have Le := L.e
      have L0 := L.a0
      have L1 := L.a1
      obtain ⟨u, eu⟩ : ∃ u, fmul t t = u := ⟨_, rfl⟩
      rw [eu] at Lu Lp Ltp Le
      obtain ⟨A0, e0⟩ : ∃ A0, ang0 t = A0 := ⟨_, rfl⟩
      rw [e0] at L0 L1
      have e0' : fdiv (fmul 4620693217682128896 (fmul t (angS u 8))) 4618760256179416344 = A0 := by rw [← e0, ← eu]; rfl
      have L1' : Fnt (A0) := L1
      have HA : Hid (ang0 (T 3) = A0) := by
        show ang0 (T 3) = A0
        rw [et]; exact e0
      clear et e0 L1 L
      have LU : Hid _ := Lu
      have Lf := Lu.fin
      clear Lu
      go_wp2_with fail
      clear eu
      go_loop [9, 10] (fun v i => ∃ i' : Nat, i' ≤ 8 ∧ v = .float .f64 (angS u i') ∧ i = .float .f64 (floatOfInt .f64 (kA i'))) (fun _ k => mk (bitsF k))
      case atStart => exact ⟨0, Nat.zero_le _, rfl, rfl⟩
      case round =>
        obtain ⟨i, hi, rfl, rfl⟩ := hrel
        by_cases hlt : i < 8
        · obtain ⟨b1, b2, b3, b4⟩ := angS_facts LU.out i hlt
          obtain ⟨c1, c2, c3, c4⟩ := kA_round i hlt
          have C3 : Hid _ := c3
          have HL0 : Hid _ := L0
          have HLp : Hid _ := Lp
          clear c3 Ltp Le e0' L1' L0 Lp
          have b5 : fsub (fdiv 4607182418800017408 (floatOfInt .f64 (kA i))) (fmul u (angS u i)) = angS u (i + 1) := rfl
          go_wp2_with fail
          go_round
          case rel => exact ⟨i + 1, by omega, rfl, rfl⟩
          case measure => exact C3.out
        · have h8 : i = 8 := by omega
          subst h8
          have hk := kA_end
          have hn := HN.out
          rw [HA.out] at hn
          clear hlt hi
          cases xn <;> cases yn
          all_goals simp only [ang1, ang2, ang3, if_true, if_false, Bool.false_eq_true] at hn
          all_goals go_wp2_with fail
          all_goals go_ret
          all_goals exact ⟨rfl, _, rfl⟩
theorem c_angle10 (y x y' x' : Nat) (T : Nat → Nat) (xn yn : Bool) (v : Nat) (hfy : isFin (fv .f32 y) = true) (hfx : isFin (fv .f32 x) = true) (hcy : ∀ w, (convert 28 46 (.float .f32 y)).run Tryz.prog w = .ok (.float .f64 y') w) (hcx : ∀ w, (convert 28 46 (.float .f32 x)).run Tryz.prog w = .ok (.float .f64 x') w)
    (hy : y' < 18446744073709551616) (hx : x' < 18446744073709551616) (hz : (FloatKind.f32.format.order x 0 == some .eq) = false)
    (ho : (FloatKind.f64.format.order (y' % 9223372036854775808) (x' % 9223372036854775808) == some .gt) = true) (Fa : Fnt (y' % 9223372036854775808)) (Fb : Fnt (x' % 9223372036854775808)) (nz : NZ (y' % 9223372036854775808))
    (q : Nat) (hq : ∀ w, (binOp .quo 46 (.float .f64 (y' % 9223372036854775808)) (.float .f64 (x' % 9223372036854775808))).run Tryz.prog w = .ok (.float .f64 q) w)
    (hT0 : fdiv (x' % 9223372036854775808) (y' % 9223372036854775808) = T 0) (hT : Halves T) (hL : AngOK (T 3) true xn yn) (hxn : (FloatKind.f32.format.order x 0 == some .lt) = xn) (hyn : (FloatKind.f32.format.order y 0 == some .lt) = yn)
    (hN : ∀ w, (convert 46 28 (.float .f64 (ang3 yn (ang2 xn (ang1 true (ang0 (T 3))))))).run Tryz.prog w = .ok (.float .f32 v) w) (w : World) :
    Calls Tryz.prog 34 #[.float .f32 y, .float .f32 x] w fun e w' => e = .returned (.float .f32 v) ∧ ∃ n, w' = w.drewN n := by
  have HT : Hid _ := hT
  have HL : Hid _ := hL
  have HN : Hid _ := hN
  have IY : Hid _ := c_implIsFinite y
  have IX : Hid _ := c_implIsFinite x
  have AY : Hid _ := c_abs y' hy
  have AX : Hid _ := c_abs x' hx
  have IYf : Hid _ := hfy
  have IXf : Hid _ := hfx
  clear hT hL hy hx hN hfy hfx
  have h1 := fin_one
  have h8 := fin_eight
  have h2 := fin_two
  have ht := nz_turn
  have hqf : Fnt 4598175219545276416 := bd_quarter.fin
  have hhf := fin_half
  generalize y' % 9223372036854775808 = a at *
  generalize x' % 9223372036854775808 = b at *
  skip
  go_enter Tryz.func34, Tryz.ntmps34
  go_wp2_with (first | (go_at_call 61; first | ((with_reducible refine (IY.out _).mono ?_); rw [IYf.out]; rintro e w' ⟨rfl, n, rfl⟩) | ((with_reducible refine (IX.out _).mono ?_); rw [IXf.out]; rintro e w' ⟨rfl, n', rfl⟩)) | (go_at_call 65; first | ((with_reducible refine (AY.out _).mono ?_); rintro e w' ⟨rfl, rfl⟩) | ((with_reducible refine (AX.out _).mono ?_); rintro e w' ⟨rfl, rfl⟩)))
  clear hz hcy hcx hq hT0 IY IX AY AX IYf IXf nz
  go_loop [7, 43] (fun v i => ∃ j : Nat, j ≤ 3 ∧ v = .float .f64 (T j) ∧ i = .int .i64 j) (fun _ i => 3 - (intOf i).toNat)
  case atStart => exact ⟨0, Nat.zero_le _, rfl, rfl⟩
  case round =>
    obtain ⟨j, hj, rfl, rfl⟩ := hrel
    by_cases hlt : j < 3
    · obtain ⟨a1, a2, a3, s, a4, a5, a6, a7⟩ := HT.out j hlt
      have CS : Hid _ := c_sqrt_ok _ _ a4
      obtain ⟨g', eg⟩ : ∃ g', T (j + 1) = g' := ⟨_, rfl⟩
      rw [eg] at a7
      have HG : Hid _ := eg
      clear eg a4
      generalize T j = g at *
      have hj3 : (j : Int) < 3 := by omega
      go_wp2_with (go_at_call 44; refine (CS.out _).mono ?_; rintro e w' ⟨rfl, rfl⟩)
      go_round
      case rel => exact ⟨j + 1, by omega, by rw [HG.out], by go_num⟩
      case measure => simp [intOf]; omega
    · have h3 : j = 3 := by omega
      subst h3
      have L := HL.out
      obtain ⟨t, et⟩ : ∃ t, T 3 = t := ⟨_, rfl⟩
      rw [et] at L
      rw [et]
      have Lt := L.tf
      have Lu := L.u
      have Lp := L.p
      have Ltp := L.tp
      have Le := L.e
      have L0 := L.a0
      have L1 := L.a1
      obtain ⟨u, eu⟩ : ∃ u, fmul t t = u := ⟨_, rfl⟩
      rw [eu] at Lu Lp Ltp Le
      obtain ⟨A0, e0⟩ : ∃ A0, ang0 t = A0 := ⟨_, rfl⟩
      rw [e0] at L0 L1
      have e0' : fdiv (fmul 4620693217682128896 (fmul t (angS u 8))) 4618760256179416344 = A0 := by rw [← e0, ← eu]; rfl
      have L1' : Fnt (fsub 4598175219545276416 A0) := L1
      have HA : Hid (ang0 (T 3) = A0) := by
        show ang0 (T 3) = A0
        rw [et]; exact e0
      clear et e0 L1 L
      have LU : Hid _ := Lu
      have Lf := Lu.fin
      clear Lu
      go_wp2_with fail
      clear eu
      go_loop [9, 10] (fun v i => ∃ i' : Nat, i' ≤ 8 ∧ v = .float .f64 (angS u i') ∧ i = .float .f64 (floatOfInt .f64 (kA i'))) (fun _ k => mk (bitsF k))
      case atStart => exact ⟨0, Nat.zero_le _, rfl, rfl⟩
      case round =>
        obtain ⟨i, hi, rfl, rfl⟩ := hrel
        by_cases hlt : i < 8
        · obtain ⟨b1, b2, b3, b4⟩ := angS_facts LU.out i hlt
          obtain ⟨c1, c2, c3, c4⟩ := kA_round i hlt
          have C3 : Hid _ := c3
          have HL0 : Hid _ := L0
          have HLp : Hid _ := Lp
          clear c3 Ltp Le e0' L1' L0 Lp
          have b5 : fsub (fdiv 4607182418800017408 (floatOfInt .f64 (kA i))) (fmul u (angS u i)) = angS u (i + 1) := rfl
          go_wp2_with fail
          go_round
          case rel => exact ⟨i + 1, by omega, rfl, rfl⟩
          case measure => exact C3.out
        · have h8 : i = 8 := by omega
          subst h8
          have hk := kA_end
          have hn := HN.out
          rw [HA.out] at hn
          clear hlt hi
          cases xn <;> cases yn
          all_goals simp only [ang1, ang2, ang3, if_true, if_false, Bool.false_eq_true] at hn
          all_goals go_wp2_with fail
          all_goals go_ret
          all_goals exact ⟨rfl, _, rfl⟩
theorem c_angle11 (y x y' x' : Nat) (T : Nat → Nat) (xn yn : Bool) (v : Nat) (hfy : isFin (fv .f32 y) = true) (hfx : isFin (fv .f32 x) = true) (hcy : ∀ w, (convert 28 46 (.float .f32 y)).run Tryz.prog w = .ok (.float .f64 y') w) (hcx : ∀ w, (convert 28 46 (.float .f32 x)).run Tryz.prog w = .ok (.float .f64 x') w)
    (hy : y' < 18446744073709551616) (hx : x' < 18446744073709551616) (hz : (FloatKind.f32.format.order x 0 == some .eq) = true) (hz' : (FloatKind.f32.format.order y 0 == some .eq) = false)
    (ho : (FloatKind.f64.format.order (y' % 9223372036854775808) (x' % 9223372036854775808) == some .gt) = true) (Fa : Fnt (y' % 9223372036854775808)) (Fb : Fnt (x' % 9223372036854775808)) (nz : NZ (y' % 9223372036854775808))
    (q : Nat) (hq : ∀ w, (binOp .quo 46 (.float .f64 (y' % 9223372036854775808)) (.float .f64 (x' % 9223372036854775808))).run Tryz.prog w = .ok (.float .f64 q) w)
    (hT0 : fdiv (x' % 9223372036854775808) (y' % 9223372036854775808) = T 0) (hT : Halves T) (hL : AngOK (T 3) true xn yn) (hxn : (FloatKind.f32.format.order x 0 == some .lt) = xn) (hyn : (FloatKind.f32.format.order y 0 == some .lt) = yn)
    (hN : ∀ w, (convert 46 28 (.float .f64 (ang3 yn (ang2 xn (ang1 true (ang0 (T 3))))))).run Tryz.prog w = .ok (.float .f32 v) w) (w : World) :
    Calls Tryz.prog 34 #[.float .f32 y, .float .f32 x] w fun e w' => e = .returned (.float .f32 v) ∧ ∃ n, w' = w.drewN n := by
  have HT : Hid _ := hT
  have HL : Hid _ := hL
  have HN : Hid _ := hN
  have IY : Hid _ := c_implIsFinite y
  have IX : Hid _ := c_implIsFinite x
  have AY : Hid _ := c_abs y' hy
  have AX : Hid _ := c_abs x' hx
  have IYf : Hid _ := hfy
  have IXf : Hid _ := hfx
  clear hT hL hy hx hN hfy hfx
  have h1 := fin_one
  have h8 := fin_eight
  have h2 := fin_two
  have ht := nz_turn
  have hqf : Fnt 4598175219545276416 := bd_quarter.fin
  have hhf := fin_half
  generalize y' % 9223372036854775808 = a at *
  generalize x' % 9223372036854775808 = b at *
  skip
  go_enter Tryz.func34, Tryz.ntmps34
  go_wp2_with (first | (go_at_call 61; first | ((with_reducible refine (IY.out _).mono ?_); rw [IYf.out]; rintro e w' ⟨rfl, n, rfl⟩) | ((with_reducible refine (IX.out _).mono ?_); rw [IXf.out]; rintro e w' ⟨rfl, n', rfl⟩)) | (go_at_call 65; first | ((with_reducible refine (AY.out _).mono ?_); rintro e w' ⟨rfl, rfl⟩) | ((with_reducible refine (AX.out _).mono ?_); rintro e w' ⟨rfl, rfl⟩)))
  clear hz hcy hcx hq hT0 IY IX AY AX IYf IXf hz' nz
  go_loop [7, 43] (fun v i => ∃ j : Nat, j ≤ 3 ∧ v = .float .f64 (T j) ∧ i = .int .i64 j) (fun _ i => 3 - (intOf i).toNat)
  case atStart => exact ⟨0, Nat.zero_le _, rfl, rfl⟩
  case round =>
    obtain ⟨j, hj, rfl, rfl⟩ := hrel
    by_cases hlt : j < 3
    · obtain ⟨a1, a2, a3, s, a4, a5, a6, a7⟩ := HT.out j hlt
      have CS : Hid _ := c_sqrt_ok _ _ a4
      obtain ⟨g', eg⟩ : ∃ g', T (j + 1) = g' := ⟨_, rfl⟩
      rw [eg] at a7
      have HG : Hid _ := eg
      clear eg a4
      generalize T j = g at *
      have hj3 : (j : Int) < 3 := by omega
      go_wp2_with (go_at_call 44; refine (CS.out _).mono ?_; rintro e w' ⟨rfl, rfl⟩)
      go_round
      case rel => exact ⟨j + 1, by omega, by rw [HG.out], by go_num⟩
      case measure => simp [intOf]; omega
    · have h3 : j = 3 := by omega
      subst h3
      have L := HL.out
      obtain ⟨t, et⟩ : ∃ t, T 3 = t := ⟨_, rfl⟩
      rw [et] at L
      rw [et]
      have Lt := L.tf
      have Lu := L.u
      have Lp := L.p
      have Ltp := L.tp
      have Le := L.e
      have L0 := L.a0
      have L1 := L.a1
      obtain ⟨u, eu⟩ : ∃ u, fmul t t = u := ⟨_, rfl⟩
      rw [eu] at Lu Lp Ltp Le
      obtain ⟨A0, e0⟩ : ∃ A0, ang0 t = A0 := ⟨_, rfl⟩
      rw [e0] at L0 L1
      have e0' : fdiv (fmul 4620693217682128896 (fmul t (angS u 8))) 4618760256179416344 = A0 := by rw [← e0, ← eu]; rfl
      have L1' : Fnt (fsub 4598175219545276416 A0) := L1
      have HA : Hid (ang0 (T 3) = A0) := by
        show ang0 (T 3) = A0
        rw [et]; exact e0
      clear et e0 L1 L
      have LU : Hid _ := Lu
      have Lf := Lu.fin
      clear Lu
      go_wp2_with fail
      clear eu
      go_loop [9, 10] (fun v i => ∃ i' : Nat, i' ≤ 8 ∧ v = .float .f64 (angS u i') ∧ i = .float .f64 (floatOfInt .f64 (kA i'))) (fun _ k => mk (bitsF k))
      case atStart => exact ⟨0, Nat.zero_le _, rfl, rfl⟩
      case round =>
        obtain ⟨i, hi, rfl, rfl⟩ := hrel
        by_cases hlt : i < 8
        · obtain ⟨b1, b2, b3, b4⟩ := angS_facts LU.out i hlt
          obtain ⟨c1, c2, c3, c4⟩ := kA_round i hlt
          have C3 : Hid _ := c3
          have HL0 : Hid _ := L0
          have HLp : Hid _ := Lp
          clear c3 Ltp Le e0' L1' L0 Lp
          have b5 : fsub (fdiv 4607182418800017408 (floatOfInt .f64 (kA i))) (fmul u (angS u i)) = angS u (i + 1) := rfl
          go_wp2_with fail
          go_round
          case rel => exact ⟨i + 1, by omega, rfl, rfl⟩
          case measure => exact C3.out
        · have h8 : i = 8 := by omega
          subst h8
          have hk := kA_end
          have hn := HN.out
          rw [HA.out] at hn
          clear hlt hi
          cases xn <;> cases yn
          all_goals simp only [ang1, ang2, ang3, if_true, if_false, Bool.false_eq_true] at hn
          all_goals go_wp2_with fail
          all_goals go_ret
          all_goals exact ⟨rfl, _, rfl⟩
end Go.Proofs.YtiabbafmjgiobaaGreatDoor

/-
The law on AngleTurns, over the contracts of the angles.
-/
set_option linter.unusedVariables false
set_option linter.unusedSimpArgs false
namespace Go.Proofs.YtiabbafmjgiobaaGreatDoor
open Fl Go.RowKit

/-- a finite float32 as a double: its rung, its place against zero -/
theorem widen_all {x : Nat} (hx : x < 4294967296) (hf : isFin (fv .f32 x) = true) : ∃ s r, r < Ieee.double.infRung ∧ (∀ w, (convert 28 46 (.float .f32 x)).run Tryz.prog w = .ok (.float .f64 (Ieee.double.word s r)) w) ∧
    (FloatKind.f64.format.order (Ieee.double.word s r) 0 == some .lt) = (FloatKind.f32.format.order x 0 == some .lt) ∧ (FloatKind.f64.format.order (Ieee.double.word s r) 0 == some .eq) = (FloatKind.f32.format.order x 0 == some .eq) := by
  obtain ⟨y, hF, hy, hB, hc, hconv⟩ := widen_one hx hf
  rw [isFin_iff hx] at hf
  simp only [Bool.and_eq_true, Bool.not_eq_true', decide_eq_true_eq] at hf
  obtain ⟨r', h1, h2, h3, _⟩ := widen_word hx hf.1
  rw [hc] at h2
  have e2 := Option.some.inj h2
  rw [e2] at hconv
  obtain ⟨h4, h5⟩ := h3 hf.2
  have h6 := order_zero hx hf.2 h4 h5
  exact ⟨_, r', h4, hconv, h6.1, h6.2⟩

theorem c_implAngle_nan (y x : Nat) (hf : isFin (fv .f32 x) = false ∨ isFin (fv .f32 x) = true ∧ isFin (fv .f32 y) = false) (w : World) : Calls Tryz.prog 34 #[.float .f32 y, .float .f32 x] w (RF .f32 none w) := by
  have IY : Hid _ := c_implIsFinite y
  have IX : Hid _ := c_implIsFinite x
  rcases hf with hf | ⟨hf, hf'⟩
  · have IXf : Hid _ := hf
    clear hf IY
    go_enter Tryz.func34, Tryz.ntmps34
    go_wp2_with (first | (go_at_call 61; (with_reducible refine (IX.out _).mono ?_); rw [IXf.out]; rintro e w' ⟨rfl, n', rfl⟩) | (go_at_call 66; refine (c_nan _).mono ?_; rintro e w' ⟨rfl, rfl⟩) | ((with_reducible refine upon_narrow Tryz.underlying46 Tryz.underlying28 (by decide) (by rw [fv_nan]; exact fits_none) ?_); intro q m hq))
    go_ret
    exact ⟨q, ⟨hq.1.trans (by rw [fv_nan]; rfl), hq.2⟩, rfl, _, rfl⟩
  · have IXf : Hid _ := hf
    have IYf : Hid _ := hf'
    clear hf hf'
    go_enter Tryz.func34, Tryz.ntmps34
    go_wp2_with (first | (go_at_call 61; first | ((with_reducible refine (IX.out _).mono ?_); rw [IXf.out]; rintro e w' ⟨rfl, n', rfl⟩) | ((with_reducible refine (IY.out _).mono ?_); rw [IYf.out]; rintro e w' ⟨rfl, n, rfl⟩)) | (go_at_call 66; refine (c_nan _).mono ?_; rintro e w' ⟨rfl, rfl⟩) | ((with_reducible refine upon_narrow Tryz.underlying46 Tryz.underlying28 (by decide) (by rw [fv_nan]; exact fits_none) ?_); intro q m hq))
    go_ret
    exact ⟨q, ⟨hq.1.trans (by rw [fv_nan]; rfl), hq.2⟩, rfl, _, rfl⟩
theorem c_implAngle_zero (y x : Nat) (hfy : isFin (fv .f32 y) = true) (hfx : isFin (fv .f32 x) = true) (hz : (FloatKind.f32.format.order x 0 == some .eq) = true) (hz' : (FloatKind.f32.format.order y 0 == some .eq) = true) (w : World) : Calls Tryz.prog 34 #[.float .f32 y, .float .f32 x] w (RF .f32 (some 0) w) := by
  have IY : Hid _ := c_implIsFinite y
  have IX : Hid _ := c_implIsFinite x
  have IXf : Hid _ := hfx
  have IYf : Hid _ := hfy
  clear hfx hfy
  go_enter Tryz.func34, Tryz.ntmps34
  go_wp2_with (go_at_call 61; first | ((with_reducible refine (IX.out _).mono ?_); rw [IXf.out]; rintro e w' ⟨rfl, n', rfl⟩) | ((with_reducible refine (IY.out _).mono ?_); rw [IYf.out]; rintro e w' ⟨rfl, n, rfl⟩))
  go_ret
  exact ⟨0, ⟨rfl, by decide⟩, rfl, _, rfl⟩

theorem zero_eq (s : Bool) : (FloatKind.f64.format.order (Ieee.double.word s 0) 0 == some .eq) = true := by cases s <;> decide

end Go.Proofs.YtiabbafmjgiobaaGreatDoor

/-
Contracts and the walk of the law on FlushNumber.
-/
namespace Go.Proofs.YtiabbafmjgiobaaGreatDoor
open Fl Go.RowKit

/-- a number, a zero of its sign if it is subnormal -/
def flushV (x : Nat) : Option Nat := if ((fv .f32 x).isSome && decide (x % 2147483648 < 8388608)) = true then some (x / 2147483648 * 2147483648) else fv .f32 x

theorem and_bit (a k : Nat) : a &&& 2 ^ k = a / 2 ^ k % 2 * 2 ^ k := by
  apply Nat.eq_of_testBit_eq
  intro i
  have e : a / 2 ^ k % 2 * 2 ^ k = (a / 2 ^ k % 2 ^ 1) * 2 ^ k := by rw [Nat.pow_one]
  rw [e, Nat.testBit_and, Nat.testBit_two_pow, Nat.testBit_mul_two_pow, Nat.testBit_mod_two_pow, Nat.testBit_div_two_pow]
  by_cases h : k = i
  · subst h; simp
  · by_cases h2 : k ≤ i
    · have : ¬ i - k < 1 := by omega
      simp [h, this]
    · simp [h, h2]

theorem and_sign (x : Nat) (hx : x < 4294967296) : bits .and .i64 (x : Int) 2147483648 = ((x / 2147483648 * 2147483648 : Nat) : Int) := by
  have h := i64_and_nat x 2147483648 (by omega) (by decide)
  rw [show ((2147483648 : Nat) : Int) = 2147483648 from rfl] at h
  have e : x &&& 2147483648 = x / 2147483648 % 2 * 2147483648 := and_bit x 31
  rw [h, e]
  omega
theorem u64_sign (x : Nat) (hx : x < 18446744073709551616) : bits .and .u64 (x : Int) 9223372036854775808 = ((x / 9223372036854775808 * 9223372036854775808 : Nat) : Int) := by
  have h := bits_and_u64_nat x 9223372036854775808 hx (by decide)
  rw [show ((9223372036854775808 : Nat) : Int) = 9223372036854775808 from rfl] at h
  have e : x &&& 9223372036854775808 = x / 9223372036854775808 % 2 * 9223372036854775808 := and_bit x 63
  rw [h, e]
  omega
theorem u64_or0 (x : Nat) (hx : x < 18446744073709551616) : bits .or .u64 0 (x : Int) = (x : Int) := by
  have h := bits_or_u64_nat 0 x (by decide) hx
  rw [show ((0 : Nat) : Int) = 0 from rfl] at h
  rw [h, Nat.zero_or]

theorem c_copysign0 (r : Nat) (hr : r < 18446744073709551616) (w : World) : Calls Tryz.prog 63 #[.float .f64 0, .float .f64 r] w fun e w' => e = .returned (.float .f64 (r / 9223372036854775808 * 9223372036854775808)) ∧ w = w' := by
  have h1 := u64_sign r hr
  have h2 : bits .andNot .u64 0 9223372036854775808 = 0 := by decide
  have hlt : r / 9223372036854775808 * 9223372036854775808 < 18446744073709551616 := by omega
  generalize r / 9223372036854775808 * 9223372036854775808 = z at h1 hlt ⊢
  have h3 := u64_or0 z hlt
  go_enter Tryz.func63, Tryz.ntmps63
  go_wp2
  go_ret
  exact ⟨rfl, rfl⟩

/-- a zero of a float32's sign, as a float64 and back -/
theorem zero_back {x r : Nat} (hx : x < 4294967296) (hn : (FloatKind.f32.decode x).isNaN = false) (h : RV .f64 (cvf .f32 .f64 (fv .f32 x)) r) :
    FitsF .f64 .f32 (fv .f64 (r / 9223372036854775808 * 9223372036854775808)) ∧ cvf .f64 .f32 (fv .f64 (r / 9223372036854775808 * 9223372036854775808)) = some (x / 2147483648 * 2147483648) := by
  obtain ⟨r', a1, a2, _, _⟩ := widen_word hx hn
  have e1 : r = _ := (fv_some.1 (h.1.trans a2)).2
  have hw := word_sign (decide (2147483648 ≤ x)) a1
  rw [← e1] at hw
  have hr := rv64 h
  by_cases hs : 2147483648 ≤ x
  · have e2 : r / 9223372036854775808 = 1 := by
      have := hw.2 (decide_eq_true hs); omega
    have e3 : x / 2147483648 = 1 := by omega
    rw [e2, e3]
    exact ⟨by intro y hy; obtain ⟨_, rfl⟩ := fv_some.1 hy; rfl, rfl⟩
  · have e2 : r / 9223372036854775808 = 0 := by
      have : ¬ 9223372036854775808 ≤ r := by rw [hw]; simp [hs]
      omega
    have e3 : x / 2147483648 = 0 := by omega
    rw [e2, e3]
    exact ⟨by intro y hy; obtain ⟨_, rfl⟩ := fv_some.1 hy; rfl, rfl⟩

theorem c_implFlush (x : Nat) (hx : x < 4294967296) (w : World) : Calls Tryz.prog 28 #[.float .f32 x] w (RF .f32 (flushV x) w) := by
  cases hs : subV x
  · have hv : fv .f32 x = flushV x := by
      unfold flushV
      cases h : ((fv .f32 x).isSome && decide (x % 2147483648 < 8388608))
      · rw [if_neg (by decide)]
      · rw [if_pos rfl]
        simp only [Bool.and_eq_true, decide_eq_true_eq] at h
        have h0 : x % 2147483648 = 0 := by
          unfold subV at hs
          rw [h.1, decide_eq_true h.2] at hs
          simp at hs; omega
        have e : x / 2147483648 * 2147483648 = x := by omega
        rw [e]
        obtain ⟨y, hy⟩ := Option.isSome_iff_exists.1 h.1
        rw [hy, (fv_some.1 hy).2]
    go_enter Tryz.func28, Tryz.ntmps28
    go_wp2_with (go_at_call 33; refine (c_implIsSubnormal _ hx _).mono ?_; rw [hs]; rintro e w' ⟨rfl, n, rfl⟩)
    go_ret
    exact ⟨x, ⟨hv, hx⟩, rfl, _, rfl⟩
  · have hn : (FloatKind.f32.decode x).isNaN = false := by
      cases hn : (FloatKind.f32.decode x).isNaN with
      | false => rfl
      | true => unfold subV at hs; rw [fv_none.2 hn] at hs; cases hs
    have hv : flushV x = some (x / 2147483648 * 2147483648) := by
      unfold flushV subV at *
      rw [fv_some.2 ⟨hn, rfl⟩] at hs ⊢
      simp only [Option.isSome_some, Bool.true_and, Bool.and_eq_true, decide_eq_true_eq] at hs ⊢
      rw [if_pos hs.2]
    rw [hv]
    go_enter Tryz.func28, Tryz.ntmps28
    go_wp2_with (first | (go_at_call 33; refine (c_implIsSubnormal _ hx _).mono ?_; rw [hs]; rintro e w' ⟨rfl, n, rfl⟩) | ((with_reducible refine upon_widen Tryz.underlying28 Tryz.underlying46 hx ?_); intro r n hr) | (go_at_call 63; refine (c_copysign0 _ (rv64 hr) _).mono ?_; rintro e w' ⟨rfl, rfl⟩) | ((with_reducible refine upon_narrow Tryz.underlying46 Tryz.underlying28 (by have := rv64 hr; omega) (zero_back hx hn hr).1 ?_); intro q n hq))
    go_ret
    exact ⟨q, ⟨hq.1.trans (zero_back hx hn hr).2, hq.2⟩, rfl, _, rfl⟩

end Go.Proofs.YtiabbafmjgiobaaGreatDoor

/-
Contracts and walks of the law on SumNumbers.
-/
namespace Go.Proofs.YtiabbafmjgiobaaGreatDoor
open Fl Go.RowKit

/-- the sum from left to right -/
def sumV (xs : List Nat) : Option Nat := xs.foldl (fun s x => opf .add .f32 s (fv .f32 x)) (some 0)
theorem sumV_snoc (xs : List Nat) (k : Nat) (hk : k < xs.length) : sumV (xs.take (k + 1)) = opf .add .f32 (sumV (xs.take k)) (fv .f32 (xs.getD k 0)) := by
  rw [List.take_succ_eq_append_getElem hk]
  unfold sumV
  rw [List.foldl_append, List.getD_eq_getElem?_getD, List.getElem?_eq_getElem hk]
  rfl

/-- what both give: the sum, or nothing where the list is too long -/
def RS (v : Option Nat) (ok : Bool) (w : World) (e : Ending) (w' : World) : Prop := ∃ r, RV .f32 v r ∧ e = .returned (.tuple #[.float .f32 r, .bool ok]) ∧ ∃ n, w' = w.drewN n

theorem c_implSum (A : Option Addr) (cap : Nat) (xs : List Nat) (w : World) (h : Fl32 w A xs) (hm : xs.length ≤ 256) :
    Calls Tryz.prog 30 #[.slice A xs.length cap] w (RS (sumV xs) true w) := by
  have hd : decide (256 < (xs.length : Int)) = false := by rw [decide_eq_false_iff_not]; omega
  by_cases hp : 0 < xs.length
  · obtain ⟨b, off, rfl, hb, hc⟩ := h.of_pos hp
    clear h
    go_enter Tryz.func30, Tryz.ntmps30
    go_wp2_with fail
    have HC : Hid _ := hc
    clear hc
    go_loopw [4, 12] (fun v i wr => ∃ k m r : Nat, k ≤ xs.length ∧ i = .int .i64 k ∧ v = .float .f32 r ∧ RV .f32 (sumV (xs.take k)) r ∧ wr = w.drewN m) (fun _ i _ => xs.length - (intOf i).toNat)
    case atStart => exact ⟨0, 0, 0, Nat.zero_le _, rfl, rfl, ⟨rfl, by decide⟩, rfl⟩
    case round =>
      obtain ⟨k, m, r, hk, rfl, rfl, hr, rfl⟩ := hrel
      by_cases hlt : k < xs.length
      · have h1 := HC.out k hlt
        have HS : Hid _ := sumV_snoc xs k hlt
        generalize xs.getD k 0 = v at h1 HS
        go_wp2_with ((with_reducible refine upon_fbin ?_ ?_); exact rfl; intro q n hq)
        go_roundw
        case rel => exact ⟨k + 1, _, q, by omega, by go_num, rfl, ⟨by rw [HS.out, hq.1, hr.1], hq.2⟩, rfl⟩
        case measure => simp [intOf]; omega
      · have hks : k = xs.length := by omega
        subst hks
        go_wp2_with fail
        go_ret2
        exact ⟨r, by rw [List.take_length] at hr; exact hr, rfl, m, rfl⟩
  · obtain rfl : xs = [] := List.eq_nil_of_length_eq_zero (by omega)
    clear hd
    go_enter Tryz.func30, Tryz.ntmps30
    go_wp2_with fail
    go_loop [4, 12] (fun v i => v = .float .f32 0 ∧ i = .int .i64 0) (fun _ _ => 0)
    case atStart => exact ⟨rfl, rfl⟩
    case round =>
      obtain ⟨rfl, rfl⟩ := hrel
      go_wp2_with fail
      go_ret2
      exact ⟨0, ⟨rfl, by decide⟩, rfl, 0, rfl⟩
theorem c_implSum_no (A : Option Addr) (cap n : Nat) (w : World) (hm : 256 < n) (hn : n ≤ 9223372036854775807) :
    Calls Tryz.prog 30 #[.slice A n cap] w (RS (some 0) false w) := by
  have hd : decide (256 < (n : Int)) = true := by rw [decide_eq_true_iff]; omega
  go_enter Tryz.func30, Tryz.ntmps30
  go_wp2_with fail
  go_ret2
  exact ⟨0, ⟨rfl, by decide⟩, rfl, 0, rfl⟩


end Go.Proofs.YtiabbafmjgiobaaGreatDoor

/-
What the program's own functions give at the great law on numbers: angles, narrowing back, the sine of a quarter turn.
-/
set_option linter.unusedVariables false
set_option linter.unusedSimpArgs false
namespace Go.Proofs.YtiabbafmjgiobaaGreatDoor
open Fl Go Go.RowKit

/-- the program's angle at finite numbers that are not both zero -/
theorem angleI_fin (y x : Nat) (hy : y < 4294967296) (hx : x < 4294967296) (hfy : isFin (fv .f32 y) = true) (hfx : isFin (fv .f32 x) = true) (hnz : (FloatKind.f32.format.order x 0 == some .eq) = false ∨ (FloatKind.f32.format.order x 0 == some .eq) = true ∧ (FloatKind.f32.format.order y 0 == some .eq) = false) :
    ∃ v, ∀ w, Calls Tryz.prog 34 #[.float .f32 y, .float .f32 x] w (RF .f32 v w) := by
  obtain ⟨sy, ry, hry, hcy, ly, ey⟩ := widen_all hy hfy
  obtain ⟨sx, rx, hrx, hcx, lx, ex⟩ := widen_all hx hfx
  have ay : Ieee.double.word sy ry % 9223372036854775808 = ry := word_abs sy (Nat.le_of_lt hry)
  have ax : Ieee.double.word sx rx % 9223372036854775808 = rx := word_abs sx (Nat.le_of_lt hrx)
  have Fy := fin_word sy hry
  have Fx := fin_word sx hrx
  have Fa : Fnt ry := fin_word false hry
  have Fb : Fnt rx := fin_word false hrx
  have h64y := word_lt64 sy (Nat.le_of_lt hry)
  have h64x := word_lt64 sx (Nat.le_of_lt hrx)
  have hgt : (FloatKind.f64.format.order ry rx == some .gt) = decide (rx < ry) := by
    have h := gt_word false hry hrx
    have e : Ieee.double.word false ry = ry := rfl
    rw [e] at h
    rw [h]
    congr 1
    have hs : sun false ry = (un Ieee.double ry : Int) := rfl
    rw [hs]
    refine propext ⟨fun h1 => ?_, fun h1 => ?_⟩
    · refine Nat.lt_of_not_le fun h2 => ?_
      have := (un_le_iff Ieee.double _ _).2 h2
      omega
    · have := un_lt Ieee.double h1
      omega
  have hnz0 : 0 < rx ∨ 0 < ry := by
    rcases Nat.eq_zero_or_pos rx with h | h
    · rcases Nat.eq_zero_or_pos ry with h' | h'
      · exfalso
        subst h; subst h'
        rw [zero_eq] at ex ey
        rcases hnz with h | ⟨_, h⟩
        · rw [← ex] at h; cases h
        · rw [← ey] at h; cases h
      · exact .inr h'
    · exact .inl h
  by_cases ho : rx < ry
  · rw [decide_eq_true ho] at hgt
    obtain ⟨hb, hnzq⟩ := quot_one (Nat.le_of_lt ho) (by omega) hry
    obtain ⟨q, hq⟩ := quot_any hry hrx (.inl (by omega))
    have hT := halves hb
    have hL := ang_ok true (FloatKind.f32.format.order x 0 == some .lt) (FloatKind.f32.format.order y 0 == some .lt) (half_bd hb 3)
    obtain ⟨v, hv, hN⟩ := narrow_one hL.a3
    have hq' : ∀ w, (binOp .quo 46 (.float .f64 ry) (.float .f64 rx)).run Tryz.prog w = .ok (.float .f64 q) w := fun w => run_float_arith w _ _ _ _ _ _ hq
    refine ⟨_, fun w => (?_ : Calls _ _ _ w fun e w' => e = .returned (.float .f32 v) ∧ ∃ n, w' = w.drewN n).mono fun e w' h => ⟨v, hv, h.1, h.2⟩⟩
    rcases hnz with hz | ⟨hz, hz'⟩
    · exact c_angle10 y x _ _ _ _ _ v hfy hfx hcy hcx h64y h64x hz (by rw [ay, ax]; exact hgt) (by rw [ay]; exact Fa) (by rw [ax]; exact Fb) (by rw [ay]; exact hnzq) q (by rw [ay, ax]; exact hq') (by rw [ay, ax]; rfl) hT hL rfl rfl hN w
    · exact c_angle11 y x _ _ _ _ _ v hfy hfx hcy hcx h64y h64x hz hz' (by rw [ay, ax]; exact hgt) (by rw [ay]; exact Fa) (by rw [ax]; exact Fb) (by rw [ay]; exact hnzq) q (by rw [ay, ax]; exact hq') (by rw [ay, ax]; rfl) hT hL rfl rfl hN w
  · rw [decide_eq_false ho] at hgt
    obtain ⟨hb, hnzq⟩ := quot_one (Nat.le_of_not_lt ho) (by omega) hrx
    have hq : floatBits .quo .f64 ry rx = some (fdiv ry rx) := div_ok Fa hnzq
    have hT := halves hb
    have hL := ang_ok false (FloatKind.f32.format.order x 0 == some .lt) (FloatKind.f32.format.order y 0 == some .lt) (half_bd hb 3)
    obtain ⟨v, hv, hN⟩ := narrow_one hL.a3
    have hq' : ∀ w, (binOp .quo 46 (.float .f64 ry) (.float .f64 rx)).run Tryz.prog w = .ok (.float .f64 (fdiv ry rx)) w := fun w => run_float_arith w _ _ _ _ _ _ hq
    refine ⟨_, fun w => (?_ : Calls _ _ _ w fun e w' => e = .returned (.float .f32 v) ∧ ∃ n, w' = w.drewN n).mono fun e w' h => ⟨v, hv, h.1, h.2⟩⟩
    rcases hnz with hz | ⟨hz, hz'⟩
    · exact c_angle00 y x _ _ (halfT (fdiv (Ieee.double.word false ry) (Ieee.double.word false rx))) _ _ v hfy hfx hcy hcx h64y h64x hz (by rw [ay, ax]; exact hgt) (by rw [ay]; exact Fa) (by rw [ax]; exact Fb) (by rw [ax]; exact hnzq) (fdiv ry rx) (by rw [ay, ax]; exact hq') rfl hT hL rfl rfl hN w
    · exact c_angle01 y x _ _ (halfT (fdiv (Ieee.double.word false ry) (Ieee.double.word false rx))) _ _ v hfy hfx hcy hcx h64y h64x hz hz' (by rw [ay, ax]; exact hgt) (by rw [ay]; exact Fa) (by rw [ax]; exact Fb) (by rw [ax]; exact hnzq) (fdiv ry rx) (by rw [ay, ax]; exact hq') rfl hT hL rfl rfl hN w

theorem angleI (y x : Nat) (hy : y < 4294967296) (hx : x < 4294967296) :
    ∃ v, ∀ w, Calls Tryz.prog 34 #[.float .f32 y, .float .f32 x] w (RF .f32 v w) := by
  cases hfy : isFin (fv .f32 y)
  · refine ⟨none, fun w => c_implAngle_nan y x ?_ w⟩
    cases hfx : isFin (fv .f32 x)
    · exact .inl rfl
    · exact .inr ⟨rfl, hfy⟩
  · cases hfx : isFin (fv .f32 x)
    · exact ⟨none, fun w => c_implAngle_nan y x (.inl hfx) w⟩
    · cases hz : (FloatKind.f32.format.order x 0 == some .eq)
      · exact angleI_fin y x hy hx hfy hfx (.inl hz)
      · cases hz' : (FloatKind.f32.format.order y 0 == some .eq)
        · exact angleI_fin y x hy hx hfy hfx (.inr ⟨hz, hz'⟩)
        · exact ⟨some 0, fun w => c_implAngle_zero y x hfy hfx hz hz' w⟩
theorem c_angleOf (y x : Nat) (v : Option Nat) (h : ∀ w, Calls Tryz.prog 34 #[.float .f32 y, .float .f32 x] w (RF .f32 v w)) (w : World) :
    Calls Tryz.prog 35 #[.complex .f32 x y] w (RF .f32 v w) := by
  have H := hide_ h
  clear h
  unfold RF at *
  go_enter Tryz.func35, Tryz.ntmps35
  go_wp2_with fail
  go_at_call 34
  refine Calls.mono (H.out _) ?_
  rintro e w1 ⟨r, hr, rfl, n, rfl⟩
  go_wp2_with fail
  go_ret
  exact ⟨r, hr, rfl, n, rfl⟩

/-- what is widened and narrowed again is the same -/
theorem narrow_widen {x : Nat} (hx : x < 4294967296) : cvf .f64 .f32 (cvf .f32 .f64 (fv .f32 x)) = fv .f32 x ∧ FitsF .f64 .f32 (cvf .f32 .f64 (fv .f32 x)) := by
  by_cases hn : (FloatKind.f32.decode x).isNaN = true
  · rw [fv_none.2 hn]
    exact ⟨rfl, fits_none⟩
  have hn' : (FloatKind.f32.decode x).isNaN = false := by simpa using hn
  have hfv : fv .f32 x = some x := fv_some.2 ⟨hn', rfl⟩
  obtain ⟨r', h1, h2, h3, h4⟩ := widen_word hx hn'
  have key : floatToFloatBits .f64 (Ieee.double.word (decide (2147483648 ≤ x)) r') .f32 = some x := by
    have hle := rung_le_of_not_nan Ieee.single (by decide) x hn'
    have e6 : Ieee.single.signWeight = 2147483648 := rfl
    rw [e6] at hle
    rcases Nat.lt_or_eq_of_le hle with h | h
    · obtain ⟨h5, h6⟩ := h3 h
      have := narrow_back (b := x) hx (r' := r') (by rw [e6]; exact h) h5 (by rw [e6]; exact h6)
      rw [sign_single hx] at this
      exact this
    · rw [h4 h]
      have hd : FloatKind.f64.decode (Ieee.double.word (decide (2147483648 ≤ x)) Ieee.double.infRung) = .infinity (decide (2147483648 ≤ x)) := read_inf Ieee.double _ (by decide)
      unfold floatToFloatBits
      rw [if_neg (by decide), hd]
      simp only
      congr 1
      have := word_of Ieee.single x hx
      rw [sign_single hx, e6, h] at this
      rw [this]
      generalize decide (2147483648 ≤ x) = b
      cases b <;> decide +kernel
  rw [h2, hfv]
  refine ⟨key, fun y hy => ?_⟩
  rw [← Option.some.inj hy, key]
  rfl

theorem c_narrow (x r : Nat) (hx : x < 4294967296) (hr : RV .f64 (cvf .f32 .f64 (fv .f32 x)) r) (w : World) :
    Calls Tryz.prog 36 #[.float .f64 r] w (RF .f32 (fv .f32 x) w) := by
  obtain ⟨h1, h2⟩ := narrow_widen hx
  rw [← hr.1] at h1 h2
  have hr64 := rv64 hr
  unfold RF
  go_enter Tryz.func36, Tryz.ntmps36
  go_wp2_with ((with_reducible refine upon_narrow Tryz.underlying46 Tryz.underlying28 hr64 h2 ?_); intro q m hq)
  go_ret
  exact ⟨q, ⟨hq.1.trans h1, hq.2⟩, rfl, _, rfl⟩

theorem c_sineQuarter (w : World) : Calls Tryz.prog 37 #[.float .f32 1048576000] w (RF .f32 (some 1065353216) w) := by
  have hf : isFin (fv .f32 1048576000) = true := by kernel_rfl
  obtain ⟨y, hF, hy, _, hcv0, hconv⟩ := widen_one (x := 1048576000) (by decide) hf
  have ey : y = 4598175219545276416 := by
    have e : cvf .f32 .f64 (fv .f32 1048576000) = some 4598175219545276416 := by kernel_rfl
    rw [e] at hcv0
    exact (Option.some.inj hcv0).symm
  subst ey
  have hb : bigN 4598175219545276416 = false := by kernel_rfl
  obtain ⟨t, hcv, _, hft, hb0⟩ := frac_sub hF (small_bd hy hF hb)
  have et : t = 0 := by
    have e : floatToIntVal .f64 4598175219545276416 .i64 = some 0 := by kernel_rfl
    rw [e] at hcv
    exact (Option.some.inj hcv).symm
  subst et
  have hbf := fracN_bd hb0
  have hv := (sine_bd hbf).mono (by decide : (77 : Int) ≤ 127)
  have e : cvf .f64 .f32 (some (sineN (fracN 4598175219545276416 0))) = some 1065353216 := by kernel_rfl
  rw [← e]
  exact c_implSine_small 1048576000 _ _ hf hF hy hb hconv (fun w => c_sine _ _ (fun w => c_fraction _ 0 hF hcv hft hb0 w) hbf w) hv w
theorem quarter_one {r : Nat} (h : RV .f32 (some 1065353216) r) : (FloatKind.f32.format.order r 1065353216 == some .eq) = true := by
  obtain ⟨_, rfl⟩ := fv_some.1 h.1
  kernel_rfl

end Go.Proofs.YtiabbafmjgiobaaGreatDoor

/-
Complex numbers whose parts are integers: what the program's products, powers, quotients give.
-/
set_option linter.unusedVariables false
set_option linter.unusedSimpArgs false
namespace Go.Proofs.YtiabbafmjgiobaaGreatDoor
open Fl Go Go.RowKit

def UpTo (x A : Nat) : Prop := ∀ w, (convert 28 46 (.float .f32 x)).run Tryz.prog w = .ok (.float .f64 A) w
def DownTo (A x : Nat) : Prop := ∀ w, (convert 46 28 (.float .f64 A)).run Tryz.prog w = .ok (.float .f32 x) w
theorem up_of {x : Nat} {i : Int} (h : FV .f32 x i) (hi : i.natAbs < 16777216) : ∃ A, FV .f64 A i ∧ UpTo x A ∧ cvf .f32 .f64 (fv .f32 x) = some A := by
  obtain ⟨A, h1, h2⟩ := fv_conv (d := .f64) (by decide) h (Nat.lt_of_lt_of_le hi (by decide))
  refine ⟨A, h2, fun w => run_convert_float_float w _ _ _ _ x A (by rw [Tryz.underlying28]; rfl) Tryz.underlying46 h1, ?_⟩
  rw [h.fv]; exact h1
theorem down_of {A : Nat} {i : Int} (h : FV .f64 A i) (hi : i.natAbs < 16777216) : ∃ x, FV .f32 x i ∧ DownTo A x := by
  obtain ⟨x, h1, h2⟩ := fv_conv (d := .f32) (by decide) h (Nat.lt_of_lt_of_le hi (by decide))
  exact ⟨x, h2, fun w => run_convert_float_float w _ _ _ _ A x (by rw [Tryz.underlying46]; rfl) Tryz.underlying28 h1⟩
theorem mul_bound {i j : Int} {a b : Nat} (hi : i.natAbs ≤ a) (hj : j.natAbs ≤ b) : (i * j).natAbs ≤ a * b := by
  rw [Int.natAbs_mul]; exact Nat.mul_le_mul hi hj
theorem mulF {x y : Nat} {i j : Int} (hx : FV .f64 x i) (hy : FV .f64 y j) (hl : (i * j).natAbs < 9007199254740992) : FV .f64 (fmul x y) (i * j) := by
  obtain ⟨z, h1, h2⟩ := fv_mul hx hy (Nat.lt_of_lt_of_le hl (by decide))
  have : fmul x y = z := by unfold fmul; rw [h1]; rfl
  rw [this]; exact h2
theorem addF {x y : Nat} {i j : Int} (hx : FV .f64 x i) (hy : FV .f64 y j) (hl : (i + j).natAbs < 9007199254740992) : FV .f64 (fadd x y) (i + j) := by
  obtain ⟨z, h1, h2⟩ := fv_add hx hy (Nat.lt_of_lt_of_le hl (by decide))
  have : fadd x y = z := by unfold fadd; rw [h1]; rfl
  rw [this]; exact h2
theorem subF {x y : Nat} {i j : Int} (hx : FV .f64 x i) (hy : FV .f64 y j) (hl : (i - j).natAbs < 9007199254740992) : FV .f64 (fsub x y) (i - j) := by
  obtain ⟨z, h1, h2⟩ := fv_sub hx hy (Nat.lt_of_lt_of_le hl (by decide))
  have : fsub x y = z := by unfold fsub; rw [h1]; rfl
  rw [this]; exact h2
theorem divF {x y : Nat} {q j : Int} (hx : FV .f64 x (q * j)) (hy : FV .f64 y j) (hj : j ≠ 0) (hl : q.natAbs < 9007199254740992) : FV .f64 (fdiv x y) q := by
  obtain ⟨z, h1, h2⟩ := fv_quo hx hy hj (Nat.lt_of_lt_of_le hl (by decide))
  have : fdiv x y = z := by unfold fdiv; rw [h1]; rfl
  rw [this]; exact h2

theorem c_parts (x1 x2 A B : Nat) (h1 : UpTo x1 A) (h2 : UpTo x2 B) (w : World) : Calls Tryz.prog 40 #[.complex .f32 x1 x2] w fun e w' => e = .returned (.tuple #[.float .f64 A, .float .f64 B]) ∧ w = w' := by
  unfold UpTo at h1 h2
  go_enter Tryz.func40, Tryz.ntmps40
  go_wp2_with fail
  go_ret2
  exact ⟨rfl, rfl⟩
theorem c_times (a b c d : Nat) (ha : Fnt a) (hb : Fnt b) (hc : Fnt c) (hd : Fnt d) (h1 : Fnt (fmul a c)) (h2 : Fnt (fmul b d)) (h3 : Fnt (fmul a d)) (h4 : Fnt (fmul b c)) (w : World) :
    Calls Tryz.prog 41 #[.float .f64 a, .float .f64 b, .float .f64 c, .float .f64 d] w fun e w' => e = .returned (.tuple #[.float .f64 (fsub (fmul a c) (fmul b d)), .float .f64 (fadd (fmul a d) (fmul b c))]) ∧ w = w' := by
  go_enter Tryz.func41, Tryz.ntmps41
  go_wp2_with fail
  go_ret2
  exact ⟨rfl, rfl⟩
theorem c_power (x1 x2 A B : Nat) (h1 : UpTo x1 A) (h2 : UpTo x2 B) (ha : Fnt A) (hb : Fnt B) (haa : Fnt (fmul A A)) (hbb : Fnt (fmul B B)) (w : World) :
    Calls Tryz.prog 42 #[.complex .f32 x1 x2] w fun e w' => e = .returned (.float .f64 (fadd (fmul A A) (fmul B B))) ∧ w = w' := by
  have H := hide_ (fun W => c_parts x1 x2 A B h1 h2 W)
  clear h1 h2
  go_enter Tryz.func42, Tryz.ntmps42
  go_wp2_with fail
  go_at_call 40
  refine Calls.mono (H.out _) ?_
  rintro e w1 ⟨rfl, rfl⟩
  go_wp2_with fail
  go_ret
  exact ⟨rfl, rfl⟩
theorem c_mulI (x1 x2 y1 y2 : Nat) (i1 i2 j1 j2 : Int) (hx1 : FV .f32 x1 i1) (hx2 : FV .f32 x2 i2) (hy1 : FV .f32 y1 j1) (hy2 : FV .f32 y2 j2) (b1 : i1.natAbs ≤ 400) (b2 : i2.natAbs ≤ 400) (b3 : j1.natAbs ≤ 400) (b4 : j2.natAbs ≤ 400) (w : World) :
    Calls Tryz.prog 7 #[.complex .f32 x1 x2, .complex .f32 y1 y2] w fun e w' => (∃ u v, FV .f32 u (i1 * j1 - i2 * j2) ∧ FV .f32 v (i1 * j2 + i2 * j1) ∧ e = .returned (.complex .f32 u v)) ∧ w = w' := by
  obtain ⟨A, fA, uA, _⟩ := up_of hx1 (by omega)
  obtain ⟨B, fB, uB, _⟩ := up_of hx2 (by omega)
  obtain ⟨C, fC, uC, _⟩ := up_of hy1 (by omega)
  obtain ⟨D, fD, uD, _⟩ := up_of hy2 (by omega)
  have n1 := mul_bound b1 b3
  have n2 := mul_bound b2 b4
  have n3 := mul_bound b1 b4
  have n4 := mul_bound b2 b3
  have m1 := mulF fA fC (by omega)
  have m2 := mulF fB fD (by omega)
  have m3 := mulF fA fD (by omega)
  have m4 := mulF fB fC (by omega)
  obtain ⟨u, fu, du⟩ := down_of (subF m1 m2 (by omega)) (by omega)
  obtain ⟨v, fv', dv⟩ := down_of (addF m3 m4 (by omega)) (by omega)
  have H1 := hide_ (fun W => c_parts x1 x2 A B uA uB W)
  have H2 := hide_ (fun W => c_parts y1 y2 C D uC uD W)
  have H3 := hide_ (fun W => c_times A B C D fA.fnt fB.fnt fC.fnt fD.fnt m1.fnt m2.fnt m3.fnt m4.fnt W)
  generalize fsub (fmul A C) (fmul B D) = U at H3 du
  generalize fadd (fmul A D) (fmul B C) = V at H3 dv
  have FU := hide_ fu
  have FW := hide_ fv'
  unfold DownTo at du dv
  clear hx1 hx2 hy1 hy2 fA fB fC fD uA uB uC uD m1 m2 m3 m4 fu fv' n1 n2 n3 n4 b1 b2 b3 b4
  go_enter Tryz.func7, Tryz.ntmps7
  go_wp2_with fail
  go_at_call 40
  refine Calls.mono (H1.out _) ?_
  rintro e w1 ⟨rfl, rfl⟩
  go_wp2_with fail
  go_at_call 40
  refine Calls.mono (H2.out _) ?_
  rintro e w1 ⟨rfl, rfl⟩
  go_wp2_with fail
  go_at_call 41
  refine Calls.mono (H3.out _) ?_
  rintro e w1 ⟨rfl, rfl⟩
  go_wp2_with fail
  go_ret
  exact ⟨⟨u, v, FU.out, FW.out, rfl⟩, rfl⟩
theorem c_powerOf (x1 x2 : Nat) (i1 i2 : Int) (hx1 : FV .f32 x1 i1) (hx2 : FV .f32 x2 i2) (b1 : i1.natAbs ≤ 400) (b2 : i2.natAbs ≤ 400) (w : World) :
    Calls Tryz.prog 8 #[.complex .f32 x1 x2] w fun e w' => (∃ u, FV .f32 u (i1 * i1 + i2 * i2) ∧ e = .returned (.float .f32 u)) ∧ w = w' := by
  obtain ⟨A, fA, uA, _⟩ := up_of hx1 (by omega)
  obtain ⟨B, fB, uB, _⟩ := up_of hx2 (by omega)
  have n1 := mul_bound b1 b1
  have n2 := mul_bound b2 b2
  have m1 := mulF fA fA (by omega)
  have m2 := mulF fB fB (by omega)
  obtain ⟨u, fu, du⟩ := down_of (addF m1 m2 (by omega)) (by omega)
  have H1 := hide_ (fun W => c_power x1 x2 A B uA uB fA.fnt fB.fnt m1.fnt m2.fnt W)
  generalize fadd (fmul A A) (fmul B B) = U at H1 du
  have FU := hide_ fu
  unfold DownTo at du
  clear hx1 hx2 fA fB uA uB m1 m2 fu n1 n2 b1 b2
  go_enter Tryz.func8, Tryz.ntmps8
  go_wp2_with fail
  go_at_call 42
  refine Calls.mono (H1.out _) ?_
  rintro e w1 ⟨rfl, rfl⟩
  go_wp2_with fail
  go_ret
  exact ⟨⟨u, FU.out, rfl⟩, rfl⟩
theorem c_conj (x1 x2 : Nat) (w : World) : Calls Tryz.prog 9 #[.complex .f32 x1 x2] w fun e w' => e = .returned (.complex .f32 x1 (Op.negFloat .f32 x2)) ∧ w = w' := by
  go_enter Tryz.func9, Tryz.ntmps9
  go_wp2_with fail
  go_ret
  exact ⟨rfl, rfl⟩
theorem c_scale2 (x1 x2 : Nat) (i1 i2 : Int) (hx1 : FV .f32 x1 i1) (hx2 : FV .f32 x2 i2) (b1 : i1.natAbs ≤ 400) (b2 : i2.natAbs ≤ 400) (w : World) :
    Calls Tryz.prog 14 #[.complex .f32 x1 x2, .float .f32 1073741824] w fun e w' => (∃ u v, FV .f32 u (i1 * 2) ∧ FV .f32 v (i2 * 2) ∧ e = .returned (.complex .f32 u v)) ∧ w = w' := by
  have f2 : FV .f32 1073741824 2 := by
    have := fv_int .f32 2 (by decide)
    have e : floatOfInt .f32 2 = 1073741824 := by kernel_rfl
    rw [e] at this; exact this
  obtain ⟨u, hu, fu⟩ := fv_mul hx1 f2 (Nat.lt_of_lt_of_le (show (i1 * 2).natAbs < 16777216 by omega) (by decide))
  obtain ⟨v, hv, fv'⟩ := fv_mul hx2 f2 (Nat.lt_of_lt_of_le (show (i2 * 2).natAbs < 16777216 by omega) (by decide))
  have ru : ∀ w, (binOp .mul 28 (.float .f32 x1) (.float .f32 1073741824)).run Tryz.prog w = .ok (.float .f32 u) w := fun w => run_float_arith w _ _ _ _ _ _ hu
  have rv : ∀ w, (binOp .mul 28 (.float .f32 x2) (.float .f32 1073741824)).run Tryz.prog w = .ok (.float .f32 v) w := fun w => run_float_arith w _ _ _ _ _ _ hv
  have FU := hide_ fu
  have FW := hide_ fv'
  clear hx1 hx2 fu fv' hu hv f2 b1 b2
  go_enter Tryz.func14, Tryz.ntmps14
  go_wp2_with fail
  go_ret
  exact ⟨⟨u, v, FU.out, FW.out, rfl⟩, rfl⟩
theorem c_quotI (x1 x2 y1 y2 : Nat) (m1 m2 j1 j2 q1 q2 : Int) (hx1 : FV .f32 x1 m1) (hx2 : FV .f32 x2 m2) (hy1 : FV .f32 y1 j1) (hy2 : FV .f32 y2 j2) (b1 : m1.natAbs ≤ 400000) (b2 : m2.natAbs ≤ 400000) (b3 : j1.natAbs ≤ 400) (b4 : j2.natAbs ≤ 400)
    (h0 : j1 * j1 + j2 * j2 ≠ 0) (e1 : m1 * j1 - m2 * -j2 = q1 * (j1 * j1 + j2 * j2)) (e2 : m1 * -j2 + m2 * j1 = q2 * (j1 * j1 + j2 * j2)) (b5 : q1.natAbs ≤ 400) (b6 : q2.natAbs ≤ 400) (w : World) :
    Calls Tryz.prog 13 #[.complex .f32 x1 x2, .complex .f32 y1 y2] w fun e w' => (∃ u v, FV .f32 u q1 ∧ FV .f32 v q2 ∧ e = .returned (.complex .f32 u v)) ∧ w = w' := by
  obtain ⟨A, fA, uA, _⟩ := up_of hx1 (by omega)
  obtain ⟨B, fB, uB, _⟩ := up_of hx2 (by omega)
  obtain ⟨C, fC, uC, _⟩ := up_of hy1 (by omega)
  obtain ⟨D, fD, uD, _⟩ := up_of hy2 (by omega)
  have fN := fv_neg fD
  have b4' : (-j2).natAbs ≤ 400 := by omega
  have n1 := mul_bound b1 b3
  have n2 := mul_bound b2 b4'
  have n3 := mul_bound b1 b4'
  have n4 := mul_bound b2 b3
  have n5 := mul_bound b3 b3
  have n6 := mul_bound b4 b4
  have t1 := mulF fA fC (by omega)
  have t2 := mulF fB fN (by omega)
  have t3 := mulF fA fN (by omega)
  have t4 := mulF fB fC (by omega)
  have t5 := mulF fC fC (by omega)
  have t6 := mulF fD fD (by omega)
  have sU := subF t1 t2 (by omega)
  have sV := addF t3 t4 (by omega)
  have sP := addF t5 t6 (by omega)
  have H1 := hide_ (fun W => c_parts x1 x2 A B uA uB W)
  have H2 := hide_ (fun W => c_parts y1 y2 C D uC uD W)
  have H3 := hide_ (fun W => c_times A B C (Op.negFloat .f64 D) fA.fnt fB.fnt fC.fnt fN.fnt t1.fnt t2.fnt t3.fnt t4.fnt W)
  have H4 := hide_ (fun W => c_power y1 y2 C D uC uD fC.fnt fD.fnt t5.fnt t6.fnt W)
  generalize fsub (fmul A C) (fmul B (Op.negFloat .f64 D)) = U at H3 sU
  generalize fadd (fmul A (Op.negFloat .f64 D)) (fmul B C) = V at H3 sV
  generalize fadd (fmul C C) (fmul D D) = P at H4 sP
  rw [e1] at sU
  rw [e2] at sV
  have dU := divF sU sP h0 (by omega)
  have dV := divF sV sP h0 (by omega)
  obtain ⟨u, fu, du⟩ := down_of dU (by omega)
  obtain ⟨v, fv', dv⟩ := down_of dV (by omega)
  have hU := sU.fnt
  have hV := sV.fnt
  have hP := sP.nz h0
  have FU := hide_ fu
  have FW := hide_ fv'
  unfold DownTo at du dv
  clear hx1 hx2 hy1 hy2 fA fB fC fD fN uA uB uC uD t1 t2 t3 t4 t5 t6 fu fv' n1 n2 n3 n4 n5 n6 b1 b2 b3 b4 b4' b5 b6 e1 e2 sU sV sP dU dV h0
  go_enter Tryz.func13, Tryz.ntmps13
  go_wp2_with fail
  go_at_call 40
  refine Calls.mono (H1.out _) ?_
  rintro e w1 ⟨rfl, rfl⟩
  go_wp2_with fail
  go_at_call 40
  refine Calls.mono (H2.out _) ?_
  rintro e w1 ⟨rfl, rfl⟩
  go_wp2_with fail
  go_at_call 41
  refine Calls.mono (H3.out _) ?_
  rintro e w1 ⟨rfl, rfl⟩
  go_wp2_with fail
  go_at_call 42
  refine Calls.mono (H4.out _) ?_
  rintro e w1 ⟨rfl, rfl⟩
  go_wp2_with fail
  go_ret
  exact ⟨⟨u, v, FU.out, FW.out, rfl⟩, rfl⟩
set_option maxRecDepth 100000 in
theorem c_long (x1 x2 A B s : Nat) (h1 : UpTo x1 A) (h2 : UpTo x2 B) (ha : Fnt A) (hb : Fnt B) (haa : Fnt (fmul A A)) (hbb : Fnt (fmul B B)) (hs : s < 4294967296) (hp : cvf .f32 .f64 (fv .f32 s) = some (fadd (fmul A A) (fmul B B))) (hf : Fnt (fadd (fmul A A) (fmul B B))) (w : World) :
    Calls Tryz.prog 11 #[.complex .f32 x1 x2] w (RF .f32 (rootV s) w) := by
  have H := hide_ (fun W => c_power x1 x2 A B h1 h2 ha hb haa hbb W)
  generalize fadd (fmul A A) (fmul B B) = P at H hp hf
  have hP := hf.fv
  have hfit : ∀ r, RV .f64 (sqf (fv .f64 P)) r → FitsF .f64 .f32 (fv .f64 r) ∧ cvf .f64 .f32 (fv .f64 r) = rootV s := fun r hr => by
    rw [hr.1, hP, ← hp]; exact ⟨fits_root hs, rfl⟩
  have HF := hide_ hfit
  clear h1 h2 ha hb haa hbb hp hf hfit hP
  unfold RF
  go_enter Tryz.func11, Tryz.ntmps11
  go_wp2_with fail
  go_at_call 42
  refine Calls.mono (H.out _) ?_
  rintro e w1 ⟨rfl, rfl⟩
  go_wp2_with fail
  go_at_call 44
  refine (c_sqrt _ _).mono ?_
  rintro e w' ⟨r', hr', rfl, n', rfl⟩
  have hr64 := rv64 hr'
  have hfr := (HF.out r' hr').1
  go_wp2_with ((with_reducible refine upon_narrow Tryz.underlying46 Tryz.underlying28 hr64 hfr ?_); intro q m hq)
  go_ret
  exact ⟨q, ⟨hq.1.trans (HF.out r' hr').2, hq.2⟩, rfl, _, rfl⟩
theorem c_sameC (a b c d : Nat) (ha : a < 4294967296) (hb : b < 4294967296) (hc : c < 4294967296) (hd : d < 4294967296) (h1 : sameV a c = true) (h2 : sameV b d = true) (w : World) : Calls Tryz.prog 24 #[.complex .f32 a b, .complex .f32 c d] w (RB true w) := by
  have H1 := hide_ (fun W => c_implSameNumber a c ha hc W)
  have H2 := hide_ (fun W => c_implSameNumber b d hb hd W)
  rw [h1] at H1
  rw [h2] at H2
  clear h1 h2
  unfold RB at *
  go_enter Tryz.func24, Tryz.ntmps24
  go_wp2_with fail
  go_at_call 60
  refine Calls.mono (H1.out _) ?_
  rintro e w1 ⟨rfl, n1, rfl⟩
  go_wp2_with fail
  go_at_call 60
  refine Calls.mono (H2.out _) ?_
  rintro e w2 ⟨rfl, n2, rfl⟩
  go_wp2_with fail
  go_ret
  exact ⟨rfl, n1 + n2, by simp⟩
theorem c_l01CSame (a b c d : Nat) (ha : a < 4294967296) (hb : b < 4294967296) (hc : c < 4294967296) (hd : d < 4294967296) (h1 : sameV a c = true) (h2 : sameV b d = true) (w : World) : Calls Tryz.prog 79 #[.complex .f32 a b, .complex .f32 c d] w fun e w' => e = .returned (.bool true) ∧ w = w' := by
  have H1 := hide_ (fun W => c_l01Same a c ha hc W)
  have H2 := hide_ (fun W => c_l01Same b d hb hd W)
  rw [h1] at H1
  rw [h2] at H2
  clear h1 h2
  go_enter Tryz.func79, Tryz.ntmps79
  go_wp2_with fail
  go_at_call 43
  refine Calls.mono (H1.out _) ?_
  rintro e w1 ⟨rfl, rfl⟩
  go_wp2_with fail
  go_at_call 43
  refine Calls.mono (H2.out _) ?_
  rintro e w2 ⟨rfl, rfl⟩
  go_wp2_with fail
  go_ret
  exact ⟨rfl, rfl⟩
theorem c_specSameC (a b c d : Nat) (ha : a < 4294967296) (hb : b < 4294967296) (hc : c < 4294967296) (hd : d < 4294967296) (h1 : sameV a c = true) (h2 : sameV b d = true) (w : World) : Calls Tryz.prog 59 #[.complex .f32 a b, .complex .f32 c d] w fun e w' => e = .returned (.bool true) ∧ w = w' := by
  have H1 := hide_ (fun W => c_l01CSame a b c d ha hb hc hd h1 h2 W)
  clear h1 h2
  go_enter Tryz.func59, Tryz.ntmps59
  go_wp2_with fail
  go_at_call 79
  refine Calls.mono (H1.out _) ?_
  rintro e w1 ⟨rfl, rfl⟩
  go_wp2_with fail
  go_ret
  exact ⟨rfl, rfl⟩
set_option maxRecDepth 100000 in
theorem c_narrowC (x y r s : Nat) (hx : x < 4294967296) (hy : y < 4294967296) (hr : RV .f64 (cvf .f32 .f64 (fv .f32 x)) r) (hs : RV .f64 (cvf .f32 .f64 (fv .f32 y)) s) (w : World) :
    Calls Tryz.prog 25 #[.complex .f64 r s] w fun e w' => (∃ a b, RV .f32 (fv .f32 x) a ∧ RV .f32 (fv .f32 y) b ∧ e = .returned (.complex .f32 a b)) ∧ ∃ n, w' = w.drewN n := by
  obtain ⟨h1, h2⟩ := narrow_widen hx
  obtain ⟨h3, h4⟩ := narrow_widen hy
  rw [← hr.1] at h1 h2
  rw [← hs.1] at h3 h4
  have hr64 := rv64 hr
  have hs64 := rv64 hs
  have K1 := hide_ h1
  have K3 := hide_ h3
  clear h1 h3 hr hs
  go_enter Tryz.func25, Tryz.ntmps25
  go_wp2_with ((with_reducible refine upon_narrow Tryz.underlying46 Tryz.underlying28 hr64 h2 ?_); intro a m ha)
  go_wp2_with ((with_reducible refine upon_narrow Tryz.underlying46 Tryz.underlying28 hs64 h4 ?_); intro b n hb)
  go_ret
  exact ⟨⟨a, b, ⟨ha.1.trans K1.out, ha.2⟩, ⟨hb.1.trans K3.out, hb.2⟩, rfl⟩, _, rfl⟩
theorem c_finC (a b : Nat) (w : World) : Calls Tryz.prog 26 #[.complex .f32 a b] w (RB (isFin (fv .f32 a) && isFin (fv .f32 b)) w) := by
  have H1 := hide_ (fun W => c_implIsFinite a W)
  have H2 := hide_ (fun W => c_implIsFinite b W)
  unfold RB at *
  generalize isFin (fv .f32 a) = p at *
  generalize isFin (fv .f32 b) = q at *
  cases p
  · go_enter Tryz.func26, Tryz.ntmps26
    go_wp2_with fail
    go_at_call 61
    refine Calls.mono (H1.out _) ?_
    rintro e w1 ⟨rfl, n1, rfl⟩
    go_wp2_with fail
    go_ret
    exact ⟨rfl, n1, rfl⟩
  · go_enter Tryz.func26, Tryz.ntmps26
    go_wp2_with fail
    go_at_call 61
    refine Calls.mono (H1.out _) ?_
    rintro e w1 ⟨rfl, n1, rfl⟩
    go_wp2_with fail
    go_at_call 61
    refine Calls.mono (H2.out _) ?_
    rintro e w2 ⟨rfl, n2, rfl⟩
    go_wp2_with fail
    go_ret
    exact ⟨rfl, n1 + n2, by simp⟩

end Go.Proofs.YtiabbafmjgiobaaGreatDoor

/-
A region that draws its order, walked by an invariant that knows which operations are done; each step says itself what it keeps.
-/
namespace Go.Proofs.YtiabbafmjgiobaaGreatDoor.Fl
open Go Go.RowKit

section
variable {P : Program} {ops : Array Oper} {Q : Exit → Act → World → Prop} {dst : Nat → Nat} {C : Array Bool → World → Prop} {V : Nat → Value → World → Prop} {a0 : Act}

theorem wpAny_listed (hd : ∀ (i : Nat) (o : Oper), ops[i]? = some o → o.guard = none)
    (hinj : ∀ i j, i < ops.size → j < ops.size → dst i = dst j → i = j)
    (hlt : ∀ i, i < ops.size → dst i < a0.tmps.size)
    (hback : ∀ (i : Nat) (o : Oper), ops[i]? = some o → ∀ e ∈ o.after, e.on < i)
    (hstep : ∀ (listed : Array Bool) (i : Nat) (o : Oper), listed.size = ops.size → ops[i]? = some o → listed.getD i false = false → (∀ e ∈ o.after, Region.binds .any e = true → listed.getD e.on false = true) → ∀ a w, C listed w → FrameOf ops.size dst a0 a → (∀ j, j < ops.size → listed.getD j false = false → a.tmps.getD (dst j) undef = a0.tmps.getD (dst j) undef) → (∀ e ∈ o.after, Region.binds .any e = true → V e.on (a.tmps.getD (dst e.on) undef) w) →
      o.wp P a w (fun a' w' => C (listed.setIfInBounds i true) w' ∧ (∀ j v, j < ops.size → listed.getD j false = true → V j v w → V j v w') ∧ ∃ v, V i v w' ∧ a' = a.put (some (dst i)) v) Q)
    (hend : ∀ listed a w, (∀ i, i < ops.size → listed.getD i false = true) → C listed w → FrameOf ops.size dst a0 a → (∀ i, i < ops.size → V i (a.tmps.getD (dst i) undef) w) → Q .normal a w) :
    ∀ (fuel : Nat) (listed : Array Bool) (a : Act) (w : World), listed.size = ops.size → (List.range ops.size).countP (fun i => !listed.getD i false) ≤ fuel → C listed w → FrameOf ops.size dst a0 a →
      (∀ i, i < ops.size → listed.getD i false = true → V i (a.tmps.getD (dst i) undef) w) → (∀ j, j < ops.size → listed.getD j false = false → a.tmps.getD (dst j) undef = a0.tmps.getD (dst j) undef) → wpAny P .any ops Q fuel listed a w := by
  intro fuel
  induction fuel with
  | zero =>
    intro listed a w hsz hcnt hC hF hV hN
    have hall : ∀ i, i < ops.size → listed.getD i false = true := by
      intro i hi
      have h0 : (List.range ops.size).countP (fun i => !listed.getD i false) = 0 := by omega
      have := List.countP_eq_zero.1 h0 i (List.mem_range.2 hi)
      simpa using this
    refine ⟨?_, hend listed a w hall hC hF fun i hi => hV i hi (hall i hi)⟩
    cases hr : Region.ready .any ops listed with
    | nil => rfl
    | cons x xs =>
      have hx : x ∈ Region.ready .any ops listed := by rw [hr]; exact List.mem_cons_self
      obtain ⟨h1, h2, _⟩ := ready_mem hx
      rw [getD_lt listed x true false (by omega), hall x h1] at h2
      cases h2
  | succ fuel ih =>
    intro listed a w hsz hcnt hC hF hV hN
    refine ⟨fun hr => hend listed a w (ready_nil hsz hback hr) hC hF fun i hi => hV i hi (ready_nil hsz hback hr i hi), fun i hi => ?_⟩
    obtain ⟨h1, h2, h3⟩ := ready_mem hi
    have ho : ops[i]? = some ops[i] := Array.getElem?_eq_getElem h1
    unfold wpOp
    rw [ho]
    simp only []
    rw [if_pos (by simp [Region.wanted, hd i _ ho])]
    refine .inl (Oper.wp_mono ?_ (hstep listed i _ hsz ho (by rw [← getD_lt listed i true false (by omega)]; exact h2) (fun e he hb => h3 _ ho e he hb) a w hC hF hN (fun e he hb => ?_)))
    · rintro a' w' ⟨hC', hB, v, hv, rfl⟩
      refine ih _ _ _ (by rw [Array.size_setIfInBounds]; exact hsz) ?_ hC' (hF.put h1 v) ?_ ?_
      · have hlt' := countP_lt (p := fun i => !listed.getD i false) (q := fun j => !(listed.setIfInBounds i true).getD j false) (i := i) (List.range ops.size) (List.mem_range.2 h1) (by
          intro x hx
          simp only [Array.getD_eq_getD_getElem?, Array.getElem?_setIfInBounds, Bool.not_eq_true'] at hx ⊢
          split at hx
          · rename_i h; subst h; simp [show i < listed.size by omega] at hx
          · exact hx) (by
          rw [getD_lt listed i true false (by omega)] at h2
          rw [h2]; rfl) (by simp [Array.getD_eq_getD_getElem?, show i < listed.size by omega])
        omega
      · intro j hj hl
        by_cases hij : i = j
        · subst hij
          rw [put_same _ _ _ (by rw [hF.size]; exact hlt i h1)]
          exact hv
        · rw [put_other _ _ _ _ (fun h => hij (hinj i j h1 hj h))]
          have hl' : listed.getD j false = true := by
            simp only [Array.getD_eq_getD_getElem?, Array.getElem?_setIfInBounds, if_neg hij] at hl ⊢
            exact hl
          exact hB j _ hj hl' (hV j hj hl')
      · intro j hj hl
        by_cases hij : i = j
        · subst hij
          simp [Array.getD_eq_getD_getElem?, show i < listed.size by omega] at hl
        · rw [put_other _ _ _ _ (fun h => hij (hinj i j h1 hj h))]
          refine hN j hj ?_
          simp only [Array.getD_eq_getD_getElem?, Array.getElem?_setIfInBounds, if_neg hij] at hl ⊢
          exact hl
    · exact hV e.on (Nat.lt_trans (hback i _ ho e he) h1) (h3 _ ho e he hb)

/-- A REGION THAT DRAWS ITS ORDER, ANY STEPS THAT KEEP AN INVARIANT AND THE KINDS OF THE SLOTS. -/
theorem wp_region_listed {id : Nat} {w0 : World} (dst : Nat → Nat) (C : Array Bool → World → Prop) (V : Nat → Value → World → Prop) (hm : P.follows .mixedOrders = true) (hd : ∀ (i : Nat) (o : Oper), ops[i]? = some o → o.guard = none)
    (hback : ∀ (i : Nat) (o : Oper), ops[i]? = some o → ∀ e ∈ o.after, e.on < i)
    (hinj : ∀ i j, i < ops.size → j < ops.size → dst i = dst j → i = j)
    (hlt : ∀ i, i < ops.size → dst i < a0.tmps.size)
    (hCd : C (Array.replicate ops.size false) w0.drew)
    (hstep : ∀ (listed : Array Bool) (i : Nat) (o : Oper), listed.size = ops.size → ops[i]? = some o → listed.getD i false = false → (∀ e ∈ o.after, Region.binds .any e = true → listed.getD e.on false = true) → ∀ a w, C listed w → FrameOf ops.size dst a0 a → (∀ j, j < ops.size → listed.getD j false = false → a.tmps.getD (dst j) undef = a0.tmps.getD (dst j) undef) → (∀ e ∈ o.after, Region.binds .any e = true → V e.on (a.tmps.getD (dst e.on) undef) w) →
      o.wp P a w (fun a' w' => C (listed.setIfInBounds i true) w' ∧ (∀ j v, j < ops.size → listed.getD j false = true → V j v w → V j v w') ∧ ∃ v, V i v w' ∧ a' = a.put (some (dst i)) v) Q)
    (hend : ∀ listed a w, (∀ i, i < ops.size → listed.getD i false = true) → C listed w → FrameOf ops.size dst a0 a → (∀ i, i < ops.size → V i (a.tmps.getD (dst i) undef) w) → Q .normal a w) :
    (Code.region id ops true).wp P Q a0 w0 := by
  refine wp_region_any hm (wpAny_listed hd hinj hlt hback hstep hend ops.size _ _ _ (by simp) ?_ hCd ⟨rfl, rfl, fun _ _ => rfl⟩ ?_ (fun _ _ _ => rfl))
  · exact Nat.le_trans List.countP_le_length (by simp)
  · intro i hi h
    simp [Array.getD_eq_getD_getElem?, hi] at h
end

theorem stepL_value {P : Program} {o : Oper} {a : Act} {w : World} {Q : Exit → Act → World → Prop} {C' : World → Prop} {L : Nat → Prop} {n i : Nat} {V : Nat → Value → World → Prop} {d : Nat} (v : Value)
    (h : (execOp a.eval o).run P w = .ok (.value v) w) (hd : o.dst = some d) (hv : V i v w) (hC : C' w) :
    o.wp P a w (fun a' w' => C' w' ∧ (∀ j v, j < n → L j → V j v w → V j v w') ∧ ∃ v, V i v w' ∧ a' = a.put (some d) v) Q := by
  unfold Oper.wp
  rw [h]
  exact ⟨hC, fun _ _ _ _ h => h, v, hv, by rw [hd]⟩
theorem stepL_call {P : Program} {o : Oper} {a : Act} {w : World} {Q : Exit → Act → World → Prop} {C' : World → Prop} {L : Nat → Prop} {n i : Nat} {V : Nat → Value → World → Prop} {d : Nat} (f : FuncId) (args : Array Value)
    (h : (execOp a.eval o).run P w = .ok (.enter f args) w) (hd : o.dst = some d)
    (hc : Calls P f args w fun e w' => C' w' ∧ (∀ j v, j < n → L j → V j v w → V j v w') ∧ ∃ v, e = .returned v ∧ V i v w') :
    o.wp P a w (fun a' w' => C' w' ∧ (∀ j v, j < n → L j → V j v w → V j v w') ∧ ∃ v, V i v w' ∧ a' = a.put (some d) v) Q := by
  unfold Oper.wp
  rw [h]
  exact hc.mono fun e w' ⟨hC, hk, v, he, hv⟩ => by subst he; exact ⟨hC, hk, v, hv, by rw [hd]⟩
theorem dstL_inj {dst : Nat → Nat} {n : Nat} (h : (List.range n).all (fun i => (List.range n).all fun j => decide (dst i = dst j → i = j)) = true) : ∀ i j, i < n → j < n → dst i = dst j → i = j := by
  intro i j hi hj
  have := List.all_eq_true.1 (List.all_eq_true.1 h i (List.mem_range.2 hi)) j (List.mem_range.2 hj)
  exact of_decide_eq_true this

end Go.Proofs.YtiabbafmjgiobaaGreatDoor.Fl

/-
Texts of lists of complex numbers read back: the program, walked.
-/
set_option linter.unusedVariables false
set_option linter.unusedSimpArgs false
namespace Go.Proofs.YtiabbafmjgiobaaGreatDoor
open Fl Go Go.RowKit

/-- what stands while a piece is read -/
def CK (w : World) (g c' k : Nat) (s : ByteArray) (A : Option Addr) (W : World) : Prop :=
  W.ownsRow w.heap.size 24 1 (.slice (some ⟨g, 0, none⟩) k c') k ((((sp s).take k).map vC).map cxV) ∧ Below w.heap.size w W ∧ Fs W A (sp s) ∧ VarsM W
theorem CK.keep {w : World} {g c' k : Nat} {s : ByteArray} {A : Option Addr} {W W' : World} (h : CK w g c' k s A W) (hB : Below W.heap.size W W') : CK w g c' k s A W' :=
  ⟨own_keep h.1 hB, h.2.1.trans (hB.mono h.2.1.size), h.2.2.1.keep hB (Nat.le_refl _), h.2.2.2.keep hB⟩
theorem setL {l : Array Bool} {i j : Nat} (h : i ≠ j) : (l.setIfInBounds i true).getD j false = l.getD j false := by
  simp [Array.getD_eq_getD_getElem?, Array.getElem?_setIfInBounds, h]
theorem setL_same {l : Array Bool} {i : Nat} (h : i < l.size) : (l.setIfInBounds i true).getD i false = true := by
  simp [Array.getD_eq_getD_getElem?, Array.getElem?_setIfInBounds, h]
theorem setL_up {l : Array Bool} {i j : Nat} (h : l.getD j false = true) : (l.setIfInBounds i true).getD j false = true := by
  by_cases e : i = j
  · subst e
    refine setL_same ?_
    rw [Array.getD_eq_getD_getElem?] at h
    cases hq : l[i]? with
    | none => rw [hq] at h; cases h
    | some x => exact (Array.getElem?_eq_some_iff.1 hq).1
  · rw [setL e]; exact h
/-- which operations are done ahead of which -/
def Done (l : Array Bool) : Prop := (l.getD 10 false = true → l.getD 9 false = true) ∧ (l.getD 9 false = true → l.getD 0 false = true ∧ l.getD 8 false = true)
theorem Done.start (n : Nat) : Done (Array.replicate n false) := by
  have h : ∀ j, (Array.replicate n false).getD j false = false := fun j => by
    simp only [Array.getD_eq_getD_getElem?, Array.getElem?_replicate]
    split <;> rfl
  exact ⟨(fun e => by rw [h] at e; cases e), (fun e => by rw [h] at e; cases e)⟩
theorem Done.set {l : Array Bool} (h : Done l) {q : Nat} (h9 : q ≠ 9) (h10 : q ≠ 10) : Done (l.setIfInBounds q true) :=
  ⟨fun e => by rw [setL h10] at e; rw [setL h9]; exact h.1 e, fun e => by rw [setL h9] at e; exact ⟨setL_up (h.2 e).1, setL_up (h.2 e).2⟩⟩
theorem Done.set9 {l : Array Bool} (h : Done l) (h9 : l.getD 9 false = false) (h0 : l.getD 0 false = true) (h8 : l.getD 8 false = true) : Done (l.setIfInBounds 9 true) :=
  ⟨(fun e => by rw [setL (by decide)] at e; rw [h.1 e] at h9; cases h9), fun _ => ⟨setL_up h0, setL_up h8⟩⟩
theorem Done.set10 {l : Array Bool} (h : Done l) (h9 : l.getD 9 false = true) : Done (l.setIfInBounds 10 true) :=
  ⟨fun _ => setL_up h9, fun _ => ⟨setL_up (h.2 h9).1, setL_up (h.2 h9).2⟩⟩
theorem Done.no10 {l : Array Bool} (h : Done l) (h0 : l.getD 0 false = false) : l.getD 10 false = false := by
  cases e : l.getD 10 false
  · rfl
  · rw [(h.2 (h.1 e)).1] at h0; cases h0
theorem Done.not10 {l : Array Bool} (h : Done l) (h9 : l.getD 9 false = false) : l.getD 10 false = false := by
  cases e : l.getD 10 false
  · rfl
  · rw [h.1 e] at h9; cases h9
theorem stepL_step {P : Program} {o : Oper} {a : Act} {w w1 : World} {Q : Exit → Act → World → Prop} {C' : World → Prop} {L : Nat → Prop} {n i : Nat} {V : Nat → Value → World → Prop} {d : Nat} (v : Value)
    (h : (execOp a.eval o).run P w = .ok (.value v) w1) (hd : o.dst = some d) (hk : ∀ j v, j < n → L j → V j v w → V j v w1) (hv : V i v w1) (hC : C' w1) :
    o.wp P a w (fun a' w' => C' w' ∧ (∀ j v, j < n → L j → V j v w → V j v w') ∧ ∃ v, V i v w' ∧ a' = a.put (some d) v) Q := by
  unfold Oper.wp
  rw [h]
  exact ⟨hC, hk, v, hv, by rw [hd]⟩
/-- the one-cell slice that an append reads -/
def NewC (g x1 x2 : Nat) (v : Value) (W : World) : Prop := ∃ B, v = .slice (some ⟨B, 0, none⟩) 1 1 ∧ B ≠ g ∧ W.heap[B]? = some (.cells #[.complex .f32 x1 x2] 24 (0, 0))
theorem exec_append {P : Program} {o : Oper} {a : Act} {s x : Operand} {t : TypeId} {v u v' : Value} {w w' : World} (ho : o.op = .call { callee := .builtin .append, args := #[s, x], argTypes := #[t, t] })
    (hs : a.eval s = v) (hx : a.eval x = u) (hr : (Builtin.append_ #[t, t] o.type #[v, u]).run P w = .ok v' w') : (execOp a.eval o).run P w = .ok (.value v') w' := by
  unfold execOp
  simp only [ho, resolve, invoke, builtin, Sem.run_bind, Sem.run_pure, Result.andThen_ok, List.map_toArray, List.map_cons, List.map_nil, hs, hx, hr]
theorem news_of {B : Nat} {x : Value} {t : TypeId} {W : World} (h : W.heap[B]? = some (.cells #[x] t (0, 0))) (j : Nat) (u : Value) (hj : [x][j]? = some u) : W.cell? ((⟨B, 0, none⟩ : Addr).add j) = some u := by
  match j, hj with
  | 0, hj =>
    simp at hj; subst hj
    unfold World.cell?
    simp [Addr.add, h]
/-- the list with one number more -/
def RowC (w : World) (g b k : Nat) (s : ByteArray) (x1 x2 : Nat) (v : Value) (W : World) : Prop := ∃ g3 c3, v = .slice (some ⟨g3, 0, none⟩) (k + 1) c3 ∧ W.ownsRow w.heap.size 24 1 v (k + 1) ((((sp s).take k).map vC ++ [(x1, x2)]).map cxV) ∧ (g3 = g ∨ b < g3)
theorem NewC.keep {g x1 x2 : Nat} {v : Value} {W W' : World} (h : NewC g x1 x2 v W) (hB : Below W.heap.size W W') : NewC g x1 x2 v W' := by
  obtain ⟨B, rfl, h1, h2⟩ := h
  exact ⟨B, rfl, h1, by rw [hB.block B (Array.getElem?_eq_some_iff.1 h2).1]; exact h2⟩
theorem RowC.keep {w : World} {g b k : Nat} {s : ByteArray} {x1 x2 : Nat} {v : Value} {W W' : World} (h : RowC w g b k s x1 x2 v W) (hB : Below W.heap.size W W') : RowC w g b k s x1 x2 v W' := by
  obtain ⟨g3, c3, rfl, h1, h2⟩ := h
  exact ⟨g3, c3, rfl, own_keep h1 hB, h2⟩
/-- the kinds of what the region's slots hold -/
def VC (w : World) (g c' b k : Nat) (s p : ByteArray) (x1 x2 : Nat) : Nat → Value → World → Prop := fun i => ([fun v _ => v = .slice (some ⟨g, 0, none⟩) k c', fun v _ => v = .string p, fun v _ => v = .string (p.extract 0 8), fun v _ => v = .float .f32 x1, fun v _ => v = .string p, fun v _ => v = .string (p.extract 8 16), fun v _ => v = .float .f32 x2, fun v _ => v = .complex .f32 x1 x2, NewC g x1 x2, RowC w g b k s x1 x2, RowC w g b k s x1 x2] : List (Value → World → Prop)).getD i (fun _ _ => True)
theorem VC.keep {w : World} {g c' b k : Nat} {s p : ByteArray} {x1 x2 : Nat} {W W' : World} (hB : Below W.heap.size W W') (j : Nat) (v : Value) (h : VC w g c' b k s p x1 x2 j v W) : VC w g c' b k s p x1 x2 j v W' := by
  rcases j with _ | _ | _ | _ | _ | _ | _ | _ | _ | _ | _ | j
  · exact h
  · exact h
  · exact h
  · exact h
  · exact h
  · exact h
  · exact h
  · exact h
  · exact NewC.keep h hB
  · exact RowC.keep h hB
  · exact RowC.keep h hB
  · exact h
set_option maxRecDepth 100000 in
set_option maxHeartbeats 4000000 in
theorem c_implReadComplex (s : ByteArray) (w : World) (hm : s.size ≤ 1048576) (hv : VarsM w) (hz : Tz w) : Calls Tryz.prog 18 #[.string s] w (CReadGives s w) := by
  obtain ⟨i0, hi, hz0, hz1, hz2⟩ := info_parts infoC
  unfold CReadGives
  have HV0 := hide_ hv
  have HZ0 := hide_ hz
  cases hn : isNo s
  · have HC1 := hide_ (c_pieces s (w.alloc (.cells #[] 24)) hm hn (hv.keep ((Below.refl w.heap.size w).alloc (Nat.le_refl _) _)))
    have hsp := sp_le s
    have HN := hide_ hn
    clear hn hv hz
    go_enter Tryz.func18, Tryz.ntmps18
    go_wp2_with fail
    go_at_call 49
    refine Calls.mono HC1.out ?_
    rintro e w1 ⟨A, c, rfl, hF, hNA, hB⟩
    have HF := hide_ hF
    have HNA := hide_ (hNA w.heap.size (by simp))
    have HO1 := hide_ (own_keep (own_new w 24 w.heap.size (Nat.le_refl _)) hB)
    have HB1 := hide_ (((Below.refl w.heap.size w).alloc (Nat.le_refl _) (.cells #[] 24)).trans (hB.mono (by simp)))
    clear hF hNA hB
    go_wp2_with fail
    go_loopw [4, 13] (fun out i wr => ∃ (k : Nat) (A' : Option Addr) (c' : Nat), k ≤ (sp s).length ∧ k ≤ 256 ∧ i = .int .i64 k ∧ out = .slice A' k c' ∧ wr.ownsRow w.heap.size 24 1 (.slice A' k c') k ((((sp s).take k).map vC).map cxV) ∧ Below w.heap.size w wr ∧ Fs wr A (sp s) ∧ (∃ g, A' = some ⟨g, 0, none⟩ ∧ NotAt A g) ∧ ∀ j, j < k → ((sp s).getD j default).size = 16) (fun out i wr => (sp s).length - (intOf i).toNat)
    case atStart => exact ⟨0, _, _, Nat.zero_le _, Nat.zero_le _, rfl, rfl, HO1.out, HB1.out, HF.out, ⟨_, rfl, HNA.out⟩, fun j hj => absurd hj (Nat.not_lt_zero _)⟩
    case round =>
      obtain ⟨k, A', c', hk, hk6, rfl, rfl, ho, R, F, ⟨g, rfl, hna⟩, P⟩ := hrel
      have HNg := hide_ hna
      have HO := hide_ ho
      have HR := hide_ R
      have HF' := hide_ F
      have HPk := hide_ P
      clear ho R F P hna HO1 HB1 HF HNA
      by_cases hlt : k < (sp s).length
      · obtain ⟨b, off, rfl, hb, hc⟩ := HF'.out.of_pos (by omega)
        have hcell := hc k hlt
        have HM := hide_ (mapC_snoc s hlt)
        have HBD := hide_ (nC_bad HN.out hlt)
        have HLG := hide_ (fun h => nC_long (s := s) HN.out h)
        clear hc
        have hltI : (k : Int) < (sp s).length := by omega
        generalize hp : (sp s).getD k default = p at hcell HM HBD
        have HPp := hide_ hp
        clear hp
        by_cases h8 : p.size = 16
        · have h8N : ((p.size : Int) != 16) = false := by rw [bne, beq_iff_eq.2 (show (p.size : Int) = 16 by omega)]; rfl
          by_cases h256 : k = 256
          · have hkI : ((k : Int) == 256) = true := beq_iff_eq.2 (by omega)
            have HQ := hide_ (HLG.out (by omega))
            have HP8 := hide_ h8
            clear h8 h256
            go_wp2_with fail
            go_ret2
            exact ⟨_, by rw [HQ.out.1]; rfl, by rw [HQ.out.2]; exact OwnC.nil _ _, HR.out⟩
          · have hkI : ((k : Int) == 256) = false := beq_eq_false_iff_ne.2 (by omega)
            have HP8 := hide_ h8
            have HK0 := hide_ (show CK w g c' k s (some ⟨b, off, none⟩) wr from ⟨HO.out, HR.out, HF'.out, HV0.out.keep HR.out⟩)
            have hp8 : (8 : Int) ≤ p.size := by omega
            have D1 : Hid (∀ W, VarsM W → Calls Tryz.prog 50 #[.string (p.extract 0 8)] W fun e w' => e = .returned (.float .f32 (vH (p1 p))) ∧ Below W.heap.size W w') := fun W hW => c_readHex (p1 p) (half_size h8).1 W hW.1.2
            have D2 : Hid (∀ W, VarsM W → Calls Tryz.prog 50 #[.string (p.extract 8 16)] W fun e w' => e = .returned (.float .f32 (vH (p2 p))) ∧ Below W.heap.size W w') := by
              intro W hW
              have e : p.extract 8 16 = p2 p := by unfold p2; rw [h8]
              rw [e]
              exact c_readHex (p2 p) (half_size h8).2 W hW.1.2
            rw [show vC p = (vH (p1 p), vH (p2 p)) from rfl] at HM
            generalize vH (p1 p) = x1 at *
            generalize vH (p2 p) = x2 at *
            go_wp2_with fail
            refine wp_region_listed (fun i => if i = 10 then 4 else 25 + i) (fun l W => Done l ∧ Below w.heap.size w W ∧ Fs W (some ⟨b, off, none⟩) (sp s) ∧ VarsM W ∧ (l.getD 9 false = false → CK w g c' k s (some ⟨b, off, none⟩) W)) (VC w g c' b k s p x1 x2) (by kernel_rfl) (guards_none (by kernel_rfl)) (edges_back (by kernel_rfl)) (dstL_inj (by decide)) (fun i hi => ?_) ?_ (fun l i o hls ho hli hle a wq hC hF hN hV => ?_) (fun l a wq hall hC hF hV => ?_)
            · have hi11 : i < 11 := by simpa using hi
              show (if i = 10 then 4 else 25 + i) < 49
              split <;> omega
            · have hKd := HK0.out.keep (Below.refl wr.heap.size wr).drew
              exact ⟨Done.start _, hKd.2.1, hKd.2.2.1, hKd.2.2.2, fun _ => hKd⟩
            · have hCs : ∀ q, q ≠ 9 → q ≠ 10 → Done (l.setIfInBounds q true) ∧ Below w.heap.size w wq ∧ Fs wq (some ⟨b, off, none⟩) (sp s) ∧ VarsM wq ∧ ((l.setIfInBounds q true).getD 9 false = false → CK w g c' k s (some ⟨b, off, none⟩) wq) := fun q h9 h10 => by
                rw [setL h9]; exact ⟨hC.1.set h9 h10, hC.2⟩
              have f6 : a.tmps.getD 6 undef = .string p := hF.rest 6 (fun i hi => by
                have hi11 : i < 11 := by simpa using hi
                show (if i = 10 then 4 else 25 + i) ≠ 6
                split <;> omega)
              match i, ho with
              | 0, ho =>
                obtain rfl := Option.some.inj ho
                have f4 : a.tmps.getD 4 undef = .slice (some ⟨g, 0, none⟩) k c' := hN 10 (by simp) (hC.1.no10 hli)
                refine stepL_value (.slice (some ⟨g, 0, none⟩) k c') ?_ rfl rfl (hCs 0 (by decide) (by decide))
                clear hV hF hC hCs
                go_simp
              | 1, ho =>
                obtain rfl := Option.some.inj ho
                refine stepL_value (.string p) ?_ rfl rfl (hCs 1 (by decide) (by decide))
                clear hV hF hC hCs
                go_simp
              | 2, ho =>
                obtain rfl := Option.some.inj ho
                have e1 : a.tmps.getD 26 undef = .string p := hV ⟨1, .data⟩ (by simp) rfl
                refine stepL_value (.string (p.extract 0 8)) ?_ rfl rfl (hCs 2 (by decide) (by decide))
                clear hV hF hC hCs
                go_simp
              | 3, ho =>
                obtain rfl := Option.some.inj ho
                have e2 : a.tmps.getD 27 undef = .string (p.extract 0 8) := hV ⟨2, .data⟩ (by simp) rfl
                refine stepL_call 50 #[.string (p.extract 0 8)] ?_ rfl ?_
                · clear hV hF hC hCs
                  go_simp
                · refine (D1.out wq hC.2.2.2.1).mono ?_
                  rintro e w' ⟨rfl, hB⟩
                  exact ⟨⟨hC.1.set (by decide) (by decide), hC.2.1.trans (hB.mono hC.2.1.size), hC.2.2.1.keep hB (Nat.le_refl _), hC.2.2.2.1.keep hB, fun h => (hC.2.2.2.2 (by rw [setL (by decide)] at h; exact h)).keep hB⟩, fun j v _ _ h => VC.keep hB j v h, _, rfl, rfl⟩
              | 4, ho =>
                obtain rfl := Option.some.inj ho
                refine stepL_value (.string p) ?_ rfl rfl (hCs 4 (by decide) (by decide))
                clear hV hF hC hCs
                go_simp
              | 5, ho =>
                obtain rfl := Option.some.inj ho
                have e4 : a.tmps.getD 29 undef = .string p := hV ⟨4, .data⟩ (by simp) rfl
                refine stepL_value (.string (p.extract 8 16)) ?_ rfl rfl (hCs 5 (by decide) (by decide))
                clear hV hF hC hCs
                go_simp
              | 6, ho =>
                obtain rfl := Option.some.inj ho
                have e5 : a.tmps.getD 30 undef = .string (p.extract 8 16) := hV ⟨5, .data⟩ (by simp) rfl
                refine stepL_call 50 #[.string (p.extract 8 16)] ?_ rfl ?_
                · clear hV hF hC hCs
                  go_simp
                · refine (D2.out wq hC.2.2.2.1).mono ?_
                  rintro e w' ⟨rfl, hB⟩
                  exact ⟨⟨hC.1.set (by decide) (by decide), hC.2.1.trans (hB.mono hC.2.1.size), hC.2.2.1.keep hB (Nat.le_refl _), hC.2.2.2.1.keep hB, fun h => (hC.2.2.2.2 (by rw [setL (by decide)] at h; exact h)).keep hB⟩, fun j v _ _ h => VC.keep hB j v h, _, rfl, rfl⟩
              | 7, ho =>
                obtain rfl := Option.some.inj ho
                have e3 : a.tmps.getD 28 undef = .float .f32 x1 := hV ⟨3, .data⟩ (by simp) rfl
                have e6 : a.tmps.getD 31 undef = .float .f32 x2 := hV ⟨6, .data⟩ (by simp) rfl
                refine stepL_value (.complex .f32 x1 x2) ?_ rfl rfl (hCs 7 (by decide) (by decide))
                clear hV hF hC hCs
                go_simp
              | 8, ho =>
                obtain rfl := Option.some.inj ho
                have e7 : a.tmps.getD 32 undef = .complex .f32 x1 x2 := hV ⟨7, .data⟩ (by simp) rfl
                have hK := hC.2.2.2.2 (by
                  cases e : l.getD 9 false
                  · rfl
                  · rw [(hC.1.2 e).2] at hli; cases hli)
                have hB : Below wq.heap.size wq (wq.alloc (.cells #[.complex .f32 x1 x2] 24)) := (Below.refl wq.heap.size wq).alloc (Nat.le_refl _) _
                have hgl := (World.ownsRow.lt hK.1 g rfl).2
                refine stepL_step (.slice (some ⟨wq.heap.size, 0, none⟩) 1 1) (w1 := wq.alloc (.cells #[.complex .f32 x1 x2] 24)) ?_ rfl (fun j v _ _ h => VC.keep hB j v h) ⟨wq.heap.size, rfl, by omega, heap_alloc_new wq _⟩ ⟨hC.1.set (by decide) (by decide), hC.2.1.trans (hB.mono hC.2.1.size), hC.2.2.1.keep hB (Nat.le_refl _), hC.2.2.2.1.keep hB, fun h => hK.keep hB⟩
                clear hV hF hC hCs hK hB hle hN hli
                have e7' := e7
                rw [Array.getD_eq_getD_getElem?] at e7'
                go_simp
              | 9, ho =>
                obtain rfl := Option.some.inj ho
                have e0 : a.tmps.getD 25 undef = .slice (some ⟨g, 0, none⟩) k c' := hV ⟨0, .data⟩ (by simp) rfl
                obtain ⟨B, e8, hBg, hBh⟩ : NewC g x1 x2 (a.tmps.getD 33 undef) wq := hV ⟨8, .data⟩ (by simp) rfl
                have hK := hC.2.2.2.2 hli
                have h0 : l.getD 0 false = true := hle ⟨0, .data⟩ (by simp) rfl
                have h8' : l.getD 8 false = true := hle ⟨8, .data⟩ (by simp) rfl
                obtain ⟨v', w3, hr, hown, hgrow, hni, hob⟩ := run_append_own_at (P := Tryz.prog) wq w.heap.size 25 25 24 i0 (.complex .f32 0 0) 1 8 Tryz.underlying25 hi hz0 hz1 hz2 rfl (by decide) (.slice (some ⟨g, 0, none⟩) k c') k _ hK.1 ⟨B, 0, none⟩ 1 1 [.complex .f32 x1 x2] rfl (news_of hBh) (fun u hu => by simp at hu; subst hu; rfl) (by unfold maxLen; omega) (by omega) hC.2.1.size
                obtain ⟨b', off', hbe, hbl, _⟩ := hC.2.2.1.of_pos (by omega)
                simp only [Option.some.injEq, Addr.mk.injEq] at hbe
                have hbl' : b < wq.heap.size := by rw [hbe.1]; exact hbl
                have hgl := (World.ownsRow.lt hK.1 g rfl).2
                have hF3 := hC.2.2.1.grown hgrow HNg.out
                have hR3 := hC.2.1.grown hgrow hC.2.1.size (fun q hq => (World.ownsRow.lt hK.1 q hq).1)
                obtain ⟨A3, c3, rfl⟩ := own_form hown
                obtain ⟨g3, rfl, hg3⟩ := ob_some hni hob hown
                refine stepL_step (.slice (some ⟨g3, 0, none⟩) (k + 1) c3) (w1 := w3) ?_ rfl (fun j v hj hlj h => ?_) ⟨g3, c3, rfl, ?_, ?_⟩ ⟨hC.1.set9 hli h0 h8', hR3, hF3, HV0.out.keep hR3, fun h => ?_⟩
                · exact exec_append rfl e0 e8 hr
                · rcases j with _ | _ | _ | _ | _ | _ | _ | _ | _ | _ | _ | j
                  · exact h
                  · exact h
                  · exact h
                  · exact h
                  · exact h
                  · exact h
                  · exact h
                  · exact h
                  · obtain ⟨B', rfl, h1, h2⟩ := h
                    exact ⟨B', rfl, h1, by rw [hgrow.block B' (Array.getElem?_eq_some_iff.1 h2).1 (fun e => h1 (Option.some.inj e))]; exact h2⟩
                  · rw [hli] at hlj; cases hlj
                  · rw [hC.1.not10 hli] at hlj; cases hlj
                  · exact h
                · rw [List.map_append]; exact hown
                · rcases hg3 with rfl | rfl
                  · exact .inl rfl
                  · exact .inr hbl'
                · exfalso
                  rw [setL_same (by rw [hls]; simp)] at h
                  cases h
              | 10, ho =>
                obtain rfl := Option.some.inj ho
                have e9 : RowC w g b k s x1 x2 (a.tmps.getD 34 undef) wq := hV ⟨9, .data⟩ (by simp) rfl
                have h9 : l.getD 9 false = true := hle ⟨9, .data⟩ (by simp) rfl
                refine stepL_value (a.tmps.getD 34 undef) rfl rfl e9 ⟨hC.1.set10 h9, hC.2.1, hC.2.2.1, hC.2.2.2.1, fun h => ?_⟩
                rw [setL (by decide), h9] at h
                cases h
              | n + 11, ho => cases ho
            · have hR := hide_ hC.2.1
              have hFs := hide_ hC.2.2.1
              obtain ⟨b', off', hbe, hbl, _⟩ := hC.2.2.1.of_pos (by omega)
              simp only [Option.some.injEq, Addr.mk.injEq] at hbe
              have HBL := hide_ (show b < wq.heap.size by rw [hbe.1]; exact hbl)
              obtain ⟨g3, c3, e10, hown, hg3⟩ : RowC w g b k s x1 x2 (a.tmps.getD 4 undef) wq := hV 10 (by simp)
              have hf := hF.form (fun s => s = 4 ∨ (25 ≤ s ∧ s < 35)) (fun s hs i hi => by
                have hi11 : i < 11 := by simpa using hi
                show (if i = 10 then 4 else 25 + i) ≠ s
                split <;> omega)
              rw [HM.out] at hown
              have HO3 := hide_ hown
              have HG3 := hide_ hg3
              clear hown hg3 hbe hbl hC hV hF hall
              simp only [List.size_toArray, List.length_cons, List.length_nil, Nat.reduceAdd, List.range_succ, List.range_zero, List.nil_append, List.cons_append, List.map_cons, List.map_nil, Nat.reduceLeDiff, Nat.reduceLT, Nat.reduceEqDiff, Nat.le_refl, and_true, true_and, and_false, false_and, or_false, false_or, or_true, true_or, or_self, and_self, if_true, if_false, Array.getD_eq_getD_getElem?, List.getElem?_toArray, List.getElem?_cons_zero, List.getElem?_cons_succ, Option.getD_some] at hf e10
              rw [e10] at hf
              simp only [← Array.getD_eq_getD_getElem?] at hf
              clear e10
              generalize a.tmps.getD 25 undef = y25 at hf
              generalize a.tmps.getD 26 undef = y26 at hf
              generalize a.tmps.getD 27 undef = y27 at hf
              generalize a.tmps.getD 28 undef = y28 at hf
              generalize a.tmps.getD 29 undef = y29 at hf
              generalize a.tmps.getD 30 undef = y30 at hf
              generalize a.tmps.getD 31 undef = y31 at hf
              generalize a.tmps.getD 32 undef = y32 at hf
              generalize a.tmps.getD 33 undef = y33 at hf
              generalize a.tmps.getD 34 undef = y34 at hf
              subst hf
              go_wp2_with fail
              go_roundw
              case rel =>
                refine ⟨k + 1, _, c3, by omega, by omega, by go_num, rfl, HO3.out, hR.out, hFs.out, ⟨g3, rfl, ?_⟩, fun j hj => ?_⟩
                · rcases HG3.out with rfl | h
                  · exact HNg.out
                  · intro b' off' e
                    simp only [Option.some.injEq, Addr.mk.injEq] at e
                    have hb' := e.1
                    omega
                · rcases Nat.lt_or_eq_of_le (Nat.le_of_lt_succ hj) with h | h
                  · exact HPk.out j h
                  · rw [h, HPp.out]; exact HP8.out
              case measure => simp [intOf] <;> omega
        · have h8N : ((p.size : Int) != 16) = true := by rw [bne_iff_ne]; omega
          have HQ := hide_ (HBD.out (okC_size h8))
          clear h8
          go_wp2_with fail
          go_ret2
          exact ⟨_, by rw [HQ.out.1]; rfl, by rw [HQ.out.2]; exact OwnC.nil _ _, HR.out⟩
      · obtain rfl : k = (sp s).length := by omega
        have ho2 := HO.out
        rw [List.take_length] at ho2
        have hT := c_implCText (some ⟨g, 0, none⟩) c' ((sp s).map vC) wr (own_fc ho2 (by simp)) (all_vC HPk.out) (by simpa using hk6) (HZ0.out.keep HR.out)
        rw [List.length_map] at hT
        have hte := nC_text HPk.out
        have HOO : Hid (OwnC w.heap.size ((sp s).map vC) (.slice (some ⟨g, 0, none⟩) (sp s).length c') wr) := ⟨some ⟨g, 0, none⟩, c', by simp, by simpa using ho2⟩
        have HQ : Hid ((sp s).all okC = false → accC s = false ∧ lstC s = []) := nC_all HN.out
        have HY : Hid ((sp s).all okC = true → accC s = true ∧ lstC s = (sp s).map vC) := nC_yes HN.out hk6
        generalize textL (((sp s).map vC).map hexC) = T at hT hte
        have HT := hide_ hT
        have hcmp := (str_eq T s).trans hte
        clear hT hte ho2
        cases ha : (sp s).all okC
        · rw [ha] at hcmp
          have HQ' := hide_ (HQ.out ha)
          clear ha
          have hcmp2 : (T != s.toList) = true := by rw [bne, hcmp]; rfl
          go_wp2_with fail
          go_at_call 17
          refine Calls.mono HT.out ?_
          rintro e w2 ⟨rfl, hB2⟩
          have HR2 := hide_ (HR.out.trans (hB2.mono HR.out.size))
          clear hB2
          go_wp2_with fail
          go_ret2
          exact ⟨_, by rw [HQ'.out.1]; rfl, by rw [HQ'.out.2]; exact OwnC.nil _ _, HR2.out⟩
        · rw [ha] at hcmp
          have HY' := hide_ (HY.out ha)
          clear ha
          have hcmp2 : (T != s.toList) = false := by rw [bne, hcmp]; rfl
          go_wp2_with fail
          go_at_call 17
          refine Calls.mono HT.out ?_
          rintro e w2 ⟨rfl, hB2⟩
          have HR2 := hide_ (HR.out.trans (hB2.mono HR.out.size))
          have HO2 := hide_ (HOO.out.keep hB2)
          clear hB2
          go_wp2_with fail
          go_ret2
          exact ⟨_, by rw [HY'.out.1]; rfl, by rw [HY'.out.2]; exact HO2.out, HR2.out⟩
  · have HN := hide_ (nC_none hn)
    have hs : s = ⟨#[110, 111, 110, 101]⟩ := bext (by
      unfold isNo at hn
      rw [beq_iff_eq] at hn
      exact hn)
    have HC1 := hide_ (c_piecesNone s (w.alloc (.cells #[] 24)) hn)
    have hT := c_implCText (some ⟨w.heap.size, 0, none⟩) 0 [] (w.alloc (.cells #[] 24)) (.inl rfl) (fun j => ⟨Nat.zero_lt_succ _, Nat.zero_lt_succ _⟩) (by simp) (hz.keep ((Below.refl w.heap.size w).alloc (Nat.le_refl _) _))
    have HT : Hid (Calls Tryz.prog 17 #[.slice (some ⟨w.heap.size, 0, none⟩) 0 0] (w.alloc (.cells #[] 24)) fun e w' => e = .returned (.tuple #[.string ⟨#[110, 111, 110, 101]⟩, .bool true]) ∧ Below (w.heap.size + 1) (w.alloc (.cells #[] 24)) w') := by
      refine Calls.mono hT ?_
      rintro e w' ⟨rfl, hB⟩
      exact ⟨rfl, by simpa using hB⟩
    clear hn hv hz hT
    subst hs
    go_enter Tryz.func18, Tryz.ntmps18
    go_wp2_with fail
    go_at_call 49
    refine Calls.mono HC1.out ?_
    rintro e w1 ⟨rfl, rfl⟩
    go_wp2_with fail
    go_loop [4, 13] (fun out i => i = .int .i64 0 ∧ out = .slice (some ⟨w.heap.size, 0, none⟩) 0 0) (fun _ _ => 0)
    case atStart => exact ⟨rfl, rfl⟩
    case round =>
      obtain ⟨rfl, rfl⟩ := hrel
      go_wp2_with fail
      go_at_call 17
      refine Calls.mono HT.out ?_
      rintro e w2 ⟨rfl, hB2⟩
      have HR2 := hide_ (((Below.refl w.heap.size w).alloc (Nat.le_refl _) (.cells #[] 24)).trans (hB2.mono (Nat.le_succ _)))
      have HO2 := hide_ (own_keep (own_new w 24 w.heap.size (Nat.le_refl _)) (by simpa using hB2))
      clear hB2
      go_wp2_with fail
      go_ret2
      exact ⟨_, by rw [HN.out.1]; rfl, by rw [HN.out.2]; exact ⟨_, _, rfl, HO2.out⟩, HR2.out⟩

end Go.Proofs.YtiabbafmjgiobaaGreatDoor

/-
Marking a list that a law owns, and looking whether the marks still stand.
-/
set_option linter.unusedVariables false
set_option linter.unusedSimpArgs false
namespace Go.Proofs.YtiabbafmjgiobaaGreatDoor
open Fl Go Go.RowKit

theorem OwnF.fl {base : Nat} {xs : List Nat} {v : Value} {w : World} (h : OwnF base xs v w) : ∃ A cap, v = .slice A xs.length cap ∧ Fl32 w A xs := by
  obtain ⟨A, cap, rfl, h1, h2⟩ := h
  refine ⟨A, cap, rfl, ?_⟩
  rcases h2 with ⟨hv, hn⟩ | ⟨g, cp, cur, hv, hb, hh, hr⟩
  · exact .inl (List.eq_nil_of_length_eq_zero hn)
  · simp only [Value.slice.injEq] at hv
    obtain ⟨rfl, _, rfl⟩ := hv
    refine .inr ⟨g, 0, rfl, (Array.getElem?_eq_some_iff.1 hh).1, fun j hj => ?_⟩
    have ho : w.ownsRow base 28 1 (.slice (some ⟨g, 0, none⟩) xs.length cap) xs.length (xs.map (Value.float .f32)) := ⟨h1, .inr ⟨g, cap, cur, rfl, hb, hh, hr⟩⟩
    rw [Nat.zero_add, ho.cellAt j (by omega), List.getElem?_map, List.getElem?_eq_getElem hj]
    simp [List.getD_eq_getElem?_getD, hj]

/-- what new memory leaves, and the writing of another block -/
theorem OwnF.grown {base : Nat} {xs : List Nat} {v : Value} {w w' : World} {row : Option Nat} (h : OwnF base xs v w) (hg : w.grownBy w' row) (hne : v.ownBlock = none ∨ v.ownBlock ≠ row) : OwnF base xs v w' := by
  obtain ⟨A, cap, rfl, h1⟩ := h
  exact ⟨A, cap, rfl, h1.kept hg hne⟩
def cvt (k : Nat) : Nat := floatOfInt .f32 (k : Int)
def marks (k n : Nat) : List Nat := (List.range n).map fun i => cvt (k + i)
theorem marks_len (k n : Nat) : (marks k n).length = n := by simp [marks]
theorem marks_get (k n : Nat) {i : Nat} (h : i < n) : (marks k n).getD i 0 = cvt (k + i) := by
  simp [marks, List.getD_eq_getElem?_getD, h]

theorem mark_step {w : World} {base n : Nat} {v : Value} {ys : List Value} (h : w.ownsRow base 28 1 v n ys) {k j : Nat} {g : Nat} {cap : Nat} (hv : v = .slice (some ⟨g, 0, none⟩) n cap) (hy : ∀ i, i < j → ys[i]? = some (.float .f32 (cvt (k + i)))) (hj : j < n) :
    ∃ zs, (w.setCell ⟨g, j, none⟩ (.float .f32 (cvt (k + j)))).ownsRow base 28 1 v n zs ∧ ∀ i, i < j + 1 → zs[i]? = some (.float .f32 (cvt (k + i))) := by
  subst hv
  have hl : ys.length = n * 1 := h.1
  refine ⟨_, (h.stored j (.float .f32 (cvt (k + j)))).1, fun i hi => ?_⟩
  rw [List.getElem?_set]
  by_cases h1 : j = i
  · subst h1
    rw [if_pos rfl, if_pos (by omega)]
  · rw [if_neg h1]; exact hy i (by omega)
theorem mark_end {w : World} {base n : Nat} {A : Option Addr} {cap : Nat} {ys : List Value} (h : w.ownsRow base 28 1 (.slice A n cap) n ys) {k : Nat} (hy : ∀ i, i < n → ys[i]? = some (.float .f32 (cvt (k + i)))) : OwnF base (marks k n) (.slice A n cap) w := by
  have hl : ys.length = n * 1 := h.1
  have e : ys = (marks k n).map (Value.float .f32) := by
    apply List.ext_getElem?
    intro i
    by_cases hi : i < n
    · rw [hy i hi]; simp [marks, hi]
    · rw [List.getElem?_eq_none (by omega), List.getElem?_eq_none (by simp [marks]; omega)]
  subst e
  exact ⟨A, cap, by rw [marks_len], by rw [marks_len]; exact h⟩
theorem setCell_grown (w : World) (a : Addr) (u : Value) : w.grownBy (w.setCell a u) (some a.block) :=
  ⟨rfl, rfl, rfl, by simp [World.setCell], fun k hk hne => Below.heap_setCell w a u k (fun e => hne (by rw [e]))⟩
theorem grown_trans {a b c : World} {row : Option Nat} (h : a.grownBy b row) (k : b.grownBy c row) : a.grownBy c row :=
  ⟨k.os.trans h.os, k.tape.trans h.tape, k.output.trans h.output, Nat.le_trans h.size k.size, fun i hi hne => (k.block i (Nat.lt_of_lt_of_le hi h.size) hne).trans (h.block i hi hne)⟩


end Go.Proofs.YtiabbafmjgiobaaGreatDoor

/-
Lists of complex64 compared, marked, and the marks looked at.
-/
set_option linter.unusedVariables false
set_option linter.unusedSimpArgs false
namespace Go.Proofs.YtiabbafmjgiobaaGreatDoor
open Fl Go Go.RowKit


theorem Fc.of_own {base : Nat} {xs : List (Nat × Nat)} {v : Value} {w : World} (h : OwnC base xs v w) : ∃ A cap, v = .slice A xs.length cap ∧ Fc w A xs := by
  obtain ⟨A, cap, rfl, h1⟩ := h
  exact ⟨A, cap, rfl, own_fc h1 rfl⟩

/-- the kinds of what the statement 'sameComplex(complex128(a[i]), complex128(b[i]))' leaves -/
def eqC (b off b' off' n c d k : Nat) (x1 x2 : Nat) : Nat → Value → Prop
  | 0, x => x = .slice (some ⟨b, off, none⟩) n c
  | 1, x => x = .int .i64 k
  | 2, x => x = .pointer (some ⟨b, off + k, none⟩)
  | 3, x => x = .complex .f32 x1 x2
  | 4, x => ∃ r q, RV .f64 (cvf .f32 .f64 (fv .f32 x1)) r ∧ RV .f64 (cvf .f32 .f64 (fv .f32 x2)) q ∧ x = .complex .f64 r q
  | 5, x => x = .slice (some ⟨b', off', none⟩) n d
  | 6, x => x = .int .i64 k
  | 7, x => x = .pointer (some ⟨b', off' + k, none⟩)
  | 8, x => x = .complex .f32 x1 x2
  | 9, x => ∃ r q, RV .f64 (cvf .f32 .f64 (fv .f32 x1)) r ∧ RV .f64 (cvf .f32 .f64 (fv .f32 x2)) q ∧ x = .complex .f64 r q
  | 10, x => x = .bool true
  | 11, x => x = .bool false
  | _, _ => True


def cvC (k : Nat) : Nat := (floatToFloatBits .f64 (floatOfInt .f64 (k : Int)) .f32).getD 0
theorem cvC_all : (List.range 2000).all (fun k => (floatToFloatBits .f64 (floatOfInt .f64 (k : Int)) .f32 == some (cvC k)) && (FloatKind.f32.format.order (cvC k) (cvC k) == some .eq)) = true := by kernel_rfl
theorem cvC_run {k : Nat} (h : k < 2000) : floatToFloatBits .f64 (floatOfInt .f64 (k : Int)) .f32 = some (cvC k) ∧ (FloatKind.f32.format.order (cvC k) (cvC k) == some .eq) = true := by
  have := List.all_eq_true.1 cvC_all k (List.mem_range.2 h)
  simp only [Bool.and_eq_true] at this
  exact ⟨eq_of_beq this.1, this.2⟩
theorem cvC_one : floatToFloatBits .f64 4607182418800017408 .f32 = some 1065353216 := by kernel_rfl
theorem cvC_one_eq : (FloatKind.f32.format.order 1065353216 1065353216 == some .eq) = true := by kernel_rfl
def markC (k : Nat) : Nat × Nat := (cvC k, 1065353216)
def marksC (k n : Nat) : List (Nat × Nat) := (List.range n).map fun i => markC (k + i)
theorem marksC_len (k n : Nat) : (marksC k n).length = n := by simp [marksC]
theorem marksC_get (k n : Nat) {i : Nat} (h : i < n) : (marksC k n).getD i (0, 0) = markC (k + i) := by
  simp [marksC, List.getD_eq_getElem?_getD, h]
theorem OwnC.grown {base : Nat} {xs : List (Nat × Nat)} {v : Value} {w w' : World} {row : Option Nat} (h : OwnC base xs v w) (hg : w.grownBy w' row) (hne : v.ownBlock = none ∨ v.ownBlock ≠ row) : OwnC base xs v w' := by
  obtain ⟨A, cap, rfl, h1⟩ := h
  exact ⟨A, cap, rfl, h1.kept hg hne⟩
theorem markC_step {w : World} {base n : Nat} {v : Value} {ys : List Value} (h : w.ownsRow base 24 1 v n ys) {k j : Nat} {g : Nat} {cap : Nat} (hv : v = .slice (some ⟨g, 0, none⟩) n cap) (hy : ∀ i, i < j → ys[i]? = some (cxV (markC (k + i)))) (hj : j < n) :
    ∃ zs, (w.setCell ⟨g, j, none⟩ (cxV (markC (k + j)))).ownsRow base 24 1 v n zs ∧ ∀ i, i < j + 1 → zs[i]? = some (cxV (markC (k + i))) := by
  subst hv
  have hl : ys.length = n * 1 := h.1
  refine ⟨_, (h.stored j (cxV (markC (k + j)))).1, fun i hi => ?_⟩
  rw [List.getElem?_set]
  by_cases h1 : j = i
  · subst h1
    rw [if_pos rfl, if_pos (by omega)]
  · rw [if_neg h1]; exact hy i (by omega)
theorem markC_end {w : World} {base n : Nat} {A : Option Addr} {cap : Nat} {ys : List Value} (h : w.ownsRow base 24 1 (.slice A n cap) n ys) {k : Nat} (hy : ∀ i, i < n → ys[i]? = some (cxV (markC (k + i)))) : OwnC base (marksC k n) (.slice A n cap) w := by
  have hl : ys.length = n * 1 := h.1
  have e : ys = (marksC k n).map cxV := by
    apply List.ext_getElem?
    intro i
    by_cases hi : i < n
    · rw [hy i hi]; simp [marksC, hi]
    · rw [List.getElem?_eq_none (by omega), List.getElem?_eq_none (by simp [marksC]; omega)]
  subst e
  exact ⟨A, cap, by rw [marksC_len], by rw [marksC_len]; exact h⟩


end Go.Proofs.YtiabbafmjgiobaaGreatDoor

/-
The law FnNumbers, walked.
-/
set_option linter.unusedVariables false
set_option linter.unusedSimpArgs false
namespace Go.Proofs.YtiabbafmjgiobaaGreatDoor
open Fl Go Go.RowKit

theorem bits_fv {a b : Nat} (h : fv .f32 a = fv .f32 b) : bitsOf a = bitsOf b := by
  unfold bitsOf
  rw [h]
  cases hb : fv .f32 b with
  | none => rfl
  | some v =>
    rw [hb] at h
    rw [(fv_some.1 h).2, (fv_some.1 hb).2]
theorem same_fv {a b : Nat} (h : fv .f32 a = fv .f32 b) : sameV a b = true := by
  unfold sameV
  rw [bits_fv h]
  simp
theorem flush_cases {x z : Nat} (h : RV .f32 (flushV x) z) : ((fv .f32 x).isSome = true ∧ x % 2147483648 < 8388608 ∧ z = x / 2147483648 * 2147483648 ∧ (fv .f32 z).isSome = true) ∨ ((fv .f32 x).isSome = false ∨ 8388608 ≤ x % 2147483648) ∧ fv .f32 z = fv .f32 x := by
  have h1 := h.1
  unfold flushV at h1
  split at h1
  · rename_i hc
    simp only [Bool.and_eq_true, decide_eq_true_eq] at hc
    exact .inl ⟨hc.1, hc.2, (fv_some.1 h1).2, by rw [h1]; rfl⟩
  · rename_i hc
    simp only [Bool.and_eq_true, decide_eq_true_eq, Classical.not_and_iff_not_or_not] at hc
    refine .inr ⟨?_, h1⟩
    rcases hc with h2 | h2
    · exact .inl (by simpa using h2)
    · exact .inr (by omega)
theorem flush_sub {x z : Nat} (h : RV .f32 (flushV x) z) : subV z = false := by
  rcases flush_cases h with ⟨_, _, rfl, _⟩ | ⟨hc, e⟩
  · unfold subV
    have : x / 2147483648 * 2147483648 % 2147483648 = 0 := Nat.mul_mod_left _ _
    rw [this]
    simp
  · unfold subV
    rw [e]
    cases hx : fv .f32 x with
    | none => simp
    | some v =>
      rw [hx] at e
      have ez := (fv_some.1 e).2
      have ex := (fv_some.1 hx).2
      rw [hx] at hc
      rcases hc with hc | hc
      · cases hc
      · rw [ez, ← ex]
        have : decide (x % 2147483648 < 8388608) = false := by rw [decide_eq_false_iff_not]; omega
        rw [this]; simp
theorem flush_same {x z : Nat} (h : RV .f32 (flushV x) z) : (subV x == sameV x z) = false := by
  rcases flush_cases h with ⟨hx, hs, ez, hz⟩ | ⟨hc, e⟩
  · unfold subV sameV
    have b1 : bitsOf x = (x : Int) := by unfold bitsOf; rw [if_pos hx]
    have b2 : bitsOf z = (z : Int) := by unfold bitsOf; rw [if_pos hz]
    rw [b1, b2, hx, decide_eq_true hs]
    by_cases h0 : x % 2147483648 = 0
    · have e1 : decide (0 < x % 2147483648) = false := by rw [decide_eq_false_iff_not]; omega
      have e2 : x = z := by omega
      rw [e1, ← e2]
      simp
    · have e1 : decide (0 < x % 2147483648) = true := by rw [decide_eq_true_eq]; omega
      have e2 : ((x : Int) == (z : Int)) = false := by rw [beq_eq_false_iff_ne]; omega
      rw [e1, e2]
      rfl
  · rw [same_fv e.symm]
    have : subV x = false := by
      unfold subV
      rcases hc with hc | hc
      · rw [hc]; simp
      · have : decide (x % 2147483648 < 8388608) = false := by rw [decide_eq_false_iff_not]; omega
        rw [this]; simp
    rw [this]; rfl

theorem text_size (xs : List Nat) (hl : xs.length ≤ 256) : (⟨(textL (xs.map hex8)).toArray⟩ : ByteArray).size ≤ 1048576 := by
  show (textL (xs.map hex8)).toArray.size ≤ _
  rw [List.size_toArray]
  unfold textL
  split
  · simp
  · have := join_bound (B := 8) (ds := xs.map hex8) (by
      intro d hd
      simp only [List.mem_map] at hd
      obtain ⟨v, _, rfl⟩ := hd
      exact Nat.le_of_eq (hxL_len _ _))
    rw [List.length_map] at this
    omega

theorem c_fromBits (x : Nat) (hx : x < 4294967296) (w : World) : Calls Tryz.prog 20 #[.int .i64 (nb x : Nat)] w fun e w' => e = .returned (.tuple #[.float .f32 (nb x), .bool true]) ∧ w = w' := by
  have hn := nb_lt hx
  refine (c_implFromBits (nb x : Nat) w).mono ?_
  rintro e w' ⟨rfl, rfl⟩
  refine ⟨?_, rfl⟩
  unfold fromV inV
  have e1 : decide ((0 : Int) ≤ (nb x : Nat)) = true := decide_eq_true (by omega)
  have e2 : decide (((nb x : Nat) : Int) ≤ 4294967295) = true := decide_eq_true (by omega)
  rw [e1, e2]
  rfl
theorem c_bitsOf (x : Nat) (hx : x < 4294967296) (w : World) : Calls Tryz.prog 21 #[.float .f32 x] w fun e w' => e = .returned (.int .i64 (nb x : Nat)) ∧ w = w' := by
  refine (c_implBitsOf x hx w).mono ?_
  rintro e w' ⟨rfl, rfl⟩
  exact ⟨by rw [nb_eq], rfl⟩
/-- two numbers that are the same, in the reference's words -/
theorem c_sameYes (x y : Nat) (hx : x < 4294967296) (hy : y < 4294967296) (h : sameV x y = true) (w : World) : Calls Tryz.prog 10 #[.float .f32 x, .float .f32 y] w fun e w' => e = .returned (.bool true) ∧ w = w' := by
  refine (c_specSameNumber x y hx hy w).mono ?_
  rintro e w' ⟨rfl, rfl⟩
  exact ⟨by rw [h], rfl⟩
theorem drew_belowN {B : Nat} (w : World) (n : Nat) : Below B w (w.drewN n) := ⟨rfl, rfl, rfl, Nat.le_refl _, fun _ _ => rfl⟩

set_option maxRecDepth 100000 in
set_option maxHeartbeats 4000000 in
theorem walk_FnNumbers (A : Option Addr) (c L : Nat) (B : Option Addr) (d M : Nat) (w : World) (hA : By w A L) (hB : By w B M) (hv : VarsM w) (hz : Tz w) :
    Calls Tryz.prog 4 #[.slice A L c, .slice B M d] w (LawD w) := by
  have HLong := hide_ (c_b10Long A B L M c d w)
  by_cases hlong : 1048576 < L ∨ 1048576 < M
  · rw [decide_eq_true hlong] at HLong
    clear hA hB hv hz
    go_enter Tryz.func4, Tryz.ntmps4
    go_wp2_with fail
    go_at_call 5
    refine Calls.mono HLong.out ?_
    rintro e w1 ⟨rfl, rfl⟩
    go_wp2_with fail
    go_ret
    exact ⟨rfl, Below.refl _ _⟩
  · rw [decide_eq_false hlong] at HLong
    obtain ⟨hL, hM⟩ : L ≤ 1048576 ∧ M ≤ 1048576 := by omega
    clear hlong
    have HA := hide_ hA
    have HB := hide_ hB
    have HV := hide_ hv
    have HZ := hide_ hz
    have NX := hide_ (c_B10Number (A := A) (L := L) (c := c) w hA hL)
    have NY := hide_ (fun W h => c_B10Number (A := B) (L := M) (c := d) W h hM)
    have NAt := hide_ (fun W h => c_b10At (A := A) (L := L) (c := c) 0 12 W h hL (by decide) (by decide) (by decide))
    have NL := hide_ (fun n (hn : n ≤ 1000) W h => c_B10Numbers (A := B) (L := M) (c := d) n W h hM hn)
    clear hA hB hv hz
    go_enter Tryz.func4, Tryz.ntmps4
    go_wp2_with fail
    go_at_call 5
    refine Calls.mono HLong.out ?_
    rintro e w0 ⟨rfl, rfl⟩
    go_wp2_with fail
    go_at_call 19
    refine Calls.mono NX.out ?_
    rintro e w1 ⟨⟨x, hx, rfl⟩, hB1⟩
    have B1 := hide_ hB1
    clear hB1
    go_wp2_with fail
    go_at_call 19
    refine Calls.mono (NY.out _ (HB.out.keep B1.out (Nat.le_refl _))) ?_
    rintro e w2 ⟨⟨y, hy, rfl⟩, hB2⟩
    have B2 := hide_ (B1.out.trans (hB2.mono B1.out.size))
    clear hB2
    go_wp2_with fail
    go_at_call 21
    refine Calls.mono (c_bitsOf x hx _) ?_
    rintro e w3 ⟨rfl, rfl⟩
    have FB := hide_ (fun W => c_fromBits x hx W)
    have SB := hide_ (fun W => c_sameYes (nb x) x (nb_lt hx) hx (same_nb x) W)
    generalize nb x = bx at FB SB
    go_wp2_with fail
    go_at_call 20
    refine Calls.mono (FB.out _) ?_
    rintro e w4 ⟨rfl, rfl⟩
    go_wp2_with fail
    go_at_call 28
    refine Calls.mono (c_implFlush x hx _) ?_
    rintro e w5 ⟨z, hzr, rfl, n5, rfl⟩
    have ZR := hide_ hzr
    have hz32 : z < 4294967296 := rv32 hzr
    have B5 := hide_ (B2.out.trans (drew_belowN w2 n5))
    clear hzr
    generalize w2.drewN n5 = w5 at B5 ⊢
    go_wp2_with fail
    go_at_call 16
    refine Calls.mono (NAt.out _ (HA.out.keep B5.out (Nat.le_refl _))) ?_
    rintro e w6 ⟨⟨n, hn, rfl⟩, rfl⟩
    go_wp2_with fail
    go_at_call 29
    refine Calls.mono (NL.out n (by omega) _ (HB.out.keep B5.out (Nat.le_refl _))) ?_
    rintro e w7 ⟨v, xs, rfl, hxl, hO, hxs, hB7⟩
    subst hxl
    obtain ⟨A7, c7, rfl, hF7⟩ := hO.fl
    have hx256 : xs.length ≤ 256 := by omega
    have B7 := hide_ (B5.out.trans (hB7.mono B5.out.size))
    have F7 := hide_ hF7
    have AX := hide_ (all32_of hxs)
    have XS := hide_ hxs
    clear hB7 hO hF7 hxs B5
    go_wp2_with fail
    go_loopw [11, 41] (fun v i wr => ∃ k m r : Nat, k ≤ xs.length ∧ i = .int .i64 k ∧ v = .float .f32 r ∧ RV .f32 (sumV (xs.take k)) r ∧ wr = w7.drewN m) (fun _ i _ => xs.length - (intOf i).toNat)
    case atStart => exact ⟨0, 0, 0, Nat.zero_le _, rfl, rfl, ⟨rfl, by decide⟩, rfl⟩
    case round =>
      obtain ⟨k, m, r, hk, rfl, rfl, hr, rfl⟩ := hrel
      by_cases hlt : k < xs.length
      · obtain ⟨b, off, rfl, hb, hc⟩ := F7.out.of_pos (by omega)
        have h1 := hc k hlt
        have HS := hide_ (sumV_snoc xs k hlt)
        generalize xs.getD k 0 = v at h1 HS
        clear hc
        go_wp2_with ((with_reducible refine upon_fbin ?_ ?_); exact rfl; intro q n hq)
        go_roundw
        case rel => exact ⟨k + 1, _, q, by omega, by go_num, rfl, ⟨by rw [HS.out, hq.1, hr.1], hq.2⟩, rfl⟩
        case measure => simp [intOf]; omega
      · have hks : k = xs.length := by omega
        subst hks
        rw [List.take_length] at hr
        have HR := hide_ hr
        have hr32 := rv32 hr
        have B8 := hide_ (B7.out.trans (drew_belowN w7 m))
        have F8 := hide_ (F7.out.drewN m)
        have SM := hide_ (c_implSum A7 c7 xs (w7.drewN m) F8.out hx256)
        clear hr B7
        generalize w7.drewN m = w8 at B8 F8 SM ⊢
        go_wp2_with fail
        go_at_call 30
        refine Calls.mono SM.out ?_
        rintro e w9 ⟨q, hq, rfl, n9, hw9⟩
        have SQ := hide_ (fun W => c_sameYes q r (rv32 hq) hr32 (same_fv (hq.1.trans HR.out.1.symm)) W)
        have B9 := hide_ (show Below w.heap.size w w9 by rw [hw9]; exact B8.out.trans (drew_belowN _ _))
        have F9 := hide_ (show Fl32 w9 A7 xs by rw [hw9]; exact F8.out.drewN n9)
        clear hq hw9 SM F8 B8
        have NT := hide_ (c_implNText A7 c7 xs w9 F9.out AX.out (by omega) (HZ.out.keep B9.out))
        unfold NTextGives at NT
        rw [(numT_yes (xs := xs) hx256).1, (numT_yes (xs := xs) hx256).2] at NT
        have RN := hide_ (fun W hv hz => c_implReadNumbers ⟨(textL (xs.map hex8)).toArray⟩ W (text_size xs hx256) hv hz)
        unfold NReadGives at RN
        rw [(text_back xs XS.out hx256).1, (text_back xs XS.out hx256).2] at RN
        generalize (⟨(textL (xs.map hex8)).toArray⟩ : ByteArray) = T at NT RN
        go_wp2_with fail
        go_at_call 31
        refine Calls.mono NT.out ?_
        rintro e w10 ⟨rfl, hB10⟩
        have B10 := hide_ (B9.out.trans (hB10.mono B9.out.size))
        have F10 := hide_ (F9.out.keep hB10 (Nat.le_refl _))
        clear hB10 NT F9 B9
        go_wp2_with fail
        go_at_call 32
        refine Calls.mono (RN.out _ (HV.out.keep B10.out) (HZ.out.keep B10.out)) ?_
        rintro e w11 ⟨v, rfl, hO, hB11⟩
        obtain ⟨A11, c11, rfl, hF11⟩ := hO.fl
        have B11 := hide_ (B10.out.trans (hB11.mono B10.out.size))
        have F11 := hide_ (F10.out.keep hB11 (Nat.le_refl _))
        have G11 := hide_ hF11
        rw [List.length_map]
        clear hB11 hO hF11 F10 B10 RN
        have SZ := hide_ (fun W => c_implIsSubnormal z hz32 W)
        rw [flush_sub ZR.out] at SZ
        have SX := hide_ (fun W => c_implIsSubnormal x hx W)
        have SXZ := hide_ (fun W => c_specSameNumber x z hx hz32 W)
        have hpq := flush_same ZR.out
        generalize subV x = p at SX hpq
        generalize sameV x z = t at SXZ hpq
        have HPQ := hide_ hpq
        clear hpq
        go_wp2_with fail
        go_at_call 10
        refine Calls.mono (SB.out _) ?_
        rintro e w12 ⟨rfl, rfl⟩
        go_wp2_with fail
        go_at_call 33
        refine Calls.mono (SZ.out _) ?_
        rintro e w13 ⟨rfl, n13, hw13⟩
        have B13 := hide_ (show Below w.heap.size w w13 by rw [hw13]; exact B11.out.trans (drew_belowN _ _))
        have F13 := hide_ (show Fl32 w13 A7 xs by rw [hw13]; exact F11.out.drewN n13)
        have G13 := hide_ (show Fl32 w13 A11 (xs.map nb) by rw [hw13]; exact G11.out.drewN n13)
        clear hw13 B11 F11 G11
        go_wp2_with fail
        go_at_call 33
        refine Calls.mono (SX.out _) ?_
        rintro e w14 ⟨rfl, n14, hw14⟩
        have B14 := hide_ (show Below w.heap.size w w14 by rw [hw14]; exact B13.out.trans (drew_belowN _ _))
        have F14 := hide_ (show Fl32 w14 A7 xs by rw [hw14]; exact F13.out.drewN n14)
        have G14 := hide_ (show Fl32 w14 A11 (xs.map nb) by rw [hw14]; exact G13.out.drewN n14)
        clear hw14 B13 F13 G13
        go_wp2_with fail
        go_at_call 10
        refine Calls.mono (SXZ.out _) ?_
        rintro e w15 ⟨rfl, rfl⟩
        have hpq := HPQ.out
        go_wp2_with fail
        go_at_call 10
        refine Calls.mono (SQ.out _) ?_
        rintro e w16 ⟨rfl, rfl⟩
        clear hpq
        go_wp2_with fail
        obtain ⟨va, hva⟩ := angleI y x hy hx
        have AT := hide_ hva
        have AO := hide_ (fun W => c_angleOf y x va hva W)
        have CN := hide_ (fun r hr W => c_narrow x r hx hr W)
        have CS := hide_ (fun W => c_sineQuarter W)
        clear hva
        go_loopw [113] (fun i wr => ∃ k m : Nat, k ≤ xs.length ∧ i = .int .i64 k ∧ wr = w14.drewN m) (fun i _ => xs.length - (intOf i).toNat)
        case atStart => exact ⟨0, 0, Nat.zero_le _, rfl, rfl⟩
        case round =>
          obtain ⟨k, m2, hk, rfl, rfl⟩ := hrel
          by_cases hlt : k < xs.length
          · obtain ⟨b, off, rfl, hb, hc⟩ := F14.out.of_pos (by omega)
            obtain ⟨b', off', rfl, hb', hc'⟩ := G14.out.of_pos (by rw [List.length_map]; omega)
            have h1 := hc k hlt
            have h2 := hc' k (by rw [List.length_map]; exact hlt)
            have e2 : (xs.map nb).getD k 0 = nb (xs.getD k 0) := by simp [List.getD_eq_getElem?_getD, hlt]
            rw [e2] at h2
            have hvk := AX.out k
            generalize xs.getD k 0 = v at h1 h2 hvk
            have SV := hide_ (fun W => c_sameYes (nb v) v (nb_lt hvk) hvk (same_nb v) W)
            generalize nb v = bv at h2 SV
            clear hc hc' e2
            have hltI : (k : Int) < xs.length := by omega
            have h1' : (w14.drewN m2).cell? ⟨b, off + k, none⟩ = some (.float .f32 v) := h1
            have h2' : (w14.drewN m2).cell? ⟨b', off' + k, none⟩ = some (.float .f32 bv) := h2
            clear h1 h2
            generalize hwq : w14.drewN m2 = wq at h1' h2' ⊢
            have HWQ := hide_ hwq
            clear hwq
            go_wp2_with fail
            go_quiet ((go_at_call 10; exact Calls.quiet_of_same ((SV.out _).mono fun e w' h => ⟨h.1, h.2.symm⟩)))
            go_wp2_with fail
            go_roundw
            case rel => exact ⟨k + 1, m2 + _, by omega, by go_num, by rw [← HWQ.out, World.drewN_drewN]⟩
            case measure => simp [intOf]; omega
          · have hks : k = xs.length := by omega
            subst hks
            have B15 := hide_ (B14.out.trans (drew_belowN w14 m2))
            clear B14 F14 G14
            generalize w14.drewN m2 = w15 at B15 ⊢
            go_wp2_with fail
            go_at_call 34
            refine Calls.mono (AT.out _) ?_
            rintro e w16 ⟨a1, ha1, rfl, n16, hw16⟩
            have B16 := hide_ (show Below w.heap.size w w16 by rw [hw16]; exact B15.out.trans (drew_belowN _ _))
            have HA1 := hide_ ha1
            clear hw16 B15 ha1
            go_wp2_with fail
            go_at_call 35
            refine Calls.mono (AO.out _) ?_
            rintro e w17 ⟨a2, ha2, rfl, n17, hw17⟩
            have B17 := hide_ (show Below w.heap.size w w17 by rw [hw17]; exact B16.out.trans (drew_belowN _ _))
            have SA := hide_ (fun W => c_sameYes a1 a2 (rv32 HA1.out) (rv32 ha2) (same_fv (HA1.out.1.trans ha2.1.symm)) W)
            clear hw17 B16 ha2
            go_wp2_with fail
            go_at_call 10
            refine Calls.mono (SA.out _) ?_
            rintro e w18 ⟨rfl, rfl⟩
            go_wp2_with ((with_reducible refine upon_widen Tryz.underlying28 Tryz.underlying46 hx ?_); intro r1 n18 hr1)
            go_at_call 36
            refine Calls.mono (CN.out r1 hr1 _) ?_
            rintro e w19 ⟨a3, ha3, rfl, n19, hw19⟩
            have B19 := hide_ (show Below w.heap.size w w19 by rw [hw19]; exact (B17.out.trans (drew_belowN _ _)).trans (drew_belowN _ _))
            have SN := hide_ (fun W => c_sameYes a3 x (rv32 ha3) hx (same_fv ha3.1) W)
            clear hw19 B17 ha3
            go_wp2_with fail
            go_at_call 10
            refine Calls.mono (SN.out _) ?_
            rintro e w20 ⟨rfl, rfl⟩
            go_wp2_with fail
            go_at_call 37
            refine Calls.mono (CS.out _) ?_
            rintro e w21 ⟨a4, ha4, rfl, n21, hw21⟩
            have B21 := hide_ (show Below w.heap.size w w21 by rw [hw21]; exact B19.out.trans (drew_belowN _ _))
            have hq4 := quarter_one ha4
            clear hw21 B19 ha4
            go_wp2_with fail
            go_ret
            exact ⟨rfl, B21.out⟩

end Go.Proofs.YtiabbafmjgiobaaGreatDoor
