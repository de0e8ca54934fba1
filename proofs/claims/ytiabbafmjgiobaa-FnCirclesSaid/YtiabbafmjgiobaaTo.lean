/-
Tenths of decibels of K / 64, between bounds that are reckoned from K.
-/
import Derived.Test.YtiabbafmjgiobaaTn
set_option linter.unusedVariables false
set_option linter.unusedSimpArgs false
namespace Go.Proofs.Ytiabbafmjgiobaa.Fl
open Go Ieee

def lK (K : Nat) : Nat := (4 * K / 3).log2
def yK (K : Nat) : Nat := K * 2 ^ (40 - lK K)
def aK (K : Nat) : Nat := if 1099511627776 ≤ yK K then yK K - 1099511627776 else 1099511627776 - yK K
def sK (K : Nat) : Nat := aK K * 1099511627776 / (yK K + 1099511627776)
def uS (s : Nat) : Nat × Nat := coreU s (s + 1)
def pS (s : Nat) : Nat × Nat := coreP (uS s).1 (uS s).2 (coreQ (uS s).1 (uS s).2).1 (coreQ (uS s).1 (uS s).2).2
def mS (s : Nat) : Nat × Nat := coreM s (s + 1) (pS s).1 (pS s).2
def tOut (z1 z2 : Nat) : Nat × Nat := (z1 * 47751183273157 / 1099511627776 + 91647327780898, z2 * 47751183273158 / 1099511627776 + 91647327780904)
def tE (l z1 z2 : Nat) : Nat × Nat := if 6 ≤ l then tOut (z1 + (l - 6) * 762123384785) (z2 + (l - 6) * 762123384786) else tOut (z1 - (6 - l) * 762123384786) (z2 - (6 - l) * 762123384785)
def tZ (pos : Bool) (l m1 m2 : Nat) : Nat × Nat := if pos then tE l (5497558138880 + 2 * m1) (5497558138880 + (2 * m2 + 1)) else tE l (5497558138880 - (2 * m2 + 1)) (5497558138880 - 2 * m1)
def tenK (K : Nat) : Nat × Nat := tZ (decide (1099511627776 ≤ yK K)) (lK K) (mS (sK K)).1 (mS (sK K)).2
def okK (K : Nat) : Bool := decide (824633720832 ≤ yK K) && decide (yK K < 1649267441664) && decide (lK K ≤ 15) && decide ((uS (sK K)).2 ≤ 68719476736) && decide ((pS (sK K)).2 ≤ 2199023255552) && decide ((mS (sK K)).2 ≤ 274877906944)

theorem tE_in {t : Nat} {l z1 z2 : Nat} (ht : In t ((z1 : Int) - 5497558138880) ((z2 : Int) - 5497558138880)) (hl : l ≤ 15) (h1 : 4672924418048 ≤ z1) (h2 : z2 ≤ 6322191859712) :
    In (fadd (fmul (fadd t (fmul (floatOfInt .f64 ((l : Int) - 6)) 4604418534313441775)) 4631308968768463603) 4602678819172646912) (((tE l z1 z2).1 : Int) - 329853488332800) (((tE l z1 z2).2 : Int) - 329853488332800) := by
  have hz := ht.le
  have he := e_ln2 ((l : Int) - 6) (by omega)
  unfold tE
  by_cases c : 6 ≤ l
  · rw [if_pos (by omega), if_pos (by omega)] at he
    rw [if_pos c]
    have h3 := in_add ht he (by omega) (by omega)
    have h4 : In (fadd t (fmul (floatOfInt .f64 ((l : Int) - 6)) 4604418534313441775)) (((z1 + (l - 6) * 762123384785 : Nat) : Int) - 5497558138880) (((z2 + (l - 6) * 762123384786 : Nat) : Int) - 5497558138880) := h3.mono (by omega) (by omega)
    refine (last_in h4 (by omega) (by omega)).mono ?_ ?_
    · show (((z1 + (l - 6) * 762123384785) * 47751183273157 / 1099511627776 + 91647327780898 : Nat) : Int) - 329853488332800 ≤ _
      omega
    · show _ ≤ (((z2 + (l - 6) * 762123384786) * 47751183273158 / 1099511627776 + 91647327780904 : Nat) : Int) - 329853488332800
      omega
  · rw [if_neg (by omega), if_neg (by omega)] at he
    rw [if_neg c]
    have h3 := in_add ht he (by omega) (by omega)
    have h4 : In (fadd t (fmul (floatOfInt .f64 ((l : Int) - 6)) 4604418534313441775)) (((z1 - (6 - l) * 762123384786 : Nat) : Int) - 5497558138880) (((z2 - (6 - l) * 762123384785 : Nat) : Int) - 5497558138880) := h3.mono (by omega) (by omega)
    refine (last_in h4 (by omega) (by omega)).mono ?_ ?_
    · show (((z1 - (6 - l) * 762123384786) * 47751183273157 / 1099511627776 + 91647327780898 : Nat) : Int) - 329853488332800 ≤ _
      omega
    · show _ ≤ (((z2 - (6 - l) * 762123384785) * 47751183273158 / 1099511627776 + 91647327780904 : Nat) : Int) - 329853488332800
      omega
/-- THE TENTHS OF K / 64 LIE BETWEEN tenK's BOUNDS. -/
theorem tenK_in {y K : Nat} (hy : In y (yK K : Nat) (yK K : Nat)) (hok : okK K = true) : In (tenN y ((lK K : Int) - 6)) (((tenK K).1 : Int) - 329853488332800) (((tenK K).2 : Int) - 329853488332800) := by
  unfold okK at hok
  simp only [Bool.and_eq_true, decide_eq_true_eq] at hok
  obtain ⟨⟨⟨⟨⟨k1, k2⟩, k3⟩, k4⟩, k5⟩, k6⟩ := hok
  have ha := n_add hy in_one (by omega)
  have hs := in_sub hy in_one (by omega) (by omega)
  show In (fadd (fmul (fadd (fmul 4611686018427387904 (fmul (lgS y) (logS (fmul (lgS y) (lgS y)) 13))) (fmul (floatOfInt .f64 ((lK K : Int) - 6)) 4604418534313441775)) 4631308968768463603) 4602678819172646912) _ _
  by_cases c : 1099511627776 ≤ yK K
  · have hA : aK K = yK K - 1099511627776 := if_pos c
    have hs' : In (fsub y 4607182418800017408) (aK K : Nat) (aK K : Nat) := hs.mono (by omega) (by omega)
    have hq : In (lgS y) (sK K : Nat) (sK K + 1 : Nat) := n_div hs' ha (by omega) (by omega)
    have ht := core_pos hq k4 k5 rfl rfl k6
    have e : tenK K = tE (lK K) (5497558138880 + 2 * (mS (sK K)).1) (5497558138880 + (2 * (mS (sK K)).2 + 1)) := by
      unfold tenK tZ
      rw [decide_eq_true c, if_pos rfl]
    rw [e]
    have hle := ht.le
    change In _ ((2 * (mS (sK K)).1 : Nat) : Int) ((2 * (mS (sK K)).2 + 1 : Nat) : Int) at ht
    change ((2 * (mS (sK K)).1 : Nat) : Int) ≤ ((2 * (mS (sK K)).2 + 1 : Nat) : Int) at hle
    generalize (mS (sK K)).1 = m1 at *
    generalize (mS (sK K)).2 = m2 at *
    exact tE_in (ht.mono (by omega) (by omega)) k3 (by omega) (by omega)
  · have hA : aK K = 1099511627776 - yK K := if_neg c
    have hs' : In (fsub y 4607182418800017408) (-(aK K : Int)) (-(aK K : Int)) := hs.mono (by omega) (by omega)
    have hq : In (lgS y) (-((sK K + 1 : Nat) : Int)) (-((sK K : Nat) : Int)) := n_div_neg hs' ha (by omega) (by omega)
    have ht := core_neg hq k4 k5 rfl rfl k6
    have e : tenK K = tE (lK K) (5497558138880 - (2 * (mS (sK K)).2 + 1)) (5497558138880 - 2 * (mS (sK K)).1) := by
      unfold tenK tZ
      rw [decide_eq_false c, if_neg (by decide)]
    rw [e]
    have hle := ht.le
    change In _ (-((2 * (mS (sK K)).2 + 1 : Nat) : Int)) (-((2 * (mS (sK K)).1 : Nat) : Int)) at ht
    change -((2 * (mS (sK K)).2 + 1 : Nat) : Int) ≤ -((2 * (mS (sK K)).1 : Nat) : Int) at hle
    generalize (mS (sK K)).1 = m1 at *
    generalize (mS (sK K)).2 = m2 at *
    exact tE_in (ht.mono (by omega) (by omega)) k3 (by omega) (by omega)

/-- the pairs' check -/
def chkPair (i j : Nat) : Bool := okK ((i + 1) * (j + 1)) && decide ((tenK (8 * (i + 1))).2 + (tenK (8 * (j + 1))).2 ≤ (tenK ((i + 1) * (j + 1))).1 + 330952999960576) && decide ((tenK ((i + 1) * (j + 1))).2 + 329853488332800 ≤ (tenK (8 * (i + 1))).1 + (tenK (8 * (j + 1))).1)
def chkRows (a n : Nat) : Bool := (List.range n).all fun k => (List.range (a + k + 1)).all fun j => chkPair (a + k) j
theorem ok8 : (List.range 200).all (fun i => okK (8 * (i + 1))) = true := by kernel_rfl
theorem ok64 : okK 64 = true ∧ tenK 64 = (330403244146683, 330403244146911) := ⟨by kernel_rfl, by kernel_rfl⟩

end Go.Proofs.Ytiabbafmjgiobaa.Fl
