/-
TenthsOf of a number K / 64: its value between bounds.
-/
import Derived.Test.YtiabbafmjgiobaaWm
import Derived.Test.YtiabbafmjgiobaaTo
import Derived.Test.YtiabbafmjgiobaaDa
set_option linter.unusedVariables false
set_option linter.unusedSimpArgs false
namespace Go.Proofs.Ytiabbafmjgiobaa
open Fl Go Go.RowKit

/-- the float32's value is K / 64 -/
def XV (x K : Nat) : Prop := x < 4294967296 ∧ Fl.RI (FloatKind.f32.decode x) 6 (K : Nat) (K : Nat)
theorem ri_same {d : Ieee.Datum} {g : Nat} {K : Nat} (h : Fl.RI d g (K : Nat) (K : Nat)) : ∃ s m e B, d = .number s m e ∧ 0 ≤ e + (B : Nat) ∧ Ieee.signed s m (e + (B : Nat)).toNat * (2 ^ g : Nat) = (K : Int) * (2 ^ B : Nat) := by
  obtain ⟨s, m, e, B, hd, hb, g1, g2⟩ := h
  exact ⟨s, m, e, B, hd, hb, Int.le_antisymm g2 g1⟩
theorem XV.fin {x K : Nat} (h : XV x K) : isFin (fv .f32 x) = true := by
  obtain ⟨hx, s, m, e, B, hd, _⟩ := h
  rw [isFin_iff hx]
  have h1 : (FloatKind.f32.decode x).isNaN = false := by rw [hd]; rfl
  rw [h1]
  have hd' : Ieee.single.read x = .number s m e := hd
  unfold Ieee.Format.read at hd'
  dsimp only at hd'
  have e1 : Ieee.single.signWeight = 2147483648 := rfl
  have e2 : Ieee.single.binade = 8388608 := rfl
  have e3 : Ieee.single.infRung = 2139095040 := rfl
  rw [e1] at hd'
  have : x % 2147483648 < Ieee.single.infRung := by
    split at hd'
    · omega
    · split at hd'
      · assumption
      · split at hd' <;> cases hd'
  rw [decide_eq_true this]; rfl
theorem XV.pos {x K : Nat} (h : XV x K) (hK : 0 < K) : ((FloatKind.f32.format.order x 0 == some .lt) || (FloatKind.f32.format.order x 0 == some .eq)) = false := by
  obtain ⟨hx, hr⟩ := h
  obtain ⟨s, m, e, B, hd, hb, hv⟩ := ri_same hr
  have h0 : FloatKind.f32.decode 0 = .number false 0 (-149) := by kernel_rfl
  have hp : 0 < Ieee.signed s m (e + (B : Nat)).toNat := by
    have h1 : 0 < (K : Int) * ((2 ^ B : Nat) : Int) := Int.mul_pos (by omega) (pow_posI B)
    rw [← hv] at h1
    rcases Int.lt_or_le 0 (Ieee.signed s m (e + (B : Nat)).toNat) with h | h
    · exact h
    · have := Int.mul_nonpos_of_nonpos_of_nonneg h (Int.le_of_lt (pow_posI 6))
      omega
  have ho : FloatKind.f32.format.order x 0 = some (compare (Ieee.signed s m (e - min e (-149)).toNat) (Ieee.signed false 0 (-149 - min e (-149)).toNat)) := by
    show (FloatKind.f32.decode x).order (FloatKind.f32.decode 0) = _
    rw [hd, h0]; rfl
  have hz : Ieee.signed false 0 (-149 - min e (-149)).toNat = 0 := by unfold Ieee.signed; simp
  have hq : 0 < Ieee.signed s m (e - min e (-149)).toNat := by
    have k1 := signed_add s m (e + (B : Nat)).toNat (149 + e.natAbs)
    have k2 := signed_add s m (e - min e (-149)).toNat ((e + (B : Nat)).toNat + (149 + e.natAbs) - (e - min e (-149)).toNat)
    rw [show (e - min e (-149)).toNat + ((e + (B : Nat)).toNat + (149 + e.natAbs) - (e - min e (-149)).toNat) = (e + (B : Nat)).toNat + (149 + e.natAbs) by omega, k1] at k2
    have h1 := Int.mul_pos hp (pow_posI (149 + e.natAbs))
    rw [k2] at h1
    rcases Int.lt_or_le 0 (Ieee.signed s m (e - min e (-149)).toNat) with h | h
    · exact h
    · have := Int.mul_nonpos_of_nonpos_of_nonneg h (Int.le_of_lt (pow_posI ((e + (B : Nat)).toNat + (149 + e.natAbs) - (e - min e (-149)).toNat)))
      omega
  rw [ho, hz]
  generalize Ieee.signed s m (e - min e (-149)).toNat = z at hq
  have : compare z 0 = .gt := by
    simp only [compare, compareOfLessAndEq]
    rw [if_neg (by omega), if_neg (by omega)]
  rw [this]; rfl

theorem un_shift : ∀ (n r : Nat), 4503599627370496 * (n + 1) ≤ r → un Ieee.double (r - n * 4503599627370496) * 2 ^ n = un Ieee.double r
  | 0, r, _ => by rw [Nat.zero_mul, Nat.sub_zero, Nat.pow_zero, Nat.mul_one]
  | n + 1, r, h => by
    have h1 := un_shift n r (by omega)
    have h2 := un_dbl (r := r - (n + 1) * 4503599627370496) (by omega)
    rw [show r - (n + 1) * 4503599627370496 + 4503599627370496 = r - n * 4503599627370496 by omega] at h2
    rw [Nat.pow_succ, ← h1, h2]
    generalize un Ieee.double (r - (n + 1) * 4503599627370496) = a
    generalize 2 ^ n = b
    ac_rfl
theorem norm_e {K n m l a : Nat} (h1 : 3 * 2 ^ a * 2 ^ (n + 6) ≤ K * 2 ^ (a + 2 + m)) (h2 : K * 2 ^ (a + 2 + m) < 3 * 2 ^ (a + 1) * 2 ^ (n + 6)) (k1 : 3 * 2 ^ 38 ≤ K * 2 ^ (40 - l)) (k2 : K * 2 ^ (40 - l) < 3 * 2 ^ 39) (hl : l ≤ 40) : l + m = n + 6 := by
  have pos := fun k : Nat => Nat.two_pow_pos k
  have cut : ∀ {x y z : Nat}, x * 2 ^ z < y * 2 ^ z → x < y := fun h => Nat.lt_of_mul_lt_mul_right h
  rcases Nat.lt_trichotomy (l + m) (n + 6) with h | h | h
  · exfalso
    -- K 2^(40 - l) is at least 3 2^39
    have g1 : 3 * 2 ^ 39 * 2 ^ (a + l + m) ≤ K * 2 ^ (40 - l) * 2 ^ (a + l + m) := by
      have e1 : K * 2 ^ (40 - l) * 2 ^ (a + l + m) = K * 2 ^ (a + 2 + m) * 2 ^ 38 := by
        rw [Nat.mul_assoc, Nat.mul_assoc, ← Nat.pow_add, ← Nat.pow_add]; congr 2; omega
      have e2 : 3 * 2 ^ 39 * 2 ^ (a + l + m) ≤ 3 * 2 ^ a * 2 ^ (n + 6) * 2 ^ 38 := by
        rw [Nat.mul_assoc, Nat.mul_assoc, Nat.mul_assoc, ← Nat.pow_add, ← Nat.pow_add, ← Nat.pow_add]
        exact Nat.mul_le_mul_left _ (Nat.pow_le_pow_right (by decide) (by omega))
      rw [e1]
      exact Nat.le_trans e2 (Nat.mul_le_mul_right _ h1)
    have := Nat.le_of_mul_le_mul_right g1 (pos _)
    omega
  · exact h
  · exfalso
    have g1 : K * 2 ^ (40 - l) * 2 ^ (a + l + m) < 3 * 2 ^ 38 * 2 ^ (a + l + m) := by
      have e1 : K * 2 ^ (40 - l) * 2 ^ (a + l + m) = K * 2 ^ (a + 2 + m) * 2 ^ 38 := by
        rw [Nat.mul_assoc, Nat.mul_assoc, ← Nat.pow_add, ← Nat.pow_add]; congr 2; omega
      have e2 : 3 * 2 ^ (a + 1) * 2 ^ (n + 6) * 2 ^ 38 ≤ 3 * 2 ^ 38 * 2 ^ (a + l + m) := by
        rw [Nat.mul_assoc, Nat.mul_assoc, Nat.mul_assoc, ← Nat.pow_add, ← Nat.pow_add, ← Nat.pow_add]
        exact Nat.mul_le_mul_left _ (Nat.pow_le_pow_right (by decide) (by omega))
      rw [e1]
      exact Nat.lt_of_lt_of_le (Nat.mul_lt_mul_of_pos_right h2 (pos _)) e2
    have := cut g1
    omega
theorem un34 {N : Nat} (hN : N = 1072) : un Ieee.double 4604930618986332160 = 3 * 2 ^ N := by
  have s1 : sig Ieee.double 4604930618986332160 = 3 * 2 ^ 51 := rfl
  have s2 : exq Ieee.double 4604930618986332160 = N - 51 := by rw [hN]; rfl
  unfold un
  rewrite [s1, s2, Nat.mul_assoc, ← Nat.pow_add]
  congr 2
  omega
theorem un32 {N : Nat} (hN : N = 1072) : un Ieee.double 4609434218613702656 = 3 * 2 ^ (N + 1) := by
  have s1 : sig Ieee.double 4609434218613702656 = 3 * 2 ^ 51 := rfl
  have s2 : exq Ieee.double 4609434218613702656 = N - 50 := by rw [hN]; rfl
  unfold un
  rewrite [s1, s2, Nat.mul_assoc, ← Nat.pow_add]
  congr 2
  omega
/-- where the loops lead from K / 64 -/
theorem steps_val {r K n m N : Nat} (hN : N = 1072) (H : Steps r n m) (hr : Fl.RI (FloatKind.f64.decode (Ieee.double.word false r)) 6 (K : Nat) (K : Nat)) (hok : okK K = true) :
    (n : Int) - m = (lK K : Int) - 6 ∧ In (dnW r n m) (yK K : Nat) (yK K : Nat) := by
  unfold okK at hok
  simp only [Bool.and_eq_true, decide_eq_true_eq] at hok
  obtain ⟨⟨⟨⟨⟨k1, k2⟩, k3⟩, _⟩, _⟩, _⟩ := hok
  have hri : r < Ieee.double.infRung := Nat.lt_of_le_of_lt H.hi (by decide)
  have hyi : r - n * 4503599627370496 + m * 4503599627370496 < Ieee.double.infRung := Nat.lt_trans H.end3 (by decide)
  have hur : un Ieee.double r * 2 ^ 6 = K * 2 ^ (N + 2) := by
    obtain ⟨s, mm, e, B, hd, hb, hv⟩ := ri_same hr
    have hd' : FloatKind.f64.decode (Ieee.double.word false r) = .number false (sig Ieee.double r) (Ieee.double.leastPlace + (exq Ieee.double r : Nat)) := read_word Ieee.double false r hri
    rw [hd'] at hd
    injection hd with d1 d2 d3
    subst d1; subst d2; subst d3
    have elp : Ieee.double.leastPlace = -1074 := rfl
    rw [elp] at hb hv
    have k := signed_add false (sig Ieee.double r) (-1074 + (exq Ieee.double r : Int) + (B : Nat)).toNat (N + 2)
    rw [show (-1074 + (exq Ieee.double r : Int) + (B : Nat)).toNat + (N + 2) = exq Ieee.double r + B by omega] at k
    have h1 : ((un Ieee.double r * 2 ^ 6 * 2 ^ B : Nat) : Int) = ((K * 2 ^ (N + 2) * 2 ^ B : Nat) : Int) := by
      have e1 : Ieee.signed false (sig Ieee.double r) (exq Ieee.double r + B) = ((un Ieee.double r * 2 ^ B : Nat) : Int) := by
        unfold Ieee.signed un
        rw [if_neg (by decide), Nat.shiftLeft_eq, Nat.pow_add, Nat.mul_assoc]
      rw [e1] at k
      calc ((un Ieee.double r * 2 ^ 6 * 2 ^ B : Nat) : Int) = ((un Ieee.double r * 2 ^ B : Nat) : Int) * ((2 ^ 6 : Nat) : Int) := by rw [← Int.natCast_mul]; congr 1; ac_rfl
        _ = Ieee.signed false (sig Ieee.double r) (-1074 + (exq Ieee.double r : Int) + (B : Nat)).toNat * ((2 ^ (N + 2) : Nat) : Int) * ((2 ^ 6 : Nat) : Int) := by rw [k]
        _ = Ieee.signed false (sig Ieee.double r) (-1074 + (exq Ieee.double r : Int) + (B : Nat)).toNat * ((2 ^ 6 : Nat) : Int) * ((2 ^ (N + 2) : Nat) : Int) := by ac_rfl
        _ = (K : Int) * ((2 ^ B : Nat) : Int) * ((2 ^ (N + 2) : Nat) : Int) := by rw [hv]
        _ = ((K * 2 ^ (N + 2) * 2 ^ B : Nat) : Int) := by rw [Int.natCast_mul, Int.natCast_mul]; ac_rfl
    exact Nat.eq_of_mul_eq_mul_right (Nat.two_pow_pos B) (by exact_mod_cast h1)
  have huy : un Ieee.double (r - n * 4503599627370496 + m * 4503599627370496) * 2 ^ n = un Ieee.double r * 2 ^ m := by
    rcases H.one with h0 | h0
    · subst h0
      have h1 := un_shift m (r + m * 4503599627370496) (by have := H.lo; omega)
      rw [show r + m * 4503599627370496 - m * 4503599627370496 = r by omega] at h1
      rw [Nat.zero_mul, Nat.sub_zero, Nat.pow_zero, Nat.mul_one, h1]
    · subst h0
      have h1 := un_shift n r (by have := H.end2; omega)
      rw [Nat.zero_mul, Nat.add_zero, Nat.pow_zero, Nat.mul_one, h1]
  have hlo := (un_le_iff Ieee.double _ _).2 H.end2
  have hhi := un_lt Ieee.double H.end3
  rw [un34 hN] at hlo
  rw [un32 hN] at hhi
  generalize hyr : r - n * 4503599627370496 + m * 4503599627370496 = yr at huy hlo hhi hyi
  have key : un Ieee.double yr * 2 ^ (n + 6) = K * 2 ^ (N + 2 + m) := by
    rw [Nat.pow_add, ← Nat.mul_assoc, huy, Nat.pow_add 2 (N + 2) m]
    calc un Ieee.double r * 2 ^ m * 2 ^ 6 = un Ieee.double r * 2 ^ 6 * 2 ^ m := by ac_rfl
      _ = K * 2 ^ (N + 2) * 2 ^ m := by rw [hur]
      _ = K * (2 ^ (N + 2) * 2 ^ m) := by rw [Nat.mul_assoc]
  have hl : lK K + m = n + 6 := by
    refine norm_e (K := K) (a := N) ?_ ?_ ?_ ?_ (by omega)
    · rw [← key]; exact Nat.mul_le_mul_right _ hlo
    · rw [← key]; exact Nat.mul_lt_mul_of_pos_right hhi (Nat.two_pow_pos _)
    · exact k1
    · exact k2
  refine ⟨by omega, ?_⟩
  rw [dnW, hyr]
  have hY : yK K * 2 ^ (N + 2) = un Ieee.double yr * 2 ^ 40 := by
    refine Nat.eq_of_mul_eq_mul_right (Nat.two_pow_pos (n + 6)) ?_
    calc yK K * 2 ^ (N + 2) * 2 ^ (n + 6) = K * 2 ^ (40 - lK K + (N + 2) + (n + 6)) := by unfold yK; rw [Nat.mul_assoc, Nat.mul_assoc, ← Nat.pow_add, ← Nat.pow_add, ← Nat.add_assoc]
      _ = K * 2 ^ (N + 2 + m + 40) := by congr 2; omega
      _ = K * 2 ^ (N + 2 + m) * 2 ^ 40 := by rw [Nat.pow_add, ← Nat.mul_assoc]
      _ = un Ieee.double yr * 2 ^ (n + 6) * 2 ^ 40 := by rw [key]
      _ = un Ieee.double yr * 2 ^ 40 * 2 ^ (n + 6) := by ac_rfl
  refine ⟨word_lt .f64 false hyi, false, _, _, N + 2, read_word Ieee.double false yr hyi, ?_, ?_⟩
  · have elp : Ieee.double.leastPlace = -1074 := rfl
    rw [elp]; omega
  · have elp : Ieee.double.leastPlace = -1074 := rfl
    rw [elp, show (-1074 + (exq Ieee.double yr : Int) + ((N + 2 : Nat) : Int)).toNat = exq Ieee.double yr by omega]
    have e1 : Ieee.signed false (sig Ieee.double yr) (exq Ieee.double yr) = ((un Ieee.double yr : Nat) : Int) := by
      unfold Ieee.signed un
      rw [if_neg (by decide), Nat.shiftLeft_eq]
    rw [e1, ← Int.natCast_mul, ← Int.natCast_mul, hY]
    exact ⟨Int.le_refl _, Int.le_refl _⟩

end Go.Proofs.Ytiabbafmjgiobaa
