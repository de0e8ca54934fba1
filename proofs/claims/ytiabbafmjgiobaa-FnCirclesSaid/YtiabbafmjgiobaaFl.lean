/-
Plain laws of rounding and of the walk over floats (lemmas for the claim beside them): numbers, bounds, monotone and exact rounding; what the walk says of an operation whose result may be a NaN.
-/
import Derived.Laws.FloatArith
import Derived.Laws.ComplexArith
import Derived.WalkKit
import Derived.WalkLawsBesides
import Derived.Deep.Draws
namespace Go.Proofs.Ytiabbafmjgiobaa.Fl
open Go Ieee

/-! rungs -/
theorem binade_pos (f : Format) : 0 < f.binade := Nat.two_pow_pos _
theorem signWeight_pos (f : Format) : 0 < f.signWeight := Nat.two_pow_pos _

theorem word_mod (f : Format) (neg : Bool) (r : Nat) (h : r < f.signWeight) : f.word neg r % f.signWeight = r := by
  unfold Format.word
  split
  · rw [Nat.add_mod_left, Nat.mod_eq_of_lt h]
  · exact Nat.mod_eq_of_lt h

theorem word_div (f : Format) (neg : Bool) (r : Nat) (h : r < f.signWeight) : (f.word neg r / f.signWeight % 2 == 1) = neg := by
  unfold Format.word
  cases neg
  · simp [Nat.div_eq_of_lt h]
  · simp [Nat.add_div_left _ (signWeight_pos f), Nat.div_eq_of_lt h]

/-- the significand and the exponent (above the least place) of a rung -/
def sig (f : Format) (r : Nat) : Nat := if r < f.binade then r else f.binade + r % f.binade
def exq (f : Format) (r : Nat) : Nat := if r < f.binade then 0 else r / f.binade - 1

theorem infRung_lt (f : Format) : f.infRung < f.signWeight := f.infRung_lt

theorem binade_le_infRung (f : Format) (h : 0 < f.exponentBits) : f.binade ≤ f.infRung := by
  unfold Format.infRung
  have : 2 ^ 1 ≤ 2 ^ f.exponentBits := Nat.pow_le_pow_right (by omega) h
  exact Nat.le_mul_of_pos_left _ (by omega)

theorem read_rung (f : Format) (x : Nat) (h : x % f.signWeight < f.infRung) :
    f.read x = .number (x / f.signWeight % 2 == 1) (sig f (x % f.signWeight)) (f.leastPlace + (exq f (x % f.signWeight) : Nat)) := by
  unfold Format.read sig exq
  dsimp only
  by_cases h1 : x % f.signWeight < f.binade
  · simp [h1]
  · simp [h1, h]

theorem read_word (f : Format) (neg : Bool) (r : Nat) (h : r < f.infRung) :
    f.read (f.word neg r) = .number neg (sig f r) (f.leastPlace + (exq f r : Nat)) := by
  have h' := Nat.lt_trans h (infRung_lt f)
  rw [read_rung f _ (by rw [word_mod f neg r h']; exact h), word_mod f neg r h', word_div f neg r h']

theorem read_inf (f : Format) (neg : Bool) (h : 0 < f.exponentBits) : f.read (f.word neg f.infRung) = .infinity neg := by
  have h' := infRung_lt f
  unfold Format.read
  dsimp only
  rw [word_mod f neg _ h', word_div f neg _ h']
  have := binade_le_infRung f h
  rw [if_neg (by omega), if_neg (by omega), if_pos rfl]

theorem read_not_nan {f : Format} {x : Nat} (he : 0 < f.exponentBits) (h : x % f.signWeight ≤ f.infRung) : (f.read x).isNaN = false := by
  rcases Nat.lt_or_eq_of_le h with h | h
  · rw [read_rung f x h]; rfl
  · unfold Format.read
    dsimp only
    have := binade_le_infRung f he
    rw [if_neg (by omega), if_neg (by omega), if_pos h]; rfl

/-- what is written of a number or an infinity is no NaN -/
theorem write_not_nan {f : Format} (he : 0 < f.exponentBits) (d : Datum) (hd : d.isNaN = false) : (f.read (f.write d)).isNaN = false := by
  have hi := infRung_lt f
  cases d with
  | number neg mag place =>
    refine read_not_nan he ?_
    unfold Format.write Format.nearest
    dsimp only
    split
    · rw [word_mod f neg 0 (by omega)]; omega
    · rw [word_mod f neg _ (by omega)]; omega
  | infinity neg =>
    refine read_not_nan he ?_
    unfold Format.write
    rw [word_mod f neg _ hi]; omega
  | nan s t => cases hd

/-- the units of a rung: a carry out of a significand is an ordinary addition of one -/
theorem units_carry (f : Format) (q c : Nat) (hc : c ≤ 2 * f.binade) (hq : q = 0 ∨ f.binade ≤ c) :
    sig f (q * f.binade + c) * 2 ^ exq f (q * f.binade + c) = c * 2 ^ q := by
  have hb := binade_pos f
  unfold sig exq
  generalize f.binade = b at *
  by_cases h1 : c < b
  · have h0 : q = 0 := by omega
    subst h0
    simp [h1]
  · have h2 : ¬ q * b + c < b := by
      have : 0 ≤ q * b := Nat.zero_le _
      omega
    rw [if_neg h2, if_neg h2]
    rcases Nat.lt_or_eq_of_le hc with h3 | h3
    · have e : q * b + c = (c - b) + b * (q + 1) := by
        rw [Nat.mul_succ, Nat.mul_comm b q]; omega
      have hlt : c - b < b := by omega
      have e1 : (q * b + c) / b = q + 1 := by
        rw [e, Nat.add_mul_div_left _ _ hb, Nat.div_eq_of_lt hlt]; omega
      have e2 : (q * b + c) % b = c - b := by
        rw [e, Nat.add_mul_mod_self_left, Nat.mod_eq_of_lt hlt]
      rw [e1, e2, show b + (c - b) = c by omega, Nat.add_sub_cancel]
    · have e : q * b + c = b * (q + 2) := by
        rw [Nat.mul_add, Nat.mul_comm b q]; omega
      have e1 : (q * b + c) / b = q + 2 := by rw [e, Nat.mul_div_cancel_left _ hb]
      have e2 : (q * b + c) % b = 0 := by rw [e, Nat.mul_mod_right]
      rw [e1, e2, h3, show q + 2 - 1 = q + 1 by omega, Nat.pow_succ, Nat.add_zero, Nat.mul_comm (2 ^ q) 2, ← Nat.mul_assoc, Nat.mul_comm b 2]

/-- rounding: what is at most a whole number of units stays so -/
theorem cut_le (neg : Bool) (n drop N : Nat) (h : n ≤ N * 2 ^ drop) : Toward.even.cut neg n drop ≤ N := by
  unfold Toward.cut
  dsimp only
  by_cases hd : drop ≤ n.log2 + 2
  · rw [Nat.min_eq_left hd, Nat.shiftLeft_eq, Nat.one_mul]
    have hg : 0 < 2 ^ drop := Nat.two_pow_pos _
    generalize 2 ^ drop = g at *
    have hdm := Nat.div_add_mod n g
    have hm := Nat.mod_lt n hg
    have hle : n / g ≤ N := by
      apply Nat.div_le_of_le_mul; rw [Nat.mul_comm]; exact h
    rcases Nat.lt_or_eq_of_le hle with hl | hl
    · have hb : ∀ b : Bool, b.toNat ≤ 1 := by decide
      have := hb (decide (g < 2 * (n % g)) || g == 2 * (n % g) && n / g % 2 == 1)
      omega
    · have hr : n % g = 0 := by
        rw [hl, Nat.mul_comm] at hdm; omega
      rw [hr, hl]
      have h1 : ¬ g < 2 * 0 := by omega
      have h2 : (g == 2 * 0) = false := by simp; omega
      simp [h2]
  · rw [Nat.min_eq_right (by omega), Nat.shiftLeft_eq, Nat.one_mul]
    have hlt : n < 2 ^ (n.log2 + 1) := Nat.lt_log2_self
    have e : 2 ^ (n.log2 + 2) = 2 * 2 ^ (n.log2 + 1) := by rw [Nat.pow_succ, Nat.mul_comm]
    have hd0 : n / 2 ^ (n.log2 + 2) = 0 := Nat.div_eq_of_lt (by omega)
    have hm0 : n % 2 ^ (n.log2 + 2) = n := Nat.mod_eq_of_lt (by omega)
    rw [hd0, hm0]
    have h1 : ¬ 2 ^ (n.log2 + 2) < 2 * n := by omega
    have h2 : (2 ^ (n.log2 + 2) == 2 * n) = false := by simp; omega
    simp [h1, h2]

/-- rounding: what is at least a whole number of units stays so -/
theorem le_cut (neg : Bool) (n drop N : Nat) (h : N * 2 ^ drop ≤ n) : N ≤ Toward.even.cut neg n drop := by
  by_cases hN : N = 0
  · omega
  have hlog : drop ≤ n.log2 := by
    have h1 : 2 ^ drop ≤ n := Nat.le_trans (Nat.le_mul_of_pos_left _ (by omega)) h
    exact (Nat.le_log2 (by have := Nat.two_pow_pos drop; omega)).2 h1
  unfold Toward.cut
  dsimp only
  rw [Nat.min_eq_left (by omega), Nat.shiftLeft_eq, Nat.one_mul]
  have : N ≤ n / 2 ^ drop := by
    rw [Nat.le_div_iff_mul_le (Nat.two_pow_pos _)]; exact h
  omega

theorem cut_exact (neg : Bool) (drop N : Nat) : Toward.even.cut neg (N * 2 ^ drop) drop = N :=
  Nat.le_antisymm (cut_le neg _ drop N (Nat.le_refl _)) (le_cut neg _ drop N (Nat.le_refl _))

/-- the parts of a rounding: 'q' binades above the least place, 'kept' units there -/
theorem nearest_form (f : Format) (neg : Bool) (mag : Nat) (place : Int) (hm : mag ≠ 0) :
    ∃ q kept up drop : Nat, f.nearest neg mag place = f.word neg (min (q * f.binade + kept) f.infRung) ∧ kept ≤ 2 * f.binade ∧ (q = 0 ∨ f.binade ≤ kept) ∧
      (up = 0 ∨ drop = 0) ∧ place + drop = f.leastPlace + q + up ∧ kept = Toward.even.cut neg (mag * 2 ^ up) drop ∧
      (q = 0 ∨ (q : Int) + f.leastPlace = place + mag.log2 - f.fractionBits) ∧ place + mag.log2 - f.fractionBits ≤ f.leastPlace + q := by
  unfold Format.nearest
  rw [if_neg hm]
  dsimp only
  generalize hl : max (place + (mag.log2 : Int) - (f.fractionBits : Int)) f.leastPlace = last
  have hlast : f.leastPlace ≤ last := by omega
  have hlast2 : place + (mag.log2 : Int) - (f.fractionBits : Int) ≤ last := by omega
  have hcase : last = f.leastPlace ∨ last = place + (mag.log2 : Int) - (f.fractionBits : Int) := by omega
  have hlo : 2 ^ mag.log2 ≤ mag := Nat.log2_self_le hm
  have hhi : mag < 2 ^ (mag.log2 + 1) := Nat.lt_log2_self
  refine ⟨(last - f.leastPlace).toNat, _, (place - last).toNat, (last - place).toNat, rfl, ?_, ?_, by omega, by omega, ?_, by omega, by omega⟩
  · rw [Nat.shiftLeft_eq]
    refine cut_le _ _ _ _ ?_
    have e : 2 * f.binade = 2 ^ (f.fractionBits + 1) := by unfold Format.binade; rw [Nat.pow_succ, Nat.mul_comm]
    rw [e, ← Nat.pow_add]
    refine Nat.le_trans (Nat.mul_le_mul_right _ (Nat.le_of_lt hhi)) ?_
    rw [← Nat.pow_add]
    exact Nat.pow_le_pow_right (by omega) (by omega)
  · by_cases hq : (last - f.leastPlace).toNat = 0
    · exact .inl hq
    · refine .inr ?_
      rw [Nat.shiftLeft_eq]
      refine le_cut _ _ _ _ ?_
      unfold Format.binade
      rw [← Nat.pow_add]
      refine Nat.le_trans ?_ (Nat.mul_le_mul_right _ hlo)
      rw [← Nat.pow_add]
      exact Nat.pow_le_pow_right (by omega) (by omega)
  · rw [Nat.shiftLeft_eq]

/-- a datum is a number of at most '2 ^ n' -/
def Le2 (d : Datum) (n : Int) : Prop := ∃ (s : Bool) (m : Nat) (e : Int) (j : Nat), d = .number s m e ∧ m ≤ 2 ^ j ∧ (j : Int) + e ≤ n
/-- a datum is a number of at least '2 ^ n' -/
def Ge2 (d : Datum) (n : Int) : Prop := ∃ (s : Bool) (m : Nat) (e : Int) (j : Nat), d = .number s m e ∧ 2 ^ j ≤ m ∧ n ≤ (j : Int) + e

theorem Le2.mono {d : Datum} {n n' : Int} (h : Le2 d n) (hn : n ≤ n') : Le2 d n' := by
  obtain ⟨s, m, e, j, rfl, hm, he⟩ := h
  exact ⟨s, m, e, j, rfl, hm, by omega⟩

theorem sig_zero (f : Format) {r : Nat} (h : sig f r = 0) : r = 0 := by
  have hb := binade_pos f
  unfold sig at h
  split at h <;> omega

/-- the rung of a number below '2 ^ (2 ^ (eb - 1))' is below that of infinity -/
theorem rung_lt_inf (f : Format) (he : 2 ≤ f.exponentBits) (r N : Nat) (h : sig f r * 2 ^ exq f r ≤ 2 ^ N) (hN : N < f.fractionBits + (2 ^ f.exponentBits - 2)) : r < f.infRung := by
  have hb := binade_pos f
  have h2 : 2 ^ 2 ≤ 2 ^ f.exponentBits := Nat.pow_le_pow_right (by omega) he
  refine Nat.lt_of_not_le fun hr => ?_
  unfold Format.infRung at hr
  have hb1 : f.binade ≤ r := Nat.le_trans (Nat.le_mul_of_pos_left _ (by omega)) hr
  have hd : 2 ^ f.exponentBits - 1 ≤ r / f.binade := (Nat.le_div_iff_mul_le hb).2 hr
  unfold sig exq at h
  rw [if_neg (by omega), if_neg (by omega)] at h
  have h3 : 2 ^ (f.fractionBits + (2 ^ f.exponentBits - 2)) ≤ (f.binade + r % f.binade) * 2 ^ (r / f.binade - 1) := by
    rw [Nat.pow_add]
    refine Nat.mul_le_mul ?_ (Nat.pow_le_pow_right (by omega) (by omega))
    unfold Format.binade; omega
  have h4 : 2 ^ N < 2 ^ (f.fractionBits + (2 ^ f.exponentBits - 2)) := Nat.pow_lt_pow_right (by omega) hN
  omega

/-- what is needed of a format -/
structure Good (f : Format) : Prop where
  eb : 2 ≤ f.exponentBits
  top : f.leastPlace + f.fractionBits + ((2 ^ f.exponentBits - 2 : Nat) : Int) = ((2 ^ (f.exponentBits - 1) : Nat) : Int)

theorem good_single : Good single := ⟨by decide, by decide⟩
theorem good_double : Good double := ⟨by decide, by decide⟩

/-- what is written of a number that is not too great is a number, of no greater bound -/
theorem nearest_le (f : Format) (hf : Good f) (neg : Bool) (mag : Nat) (place n : Int) (j : Nat) (hm : mag ≤ 2 ^ j) (hj : (j : Int) + place ≤ n) (hlp : f.leastPlace ≤ n)
    (hn : n < ((2 ^ (f.exponentBits - 1) : Nat) : Int)) : ∃ r, f.nearest neg mag place = f.word neg r ∧ r < f.infRung ∧ sig f r * 2 ^ exq f r ≤ 2 ^ (n - f.leastPlace).toNat := by
  have hb := binade_pos f
  have heb := hf.eb
  have htop := hf.top
  by_cases h0 : mag = 0
  · subst h0
    refine ⟨0, by simp [Format.nearest], ?_, ?_⟩
    · have := binade_le_infRung f (by omega); omega
    · simp [sig, hb]
  obtain ⟨q, kept, up, drop, hr, hk2, hq, hud, hpl, hkept, hqq, hlast⟩ := nearest_form f neg mag place h0
  have hlg : mag.log2 ≤ j := by
    have := Nat.log2_self_le h0
    have h1 : 2 ^ mag.log2 ≤ 2 ^ j := Nat.le_trans this hm
    exact (Nat.pow_le_pow_iff_right (by omega)).1 h1
  have hqn : (q : Int) ≤ n - f.leastPlace := by omega
  have hk : kept ≤ 2 ^ ((n - f.leastPlace).toNat - q) := by
    rw [hkept]
    refine cut_le _ _ _ _ ?_
    rw [← Nat.pow_add]
    refine Nat.le_trans (Nat.mul_le_mul_right _ hm) ?_
    rw [← Nat.pow_add]
    exact Nat.pow_le_pow_right (by omega) (by omega)
  have hu : sig f (q * f.binade + kept) * 2 ^ exq f (q * f.binade + kept) ≤ 2 ^ (n - f.leastPlace).toNat := by
    rw [units_carry f q kept hk2 hq]
    refine Nat.le_trans (Nat.mul_le_mul_right _ hk) ?_
    rw [← Nat.pow_add]
    exact Nat.pow_le_pow_right (by omega) (by omega)
  have hlt : q * f.binade + kept < f.infRung := rung_lt_inf f heb _ _ hu (by omega)
  exact ⟨_, by rw [hr, Nat.min_eq_left (Nat.le_of_lt hlt)], hlt, hu⟩

theorem le2_of_units (f : Format) (neg : Bool) (r : Nat) (n : Int) (hlp : f.leastPlace ≤ n) (hr : r < f.infRung) (hu : sig f r * 2 ^ exq f r ≤ 2 ^ (n - f.leastPlace).toNat) : Le2 (f.read (f.word neg r)) n := by
  have hb := binade_pos f
  rw [read_word f neg r hr]
  by_cases h0 : sig f r = 0
  · have := sig_zero f h0
    subst this
    refine ⟨_, _, _, 0, rfl, by omega, ?_⟩
    simp [exq, hb]; omega
  · have h1 : 2 ^ exq f r ≤ 2 ^ (n - f.leastPlace).toNat := Nat.le_trans (Nat.le_mul_of_pos_left _ (by omega)) hu
    have h2 : exq f r ≤ (n - f.leastPlace).toNat := (Nat.pow_le_pow_iff_right (by omega)).1 h1
    refine ⟨_, _, _, (n - f.leastPlace).toNat - exq f r, rfl, ?_, by omega⟩
    have e : 2 ^ (n - f.leastPlace).toNat = 2 ^ ((n - f.leastPlace).toNat - exq f r) * 2 ^ exq f r := by
      rw [← Nat.pow_add]; congr 1; omega
    rw [e] at hu
    exact Nat.le_of_mul_le_mul_right hu (Nat.two_pow_pos _)

theorem le2_write (f : Format) (hf : Good f) (d : Datum) (n : Int) (hd : Le2 d n) (hlp : f.leastPlace ≤ n) (hn : n < ((2 ^ (f.exponentBits - 1) : Nat) : Int)) : Le2 (f.read (f.write d)) n := by
  obtain ⟨s, m, e, j, rfl, hm, he⟩ := hd
  obtain ⟨r, h1, h2, h3⟩ := nearest_le f hf s m e n j hm he hlp hn
  show Le2 (f.read (f.nearest s m e)) n
  rw [h1]
  exact le2_of_units f s r n hlp h2 h3

theorem le2_product {d d' : Datum} {n n' : Int} (h : Le2 d n) (h' : Le2 d' n') : ∃ p, d.product d' = some p ∧ Le2 p (n + n') := by
  obtain ⟨s, m, e, j, rfl, hm, he⟩ := h
  obtain ⟨s', m', e', j', rfl, hm', he'⟩ := h'
  refine ⟨_, rfl, _, _, _, j + j', rfl, ?_, by omega⟩
  rw [Nat.pow_add]
  exact Nat.mul_le_mul hm hm'

theorem signed_natAbs (s : Bool) (m u : Nat) : (signed s m u).natAbs = m * 2 ^ u := by
  unfold signed
  rw [Nat.shiftLeft_eq]
  cases s
  · rw [if_neg (by decide), Int.natAbs_natCast]
  · rw [if_pos rfl, Int.natAbs_neg, Int.natAbs_natCast]

theorem le2_sum {d d' : Datum} {n : Int} (h : Le2 d n) (h' : Le2 d' n) : ∃ p, d.sum d' = some p ∧ Le2 p (n + 1) := by
  obtain ⟨s, m, e, j, rfl, hm, he⟩ := h
  obtain ⟨s', m', e', j', rfl, hm', he'⟩ := h'
  refine ⟨_, rfl, _, _, _, (n - min e e' + 1).toNat, rfl, ?_, by omega⟩
  have h1 := Int.natAbs_add_le (signed s m (e - min e e').toNat) (signed s' m' (e' - min e e').toNat)
  rw [signed_natAbs, signed_natAbs] at h1
  have h2 : m * 2 ^ (e - min e e').toNat ≤ 2 ^ (n - min e e').toNat := by
    refine Nat.le_trans (Nat.mul_le_mul_right _ hm) ?_
    rw [← Nat.pow_add]
    exact Nat.pow_le_pow_right (by omega) (by omega)
  have h3 : m' * 2 ^ (e' - min e e').toNat ≤ 2 ^ (n - min e e').toNat := by
    refine Nat.le_trans (Nat.mul_le_mul_right _ hm') ?_
    rw [← Nat.pow_add]
    exact Nat.pow_le_pow_right (by omega) (by omega)
  have e1 : (n - min e e' + 1).toNat = (n - min e e').toNat + 1 := by omega
  rw [e1, Nat.pow_succ]
  omega

theorem le2_opposite {d : Datum} {n : Int} (h : Le2 d n) : Le2 d.opposite n := by
  obtain ⟨s, m, e, j, rfl, hm, he⟩ := h
  exact ⟨_, _, _, j, rfl, hm, he⟩

/-- a positive number of at least '2 ^ n' -/
def Pos2 (d : Datum) (n : Int) : Prop := ∃ (m : Nat) (e : Int) (j : Nat), d = .number false m e ∧ 2 ^ j ≤ m ∧ n ≤ (j : Int) + e

theorem pos2_ge2 {d : Datum} {n : Int} (h : Pos2 d n) : Ge2 d n := by
  obtain ⟨m, e, j, rfl, hm, he⟩ := h
  exact ⟨_, _, _, j, rfl, hm, he⟩

theorem nearest_ge (f : Format) (neg : Bool) (mag : Nat) (place n : Int) (j r : Nat) (hm : 2 ^ j ≤ mag) (hj : n ≤ (j : Int) + place) (hlp : f.leastPlace ≤ n)
    (hr : f.nearest neg mag place = f.word neg r) (hri : r < f.infRung) : 2 ^ (n - f.leastPlace).toNat ≤ sig f r * 2 ^ exq f r := by
  have hi := infRung_lt f
  have h0 : mag ≠ 0 := by have := Nat.two_pow_pos j; omega
  obtain ⟨q, kept, up, drop, hw, hk2, hq, hud, hpl, hkept, hqq, hlast⟩ := nearest_form f neg mag place h0
  have hmin : r = min (q * f.binade + kept) f.infRung := by
    have h1 : f.word neg r % f.signWeight = f.word neg (min (q * f.binade + kept) f.infRung) % f.signWeight := by rw [← hr, hw]
    rw [word_mod f neg r (by omega), word_mod f neg _ (by omega)] at h1
    exact h1
  have hre : r = q * f.binade + kept := by omega
  rw [hre, units_carry f q kept hk2 hq]
  by_cases hc : (n - f.leastPlace).toNat ≤ q
  · rcases hq with hq | hq
    · subst hq
      have : (n - f.leastPlace).toNat = 0 := by omega
      rw [this, hkept]
      have hp : 1 * 2 ^ drop ≤ mag * 2 ^ up := by
        rcases hud with h | h
        · subst h
          have h2 : 2 ^ drop ≤ 2 ^ j := Nat.pow_le_pow_right (by omega) (by omega)
          omega
        · subst h
          have := Nat.two_pow_pos up
          have h3 : 1 * 1 ≤ mag * 2 ^ up := Nat.mul_le_mul (by omega) this
          simpa using h3
      have := le_cut neg _ _ _ hp
      omega
    · refine Nat.le_trans (Nat.pow_le_pow_right (by omega) hc) ?_
      exact Nat.le_mul_of_pos_left _ (by have := binade_pos f; omega)
  · have hk : 2 ^ ((n - f.leastPlace).toNat - q) ≤ kept := by
      rw [hkept]
      refine le_cut _ _ _ _ ?_
      rw [← Nat.pow_add]
      refine Nat.le_trans ?_ (Nat.mul_le_mul_right _ hm)
      rw [← Nat.pow_add]
      exact Nat.pow_le_pow_right (by omega) (by omega)
    refine Nat.le_trans ?_ (Nat.mul_le_mul_right _ hk)
    rw [← Nat.pow_add]
    exact Nat.pow_le_pow_right (by omega) (by omega)

/-- the sum of a number that is not negative and one of at least '2 ^ n' -/
theorem pos2_sum {d d' : Datum} {n : Int} (h : Pos2 d n) (h' : ∃ m e, d' = .number false m e) : ∃ p, d.sum d' = some p ∧ Pos2 p n := by
  obtain ⟨m, e, j, rfl, hm, he⟩ := h
  obtain ⟨m', e', rfl⟩ := h'
  refine ⟨_, rfl, ?_⟩
  have s1 : signed false m (e - min e e').toNat = ((m * 2 ^ (e - min e e').toNat : Nat) : Int) := by unfold signed; rw [Nat.shiftLeft_eq]; rfl
  have s2 : signed false m' (e' - min e e').toNat = ((m' * 2 ^ (e' - min e e').toNat : Nat) : Int) := by unfold signed; rw [Nat.shiftLeft_eq]; rfl
  rw [s1, s2]
  have hp : 2 ^ (j + (e - min e e').toNat) ≤ m * 2 ^ (e - min e e').toNat := by rw [Nat.pow_add]; exact Nat.mul_le_mul_right _ hm
  have hpp := Nat.two_pow_pos (j + (e - min e e').toNat)
  refine ⟨m * 2 ^ (e - min e e').toNat + m' * 2 ^ (e' - min e e').toNat, min e e', j + (e - min e e').toNat, ?_, ?_, ?_⟩
  · rw [if_neg (by omega)]
    have h1 : decide (((m * 2 ^ (e - min e e').toNat : Nat) : Int) + ((m' * 2 ^ (e' - min e e').toNat : Nat) : Int) < 0) = false := by
      rw [decide_eq_false_iff_not]; omega
    have h2 : (((m * 2 ^ (e - min e e').toNat : Nat) : Int) + ((m' * 2 ^ (e' - min e e').toNat : Nat) : Int)).natAbs = m * 2 ^ (e - min e e').toNat + m' * 2 ^ (e' - min e e').toNat := by omega
    rw [h1, h2]
  · omega
  · omega

/-- a quotient: the dividend at most '2 ^ n', the divisor at least '2 ^ c' -/
theorem le2_quotient (digits : Nat) {d d' : Datum} {n c : Int} (h : Le2 d n) (h' : Ge2 d' c) : ∃ p, d.quotient digits d' = some p ∧ Le2 p (n - c) := by
  obtain ⟨s, m, i, a, rfl, hm, hn⟩ := h
  obtain ⟨t, y, j, b, rfl, hy, hc⟩ := h'
  have hy0 : y ≠ 0 := by have := Nat.two_pow_pos b; omega
  have hbl : b ≤ y.log2 := (Nat.le_log2 hy0).2 hy
  unfold Datum.quotient
  simp only [if_neg hy0]
  refine ⟨_, rfl, ?_⟩
  generalize hmore : digits + y.log2 - m.log2 = more
  rw [Nat.shiftLeft_eq]
  by_cases h0 : m = 0
  · subst h0
    refine ⟨_, _, _, 0, rfl, by simp, ?_⟩
    have : Nat.log2 0 = 0 := rfl
    omega
  · have hla : m.log2 ≤ a := by
      have := Nat.log2_self_le h0
      exact (Nat.pow_le_pow_iff_right (by omega)).1 (Nat.le_trans this hm)
    have hK : m * 2 ^ more ≤ 2 ^ (a + more - b) * y := by
      refine Nat.le_trans (Nat.mul_le_mul_right _ hm) ?_
      refine Nat.le_trans ?_ (Nat.mul_le_mul_left _ hy)
      rw [← Nat.pow_add, ← Nat.pow_add]
      exact Nat.pow_le_pow_right (by omega) (by omega)
    generalize m * 2 ^ more = D at hK ⊢
    refine ⟨_, _, _, a + more - b + 1, rfl, ?_, by omega⟩
    rw [Nat.pow_succ]
    generalize 2 ^ (a + more - b) = Z at hK ⊢
    have hd := Nat.div_add_mod D y
    have hle : D / y ≤ Z := Nat.div_le_of_le_mul (by rw [Nat.mul_comm]; exact hK)
    have hb : ∀ x : Bool, x.toNat ≤ 1 := by decide
    rcases Nat.lt_or_eq_of_le hle with hl | hl
    · have := hb (D % y != 0); omega
    · have hr : D % y = 0 := by rw [hl, Nat.mul_comm] at hd; omega
      rw [hl, hr]; simp; omega

/-- a quotient of a dividend that is not above the divisor is at most 1 -/
theorem le2_quotient_one (digits : Nat) {s t : Bool} {m y : Nat} {i j B : Int} (hy0 : y ≠ 0) (hBi : B ≤ i) (hBj : B ≤ j) (hz : m = 0 → i ≤ j) (h : m * 2 ^ (i - B).toNat ≤ y * 2 ^ (j - B).toNat) :
    ∃ p, (Datum.number s m i).quotient digits (.number t y j) = some p ∧ Le2 p 0 := by
  unfold Datum.quotient
  simp only [if_neg hy0]
  refine ⟨_, rfl, ?_⟩
  generalize hmore : digits + y.log2 - m.log2 = more
  rw [Nat.shiftLeft_eq]
  by_cases h0 : m = 0
  · subst h0
    have : Nat.log2 0 = 0 := rfl
    exact ⟨_, _, _, 0, rfl, by simp, by have := hz rfl; omega⟩
  · have hlo := Nat.log2_self_le h0
    have hhi : y < 2 ^ (y.log2 + 1) := Nat.lt_log2_self
    have hP : i - j ≤ more := by
      refine Int.le_of_not_gt fun hlt => ?_
      have h1 : 2 ^ (m.log2 + (i - B).toNat) ≤ m * 2 ^ (i - B).toNat := by rw [Nat.pow_add]; exact Nat.mul_le_mul_right _ hlo
      have h2 : y * 2 ^ (j - B).toNat < 2 ^ (y.log2 + 1 + (j - B).toNat) := by rw [Nat.pow_add]; exact Nat.mul_lt_mul_of_pos_right hhi (Nat.two_pow_pos _)
      have h3 : 2 ^ (m.log2 + (i - B).toNat) < 2 ^ (y.log2 + 1 + (j - B).toNat) := by omega
      have h4 := (Nat.pow_lt_pow_iff_right (by omega : 1 < 2)).1 h3
      omega
    have hD : m * 2 ^ more ≤ 2 ^ (more + j - i).toNat * y := by
      have h5 : m * 2 ^ (i - B).toNat * 2 ^ more ≤ y * 2 ^ (j - B).toNat * 2 ^ more := Nat.mul_le_mul_right _ h
      have e1 : m * 2 ^ (i - B).toNat * 2 ^ more = m * 2 ^ more * 2 ^ (i - B).toNat := by rw [Nat.mul_assoc, Nat.mul_assoc, Nat.mul_comm (2 ^ more)]
      have e2 : y * 2 ^ (j - B).toNat * 2 ^ more = 2 ^ (more + j - i).toNat * y * 2 ^ (i - B).toNat := by
        rw [Nat.mul_comm _ y, Nat.mul_assoc, Nat.mul_assoc, ← Nat.pow_add, ← Nat.pow_add]; congr 2; omega
      rw [e1, e2] at h5
      exact Nat.le_of_mul_le_mul_right h5 (Nat.two_pow_pos _)
    generalize m * 2 ^ more = D at hD ⊢
    refine ⟨_, _, _, (more + j - i).toNat + 1, rfl, ?_, by omega⟩
    rw [Nat.pow_succ]
    generalize 2 ^ (more + j - i).toNat = Z at hD ⊢
    have hd := Nat.div_add_mod D y
    have hle : D / y ≤ Z := Nat.div_le_of_le_mul (by rw [Nat.mul_comm]; exact hD)
    have hb : ∀ x : Bool, x.toNat ≤ 1 := by decide
    rcases Nat.lt_or_eq_of_le hle with hl | hl
    · have := hb (D % y != 0); omega
    · have hr : D % y = 0 := by rw [hl, Nat.mul_comm] at hd; omega
      rw [hl, hr]; simp; omega

theorem rootFrom_sq (n : Nat) : ∀ (todo root : Nat), root * root ≤ n → Datum.rootFrom n todo root * Datum.rootFrom n todo root ≤ n := by
  intro todo
  induction todo with
  | zero => intro root h; exact h
  | succ k ih =>
    intro root h
    unfold Datum.rootFrom
    dsimp only
    refine ih _ ?_
    split
    · assumption
    · exact h

theorem le2_root (digits : Nat) {m : Nat} {i n N : Int} (h : Le2 (.number false m i) n) (hN : n + 1 ≤ 2 * N) (hz : m = 0 → i ≤ N) : ∃ p, (Datum.number false m i).root digits = some p ∧ Le2 p N ∧ ∃ m' e', p = .number false m' e' := by
  obtain ⟨s, m', i', a, he, hm, hn⟩ := h
  obtain ⟨rfl, rfl, rfl⟩ : false = s ∧ m = m' ∧ i = i' := by simpa using he
  unfold Datum.root
  by_cases h0 : m = 0
  · subst h0
    exact ⟨.number false 0 i, by simp, ⟨_, _, _, 0, rfl, by simp, by have := hz rfl; omega⟩, _, _, rfl⟩
  · simp only [if_neg h0]
    refine ⟨_, rfl, ?_, _, _, rfl⟩
    generalize hmore : 2 * digits - m.log2 + ((i - ((2 * digits - m.log2 : Nat) : Int)) % 2).toNat = more
    rw [Nat.shiftLeft_eq]
    have hev : (i - (more : Int)) % 2 = 0 := by omega
    have hw := rootFrom_sq (m * 2 ^ more) ((m * 2 ^ more).log2 / 2 + 1) 0 (by omega)
    generalize Datum.rootFrom (m * 2 ^ more) ((m * 2 ^ more).log2 / 2 + 1) 0 = w at hw ⊢
    have hK : m * 2 ^ more ≤ 2 ^ ((a + more + 1) / 2) * 2 ^ ((a + more + 1) / 2) := by
      refine Nat.le_trans (Nat.mul_le_mul_right _ hm) ?_
      rw [← Nat.pow_add, ← Nat.pow_add]
      exact Nat.pow_le_pow_right (by omega) (by omega)
    refine ⟨_, _, _, (a + more + 1) / 2 + 1, rfl, ?_, by omega⟩
    rw [Nat.pow_succ]
    generalize m * 2 ^ more = D at hK hw ⊢
    generalize 2 ^ ((a + more + 1) / 2) = Z at hK ⊢
    have hle : w ≤ Z := by
      refine Nat.le_of_not_lt fun hlt => ?_
      have : Z * Z < w * w := Nat.mul_lt_mul_of_lt_of_le hlt (Nat.le_of_lt hlt) (by omega)
      omega
    have hb : ∀ x : Bool, x.toNat ≤ 1 := by decide
    rcases Nat.lt_or_eq_of_le hle with hl | hl
    · have := hb (w * w != D); omega
    · have hr : w * w = D := by rw [hl] at hw ⊢; omega
      rw [hr, hl]; simp; omega

/-- the units of a rung: its value, in units of the least place -/
def un (f : Format) (r : Nat) : Nat := sig f r * 2 ^ exq f r

theorem un_small (f : Format) {r : Nat} (h : r < f.binade) : un f r = r := by
  unfold un sig exq; rw [if_pos h, if_pos h]; simp

theorem un_parts (f : Format) {r : Nat} (h : f.binade ≤ r) : ∃ q t, r = (q + 1) * f.binade + t ∧ t < f.binade ∧ sig f r = f.binade + t ∧ exq f r = q := by
  have hb := binade_pos f
  refine ⟨r / f.binade - 1, r % f.binade, ?_, Nat.mod_lt _ hb, ?_, ?_⟩
  · have h1 : 1 ≤ r / f.binade := (Nat.le_div_iff_mul_le hb).2 (by omega)
    rw [Nat.sub_add_cancel h1, Nat.mul_comm]
    exact (Nat.div_add_mod r f.binade).symm
  · unfold sig; rw [if_neg (by omega)]
  · unfold exq; rw [if_neg (by omega)]

theorem un_succ (f : Format) (r : Nat) : un f r < un f (r + 1) := by
  have hb := binade_pos f
  by_cases h : r < f.binade
  · rw [un_small f h]
    by_cases h1 : r + 1 < f.binade
    · rw [un_small f h1]; omega
    · have e : r + 1 = 0 * f.binade + f.binade := by omega
      unfold un
      rw [e, units_carry f 0 f.binade (by omega) (.inl rfl)]
      omega
  · obtain ⟨q, t, e, ht, hs, hq⟩ := un_parts f (Nat.le_of_not_lt h)
    have e1 : r + 1 = q * f.binade + (f.binade + t + 1) := by rw [e, Nat.succ_mul]; omega
    unfold un
    rw [hs, hq, e1, units_carry f q _ (by omega) (.inr (by omega))]
    exact Nat.mul_lt_mul_of_pos_right (by omega) (Nat.two_pow_pos _)

theorem un_lt (f : Format) {r r' : Nat} (h : r < r') : un f r < un f r' := by
  induction r' with
  | zero => omega
  | succ k ih =>
    rcases Nat.lt_or_eq_of_le (Nat.le_of_lt_succ h) with h | h
    · exact Nat.lt_trans (ih h) (un_succ f k)
    · subst h; exact un_succ f r

theorem un_le_iff (f : Format) (r r' : Nat) : un f r ≤ un f r' ↔ r ≤ r' := by
  constructor
  · intro h
    refine Nat.le_of_not_lt fun h' => ?_
    have := un_lt f h'
    omega
  · intro h
    rcases Nat.lt_or_eq_of_le h with h | h
    · exact Nat.le_of_lt (un_lt f h)
    · rw [h]; exact Nat.le_refl _

theorem un_inj (f : Format) {r r' : Nat} (h : un f r = un f r') : r = r' :=
  Nat.le_antisymm ((un_le_iff f _ _).1 (Nat.le_of_eq h)) ((un_le_iff f _ _).1 (Nat.le_of_eq h.symm))

theorem sig_lt (f : Format) (r : Nat) : sig f r < 2 * f.binade := by
  have hb := binade_pos f
  unfold sig
  split
  · omega
  · have := Nat.mod_lt r hb; omega

/-- cancelling a common power of two -/
theorem pow_cancel_le {a b u v x y : Nat} (h : a * 2 ^ u ≤ b * 2 ^ v) (hx : (u : Int) + y = v + x) : a * 2 ^ x ≤ b * 2 ^ y := by
  have h1 : a * 2 ^ u * 2 ^ y ≤ b * 2 ^ v * 2 ^ y := Nat.mul_le_mul_right _ h
  have e1 : a * 2 ^ u * 2 ^ y = a * 2 ^ x * 2 ^ v := by
    rw [Nat.mul_assoc, Nat.mul_assoc, ← Nat.pow_add, ← Nat.pow_add]; congr 2; omega
  have e2 : b * 2 ^ v * 2 ^ y = b * 2 ^ y * 2 ^ v := by
    rw [Nat.mul_assoc, Nat.mul_assoc, Nat.mul_comm (2 ^ v)]
  rw [e1, e2] at h1
  exact Nat.le_of_mul_le_mul_right h1 (Nat.two_pow_pos _)

/-- rounding is monotone: what is at most a number of the format stays so -/
theorem nearest_mono_le (f : Format) (neg : Bool) (mag : Nat) (place : Int) (r : Nat) (hr : r < f.infRung) {x y : Nat} (hxy : place + y = f.leastPlace + x)
    (h : mag * 2 ^ x ≤ un f r * 2 ^ y) : ∃ r', r' ≤ r ∧ f.nearest neg mag place = f.word neg r' := by
  have hb := binade_pos f
  by_cases h0 : mag = 0
  · subst h0; exact ⟨0, by omega, by simp [Format.nearest]⟩
  obtain ⟨q, kept, up, drop, hw, hk2, hq, hud, hpl, hkept, hqq, hlast⟩ := nearest_form f neg mag place h0
  have hle : un f (q * f.binade + kept) ≤ un f r := by
    have e : un f (q * f.binade + kept) = kept * 2 ^ q := units_carry f q kept hk2 hq
    rw [e]
    by_cases hqe : q ≤ exq f r
    · have hN : un f r = sig f r * 2 ^ (exq f r - q) * 2 ^ q := by
        unfold un; rw [Nat.mul_assoc, ← Nat.pow_add]; congr 2; omega
      rw [hN]
      refine Nat.mul_le_mul_right _ ?_
      rw [hkept]
      refine cut_le _ _ _ _ ?_
      rw [hN, Nat.mul_assoc, ← Nat.pow_add] at h
      exact pow_cancel_le h (by omega)
    · exfalso
      have hq1 : (q : Int) + f.leastPlace = place + mag.log2 - f.fractionBits := by omega
      have hlo := Nat.log2_self_le h0
      have h1 : 2 ^ (mag.log2 + x) ≤ mag * 2 ^ x := by rw [Nat.pow_add]; exact Nat.mul_le_mul_right _ hlo
      have h2 : un f r * 2 ^ y < 2 ^ (f.fractionBits + 1 + exq f r + y) := by
        unfold un
        rw [Nat.pow_add, Nat.pow_add]
        refine Nat.mul_lt_mul_of_pos_right (Nat.mul_lt_mul_of_pos_right ?_ (Nat.two_pow_pos _)) (Nat.two_pow_pos _)
        have := sig_lt f r
        have e : 2 ^ (f.fractionBits + 1) = 2 * f.binade := by unfold Format.binade; rw [Nat.pow_succ, Nat.mul_comm]
        omega
      have h3 : 2 ^ (mag.log2 + x) < 2 ^ (f.fractionBits + 1 + exq f r + y) := by omega
      have h4 := (Nat.pow_lt_pow_iff_right (by omega : 1 < 2)).1 h3
      omega
  have hle' := (un_le_iff f _ _).1 hle
  exact ⟨q * f.binade + kept, hle', by rw [hw, Nat.min_eq_left (by omega)]⟩

/-- .. what is at least a number of the format stays so -/
theorem nearest_mono_ge (f : Format) (neg : Bool) (mag : Nat) (place : Int) (r : Nat) (hr : r < f.infRung) {x y : Nat} (hxy : place + y = f.leastPlace + x)
    (h : un f r * 2 ^ y ≤ mag * 2 ^ x) : ∃ r', r ≤ r' ∧ r' ≤ f.infRung ∧ f.nearest neg mag place = f.word neg r' := by
  have hb := binade_pos f
  by_cases h0 : mag = 0
  · subst h0
    have h1 : un f r * 2 ^ y ≤ 0 * 2 ^ y := by omega
    have h2 : un f r ≤ 0 := Nat.le_of_mul_le_mul_right h1 (Nat.two_pow_pos _)
    have h3 : un f 0 = 0 := un_small f hb
    have h4 := (un_le_iff f r 0).1 (by omega)
    exact ⟨0, h4, by omega, by simp [Format.nearest]⟩
  obtain ⟨q, kept, up, drop, hw, hk2, hq, hud, hpl, hkept, hqq, hlast⟩ := nearest_form f neg mag place h0
  have hle : un f r ≤ un f (q * f.binade + kept) := by
    have e : un f (q * f.binade + kept) = kept * 2 ^ q := units_carry f q kept hk2 hq
    rw [e]
    by_cases hqe : q ≤ exq f r
    · have hN : un f r = sig f r * 2 ^ (exq f r - q) * 2 ^ q := by
        unfold un; rw [Nat.mul_assoc, ← Nat.pow_add]; congr 2; omega
      rw [hN]
      refine Nat.mul_le_mul_right _ ?_
      rw [hkept]
      refine le_cut _ _ _ _ ?_
      rw [hN, Nat.mul_assoc, ← Nat.pow_add] at h
      exact pow_cancel_le h (by omega)
    · have hk : f.binade ≤ kept := by omega
      have h1 : un f r ≤ 2 * f.binade * 2 ^ exq f r := Nat.mul_le_mul_right _ (Nat.le_of_lt (sig_lt f r))
      refine Nat.le_trans h1 ?_
      have h2 : f.binade * 2 ^ (exq f r + 1) ≤ kept * 2 ^ q := Nat.mul_le_mul hk (Nat.pow_le_pow_right (by omega) (by omega))
      have e2 : 2 * f.binade * 2 ^ exq f r = f.binade * 2 ^ (exq f r + 1) := by rw [Nat.pow_succ, Nat.mul_comm 2, Nat.mul_assoc, Nat.mul_comm 2]
      omega
  have hle' := (un_le_iff f _ _).1 hle
  exact ⟨_, Nat.le_min.2 ⟨hle', Nat.le_of_lt hr⟩, Nat.min_le_right _ _, hw⟩

theorem word_inj (f : Format) {neg : Bool} {r r' : Nat} (h : f.word neg r = f.word neg r') : r = r' := by
  unfold Format.word at h
  split at h <;> omega

/-- a number of the format is its own rounding -/
theorem nearest_exact (f : Format) (neg : Bool) (mag : Nat) (place : Int) (r : Nat) (hr : r < f.infRung) {x y : Nat} (hxy : place + y = f.leastPlace + x)
    (h : mag * 2 ^ x = un f r * 2 ^ y) : f.nearest neg mag place = f.word neg r := by
  obtain ⟨r1, h1, e1⟩ := nearest_mono_le f neg mag place r hr hxy (Nat.le_of_eq h)
  obtain ⟨r2, h2, _, e2⟩ := nearest_mono_ge f neg mag place r hr hxy (Nat.le_of_eq h.symm)
  have := word_inj f (e1.symm.trans e2)
  rw [e1]; congr 1; omega

theorem fmt_eb (k : FloatKind) : 0 < k.format.exponentBits := by cases k <;> decide
theorem fmt_good (k : FloatKind) : Good k.format := by cases k; exact good_single; exact good_double

/-- A float's value: its bits, but none for a NaN. -/
def fv (k : FloatKind) (b : Nat) : Option Nat := if (k.decode b).isNaN then none else some b

theorem fv_none {k : FloatKind} {b : Nat} : fv k b = none ↔ (k.decode b).isNaN = true := by unfold fv; split <;> simp_all
theorem fv_some {k : FloatKind} {b c : Nat} : fv k b = some c ↔ (k.decode b).isNaN = false ∧ b = c := by unfold fv; split <;> simp_all

/-- An operation on values. -/
def opf (op : BinOp) (k : FloatKind) (a b : Option Nat) : Option Nat := a.bind fun x => b.bind fun y => floatBits op k x y
def ordf (k : FloatKind) (a b : Option Nat) : Option Ordering := a.bind fun x => b.bind fun y => k.format.order x y

theorem sum_nan {d d' : Datum} (h : d.isNaN = true ∨ d'.isNaN = true) : d.sum d' = none := by
  rcases d with ⟨⟩ | ⟨⟩ | ⟨⟩ <;> rcases d' with ⟨⟩ | ⟨⟩ | ⟨⟩ <;> simp_all [Datum.isNaN, Datum.sum]
theorem product_nan {d d' : Datum} (h : d.isNaN = true ∨ d'.isNaN = true) : d.product d' = none := by
  rcases d with ⟨⟩ | ⟨⟩ | ⟨⟩ <;> rcases d' with ⟨⟩ | ⟨⟩ | ⟨⟩ <;> simp_all [Datum.isNaN, Datum.product]
theorem quotient_nan {n : Nat} {d d' : Datum} (h : d.isNaN = true ∨ d'.isNaN = true) : d.quotient n d' = none := by
  rcases d with ⟨⟩ | ⟨⟩ | ⟨⟩ <;> rcases d' with ⟨⟩ | ⟨⟩ | ⟨⟩ <;> simp_all [Datum.isNaN, Datum.quotient]
theorem order_nan {d d' : Datum} (h : d.isNaN = true ∨ d'.isNaN = true) : d.order d' = none := by
  rcases d with ⟨⟩ | ⟨⟩ | ⟨⟩ <;> rcases d' with ⟨⟩ | ⟨⟩ | ⟨⟩ <;> simp_all [Datum.isNaN, Datum.order]
theorem opposite_nan (d : Datum) : d.opposite.isNaN = d.isNaN := by cases d <;> rfl

theorem floatBits_nan {op : BinOp} {k : FloatKind} {x y : Nat} (h : (k.decode x).isNaN = true ∨ (k.decode y).isNaN = true) : floatBits op k x y = none := by
  unfold FloatKind.decode at h
  unfold floatBits
  split
  · unfold Format.add; rw [sum_nan h]; rfl
  · unfold Format.sub; rw [sum_nan (by rw [opposite_nan]; exact h)]; rfl
  · unfold Format.mul; rw [product_nan h]; rfl
  · unfold Format.div; rw [quotient_nan h]; rfl
  · rfl

theorem floatBits_fv (op : BinOp) (k : FloatKind) (x y : Nat) : floatBits op k x y = opf op k (fv k x) (fv k y) := by
  unfold opf fv
  by_cases h1 : (k.decode x).isNaN = true
  · rw [if_pos h1, floatBits_nan (.inl h1)]; rfl
  · by_cases h2 : (k.decode y).isNaN = true
    · rw [if_neg h1, if_pos h2, floatBits_nan (.inr h2)]; rfl
    · rw [if_neg h1, if_neg h2]; rfl

theorem order_fv (k : FloatKind) (x y : Nat) : k.format.order x y = ordf k (fv k x) (fv k y) := by
  unfold ordf fv
  by_cases h1 : (k.decode x).isNaN = true
  · rw [if_pos h1]; unfold Format.order; rw [order_nan (d := k.format.read x) (.inl h1)]; rfl
  · by_cases h2 : (k.decode y).isNaN = true
    · rw [if_neg h1, if_pos h2]; unfold Format.order; rw [order_nan (d' := k.format.read y) (.inr h2)]; rfl
    · rw [if_neg h1, if_neg h2]; rfl

theorem sum_not_nan {d d' p : Datum} (h : d.sum d' = some p) : p.isNaN = false := by
  rcases d with ⟨⟩ | ⟨⟩ | ⟨⟩ <;> rcases d' with ⟨⟩ | ⟨⟩ | ⟨⟩ <;> simp [Datum.sum] at h <;> (try cases h.2) <;> (try cases h) <;> rfl
theorem product_not_nan {d d' p : Datum} (h : d.product d' = some p) : p.isNaN = false := by
  rcases d with ⟨⟩ | ⟨⟩ | ⟨⟩ <;> rcases d' with ⟨⟩ | ⟨⟩ | ⟨⟩ <;> simp [Datum.product] at h <;> (try cases h.2) <;> (try cases h) <;> rfl
theorem quotient_not_nan {n : Nat} {d d' p : Datum} (h : d.quotient n d' = some p) : p.isNaN = false := by
  unfold Datum.quotient at h
  split at h
  · cases h
  · cases h
  · cases h
  · cases h; rfl
  · cases h; rfl
  · split at h
    · split at h
      · cases h
      · cases h; rfl
    · cases h; rfl
theorem root_not_nan {n : Nat} {d p : Datum} (h : d.root n = some p) : p.isNaN = false := by
  unfold Datum.root at h
  split at h
  · cases h
  · split at h
    · cases h
    · cases h; rfl
  · split at h
    · cases h; rfl
    · split at h
      · cases h
      · cases h; rfl

theorem write_fv (k : FloatKind) {d : Datum} (h : d.isNaN = false) : fv k (k.encode d) = some (k.encode d) :=
  fv_some.2 ⟨write_not_nan (fmt_eb k) d h, rfl⟩

theorem floatBits_val {op : BinOp} {k : FloatKind} {x y r : Nat} (h : floatBits op k x y = some r) : fv k r = some r := by
  unfold floatBits at h
  have key : ∀ o : Option Datum, (∀ p, o = some p → p.isNaN = false) → o.map k.format.write = some r → fv k r = some r := by
    intro o ho h
    cases o with
    | none => cases h
    | some p => cases h; exact write_fv k (ho p rfl)
  split at h
  · exact key _ (fun p => sum_not_nan) h
  · exact key _ (fun p => sum_not_nan) h
  · exact key _ (fun p => product_not_nan) h
  · exact key _ (fun p => quotient_not_nan) h
  · cases h

/-- A conversion between the kinds, on values; where it does not fit: none. -/
def cvf (s d : FloatKind) (a : Option Nat) : Option Nat := a.bind fun x => floatToFloatBits s x d

/-- a number of the narrower kind comes out -/
def FitsF (s d : FloatKind) (a : Option Nat) : Prop := ∀ x, a = some x → (floatToFloatBits s x d).isSome = true

/-- the result of an operation: its value is 'v', its bits fit -/
def RV (k : FloatKind) (v : Option Nat) (r : Nat) : Prop := fv k r = v ∧ r < 2 ^ k.format.width

/-- the square root, on values -/
def sqf (a : Option Nat) : Option Nat := a.bind fun x => FloatKind.f64.format.sqrt x

theorem sqrt_fv (x : Nat) : FloatKind.f64.format.sqrt x = sqf (fv .f64 x) := by
  unfold sqf fv
  by_cases h1 : (FloatKind.f64.decode x).isNaN = true
  · rw [if_pos h1]
    have h2 : (FloatKind.f64.format.read x).isNaN = true := h1
    unfold Format.sqrt
    cases h3 : FloatKind.f64.format.read x <;> simp [h3, Datum.isNaN] at h2
    rfl
  · rw [if_neg h1]; rfl

theorem sqrt_val {x r : Nat} (h : FloatKind.f64.format.sqrt x = some r) : fv .f64 r = some r := by
  unfold Format.sqrt at h
  cases h3 : (FloatKind.f64.format.read x).root (FloatKind.f64.format.fractionBits + 2) with
  | none => rw [h3] at h; cases h
  | some p => rw [h3] at h; cases h; exact write_fv .f64 (root_not_nan h3)

theorem nan_f32 (t : Nat) : fv .f32 ((t % 2) * 2 ^ 31 + 0x7f800000 + 1 + (t / 2) % (2 ^ 23 - 1)) = none ∧ (t % 2) * 2 ^ 31 + 0x7f800000 + 1 + (t / 2) % (2 ^ 23 - 1) < 2 ^ 32 := by
  have h1 := Nat.mod_lt (t / 2) (by decide : 2 ^ 23 - 1 > 0)
  have h2 := Nat.mod_lt t (by decide : 2 > 0)
  generalize (t / 2) % (2 ^ 23 - 1) = u at h1 ⊢
  generalize t % 2 = b at h2 ⊢
  refine ⟨fv_none.2 ?_, by omega⟩
  show (single.read _).isNaN = true
  unfold Format.read
  dsimp only
  have e1 : single.signWeight = 2147483648 := rfl
  have e2 : single.infRung = 2139095040 := rfl
  have e3 : single.binade = 8388608 := rfl
  rw [e1, e2, e3, if_neg (by omega), if_neg (by omega), if_neg (by omega)]; rfl

theorem nan_f64 (t : Nat) : fv .f64 ((t % 2) * 2 ^ 63 + 0x7ff0000000000000 + 1 + (t / 2) % (2 ^ 52 - 1)) = none ∧ (t % 2) * 2 ^ 63 + 0x7ff0000000000000 + 1 + (t / 2) % (2 ^ 52 - 1) < 2 ^ 64 := by
  have h1 := Nat.mod_lt (t / 2) (by decide : 2 ^ 52 - 1 > 0)
  have h2 := Nat.mod_lt t (by decide : 2 > 0)
  generalize (t / 2) % (2 ^ 52 - 1) = u at h1 ⊢
  generalize t % 2 = b at h2 ⊢
  refine ⟨fv_none.2 ?_, by omega⟩
  show (double.read _).isNaN = true
  unfold Format.read
  dsimp only
  have e1 : double.signWeight = 9223372036854775808 := rfl
  have e2 : double.infRung = 9218868437227405312 := rfl
  have e3 : double.binade = 4503599627370496 := rfl
  rw [e1, e2, e3, if_neg (by omega), if_neg (by omega), if_neg (by omega)]; rfl

theorem rv_nanBits (k : FloatKind) (x y t : Nat) : RV k none ((Question.nanBits k x y).cut t) := by
  cases k
  · exact nan_f32 t
  · exact nan_f64 t
theorem rv_nanConv (k : FloatKind) (x t : Nat) : RV k none ((Question.nanConv k x).cut t) := by
  cases k
  · exact nan_f32 t
  · exact nan_f64 t

theorem wf_lt {k : FloatKind} {r : Nat} (h : (Lit.float k r).wf = true) : r < 2 ^ k.format.width := by
  cases k <;> exact of_decide_eq_true h
section
variable {P : Program} {o : Oper} {a : Act} {w : World} {K : Act → World → Prop} {Q : Exit → Act → World → Prop}

/-- '+', '-', '*', '/' on floats -/
theorem run_fbin (P : Program) (w : World) (op : BinOp) (t : TypeId) (k : FloatKind) (bx c : Nat) (har : (op matches .add | .sub | .mul | .quo) = true) :
    ∃ r n, RV k (opf op k (fv k bx) (fv k c)) r ∧ (binOp op t (.float k bx) (.float k c)).run P w = .ok (.float k r) (w.drewN n) := by
  rw [← floatBits_fv]
  cases hb : floatBits op k bx c with
  | some r => exact ⟨r, 0, ⟨floatBits_val hb, wf_lt (floatBits_wf hb)⟩, run_float_arith w op t k bx c r hb⟩
  | none =>
    refine ⟨(Question.nanBits k bx c).cut (w.tape w.drawn (.nanBits k bx c)), 1, rv_nanBits k bx c _, ?_⟩
    unfold floatBits at hb
    cases op <;> simp at har <;> simp only at hb <;> simp [binOp, Op.floatArith, hb, Question.forced] <;> rfl

theorem upon_fbin {op : BinOp} {t : TypeId} {k : FloatKind} {x y : Nat} (har : (op matches .add | .sub | .mul | .quo) = true)
    (h : ∀ r n, RV k (opf op k (fv k x) (fv k y)) r → K (a.put o.dst (.float k r)) (w.drewN n)) :
    Oper.upon P o a K Q ((Sem.run P (binOp op t (.float k x) (.float k y)) w).andThen fun a w' => Result.ok (Next.value a) w') := by
  obtain ⟨r, n, hr, hrun⟩ := run_fbin P w op t k x y har
  rw [hrun]
  exact h r n hr

/-- a conversion between the kinds, where it fits -/
theorem run_fcv (P : Program) (w : World) {s t : TypeId} {k d : FloatKind} {bx : Nat}
    (hs : (P.underlying s).isSome = true) (hd : P.underlying t = some (.float d)) (hw : bx < 2 ^ k.format.width) (hf : FitsF k d (fv k bx)) :
    ∃ r n, RV d (cvf k d (fv k bx)) r ∧ (convert s t (.float k bx)).run P w = .ok (.float d r) (w.drewN n) := by
  by_cases he : k = d
  · subst he
    refine ⟨bx, 0, ⟨?_, hw⟩, run_convert_float_float w s t k k bx bx hs hd (by simp [floatToFloatBits])⟩
    unfold cvf fv
    split <;> simp [floatToFloatBits]
  · by_cases hn : (k.decode bx).isNaN = true
    · have e : fv k bx = none := fv_none.2 hn
      rw [e]
      refine ⟨(Question.nanConv d bx).cut (w.tape w.drawn (.nanConv d bx)), 1, rv_nanConv d bx _, ?_⟩
      obtain ⟨u, hs'⟩ := Option.isSome_iff_exists.1 hs
      cases hdd : k.decode bx <;> simp [hdd, Datum.isNaN] at hn
      cases u <;> simp [convert, run_underlying hs', run_underlying hd, Conv.floatToFloat, he, hdd, Question.forced] <;> rfl
    · have e : fv k bx = some bx := by unfold fv; rw [if_neg hn]
      rw [e] at hf ⊢
      obtain ⟨r, hr⟩ := Option.isSome_iff_exists.1 (hf bx rfl)
      refine ⟨r, 0, ⟨?_, ?_⟩, run_convert_float_float w s t k d bx r hs hd hr⟩
      · show fv d r = floatToFloatBits k bx d
        rw [hr]
        unfold floatToFloatBits at hr
        rw [if_neg he] at hr
        split at hr
        · cases hr
        · cases hr; exact write_fv d rfl
        · split at hr
          · cases hr
          · cases hr; exact write_fv d rfl
      · have hw' : (Lit.float k bx).wf = true := wf_of_lt k bx hw
        exact wf_lt (floatToFloatBits_wf hw' hr)

theorem upon_fcv {s t : TypeId} {k d : FloatKind} {bx : Nat} (hs : (P.underlying s).isSome = true) (hd : P.underlying t = some (.float d)) (hw : bx < 2 ^ k.format.width) (hf : FitsF k d (fv k bx))
    (h : ∀ r n, RV d (cvf k d (fv k bx)) r → K (a.put o.dst (.float d r)) (w.drewN n)) :
    Oper.upon P o a K Q ((Sem.run P (convert s t (.float k bx)) w).andThen fun a w' => Result.ok (Next.value a) w') := by
  obtain ⟨r, n, hr, hrun⟩ := run_fcv P w hs hd hw hf
  rw [hrun]
  exact h r n hr
end

/-- every finite float32 is below 2 ^ 128 -/
theorem le2_single {x : Nat} {s : Bool} {m : Nat} {e : Int} (h : FloatKind.f32.decode x = .number s m e) : Le2 (.number s m e) 128 := by
  have h' : single.read x = .number s m e := h
  by_cases hr : x % single.signWeight < single.infRung
  · rw [read_rung single x hr] at h'
    obtain ⟨_, rfl, rfl⟩ : _ ∧ _ ∧ _ := by simpa using h'
    refine ⟨_, _, _, 24, rfl, ?_, ?_⟩
    · have := sig_lt single (x % single.signWeight)
      have e3 : single.binade = 8388608 := rfl
      omega
    · have e2 : single.infRung = 2139095040 := rfl
      rw [e2] at hr
      have e3 : single.binade = 8388608 := rfl
      have e4 : single.leastPlace = -149 := rfl
      unfold exq
      rw [e3]
      split <;> omega
  · unfold Format.read at h'
    dsimp only at h'
    have := binade_le_infRung single (by decide)
    rw [if_neg (by omega), if_neg hr] at h'
    split at h' <;> cases h'

theorem le2_number {d : Datum} {n : Int} (h : Le2 d n) : d.isInfinity = false ∧ d.isNaN = false := by
  obtain ⟨s, m, e, j, rfl, _, _⟩ := h
  exact ⟨rfl, rfl⟩

/-- a float32 always fits a float64 -/
theorem fits_widen (b : Nat) : FitsF .f32 .f64 (fv .f32 b) := by
  intro x hx
  obtain ⟨hn, rfl⟩ := fv_some.1 hx
  unfold floatToFloatBits
  rw [if_neg (by decide)]
  cases hd : FloatKind.f32.decode b with
  | nan s t => rw [hd] at hn; cases hn
  | infinity s => rfl
  | number s m e =>
    have h1 := le2_write double good_double _ 128 (le2_single hd) (by decide) (by decide)
    have h2 : (FloatKind.f64.decode (FloatKind.f64.encode (.number s m e))).isInfinity = false := (le2_number h1).1
    simp only [h2]; rfl

theorem word_of (f : Format) (x : Nat) (h : x < 2 ^ f.width) : x = f.word (x / f.signWeight % 2 == 1) (x % f.signWeight) := by
  have two : 2 ^ f.width = 2 * f.signWeight := by
    unfold Format.width Format.signWeight
    rw [Nat.add_assoc, Nat.add_comm 1, Nat.pow_succ, Nat.mul_comm]
  have hp := signWeight_pos f
  rw [two] at h
  have hd := Nat.div_add_mod x f.signWeight
  have hm := Nat.mod_lt x hp
  unfold Format.word
  rcases Nat.lt_or_ge x f.signWeight with h1 | h1
  · rw [Nat.div_eq_of_lt h1, Nat.mod_eq_of_lt h1]; simp
  · have e : x / f.signWeight = 1 := by
      have a1 : 1 ≤ x / f.signWeight := (Nat.le_div_iff_mul_le hp).2 (by omega)
      have a2 : x / f.signWeight < 2 := (Nat.div_lt_iff_lt_mul hp).2 (by omega)
      omega
    rw [e] at hd ⊢
    simp; omega

theorem rung_le_of_not_nan (f : Format) (he : 0 < f.exponentBits) (x : Nat) (h : (f.read x).isNaN = false) : x % f.signWeight ≤ f.infRung := by
  refine Nat.le_of_not_lt fun hlt => ?_
  have hb := binade_le_infRung f he
  unfold Format.read at h
  dsimp only at h
  rw [if_neg (by omega), if_neg (by omega), if_neg (by omega)] at h
  cases h

theorem signed_word (f : Format) (s : Bool) (r base : Nat) :
    signed s (sig f r) (exq f r - base) = (if s then -((sig f r * 2 ^ (exq f r - base) : Nat) : Int) else ((sig f r * 2 ^ (exq f r - base) : Nat) : Int)) := by
  unfold signed; rw [Nat.shiftLeft_eq]

theorem compare_nat_int (a b : Nat) : compare (a : Int) (b : Int) = compare a b := by
  simp only [compare, compareOfLessAndEq]
  by_cases h : a < b
  · rw [if_pos h, if_pos (by omega)]
  · rw [if_neg h, if_neg (by omega)]
    by_cases h2 : a = b
    · rw [if_pos h2, if_pos (by omega)]
    · rw [if_neg h2, if_neg (by omega)]
theorem compare_neg_nat_int (a b : Nat) : compare (-(a : Int)) (-(b : Int)) = compare b a := by
  simp only [compare, compareOfLessAndEq]
  by_cases h : b < a
  · rw [if_pos h, if_pos (by omega)]
  · rw [if_neg h, if_neg (by omega)]
    by_cases h2 : b = a
    · rw [if_pos h2, if_pos (by omega)]
    · rw [if_neg h2, if_neg (by omega)]

theorem compare_scaled {a b u v : Nat} (h : ∃ c : Nat, 0 < c ∧ a * c = u ∧ b * c = v) : compare a b = compare u v := by
  obtain ⟨c, hc, rfl, rfl⟩ := h
  simp only [compare, compareOfLessAndEq]
  have k1 : a * c < b * c ↔ a < b := ⟨fun h => Nat.lt_of_mul_lt_mul_right h, fun h => Nat.mul_lt_mul_of_pos_right h hc⟩
  have k2 : a * c = b * c ↔ a = b := ⟨fun h => Nat.eq_of_mul_eq_mul_right hc h, fun h => by rw [h]⟩
  simp only [k1, k2]

theorem compare_un (f : Format) (r r' : Nat) : compare (un f r) (un f r') = compare r r' := by
  simp only [compare, compareOfLessAndEq]
  by_cases h : r < r'
  · rw [if_pos h, if_pos (un_lt f h)]
  · have h1 := (un_le_iff f r' r).2 (by omega)
    rw [if_neg h, if_neg (by omega)]
    by_cases h2 : r = r'
    · rw [if_pos h2, if_pos (by rw [h2])]
    · rw [if_neg h2, if_neg (by intro h'; exact h2 (un_inj f h'))]

theorem order_number (f : Format) (s t : Bool) (r r' : Nat) :
    Datum.order (.number s (sig f r) (f.leastPlace + (exq f r : Nat))) (.number t (sig f r') (f.leastPlace + (exq f r' : Nat))) =
      some (compare (if s then -(un f r : Int) else (un f r : Int)) (if t then -(un f r' : Int) else (un f r' : Int))) := by
  unfold Datum.order
  simp only []
  congr 1
  generalize hb : min (exq f r) (exq f r') = b
  have e1 : (f.leastPlace + (exq f r : Nat) - min (f.leastPlace + (exq f r : Nat)) (f.leastPlace + (exq f r' : Nat))).toNat = exq f r - b := by omega
  have e2 : (f.leastPlace + (exq f r' : Nat) - min (f.leastPlace + (exq f r : Nat)) (f.leastPlace + (exq f r' : Nat))).toNat = exq f r' - b := by omega
  rw [e1, e2]
  have u1 : un f r = sig f r * 2 ^ (exq f r - b) * 2 ^ b := by unfold un; rw [Nat.mul_assoc, ← Nat.pow_add]; congr 2; omega
  have u2 : un f r' = sig f r' * 2 ^ (exq f r' - b) * 2 ^ b := by unfold un; rw [Nat.mul_assoc, ← Nat.pow_add]; congr 2; omega
  have hp := Nat.two_pow_pos b
  unfold signed
  rw [Nat.shiftLeft_eq, Nat.shiftLeft_eq]
  generalize sig f r * 2 ^ (exq f r - b) = x at u1 ⊢
  generalize sig f r' * 2 ^ (exq f r' - b) = y at u2 ⊢
  rw [u1, u2]
  have key : ∀ a c : Int, compare a c = compare (a * (2 ^ b : Nat)) (c * (2 ^ b : Nat)) := by
    intro a c
    have hp' : (0 : Int) < (2 ^ b : Nat) := by omega
    simp only [compare, compareOfLessAndEq]
    have k1 : a * (2 ^ b : Nat) < c * (2 ^ b : Nat) ↔ a < c := ⟨fun h => Int.lt_of_mul_lt_mul_right h (Int.le_of_lt hp'), fun h => Int.mul_lt_mul_of_pos_right h hp'⟩
    have k2 : a * (2 ^ b : Nat) = c * (2 ^ b : Nat) ↔ a = c := ⟨fun h => Int.eq_of_mul_eq_mul_right (by omega) h, fun h => by rw [h]⟩
    simp only [k1, k2]
  rw [key]
  congr 1
  · cases s <;> simp [Int.natCast_mul, Int.neg_mul]
  · cases t <;> simp [Int.natCast_mul, Int.neg_mul]

/-- two words of one sign -/
theorem order_pos (f : Format) (he : 0 < f.exponentBits) (r r' : Nat) (h : r ≤ f.infRung) (h' : r' ≤ f.infRung) : f.order (f.word false r) (f.word false r') = some (compare r r') := by
  unfold Format.order
  rcases Nat.lt_or_eq_of_le h with h1 | h1
  · rw [read_word f false r h1]
    rcases Nat.lt_or_eq_of_le h' with h2 | h2
    · rw [read_word f false r' h2, order_number]
      simp only [Bool.false_eq_true, if_false]
      rw [compare_nat_int, compare_un]
    · subst h2
      rw [read_inf f false he]
      have : compare r f.infRung = .lt := by simp only [compare, compareOfLessAndEq]; rw [if_pos h1]
      rw [this]; rfl
  · subst h1
    rw [read_inf f false he]
    rcases Nat.lt_or_eq_of_le h' with h2 | h2
    · rw [read_word f false r' h2]
      have : compare f.infRung r' = .gt := by simp only [compare, compareOfLessAndEq]; rw [if_neg (by omega), if_neg (by omega)]
      rw [this]; rfl
    · subst h2
      rw [read_inf f false he]
      have : compare f.infRung f.infRung = .eq := by simp only [compare, compareOfLessAndEq]; simp
      rw [this]; rfl

theorem order_neg (f : Format) (he : 0 < f.exponentBits) (r r' : Nat) (h : r ≤ f.infRung) (h' : r' ≤ f.infRung) : f.order (f.word true r) (f.word true r') = some (compare r' r) := by
  unfold Format.order
  rcases Nat.lt_or_eq_of_le h with h1 | h1
  · rw [read_word f true r h1]
    rcases Nat.lt_or_eq_of_le h' with h2 | h2
    · rw [read_word f true r' h2, order_number]
      simp only [if_true]
      rw [compare_neg_nat_int, compare_un]
    · subst h2
      rw [read_inf f true he]
      have : compare f.infRung r = .gt := by simp only [compare, compareOfLessAndEq]; rw [if_neg (by omega), if_neg (by omega)]
      rw [this]; rfl
  · subst h1
    rw [read_inf f true he]
    rcases Nat.lt_or_eq_of_le h' with h2 | h2
    · rw [read_word f true r' h2]
      have : compare r' f.infRung = .lt := by simp only [compare, compareOfLessAndEq]; rw [if_pos h2]
      rw [this]; rfl
    · subst h2
      rw [read_inf f true he]
      have : compare f.infRung f.infRung = .eq := by simp only [compare, compareOfLessAndEq]; simp
      rw [this]; rfl

theorem compare_self (r : Nat) : compare r r = .eq := by simp only [compare, compareOfLessAndEq]; simp
theorem compare_eq {r r' : Nat} (h : compare r r' = .eq) : r = r' := by
  simp only [compare, compareOfLessAndEq] at h
  split at h
  · cases h
  · split at h
    · assumption
    · cases h

/-- what is no NaN is equal to itself -/
theorem order_self (k : FloatKind) (x : Nat) (h : (k.decode x).isNaN = false) : k.format.order x x = some .eq := by
  unfold Format.order
  unfold FloatKind.decode at h
  cases hd : k.format.read x with
  | nan s t => rw [hd] at h; cases h
  | infinity s => cases s <;> rfl
  | number s m e =>
    unfold Datum.order
    simp only []
    congr 1
    simp only [compare, compareOfLessAndEq]
    simp

theorem ordf_self (k : FloatKind) (a : Option Nat) (h : ∃ x, fv k x = a) : (ordf k a a == some .eq) = a.isSome := by
  obtain ⟨x, rfl⟩ := h
  rw [← order_fv]
  cases hn : (k.decode x).isNaN with
  | true => rw [fv_none.2 hn, order_fv, fv_none.2 hn]; rfl
  | false => rw [order_self k x hn, fv_some.2 ⟨hn, rfl⟩]; rfl

/-- every significand of the format, at every place from the least on, is a rung's value -/
theorem exists_rung (f : Format) : ∀ (t K : Nat), K < 2 * f.binade → ∃ r, un f r = K * 2 ^ t := by
  intro t
  induction t with
  | zero =>
    intro K hK
    refine ⟨0 * f.binade + K, ?_⟩
    exact units_carry f 0 K (by omega) (.inl rfl)
  | succ t ih =>
    intro K hK
    by_cases h : f.binade ≤ K
    · exact ⟨(t + 1) * f.binade + K, units_carry f (t + 1) K (by omega) (.inr h)⟩
    · obtain ⟨r, hr⟩ := ih (2 * K) (by omega)
      exact ⟨r, by rw [hr, Nat.pow_succ, Nat.mul_comm (2 ^ t) 2, ← Nat.mul_assoc, Nat.mul_comm K 2]⟩

theorem exq_single {r : Nat} (h : r < single.infRung) : exq single r ≤ 253 := by
  have e2 : single.infRung = 2139095040 := rfl
  have e3 : single.binade = 8388608 := rfl
  rw [e2] at h
  unfold exq
  rw [e3]
  split <;> omega

/-- the rung that a float32's rung comes to as a float64 -/
theorem widen_rung {r : Nat} (h : r < single.infRung) : ∃ r', r' < double.infRung ∧ un double r' = un single r * 2 ^ 925 := by
  have hs := sig_lt single r
  have he := exq_single h
  have e3 : single.binade = 8388608 := rfl
  have e4 : double.binade = 4503599627370496 := rfl
  obtain ⟨r', hr'⟩ := exists_rung double (exq single r + 925) (sig single r) (by omega)
  have hu : un double r' = un single r * 2 ^ 925 := by rw [hr', Nat.pow_add, ← Nat.mul_assoc]; rfl
  have e5 : double.fractionBits + (2 ^ double.exponentBits - 2) = 2098 := rfl
  refine ⟨r', rung_lt_inf double (by decide) r' (24 + (exq single r + 925)) ?_ (by omega), hu⟩
  show un double r' ≤ _
  rw [hr', Nat.pow_add 2 24]
  exact Nat.mul_le_mul_right _ (by omega)

/-- a finite float32 as a float64: its sign, its value -/
theorem widen_exact {b : Nat} (h : b % single.signWeight < single.infRung) : ∃ r', r' < double.infRung ∧ un double r' = un single (b % single.signWeight) * 2 ^ 925 ∧
    floatToFloatBits .f32 b .f64 = some (double.word (b / single.signWeight % 2 == 1) r') := by
  obtain ⟨r', h1, h2⟩ := widen_rung h
  refine ⟨r', h1, h2, ?_⟩
  have hd : FloatKind.f32.decode b = .number (b / single.signWeight % 2 == 1) (sig single (b % single.signWeight)) (single.leastPlace + (exq single (b % single.signWeight) : Nat)) := read_rung single b h
  have hw : double.nearest (b / single.signWeight % 2 == 1) (sig single (b % single.signWeight)) (single.leastPlace + (exq single (b % single.signWeight) : Nat)) = double.word (b / single.signWeight % 2 == 1) r' := by
    refine nearest_exact double _ _ _ r' h1 (x := exq single (b % single.signWeight) + 925) (y := 0) ?_ ?_
    · have a1 : single.leastPlace = -149 := rfl
      have a2 : double.leastPlace = -1074 := rfl
      omega
    · rw [h2, Nat.pow_add, ← Nat.mul_assoc, Nat.pow_zero, Nat.mul_one]; rfl
  unfold floatToFloatBits
  rw [if_neg (by decide), hd]
  simp only []
  have he : FloatKind.f64.encode (.number (b / single.signWeight % 2 == 1) (sig single (b % single.signWeight)) (single.leastPlace + (exq single (b % single.signWeight) : Nat))) = double.word (b / single.signWeight % 2 == 1) r' := hw
  rw [he]
  have hi : (FloatKind.f64.decode (double.word (b / single.signWeight % 2 == 1) r')).isInfinity = false := by
    show (double.read _).isInfinity = false
    rw [read_word double _ r' h1]; rfl
  rw [hi]; rfl

/-- and back again -/
theorem narrow_back {b : Nat} (hb : b < 2 ^ 32) {r' : Nat} (h : b % single.signWeight < single.infRung) (h1 : r' < double.infRung) (h2 : un double r' = un single (b % single.signWeight) * 2 ^ 925) :
    floatToFloatBits .f64 (double.word (b / single.signWeight % 2 == 1) r') .f32 = some b := by
  have hd : FloatKind.f64.decode (double.word (b / single.signWeight % 2 == 1) r') = .number (b / single.signWeight % 2 == 1) (sig double r') (double.leastPlace + (exq double r' : Nat)) := read_word double _ r' h1
  have hw : single.nearest (b / single.signWeight % 2 == 1) (sig double r') (double.leastPlace + (exq double r' : Nat)) = single.word (b / single.signWeight % 2 == 1) (b % single.signWeight) := by
    refine nearest_exact single _ _ _ _ h (x := exq double r') (y := 925) ?_ ?_
    · have a1 : single.leastPlace = -149 := rfl
      have a2 : double.leastPlace = -1074 := rfl
      omega
    · rw [← h2]; rfl
  unfold floatToFloatBits
  rw [if_neg (by decide), hd]
  simp only []
  have he : FloatKind.f32.encode (.number (b / single.signWeight % 2 == 1) (sig double r') (double.leastPlace + (exq double r' : Nat))) = b := by
    show single.nearest _ _ _ = b
    rw [hw]; exact (word_of single b hb).symm
  rw [he]
  have hi : (FloatKind.f32.decode b).isInfinity = false := by
    show (single.read _).isInfinity = false
    rw [read_rung single b h]; rfl
  rw [hi]; rfl

theorem widen_inf {b : Nat} (h : b % single.signWeight = single.infRung) : floatToFloatBits .f32 b .f64 = some (double.word (b / single.signWeight % 2 == 1) double.infRung) := by
  have hd : FloatKind.f32.decode b = .infinity (b / single.signWeight % 2 == 1) := by
    show single.read b = _
    unfold Format.read
    dsimp only
    have := binade_le_infRung single (by decide)
    rw [if_neg (by omega), if_neg (by omega), if_pos h]
  unfold floatToFloatBits
  rw [if_neg (by decide), hd]; rfl

/-! signs, equality, the least normal number -/

theorem sign_single {b : Nat} (h : b < 4294967296) : (b / single.signWeight % 2 == 1) = decide (2147483648 ≤ b) := by
  have e : single.signWeight = 2147483648 := rfl
  rw [e, Bool.eq_iff_iff]
  simp only [beq_iff_eq, decide_eq_true_eq]
  omega

theorem word_sign (s : Bool) {r : Nat} (h : r ≤ double.infRung) : (9223372036854775808 ≤ double.word s r) ↔ s = true := by
  have e : double.signWeight = 9223372036854775808 := rfl
  have e2 : double.infRung = 9218868437227405312 := rfl
  unfold Format.word
  rw [e]
  cases s <;> simp <;> omega

theorem word_abs (s : Bool) {r : Nat} (h : r ≤ double.infRung) : double.word s r % 9223372036854775808 = r := by
  have e : double.signWeight = 9223372036854775808 := rfl
  have := infRung_lt double
  rw [← e]; exact word_mod double s r (by omega)

/-- a float32 that is no NaN, as a float64: its sign and a rung -/
theorem widen_word {b : Nat} (hb : b < 4294967296) (hn : (FloatKind.f32.decode b).isNaN = false) : ∃ r', r' ≤ double.infRung ∧ cvf .f32 .f64 (fv .f32 b) = some (double.word (decide (2147483648 ≤ b)) r') ∧
    (b % 2147483648 < single.infRung → r' < double.infRung ∧ un double r' = un single (b % 2147483648) * 2 ^ 925) ∧ (b % 2147483648 = single.infRung → r' = double.infRung) := by
  have e : single.signWeight = 2147483648 := rfl
  have hle := rung_le_of_not_nan single (by decide) b hn
  have hfv : fv .f32 b = some b := fv_some.2 ⟨hn, rfl⟩
  rw [hfv, ← sign_single hb]
  rcases Nat.lt_or_eq_of_le hle with h | h
  · obtain ⟨r', h1, h2, h3⟩ := widen_exact h
    exact ⟨r', by omega, h3, fun _ => ⟨h1, h2⟩, fun h' => by rw [e] at h; omega⟩
  · exact ⟨_, Nat.le_refl _, widen_inf h, fun h' => by rw [e] at h; omega, fun _ => rfl⟩

theorem order_pos_lt (f : Format) (he : 0 < f.exponentBits) {r r' : Nat} (h : r ≤ f.infRung) (h' : r' ≤ f.infRung) : (f.order r r' == some .lt) = decide (r < r') := by
  have e := order_pos f he r r' h h'
  unfold Format.word at e
  simp only [Bool.false_eq_true, if_false] at e
  rw [e]
  simp only [compare, compareOfLessAndEq]
  by_cases h : r < r'
  · simp [h]
  · rw [if_neg h]
    by_cases h2 : r = r'
    · simp [h2]
    · simp [h2]; omega

theorem shift_lt (a b n : Nat) : a * 2 ^ n < b * 2 ^ n ↔ a < b := ⟨fun h => Nat.lt_of_mul_lt_mul_right h, fun h => Nat.mul_lt_mul_of_pos_right h (Nat.two_pow_pos _)⟩

theorem pow_shift (a b c d : Nat) (h : a + b = c + d) : 2 ^ a * 2 ^ b = 2 ^ c * 2 ^ d := by rw [← Nat.pow_add, ← Nat.pow_add, h]

/-- nearer to 0 than 2 ^ -126: told by the bits -/
theorem subnormal_bits {b r : Nat} (hb : b < 4294967296) (hr : RV .f64 (cvf .f32 .f64 (fv .f32 b)) r) (hn : (FloatKind.f32.decode b).isNaN = false) :
    (FloatKind.f64.format.order (r % 9223372036854775808) 4039728865751334912 == some .lt) = decide (b % 2147483648 < 8388608) := by
  obtain ⟨r', h1, h2, h3, h4⟩ := widen_word hb hn
  have hr1 : r = double.word (decide (2147483648 ≤ b)) r' := by
    have := hr.1
    rw [h2] at this
    exact (fv_some.1 this).2
  rw [hr1, word_abs _ h1]
  have e2 : double.infRung = 9218868437227405312 := rfl
  have e5 : single.infRung = 2139095040 := rfl
  have e6 : single.signWeight = 2147483648 := rfl
  have hc : (4039728865751334912 : Nat) ≤ double.infRung := by omega
  have ho : (FloatKind.f64.format.order r' 4039728865751334912 == some .lt) = decide (r' < 4039728865751334912) := order_pos_lt double (by decide) h1 hc
  rw [ho, decide_eq_decide]
  have hle := rung_le_of_not_nan single (by decide) b hn
  rw [e6] at hle
  rcases Nat.lt_or_eq_of_le hle with h | h
  · obtain ⟨h5, h6⟩ := h3 h
    have s1 : sig double 4039728865751334912 = 2 ^ 52 := rfl
    have s2 : exq double 4039728865751334912 = 896 := rfl
    have u1 : un double 4039728865751334912 = 2 ^ 23 * 2 ^ 925 := by unfold un; rw [s1, s2]; exact pow_shift 52 896 23 925 rfl
    have s3 : sig single 8388608 = 2 ^ 23 := rfl
    have s4 : exq single 8388608 = 0 := rfl
    have u2 : un single 8388608 = 2 ^ 23 := by unfold un; rw [s3, s4, Nat.pow_zero, Nat.mul_one]
    have k1 : r' < 4039728865751334912 ↔ un double r' < un double 4039728865751334912 := by
      constructor
      · exact un_lt double
      · intro h; refine Nat.lt_of_not_le fun h' => ?_
        have := (un_le_iff double _ _).2 h'; omega
    have k2 : b % 2147483648 < 8388608 ↔ un single (b % 2147483648) < un single 8388608 := by
      constructor
      · exact un_lt single
      · intro h; refine Nat.lt_of_not_le fun h' => ?_
        have := (un_le_iff single _ _).2 h'; omega
    generalize (925 : Nat) = n at h6 u1
    rw [k1, k2, u1, u2, h6]
    exact shift_lt _ _ _
  · rw [h4 h]
    omega

theorem order_eq_same {f : Format} (he : 0 < f.exponentBits) {x y : Nat} (hx : x < 2 ^ f.width) (hy : y < 2 ^ f.width) (nx : (f.read x).isNaN = false) (ny : (f.read y).isNaN = false)
    (hs : (x / f.signWeight % 2 == 1) = (y / f.signWeight % 2 == 1)) : (f.order x y == some .eq) = (x == y) := by
  have hx1 := word_of f x hx
  have hy1 := word_of f y hy
  have rx := rung_le_of_not_nan f he x nx
  have ry := rung_le_of_not_nan f he y ny
  rw [Bool.eq_iff_iff, beq_iff_eq, beq_iff_eq]
  constructor
  · intro h
    rw [hx1, hy1, hs] at h
    have : x % f.signWeight = y % f.signWeight := by
      cases hb : (y / f.signWeight % 2 == 1)
      · rw [hb, order_pos f he _ _ rx ry] at h; exact compare_eq (Option.some.inj h)
      · rw [hb, order_neg f he _ _ rx ry] at h; exact (compare_eq (Option.some.inj h)).symm
    rw [hx1, hy1, hs, this]
  · intro h
    subst h
    have : ∀ k : FloatKind, k.format = f → f.order x x = some .eq := by
      intro k hk; subst hk; exact order_self k x nx
    unfold Format.order
    cases hd : f.read x with
    | nan s t => rw [hd] at nx; cases nx
    | infinity s => cases s <;> rfl
    | number s m e =>
      unfold Datum.order
      simp only []
      congr 1
      simp only [compare, compareOfLessAndEq]
      simp

theorem u64_abs (r : Nat) (h : r < 18446744073709551616) : bits .andNot .u64 (r : Int) 9223372036854775808 = ((r % 9223372036854775808 : Nat) : Int) := by
  have := u64_andNot_nat r 9223372036854775808 h (by decide)
  rw [show ((9223372036854775808 : Nat) : Int) = 9223372036854775808 from rfl] at this
  rw [this]
  have e : 18446744073709551615 - 9223372036854775808 = 2 ^ 63 - 1 := by decide
  rw [e, Nat.and_two_pow_sub_one_eq_mod]

theorem i64_and_nat (a b : Nat) (ha : a < 9223372036854775808) (hb : b < 9223372036854775808) : bits .and .i64 (a : Int) (b : Int) = ((a &&& b : Nat) : Int) := by
  have hab : a &&& b ≤ a := Nat.and_le_left
  have key : (BitVec.ofInt 64 (a : Int) &&& BitVec.ofInt 64 (b : Int)).toNat = a &&& b := by
    rw [BitVec.toNat_and, BitVec.toNat_ofInt, BitVec.toNat_ofInt]
    congr 1 <;> omega
  show IntKind.i64.wrap ((BitVec.ofInt 64 (a : Int) &&& BitVec.ofInt 64 (b : Int)).toNat : Nat) = _
  rw [key, IntKind.wrap_i64]
  omega

/-- the exponent's bits of a float32 -/
theorem and_exponent (a : Nat) (ha : a < 4294967296) : (bits .and .i64 (a : Int) 2139095040 == 0) = decide (a % 2147483648 < 8388608) := by
  have h := i64_and_nat a 2139095040 (by omega) (by decide)
  rw [show ((2139095040 : Nat) : Int) = 2139095040 from rfl] at h
  have e : a &&& 2139095040 = (a / 8388608 % 256) * 8388608 := by
    have e1 : (2139095040 : Nat) = (2 ^ 8 - 1) * 2 ^ 23 := by decide
    have e2 : a &&& 2139095040 = (a / 2 ^ 23 &&& (2 ^ 8 - 1)) * 2 ^ 23 := by
      apply Nat.eq_of_testBit_eq
      intro i
      rw [Nat.testBit_and, e1, Nat.testBit_mul_two_pow, Nat.testBit_mul_two_pow, Nat.testBit_and, Nat.testBit_div_two_pow]
      by_cases hi : 23 ≤ i
      · simp [hi]
      · simp [hi]
    rw [e2, Nat.and_two_pow_sub_one_eq_mod]
  rw [h, e, Bool.eq_iff_iff]
  simp only [beq_iff_eq, decide_eq_true_eq]
  omega

section
variable {P : Program} {o : Oper} {a : Act} {w : World} {K : Act → World → Prop} {Q : Exit → Act → World → Prop}
/-- float64(x) of a float32 -/
theorem upon_widen {s t : TypeId} {b : Nat} (hs : P.underlying s = some (.float .f32)) (hd : P.underlying t = some (.float .f64)) (hw : b < 4294967296)
    (h : ∀ r n, RV .f64 (cvf .f32 .f64 (fv .f32 b)) r → K (a.put o.dst (.float .f64 r)) (w.drewN n)) :
    Oper.upon P o a K Q ((Sem.run P (convert s t (.float .f32 b)) w).andThen fun a w' => Result.ok (Next.value a) w') :=
  upon_fcv (by rw [hs]; rfl) hd hw (fits_widen b) h
/-- float32(x) of a float64, where it fits -/
theorem upon_narrow {s t : TypeId} {b : Nat} (hs : P.underlying s = some (.float .f64)) (hd : P.underlying t = some (.float .f32)) (hw : b < 18446744073709551616) (hf : FitsF .f64 .f32 (fv .f64 b))
    (h : ∀ r n, RV .f32 (cvf .f64 .f32 (fv .f64 b)) r → K (a.put o.dst (.float .f32 r)) (w.drewN n)) :
    Oper.upon P o a K Q ((Sem.run P (convert s t (.float .f64 b)) w).andThen fun a w' => Result.ok (Next.value a) w') :=
  upon_fcv (by rw [hs]; rfl) hd hw hf h
end

end Go.Proofs.Ytiabbafmjgiobaa.Fl
