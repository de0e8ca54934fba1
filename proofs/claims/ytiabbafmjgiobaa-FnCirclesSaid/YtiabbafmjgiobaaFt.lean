/-
Plain laws on doubles: comparing words, whole numbers, the fraction of a number of turns, and the series of the sine: bounds.
-/
import Derived.Test.YtiabbafmjgiobaaFd
namespace Go.Proofs.Ytiabbafmjgiobaa.Fl
open Go Ieee

/-- the value of a rung with a sign, in units of the least place -/
def sun (s : Bool) (r : Nat) : Int := if s then -(un double r : Int) else (un double r : Int)

theorem order_fin (s t : Bool) {r r' : Nat} (h : r < double.infRung) (h' : r' < double.infRung) : FloatKind.f64.format.order (double.word s r) (double.word t r') = some (compare (sun s r) (sun t r')) := by
  show (double.read _).order (double.read _) = _
  rw [read_word double s r h, read_word double t r' h', order_number]
  rfl

theorem cmp_lt (a b : Int) : (some (compare a b) == some .lt) = decide (a < b) := by
  simp only [compare, compareOfLessAndEq]
  by_cases h : a < b
  · simp [h]
  · by_cases h2 : a = b <;> simp [h, h2]
theorem cmp_gt (a b : Int) : (some (compare a b) == some .gt) = decide (b < a) := by
  simp only [compare, compareOfLessAndEq]
  by_cases h : a < b
  · have : ¬ b < a := by omega
    simp [h, this]
  · by_cases h2 : a = b
    · simp [h2]
    · have : b < a := by omega
      simp [h, h2, this]
theorem cmp_eq (a b : Int) : (some (compare a b) == some .eq) = decide (a = b) := by
  simp only [compare, compareOfLessAndEq]
  by_cases h : a < b
  · have : ¬ a = b := by omega
    simp [h, this]
  · by_cases h2 : a = b <;> simp [h, h2]

/-- a finite double: its sign and its rung -/
theorem Fnt.word {x : Nat} (hx : x < 18446744073709551616) (h : Fnt x) : ∃ s r, r < double.infRung ∧ x = double.word s r := by
  obtain ⟨s, m, e, hd⟩ := h
  have e1 : double.signWeight = 9223372036854775808 := rfl
  refine ⟨x / double.signWeight % 2 == 1, x % double.signWeight, ?_, word_of double x hx⟩
  refine Nat.lt_of_not_le fun hle => ?_
  unfold Format.read at hd
  dsimp only at hd
  have := binade_le_infRung double (by decide)
  rw [if_neg (by omega), if_neg (by omega)] at hd
  split at hd <;> cases hd

theorem word_lt64 (s : Bool) {r : Nat} (h : r ≤ double.infRung) : double.word s r < 18446744073709551616 := by
  have := infRung_lt double
  exact double.word_lt s (by omega)

theorem fin_word (s : Bool) {r : Nat} (h : r < double.infRung) : Fnt (double.word s r) := ⟨_, _, _, read_word double s r h⟩

/-- a bound by a power of two is a bound of the rung -/
theorem bd_word (s : Bool) {r : Nat} {n : Int} (h : r < double.infRung) (h1 : -1074 ≤ n) (hu : un double r ≤ 2 ^ (n + 1074).toNat) : Bd (double.word s r) n := by
  refine ⟨word_lt64 s (Nat.le_of_lt h), le2_of_units double s r n h1 h ?_⟩
  have e : n - double.leastPlace = n + 1074 := by
    have : double.leastPlace = -1074 := rfl
    omega
  rw [e]; exact hu

theorem un_bd {s : Bool} {r : Nat} {n : Int} (h : r < double.infRung) (h1 : -1074 ≤ n) (hb : Bd (double.word s r) n) : un double r ≤ 2 ^ (n + 1074).toNat := by
  obtain ⟨_, s', m, e, j, hd, hm, he⟩ := hb
  rw [read_word double s r h] at hd
  injection hd with h2 h3 h4
  have e1 : double.leastPlace = -1074 := rfl
  unfold un
  rw [h3]
  refine Nat.le_trans (Nat.mul_le_mul_right _ hm) ?_
  rw [← Nat.pow_add]
  exact Nat.pow_le_pow_right (by omega) (by omega)

/-- the greatest whole number that is not above a magnitude -/
theorem cut_zero (neg : Bool) (n drop : Nat) : Toward.zero.cut neg n drop = n / 2 ^ drop := by
  unfold Toward.cut
  simp only [Bool.toNat_false, Nat.add_zero]
  rw [Nat.shiftLeft_eq, Nat.one_mul]
  by_cases h : drop ≤ n.log2 + 2
  · rw [Nat.min_eq_left h]
  · rw [Nat.min_eq_right (by omega)]
    have hlt : n < 2 ^ (n.log2 + 1) := Nat.lt_log2_self
    have h1 : 2 ^ (n.log2 + 1) ≤ 2 ^ (n.log2 + 2) := Nat.pow_le_pow_right (by omega) (by omega)
    have h2 : 2 ^ (n.log2 + 2) ≤ 2 ^ drop := Nat.pow_le_pow_right (by omega) (by omega)
    rw [Nat.div_eq_of_lt (by omega), Nat.div_eq_of_lt (by omega)]

theorem int_rung_aux (K : Nat) (hK : K < 2000) {T : Nat} (h : T < 9007199254740992) : ∃ r, r < double.infRung ∧ un double r = T * 2 ^ K := by
  have e4 : double.binade = 4503599627370496 := rfl
  obtain ⟨r, hr⟩ := exists_rung double K T (by omega)
  have e5 : double.fractionBits + (2 ^ double.exponentBits - 2) = 2098 := rfl
  refine ⟨r, rung_lt_inf double (by decide) r (53 + K) ?_ (by omega), hr⟩
  show un double r ≤ _
  rw [hr, Nat.pow_add 2 53]
  exact Nat.mul_le_mul_right _ (by omega)
theorem int_rung {T : Nat} (h : T < 9007199254740992) : ∃ r, r < double.infRung ∧ un double r = T * 2 ^ 1074 := int_rung_aux 1074 (by decide) h

theorem floatOfInt_word {t : Int} {r : Nat} (hr : r < double.infRung) (hu : un double r = t.natAbs * 2 ^ 1074) : floatOfInt .f64 t = double.word (decide (t < 0)) r := by
  show double.nearest (decide (t < 0)) t.natAbs 0 = _
  refine nearest_exact double _ _ _ r hr (x := 1074) (y := 0) ?_ ?_
  · have : double.leastPlace = -1074 := rfl
    omega
  · rw [hu, Nat.pow_zero, Nat.mul_one]

/-- a whole number as a double, and how it reads -/
theorem int_read {t : Int} (h : t.natAbs < 9007199254740992) : ∃ r, r < double.infRung ∧ un double r = t.natAbs * 2 ^ 1074 ∧ floatOfInt .f64 t = double.word (decide (t < 0)) r := by
  obtain ⟨r, h1, h2⟩ := int_rung h
  exact ⟨r, h1, h2, floatOfInt_word h1 h2⟩

theorem exq_le {K T r : Nat} (hT : T ≤ 4503599627370496) (hu : un double r = T * 2 ^ K) : exq double r ≤ K := by
  refine Nat.le_of_not_lt fun hlt => ?_
  have e4 : double.binade = 4503599627370496 := rfl
  have hbig : double.binade ≤ sig double r := by
    unfold exq at hlt
    unfold sig
    split at hlt
    · omega
    · rename_i hn; rw [if_neg hn]; omega
  rw [e4] at hbig
  have a1 : 4503599627370496 * 2 ^ exq double r ≤ un double r := Nat.mul_le_mul_right _ hbig
  rw [hu] at a1
  have a2 : 2 ^ (K + 1) ≤ 2 ^ exq double r := Nat.pow_le_pow_right (by omega) hlt
  rw [Nat.pow_succ] at a2
  have hz := Nat.two_pow_pos K
  generalize 2 ^ K = z at a1 a2 hz
  generalize 2 ^ exq double r = y at a1 a2
  have a3 : T * z ≤ 4503599627370496 * z := Nat.mul_le_mul_right _ hT
  have a4 : 4503599627370496 * (z * 2) ≤ 4503599627370496 * y := Nat.mul_le_mul_left _ a2
  omega

/-- a magnitude between its whole part and the next one -/
theorem whole_between (m : Nat) (e : Int) (n : Nat) (hn : 0 ≤ e + n) : (m * 2 ^ e.toNat / 2 ^ (-e).toNat) * 2 ^ n ≤ m * 2 ^ (e + n).toNat ∧ m * 2 ^ (e + n).toNat < (m * 2 ^ e.toNat / 2 ^ (-e).toNat + 1) * 2 ^ n := by
  by_cases he : 0 ≤ e
  · have e1 : (-e).toNat = 0 := by omega
    have e2 : (e + n).toNat = e.toNat + n := by omega
    rw [e1, Nat.pow_zero, Nat.div_one, e2, Nat.pow_add, ← Nat.mul_assoc]
    have := Nat.two_pow_pos n
    exact ⟨Nat.le_refl _, Nat.mul_lt_mul_of_pos_right (by omega) this⟩
  · have e1 : e.toNat = 0 := by omega
    rw [e1, Nat.pow_zero, Nat.mul_one]
    have e2 : 2 ^ n = 2 ^ (-e).toNat * 2 ^ (e + n).toNat := by rw [← Nat.pow_add]; congr 1; omega
    rw [e2, ← Nat.mul_assoc, ← Nat.mul_assoc]
    have hp := Nat.two_pow_pos (-e).toNat
    have hd := Nat.div_add_mod m (2 ^ (-e).toNat)
    have hm := Nat.mod_lt m hp
    generalize 2 ^ (-e).toNat = g at *
    constructor
    · refine Nat.mul_le_mul_right _ ?_
      rw [Nat.mul_comm]; omega
    · refine Nat.mul_lt_mul_of_pos_right ?_ (Nat.two_pow_pos _)
      rw [Nat.succ_mul, Nat.mul_comm]; omega

/-- two numbers of one sign whose magnitudes differ by at most 2 ^ n -/
theorem diff_le {s b : Bool} {m u k v A C Z : Nat} (hA : m * 2 ^ u = A) (hC : k * 2 ^ v = C) (hb : b = s ∨ C = 0) (h1 : C ≤ A) (h2 : A < C + Z) : (signed s m u + signed (!b) k v).natAbs ≤ Z := by
  unfold signed
  rw [Nat.shiftLeft_eq, Nat.shiftLeft_eq, hA, hC]
  rcases hb with hb | hb
  · subst hb
    cases b <;> simp <;> omega
  · subst hb
    cases s <;> cases b <;> simp <;> omega

/-- THE FRACTION: a number below 2 ^ 52 less its whole part is at most 1 -/
theorem frac_sub {x : Nat} (hF : Fnt x) (hb : Bd x 52) : ∃ t : Int, floatToIntVal .f64 x .i64 = some t ∧ t.natAbs ≤ 4503599627370496 ∧ Fnt (floatOfInt .f64 t) ∧ Bd (fsub x (floatOfInt .f64 t)) 0 := by
  obtain ⟨s, m, e, hd⟩ := hF
  obtain ⟨_, s', m', e', j, hd', hm, he⟩ := hb
  rw [hd] at hd'
  injection hd' with h1 h2 h3
  subst h1; subst h2; subst h3
  -- the whole part
  have htrunc : (double.read x).toInt .zero = some (signed s (m * 2 ^ e.toNat / 2 ^ (-e).toNat) 0) := by
    rw [hd]
    unfold Datum.toInt Datum.integral
    simp only []
    rw [cut_zero, Nat.shiftLeft_eq]
  generalize hT : m * 2 ^ e.toNat / 2 ^ (-e).toNat = T at htrunc
  have hTle : T ≤ 4503599627370496 := by
    rw [← hT]
    refine Nat.div_le_of_le_mul ?_
    have a1 : m * 2 ^ e.toNat ≤ 2 ^ (j + e.toNat) := by rw [Nat.pow_add]; exact Nat.mul_le_mul_right _ hm
    have a2 : 2 ^ (j + e.toNat) ≤ 2 ^ ((-e).toNat + 52) := Nat.pow_le_pow_right (by omega) (by omega)
    rw [Nat.pow_add 2 _ 52] at a2
    exact Nat.le_trans a1 a2
  have hsig : signed s T 0 = if s then -(T : Int) else (T : Int) := by
    unfold signed; rw [Nat.shiftLeft_eq, Nat.pow_zero, Nat.mul_one]
  have hab : (signed s T 0).natAbs = T := by rw [signed_natAbs]; simp
  refine ⟨signed s T 0, ?_, by omega, ?_, ?_⟩
  · unfold floatToIntVal
    have e1 : (FloatKind.f64.decode x).toInt .zero = some (signed s T 0) := htrunc
    rw [e1]
    have b1 : IntKind.i64.min = -9223372036854775808 := rfl
    have b2 : IntKind.i64.max = 9223372036854775807 := rfl
    simp only []
    rw [if_pos (by rw [b1, b2]; omega)]
  · obtain ⟨r, h1, h2, h3⟩ := int_read (t := signed s T 0) (by omega)
    rw [h3]; exact fin_word _ h1
  · obtain ⟨r, h1, h2, h3⟩ := int_read (t := signed s T 0) (by omega)
    rw [hab] at h2
    have hread : double.read (floatOfInt .f64 (signed s T 0)) = .number (decide (signed s T 0 < 0)) (sig double r) (double.leastPlace + (exq double r : Nat)) := by rw [h3]; exact read_word double _ r h1
    have e1 : double.leastPlace = -1074 := rfl
    rw [e1] at hread
    -- the exact difference
    have hdiff : ∃ p, (double.read x).sum (double.read (floatOfInt .f64 (signed s T 0))).opposite = some p ∧ Le2 p 0 := by
      rw [hd, hread]
      refine ⟨_, rfl, ?_⟩
      generalize hB : min e (-1074 + ((exq double r : Nat) : Int)) = B
      have hq : exq double r ≤ 1074 := exq_le hTle h2
      obtain ⟨n, hn⟩ : ∃ n : Nat, B = -(n : Int) := ⟨(-B).toNat, by omega⟩
      obtain ⟨w1, w2⟩ := whole_between m e n (by omega)
      rw [hT] at w1 w2
      have hu1 : (e - B).toNat = (e + n).toNat := by omega
      have hu2 : sig double r * 2 ^ (-1074 + ((exq double r : Nat) : Int) - B).toNat = T * 2 ^ n := by
        have h5 : sig double r * 2 ^ exq double r = T * 2 ^ 1074 := h2
        generalize hK : (1074 : Nat) = K at h5 hq
        have hcan : sig double r * 2 ^ (-1074 + ((exq double r : Nat) : Int) - B).toNat * 2 ^ K = T * 2 ^ n * 2 ^ K := by
          rw [Nat.mul_assoc, ← Nat.pow_add, Nat.mul_assoc, Nat.mul_comm (2 ^ n), ← Nat.mul_assoc, ← h5, Nat.mul_assoc, ← Nat.pow_add]
          congr 2
          omega
        exact Nat.eq_of_mul_eq_mul_right (Nat.two_pow_pos K) hcan
      refine ⟨_, _, _, n, rfl, ?_, by omega⟩
      rw [hu1]
      refine diff_le rfl hu2 ?_ w1 (by rw [Nat.succ_mul] at w2; exact w2)
      by_cases hT0 : T = 0
      · right; rw [hT0]; simp
      · left
        rw [hsig]
        cases s <;> first | (simp; done) | (simp; omega)
    obtain ⟨p, hp, hle⟩ := hdiff
    have hw : fsub x (floatOfInt .f64 (signed s T 0)) = double.write p := by
      show ((((double.read x).sum (double.read (floatOfInt .f64 (signed s T 0))).opposite).map double.write).getD 0) = _
      rw [hp]; rfl
    rw [hw]; exact write_bd hle (by omega) (by omega)

def one : Nat := 4607182418800017408
def two : Nat := 4611686018427387904
def half : Nat := 4602678819172646912
def quarter : Nat := 4598175219545276416
def turn : Nat := 4618760256179416344
def r52 : Nat := 4841369599423283200

theorem ge_word (s : Bool) {r c : Nat} (h : r < double.infRung) (hc : c < double.infRung) : ((FloatKind.f64.format.order (double.word s r) c == some .gt) || (FloatKind.f64.format.order (double.word s r) c == some .eq)) = decide ((un double c : Int) ≤ sun s r) := by
  have e : FloatKind.f64.format.order (double.word s r) c = some (compare (sun s r) (sun false c)) := order_fin s false h hc
  have e2 : sun false c = (un double c : Int) := rfl
  rw [e, cmp_gt, cmp_eq, e2, Bool.eq_iff_iff]
  simp only [Bool.or_eq_true, decide_eq_true_eq]
  omega
theorem gt_word (s : Bool) {r c : Nat} (h : r < double.infRung) (hc : c < double.infRung) : (FloatKind.f64.format.order (double.word s r) c == some .gt) = decide ((un double c : Int) < sun s r) := by
  have e : FloatKind.f64.format.order (double.word s r) c = some (compare (sun s r) (sun false c)) := order_fin s false h hc
  rw [e, cmp_gt]; rfl
theorem lt_word (s : Bool) {r c : Nat} (h : r < double.infRung) (hc : c < double.infRung) : (FloatKind.f64.format.order (double.word s r) c == some .lt) = decide (sun s r < (un double c : Int)) := by
  have e : FloatKind.f64.format.order (double.word s r) c = some (compare (sun s r) (sun false c)) := order_fin s false h hc
  rw [e, cmp_lt]; rfl

theorem sun_ge {s : Bool} {r c : Nat} (hc : 0 < c) : (un double c : Int) ≤ sun s r ↔ s = false ∧ c ≤ r := by
  have hp : 0 < un double c := by
    have := un_lt double hc
    have h0 : un double 0 = 0 := un_small double (by decide)
    omega
  unfold sun
  cases s
  · simp only [Bool.false_eq_true, if_false, true_and]
    rw [← un_le_iff double]; omega
  · simp only [if_true]
    constructor
    · intro h; omega
    · intro h; cases h.1

theorem pow_sum (a b c : Nat) (h : a + b = c) : 2 ^ a * 2 ^ b = 2 ^ c := by rw [← Nat.pow_add, h]

/-- a double is at least 2 ^ 52 in magnitude -/
def bigN (x : Nat) : Bool := decide (r52 ≤ x % 9223372036854775808)

theorem ge_r52 {x : Nat} (hx : x < 18446744073709551616) (h : Fnt x) : ((FloatKind.f64.format.order x 4841369599423283200 == some .gt) || (FloatKind.f64.format.order x 4841369599423283200 == some .eq)) = (decide (x < 9223372036854775808) && bigN x) := by
  obtain ⟨s, r, hr, rfl⟩ := h.word hx
  have e2 : double.infRung = 9218868437227405312 := rfl
  rw [ge_word s hr (by omega), Bool.eq_iff_iff]
  unfold bigN r52
  rw [word_abs s (Nat.le_of_lt hr)]
  have hs := word_sign s (Nat.le_of_lt hr)
  simp only [Bool.and_eq_true, decide_eq_true_eq]
  rw [sun_ge (by decide)]
  cases s
  · simp at hs ⊢; omega
  · simp at hs ⊢; omega

theorem le_r52 {x : Nat} (hx : x < 18446744073709551616) (h : Fnt x) : ((FloatKind.f64.format.order x 14064741636278059008 == some .lt) || (FloatKind.f64.format.order x 14064741636278059008 == some .eq)) = (decide (9223372036854775808 ≤ x) && bigN x) := by
  obtain ⟨s, r, hr, rfl⟩ := h.word hx
  have e2 : double.infRung = 9218868437227405312 := rfl
  have e : FloatKind.f64.format.order (double.word s r) (double.word true 4841369599423283200) = some (compare (sun s r) (sun true 4841369599423283200)) := order_fin s true hr (by omega)
  rw [show (14064741636278059008 : Nat) = double.word true 4841369599423283200 from rfl]
  rw [e, cmp_lt, cmp_eq, Bool.eq_iff_iff]
  unfold bigN r52
  rw [word_abs s (Nat.le_of_lt hr)]
  have hs := word_sign s (Nat.le_of_lt hr)
  have hg := sun_ge (s := false) (r := r) (c := 4841369599423283200) (by decide)
  have hp : 0 < un double 4841369599423283200 := by
    have := un_lt double (show 0 < 4841369599423283200 by decide)
    omega
  simp only [Bool.or_eq_true, Bool.and_eq_true, decide_eq_true_eq]
  rw [hs]
  unfold sun at hg ⊢
  generalize un double 4841369599423283200 = z at hg hp ⊢
  cases s
  · simp at hg ⊢; omega
  · simp at hg ⊢; omega

theorem abs_r52 {x : Nat} (hx : x < 18446744073709551616) (h : Fnt x) : ((FloatKind.f64.format.order (x % 9223372036854775808) 4841369599423283200 == some .gt) || (FloatKind.f64.format.order (x % 9223372036854775808) 4841369599423283200 == some .eq)) = bigN x := by
  obtain ⟨s, r, hr, rfl⟩ := h.word hx
  have e2 : double.infRung = 9218868437227405312 := rfl
  rw [word_abs s (Nat.le_of_lt hr)]
  have e : r = double.word false r := rfl
  have hg := ge_word false hr (c := 4841369599423283200) (by omega)
  rw [← e] at hg
  rw [hg]
  unfold bigN r52
  rw [word_abs s (Nat.le_of_lt hr), decide_eq_decide, sun_ge (by decide)]
  simp

theorem small_bd {x : Nat} (hx : x < 18446744073709551616) (h : Fnt x) (hb : bigN x = false) : Bd x 52 := by
  obtain ⟨s, r, hr, rfl⟩ := h.word hx
  unfold bigN r52 at hb
  rw [word_abs s (Nat.le_of_lt hr)] at hb
  have hlt : r ≤ 4841369599423283200 := by simpa using Nat.le_of_lt (by simpa using hb)
  have hu := (un_le_iff double r _).2 hlt
  refine bd_word s hr (by omega) ?_
  have e1 : un double 4841369599423283200 = 2 ^ 52 * 2 ^ 1074 := by
    have s1 : sig double 4841369599423283200 = 2 ^ 52 := rfl
    have s2 : exq double 4841369599423283200 = 1074 := rfl
    unfold un; rw [s1, s2]
  rw [e1] at hu
  exact Nat.le_trans hu (Nat.le_of_eq (pow_sum 52 1074 _ rfl))

theorem fin_lit (x : Nat) (h : (match double.read x with | .number _ _ _ => true | _ => false) = true) : Fnt x := by
  unfold Fnt
  cases hd : double.read x with
  | number s m e => exact ⟨s, m, e, rfl⟩
  | infinity s => rw [hd] at h; cases h
  | nan s t => rw [hd] at h; cases h

theorem un_one : un double one = 2 ^ 52 * 2 ^ 1022 := by
  have s1 : sig double one = 2 ^ 52 := rfl
  have s2 : exq double one = 1022 := rfl
  unfold un; rw [s1, s2]

/-- a double of at most 1: its rung -/
theorem rung_one {s : Bool} {r : Nat} (hr : r < double.infRung) (h : Bd (double.word s r) 0) : r ≤ one := by
  have hu := un_bd hr (by omega) h
  have : un double r ≤ un double one := by
    rw [un_one]
    exact Nat.le_trans hu (Nat.le_of_eq (pow_sum 52 1022 ((0 : Int) + 1074).toNat rfl).symm)
  exact (un_le_iff double _ _).1 this
theorem bd_rung {s : Bool} {r : Nat} (h : r ≤ one) : Bd (double.word s r) 0 := by
  have hr : r < double.infRung := Nat.lt_of_le_of_lt h (by decide)
  refine bd_word s hr (by omega) ?_
  have hu := (un_le_iff double _ _).2 h
  rw [un_one] at hu
  exact Nat.le_trans hu (Nat.le_of_eq (pow_sum 52 1022 _ rfl))

/-- a number of at most 1 and below 0, and 1: at most 1, not below 0 -/
theorem neg_add_one {r : Nat} (h : r ≤ one) : ∃ r', r' ≤ one ∧ fadd (double.word true r) one = double.word false r' := by
  have hr : r < double.infRung := Nat.lt_of_le_of_lt h (by decide)
  have h1 : double.read one = .number false (sig double one) (double.leastPlace + (exq double one : Nat)) := read_word double false one (by decide)
  have hs : ∃ p, (double.read (double.word true r)).sum (double.read one) = some p ∧ ∃ r', r' ≤ one ∧ double.write p = double.word false r' := by
    rw [read_word double true r hr, h1]
    refine ⟨_, rfl, ?_⟩
    generalize hb : min (exq double r) (exq double one) = b
    have e1 : (double.leastPlace + (exq double r : Nat) - min (double.leastPlace + (exq double r : Nat)) (double.leastPlace + (exq double one : Nat))).toNat = exq double r - b := by omega
    have e2 : (double.leastPlace + (exq double one : Nat) - min (double.leastPlace + (exq double r : Nat)) (double.leastPlace + (exq double one : Nat))).toNat = exq double one - b := by omega
    have e3 : min (double.leastPlace + ((exq double r : Nat) : Int)) (double.leastPlace + ((exq double one : Nat) : Int)) = double.leastPlace + (b : Int) := by omega
    rw [e1, e2, e3]
    have u1 : un double r = sig double r * 2 ^ (exq double r - b) * 2 ^ b := by unfold un; rw [Nat.mul_assoc, ← Nat.pow_add]; congr 2; omega
    have u2 : un double one = sig double one * 2 ^ (exq double one - b) * 2 ^ b := by unfold un; rw [Nat.mul_assoc, ← Nat.pow_add]; congr 2; omega
    have hle := (un_le_iff double _ _).2 h
    rw [u1, u2] at hle
    have hle' := Nat.le_of_mul_le_mul_right hle (Nat.two_pow_pos b)
    have d1 : signed true (sig double r) (exq double r - b) = -((sig double r * 2 ^ (exq double r - b) : Nat) : Int) := by unfold signed; rw [Nat.shiftLeft_eq]; rfl
    have d2 : signed false (sig double one) (exq double one - b) = ((sig double one * 2 ^ (exq double one - b) : Nat) : Int) := by unfold signed; rw [Nat.shiftLeft_eq]; rfl
    rw [d1, d2]
    generalize hX : sig double r * 2 ^ (exq double r - b) = X at *
    generalize hY : sig double one * 2 ^ (exq double one - b) = Y at *
    have e4 : (if -(X : Int) + (Y : Int) = 0 then true && false else decide (-(X : Int) + (Y : Int) < 0)) = false := by
      split
      · rfl
      · rw [decide_eq_false_iff_not]; omega
    have e5 : (-(X : Int) + (Y : Int)).natAbs = Y - X := by omega
    rw [e4, e5]
    obtain ⟨r', h5, h6⟩ := nearest_mono_le double false (Y - X) (double.leastPlace + (b : Int)) one (by decide) (x := b) (y := 0) (by omega) (by
      rw [u2, Nat.pow_zero, Nat.mul_one]
      exact Nat.mul_le_mul_right _ (by omega))
    exact ⟨r', h5, h6⟩
  obtain ⟨p, hp, r', h2, h3⟩ := hs
  refine ⟨r', h2, ?_⟩
  show ((((double.read (double.word true r)).sum (double.read one)).map double.write).getD 0) = _
  rw [hp]; exact h3

/-- a number of turns without whole ones; t: the whole ones -/
def fracN (x : Nat) (t : Int) : Nat :=
  if FloatKind.f64.format.order (fsub x (floatOfInt .f64 t)) 0 == some .lt then fadd (fsub x (floatOfInt .f64 t)) 4607182418800017408 else fsub x (floatOfInt .f64 t)

theorem fracN_bd {x : Nat} {t : Int} (h : Bd (fsub x (floatOfInt .f64 t)) 0) : Bd (fracN x t) 0 := by
  unfold fracN
  split
  · rename_i hlt
    obtain ⟨s, r, hr, he⟩ := h.fin.word h.1
    rw [he] at h hlt ⊢
    have hone := rung_one hr h
    cases s
    · exfalso
      have := lt_word false hr (c := 0) (by decide)
      have h0 : un double 0 = 0 := un_small double (by decide)
      rw [this, h0] at hlt
      unfold sun at hlt
      simp at hlt
      omega
    · obtain ⟨r', h1, h2⟩ := neg_add_one hone
      have h3 : fadd (double.word true r) 4607182418800017408 = double.word false r' := h2
      rw [h3]; exact bd_rung h1
  · exact h

/-! the series of the sine -/
/-- a whole number as a double -/
def fk (k : Nat) : Nat := floatOfInt .f64 (k : Int)
def den (k : Nat) : Nat := fk (2 * k * (2 * k + 1))
def serN (u : Nat) : Nat → Nat
  | 0 => one
  | j + 1 => fsub one (fdiv (fmul u (serN u j)) (den (8 - j)))

theorem den_ge (k : Nat) (h1 : 1 ≤ k) (h2 : k ≤ 8) : Ge2 (double.read (den k)) 2 := by
  have : k = 1 ∨ k = 2 ∨ k = 3 ∨ k = 4 ∨ k = 5 ∨ k = 6 ∨ k = 7 ∨ k = 8 := by omega
  rcases this with rfl | rfl | rfl | rfl | rfl | rfl | rfl | rfl <;> exact ⟨_, _, _, 52, rfl, by decide, by decide⟩

theorem bd_one : Bd one 0 := ⟨by decide, _, _, _, 52, rfl, by decide, by decide⟩
theorem bd_half : Bd half 0 := ⟨by decide, _, _, _, 52, rfl, by decide, by decide⟩
theorem bd_quarter : Bd quarter 0 := ⟨by decide, _, _, _, 52, rfl, by decide, by decide⟩
theorem bd_turn : Bd turn 3 := ⟨by decide, _, _, _, 53, rfl, by decide, by decide⟩
theorem bd_zero : Bd 0 0 := ⟨by decide, _, _, _, 0, rfl, by decide, by decide⟩

theorem ser_bd {u : Nat} (hu : Bd u 10) : ∀ j : Nat, j ≤ 8 → Bd (serN u j) (9 * j) := by
  intro j
  induction j with
  | zero => intro _; exact bd_one
  | succ j ih =>
    intro hj
    have h1 := ih (by omega)
    have h2 : Bd (fmul u (serN u j)) (10 + 9 * j) := bd_mul hu h1
    have h3 : Bd (fdiv (fmul u (serN u j)) (den (8 - j))) (10 + 9 * j - 2) := bd_div h2 (den_ge (8 - j) (by omega) (by omega))
    have h4 : Bd (fsub one (fdiv (fmul u (serN u j)) (den (8 - j)))) (10 + 9 * j - 2 + 1) := bd_sub (bd_one.mono (by omega)) h3
    exact h4.mono (by omega)

/-- is it at least a half; .. more than a quarter -/
def geHalf (f : Nat) : Bool := (FloatKind.f64.format.order f 4602678819172646912 == some .gt) || (FloatKind.f64.format.order f 4602678819172646912 == some .eq)
def gtQuarter (f : Nat) : Bool := FloatKind.f64.format.order f 4598175219545276416 == some .gt
def sin1 (f : Nat) : Nat := if geHalf f then fsub f 4602678819172646912 else f
def sin2 (f : Nat) : Nat := if gtQuarter f then fsub 4602678819172646912 f else f
/-- the sine of a fraction of a turn -/
def sineN (f : Nat) : Nat :=
  let z := fmul (sin2 (sin1 f)) 4618760256179416344
  let r := fmul z (serN (fmul z z) 8)
  if geHalf f then Op.negFloat .f64 r else r

theorem sin1_bd {f : Nat} (h : Bd f 0) : Bd (sin1 f) 1 := by
  unfold sin1; split
  · exact bd_sub h bd_half
  · exact h.mono (by omega)
theorem sin2_bd {f : Nat} (h : Bd f 1) : Bd (sin2 f) 2 := by
  unfold sin2; split
  · exact bd_sub (bd_half.mono (by omega)) h
  · exact h.mono (by omega)
theorem z_bd {f : Nat} (h : Bd f 2) : Bd (fmul f 4618760256179416344) 5 := bd_mul h bd_turn
theorem sine_bd {f : Nat} (h : Bd f 0) : Bd (sineN f) 77 := by
  have hz := z_bd (sin2_bd (sin1_bd h))
  have hr := bd_mul hz (ser_bd (bd_mul hz hz) 8 (by omega))
  unfold sineN
  simp only []
  split
  · exact bd_neg hr
  · exact hr

end Go.Proofs.Ytiabbafmjgiobaa.Fl
