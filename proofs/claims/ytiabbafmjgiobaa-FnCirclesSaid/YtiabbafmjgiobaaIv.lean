/-
Floats whose values are integers: sums, differences, products, quotients, comparisons and conversions are exact.
-/
import Derived.Test.YtiabbafmjgiobaaFd
import Derived.Test.YtiabbafmjgiobaaCx
set_option linter.unusedVariables false
set_option linter.unusedSimpArgs false
namespace Go.Proofs.Ytiabbafmjgiobaa.Fl
open Go Ieee

theorem signed_add (s : Bool) (m u k : Nat) : signed s m (u + k) = signed s m u * (2 ^ k : Nat) := by
  unfold signed
  rw [Nat.shiftLeft_eq, Nat.shiftLeft_eq, Nat.pow_add, ← Nat.mul_assoc]
  cases s
  · rw [if_neg (by decide), if_neg (by decide)]; push_cast; rfl
  · rw [if_pos rfl, if_pos rfl]; push_cast; rw [Int.neg_mul]
theorem signed_xor (s t : Bool) (m n u v : Nat) : signed (s ^^ t) (m * n) (u + v) = signed s m u * signed t n v := by
  have e : m * n * 2 ^ (u + v) = m * 2 ^ u * (n * 2 ^ v) := by rw [Nat.pow_add]; ac_rfl
  unfold signed
  rw [Nat.shiftLeft_eq, Nat.shiftLeft_eq, Nat.shiftLeft_eq, e]
  cases s <;> cases t <;> simp [Int.neg_mul, Int.mul_neg]
theorem signed_not (s : Bool) (m u : Nat) : signed (!s) m u = -signed s m u := by
  unfold signed
  cases s <;> simp
theorem signed_of (z : Int) (b : Bool) (u : Nat) : signed (if z = 0 then b else decide (z < 0)) z.natAbs u = z * (2 ^ u : Nat) := by
  unfold signed
  rw [Nat.shiftLeft_eq]
  by_cases h0 : z = 0
  · subst h0; simp
  · rw [if_neg h0]
    by_cases h : z < 0
    · rw [decide_eq_true h, if_pos rfl]
      push_cast
      rw [← Int.neg_mul]
      congr 1; omega
    · rw [decide_eq_false h, if_neg (by decide)]
      push_cast
      congr 1; omega

/-- the datum's value is an integer -/
def DV (d : Datum) (i : Int) : Prop := ∃ (s : Bool) (m : Nat) (e : Int) (B : Nat), d = .number s m e ∧ 0 ≤ e + B ∧ signed s m (e + B).toNat = i * (2 ^ B : Nat)
theorem DV.up {s : Bool} {m : Nat} {e i : Int} {B : Nat} (h0 : 0 ≤ e + B) (h : signed s m (e + B).toNat = i * (2 ^ B : Nat)) (k : Nat) : signed s m (e + (B + k : Nat)).toNat = i * (2 ^ (B + k) : Nat) := by
  rw [show (e + ((B + k : Nat) : Int)).toNat = (e + B).toNat + k by omega, signed_add, h, Nat.pow_add]
  push_cast
  rw [Int.mul_assoc]
theorem dv_common {s : Bool} {m : Nat} {e i : Int} {B C : Nat} (h0 : 0 ≤ e + B) (h : signed s m (e + B).toNat = i * (2 ^ B : Nat)) (hC : B ≤ C) : signed s m (e + (C : Int)).toNat = i * (2 ^ C : Nat) := by
  have := DV.up h0 h (C - B)
  rw [show B + (C - B) = C by omega] at this
  exact this
theorem pow_posI (n : Nat) : (0 : Int) < (2 ^ n : Nat) := by exact_mod_cast Nat.two_pow_pos n

theorem dv_sum {d d' : Datum} {i j : Int} (h : DV d i) (h' : DV d' j) : ∃ p, d.sum d' = some p ∧ DV p (i + j) := by
  obtain ⟨s, m, e, B, rfl, hb, hv⟩ := h
  obtain ⟨t, n, e', B', rfl, hb', hv'⟩ := h'
  refine ⟨_, rfl, ?_⟩
  have h1 := dv_common (C := B + B') hb hv (by omega)
  have h2 := dv_common (C := B + B') hb' hv' (by omega)
  generalize hC : B + B' = C at h1 h2
  have m1 : min e e' ≤ e := Int.min_le_left _ _
  have m2 : min e e' ≤ e' := Int.min_le_right _ _
  have m3 : min e e' = e ∨ min e e' = e' := by omega
  generalize min e e' = b at m1 m2 m3
  have hbC : 0 ≤ b + C := by omega
  refine ⟨_, _, _, C, rfl, hbC, ?_⟩
  generalize hT : signed s m (e - b).toNat + signed t n (e' - b).toNat = T
  have e1 := signed_of T (s && t) (b + C).toNat
  have e2 : (if T = 0 then s && t else decide (T < 0)) = (if T = 0 then s && t else decide (T < 0)) := rfl
  refine e1.trans ?_
  rw [← hT, Int.add_mul, ← signed_add, ← signed_add, show (e - b).toNat + (b + C).toNat = (e + C).toNat by omega, show (e' - b).toNat + (b + C).toNat = (e' + C).toNat by omega, h1, h2, Int.add_mul]
theorem dv_opp {d : Datum} {i : Int} (h : DV d i) : DV d.opposite (-i) := by
  obtain ⟨s, m, e, B, rfl, hb, hv⟩ := h
  exact ⟨!s, m, e, B, rfl, hb, by rw [signed_not, hv, Int.neg_mul]⟩
theorem dv_prod {d d' : Datum} {i j : Int} (h : DV d i) (h' : DV d' j) : ∃ p, d.product d' = some p ∧ DV p (i * j) := by
  obtain ⟨s, m, e, B, rfl, hb, hv⟩ := h
  obtain ⟨t, n, e', B', rfl, hb', hv'⟩ := h'
  refine ⟨_, rfl, _, _, _, B + B', rfl, by omega, ?_⟩
  rw [show (e + e' + ((B + B' : Nat) : Int)).toNat = (e + B).toNat + (e' + B').toNat by omega, signed_xor, hv, hv', Nat.pow_add]
  push_cast
  ac_rfl
theorem dv_abs {s : Bool} {m : Nat} {e i : Int} {B : Nat} (h : signed s m (e + B).toNat = i * (2 ^ B : Nat)) : m * 2 ^ (e + B).toNat = i.natAbs * 2 ^ B := by
  have := congrArg Int.natAbs h
  rw [signed_natAbs, Int.natAbs_mul, Int.natAbs_natCast] at this
  exact this
theorem dv_sign {s : Bool} {m : Nat} {e i : Int} {B : Nat} (h : signed s m (e + B).toNat = i * (2 ^ B : Nat)) (hi : i ≠ 0) : s = decide (i < 0) := by
  have hp := pow_posI B
  unfold signed at h
  cases s
  · rw [if_neg (by decide)] at h
    symm
    rw [decide_eq_false_iff_not]
    intro hn
    have h1 : i * (2 ^ B : Nat) < 0 := Int.mul_neg_of_neg_of_pos hn hp
    have h2 : (0 : Int) ≤ ((m <<< (e + (B : Int)).toNat : Nat) : Int) := Int.natCast_nonneg _
    rw [h] at h2
    omega
  · rw [if_pos rfl] at h
    symm
    rw [decide_eq_true_eq]
    rcases Int.lt_trichotomy i 0 with h1 | h1 | h1
    · exact h1
    · exact absurd h1 hi
    · have h3 : 0 < i * (2 ^ B : Nat) := Int.mul_pos h1 hp
      have h2 : (0 : Int) ≤ ((m <<< (e + (B : Int)).toNat : Nat) : Int) := Int.natCast_nonneg _
      rw [← h] at h3
      omega
theorem dv_quot (digits : Nat) {d d' : Datum} {q j : Int} (h : DV d (q * j)) (h' : DV d' j) (hj : j ≠ 0) (hq : q.natAbs + 1 ≤ 2 ^ (digits - 1)) (hd : 1 ≤ digits) : ∃ p, d.quotient digits d' = some p ∧ DV p q := by
  obtain ⟨s, m, e, B, rfl, hb, hv⟩ := h
  obtain ⟨t, n, e', B', rfl, hb', hv'⟩ := h'
  have h1 := dv_common (C := B + B') hb hv (by omega)
  have h2 := dv_common (C := B + B') hb' hv' (by omega)
  have g1 : 0 ≤ e + (B + B' : Nat) := by omega
  have g2 : 0 ≤ e' + (B + B' : Nat) := by omega
  generalize B + B' = C at h1 h2 g1 g2
  have a1 := dv_abs h1
  have a2 := dv_abs h2
  have hn : n ≠ 0 := by
    intro h0
    rw [h0, Nat.zero_mul] at a2
    have := Nat.mul_pos (Int.natAbs_pos.2 hj) (Nat.two_pow_pos C)
    omega
  unfold Datum.quotient
  simp only []
  rw [if_neg hn]
  refine ⟨_, rfl, ?_⟩
  -- the magnitudes
  have key : m * 2 ^ (e + C).toNat = q.natAbs * n * 2 ^ (e' + C).toNat := by
    rw [a1, Int.natAbs_mul, Nat.mul_assoc, ← a2, Nat.mul_assoc]
  by_cases hm : m = 0
  · subst hm
    have hq0 : q = 0 := by
      have : q.natAbs * n * 2 ^ (e' + C).toNat = 0 := by rw [← key]; simp
      rcases Nat.mul_eq_zero.1 this with h | h
      · rcases Nat.mul_eq_zero.1 h with h | h
        · omega
        · exact absurd h hn
      · exact absurd h (Nat.ne_of_gt (Nat.two_pow_pos _))
    subst hq0
    refine ⟨_, _, _, (e - e' - ((digits + n.log2 - (0 : Nat).log2 : Nat) : Int) - 1).natAbs, rfl, by omega, ?_⟩
    have : (0 : Nat) <<< (digits + n.log2 - (0 : Nat).log2) = 0 := by rw [Nat.shiftLeft_eq, Nat.zero_mul]
    rw [this]
    simp [signed]
  have l1 : 2 ^ m.log2 ≤ m := Nat.log2_self_le hm
  have l2 : n < 2 ^ (n.log2 + 1) := Nat.lt_log2_self
  generalize m.log2 = lm at *
  generalize n.log2 = ln at *
  -- how far the first is ahead
  have hmore : e - e' ≤ ((digits + ln - lm : Nat) : Int) := by
    by_cases hle : e ≤ e'
    · omega
    · have hx : m * 2 ^ (e - e').toNat = q.natAbs * n := by
        have e3 : (e + C).toNat = (e - e').toNat + (e' + C).toNat := by omega
        rw [e3, Nat.pow_add, ← Nat.mul_assoc] at key
        exact Nat.eq_of_mul_eq_mul_right (Nat.two_pow_pos _) key
      have hb1 : 2 ^ lm * 2 ^ (e - e').toNat ≤ m * 2 ^ (e - e').toNat := Nat.mul_le_mul_right _ l1
      have hq1 : q.natAbs * n < 2 ^ (digits - 1) * 2 ^ (ln + 1) := Nat.mul_lt_mul_of_le_of_lt (by omega) l2 (Nat.two_pow_pos _)
      rw [← Nat.pow_add, hx] at hb1
      rw [← Nat.pow_add] at hq1
      have := (Nat.pow_lt_pow_iff_right (a := 2) (by decide)).1 (Nat.lt_of_le_of_lt hb1 hq1)
      omega
  generalize digits + ln - lm = more at hmore
  have hdiv : m <<< more = q.natAbs * 2 ^ (more - (e - e')).toNat * n := by
    rw [Nat.shiftLeft_eq]
    have e3 : (more : Int) + (e' + C) = (more - (e - e')) + (e + C) := by omega
    refine Nat.eq_of_mul_eq_mul_right (Nat.two_pow_pos (e + C).toNat) ?_
    calc m * 2 ^ more * 2 ^ (e + C).toNat = m * 2 ^ (e + C).toNat * 2 ^ more := by ac_rfl
      _ = q.natAbs * n * 2 ^ (e' + C).toNat * 2 ^ more := by rw [key]
      _ = q.natAbs * n * 2 ^ ((e' + C).toNat + more) := by rw [Nat.pow_add]; ac_rfl
      _ = q.natAbs * n * 2 ^ ((more - (e - e')).toNat + (e + C).toNat) := by rw [show (e' + C).toNat + more = (more - (e - e')).toNat + (e + C).toNat by omega]
      _ = q.natAbs * 2 ^ (more - (e - e')).toNat * n * 2 ^ (e + C).toNat := by rw [Nat.pow_add]; ac_rfl
  have hD : m <<< more / n = q.natAbs * 2 ^ (more - (e - e')).toNat := by rw [hdiv, Nat.mul_div_cancel _ (by omega)]
  have hM : m <<< more % n = 0 := by rw [hdiv, Nat.mul_mod_left]
  rw [hD, hM]
  refine ⟨_, _, _, (e - e' - (more : Int) - 1).natAbs, rfl, by omega, ?_⟩
  have hs : q ≠ 0 → (s ^^ t) = decide (q < 0) := by
    intro hq0
    have s1 := dv_sign hv (Int.mul_ne_zero hq0 hj)
    have s2 := dv_sign hv' hj
    rw [s1, s2]
    by_cases c1 : q < 0
    · by_cases c2 : j < 0
      · have : ¬ q * j < 0 := by have := Int.mul_pos_of_neg_of_neg c1 c2; omega
        simp [c1, c2, this]
      · have : q * j < 0 := Int.mul_neg_of_neg_of_pos c1 (by omega)
        simp [c1, c2, this]
    · by_cases c2 : j < 0
      · have : q * j < 0 := Int.mul_neg_of_pos_of_neg (by omega) c2
        simp [c1, c2, this]
      · have : ¬ q * j < 0 := by have := Int.mul_pos (show 0 < q by omega) (show 0 < j by omega); omega
        simp [c1, c2, this]
  have hz : 2 * (q.natAbs * 2 ^ (more - (e - e')).toNat) + ((0 : Nat) != 0).toNat = q.natAbs * 2 ^ ((more - (e - e')).toNat + 1) := by
    rw [Nat.pow_succ]
    show 2 * _ + 0 = _
    rw [Nat.add_zero]
    ac_rfl
  rw [hz]
  have hu : (more - (e - e')).toNat + 1 = (e - e' - (more : Int) - 1).natAbs := by omega
  rw [hu]
  generalize (e - e' - (more : Int) - 1).natAbs = Bq at hu
  have e0 : (e - e' - (more : Int) - 1 + (Bq : Int)).toNat = 0 := by omega
  rw [e0]
  unfold signed
  rw [Nat.shiftLeft_eq, Nat.pow_zero, Nat.mul_one]
  by_cases hq0 : q = 0
  · subst hq0; simp
  · rw [hs hq0]
    by_cases c1 : q < 0
    · rw [decide_eq_true c1, if_pos rfl]
      push_cast
      rw [← Int.neg_mul]
      congr 1; omega
    · rw [decide_eq_false c1, if_neg (by decide)]
      push_cast
      congr 1; omega

/-- the float's value is an integer -/
def FV (k : FloatKind) (x : Nat) (i : Int) : Prop := x < 2 ^ k.format.width ∧ ∃ (s : Bool) (r : Nat), r < k.format.infRung ∧ x = k.format.word s r ∧ un k.format r = i.natAbs * 2 ^ (-k.format.leastPlace).toNat ∧ (i ≠ 0 → s = decide (i < 0))
theorem lp_le (k : FloatKind) : k.format.leastPlace ≤ 0 := by cases k <;> decide
theorem dv_of_fv {k : FloatKind} {x : Nat} {i : Int} (h : FV k x i) : DV (k.decode x) i := by
  obtain ⟨_, s, r, hr, rfl, hu, hs⟩ := h
  have hl := lp_le k
  refine ⟨s, _, _, (-k.format.leastPlace).toNat, read_word k.format s r hr, by omega, ?_⟩
  rw [show (k.format.leastPlace + (exq k.format r : Nat) + ((-k.format.leastPlace).toNat : Int)).toNat = exq k.format r by omega]
  unfold signed
  rw [Nat.shiftLeft_eq]
  have hu' : sig k.format r * 2 ^ exq k.format r = i.natAbs * 2 ^ (-k.format.leastPlace).toNat := hu
  rw [hu']
  by_cases h0 : i = 0
  · subst h0; simp
  · rw [hs h0]
    by_cases c : i < 0
    · rw [decide_eq_true c, if_pos rfl]
      push_cast
      rw [← Int.neg_mul]
      congr 1; omega
    · rw [decide_eq_false c, if_neg (by decide)]
      push_cast
      congr 1; omega
theorem fv_of_dv (k : FloatKind) {d : Datum} {i : Int} (h : DV d i) (hi : i.natAbs < 2 * k.format.binade) : FV k (k.encode d) i := by
  obtain ⟨s, m, e, B, rfl, hb, hv⟩ := h
  have hl := lp_le k
  have ha := dv_abs hv
  obtain ⟨r, hr⟩ := exists_rung k.format (-k.format.leastPlace).toNat i.natAbs hi
  have hinf : r < k.format.infRung := by
    have hle : un k.format r ≤ 2 ^ (k.format.fractionBits + 1 + (-k.format.leastPlace).toNat) := by
      rw [hr, Nat.pow_add]
      refine Nat.mul_le_mul_right _ (Nat.le_of_lt ?_)
      rw [Nat.pow_succ, Nat.mul_comm]
      exact hi
    refine rung_lt_inf k.format ?_ r _ hle ?_
    · cases k <;> decide
    · cases k <;> decide
  have hn : k.encode (.number s m e) = k.format.word s r := by
    refine nearest_exact k.format s m e r hinf (x := (e + B).toNat + (-k.format.leastPlace).toNat) (y := B) (by omega) ?_
    rw [Nat.pow_add, ← Nat.mul_assoc, ha, hr]
    ac_rfl
  rw [hn]
  refine ⟨?_, s, r, hinf, rfl, hr, dv_sign hv⟩
  have h1 := Nat.lt_trans hinf (infRung_lt k.format)
  have h2 : k.format.width = k.format.exponentBits + k.format.fractionBits + 1 := by unfold Format.width; omega
  rw [h2, Nat.pow_succ]
  unfold Format.word Format.signWeight at *
  cases s
  · rw [if_neg (by decide)]; omega
  · rw [if_pos rfl]; omega
theorem fv_number {k : FloatKind} {x : Nat} {i : Int} (h : FV k x i) : (k.decode x).isNaN = false := by
  obtain ⟨s, m, e, B, hd, _⟩ := dv_of_fv h
  rw [hd]; rfl
theorem FV.fv {k : FloatKind} {x : Nat} {i : Int} (h : FV k x i) : fv k x = some x := fv_some.2 ⟨fv_number h, rfl⟩
theorem FV.fnt {x : Nat} {i : Int} (h : FV .f64 x i) : Fnt x := by
  obtain ⟨s, m, e, B, hd, _⟩ := dv_of_fv h
  exact ⟨s, m, e, hd⟩
theorem FV.nz {x : Nat} {i : Int} (h : FV .f64 x i) (hi : i ≠ 0) : NZ x := by
  obtain ⟨s, m, e, B, hd, hb, hv⟩ := dv_of_fv h
  refine ⟨s, m, e, hd, fun h0 => hi ?_⟩
  have := dv_abs hv
  rw [h0, Nat.zero_mul] at this
  rcases Nat.mul_eq_zero.1 this.symm with h | h
  · omega
  · exact absurd h (Nat.ne_of_gt (Nat.two_pow_pos _))
theorem FV.lt64 {x : Nat} {i : Int} (h : FV .f64 x i) : x < 18446744073709551616 := h.1
theorem FV.lt32 {x : Nat} {i : Int} (h : FV .f32 x i) : x < 4294967296 := h.1

theorem fv_add {k : FloatKind} {x y : Nat} {i j : Int} (hx : FV k x i) (hy : FV k y j) (hl : (i + j).natAbs < 2 * k.format.binade) : ∃ z, floatBits .add k x y = some z ∧ FV k z (i + j) := by
  obtain ⟨p, hp, hd⟩ := dv_sum (dv_of_fv hx) (dv_of_fv hy)
  refine ⟨k.encode p, ?_, fv_of_dv k hd hl⟩
  show ((k.format.read x).sum (k.format.read y)).map k.format.write = _
  rw [show k.format.read x = k.decode x from rfl, show k.format.read y = k.decode y from rfl, hp]; rfl
theorem fv_sub {k : FloatKind} {x y : Nat} {i j : Int} (hx : FV k x i) (hy : FV k y j) (hl : (i - j).natAbs < 2 * k.format.binade) : ∃ z, floatBits .sub k x y = some z ∧ FV k z (i - j) := by
  obtain ⟨p, hp, hd⟩ := dv_sum (dv_of_fv hx) (dv_opp (dv_of_fv hy))
  refine ⟨k.encode p, ?_, fv_of_dv k (by rw [Int.sub_eq_add_neg]; exact hd) hl⟩
  show ((k.format.read x).sum (k.format.read y).opposite).map k.format.write = _
  rw [show k.format.read x = k.decode x from rfl, show k.format.read y = k.decode y from rfl, hp]; rfl
theorem fv_mul {k : FloatKind} {x y : Nat} {i j : Int} (hx : FV k x i) (hy : FV k y j) (hl : (i * j).natAbs < 2 * k.format.binade) : ∃ z, floatBits .mul k x y = some z ∧ FV k z (i * j) := by
  obtain ⟨p, hp, hd⟩ := dv_prod (dv_of_fv hx) (dv_of_fv hy)
  refine ⟨k.encode p, ?_, fv_of_dv k hd hl⟩
  show ((k.format.read x).product (k.format.read y)).map k.format.write = _
  rw [show k.format.read x = k.decode x from rfl, show k.format.read y = k.decode y from rfl, hp]; rfl
theorem fv_quo {k : FloatKind} {x y : Nat} {q j : Int} (hx : FV k x (q * j)) (hy : FV k y j) (hj : j ≠ 0) (hl : q.natAbs < 2 * k.format.binade) : ∃ z, floatBits .quo k x y = some z ∧ FV k z q := by
  obtain ⟨p, hp, hd⟩ := dv_quot (k.format.fractionBits + 2) (dv_of_fv hx) (dv_of_fv hy) hj (by
    rw [show k.format.fractionBits + 2 - 1 = k.format.fractionBits + 1 by omega, Nat.pow_succ, Nat.mul_comm]
    exact hl) (by omega)
  refine ⟨k.encode p, ?_, fv_of_dv k hd hl⟩
  show ((k.format.read x).quotient (k.format.fractionBits + 2) (k.format.read y)).map k.format.write = _
  rw [show k.format.read x = k.decode x from rfl, show k.format.read y = k.decode y from rfl, hp]; rfl
theorem fv_conv {k d : FloatKind} {x : Nat} {i : Int} (hkd : k ≠ d) (hx : FV k x i) (hl : i.natAbs < 2 * d.format.binade) : ∃ z, floatToFloatBits k x d = some z ∧ FV d z i := by
  have h1 := fv_of_dv d (dv_of_fv hx) hl
  refine ⟨_, ?_, h1⟩
  obtain ⟨s, m, e, B, hd, _⟩ := dv_of_fv hx
  unfold floatToFloatBits
  rw [if_neg hkd]
  rw [hd] at h1 ⊢
  obtain ⟨s', m', e', B', hd', _⟩ := dv_of_fv h1
  simp only []
  rw [hd']
  rfl
theorem fv_int (k : FloatKind) (n : Int) (hl : n.natAbs < 2 * k.format.binade) : FV k (floatOfInt k n) n := by
  have : DV (.number (decide (n < 0)) n.natAbs 0) n := by
    refine ⟨_, _, _, 0, rfl, by omega, ?_⟩
    unfold signed
    by_cases c : n < 0
    · rw [decide_eq_true c, if_pos rfl, Nat.shiftLeft_eq]
      push_cast
      simp; omega
    · rw [decide_eq_false c, if_neg (by decide), Nat.shiftLeft_eq]
      push_cast
      simp; omega
  exact fv_of_dv k this hl
theorem xor_top (n r : Nat) (h : r < 2 ^ n) : r ^^^ 2 ^ n = 2 ^ n + r ∧ (2 ^ n + r) ^^^ 2 ^ n = r := by
  have key : ∀ x, x ^^^ 2 ^ n = (x / 2 ^ n ^^^ 1) * 2 ^ n + x % 2 ^ n := fun x => by
    have h1 : (x ^^^ 2 ^ n) % 2 ^ n = x % 2 ^ n ^^^ 2 ^ n % 2 ^ n := Nat.xor_mod_two_pow
    rw [Nat.mod_self, Nat.xor_zero] at h1
    have h2 : (x ^^^ 2 ^ n) / 2 ^ n = x / 2 ^ n ^^^ 2 ^ n / 2 ^ n := Nat.xor_div_two_pow
    rw [Nat.div_self (Nat.two_pow_pos n)] at h2
    have := Nat.div_add_mod (x ^^^ 2 ^ n) (2 ^ n)
    rw [h1, h2, Nat.mul_comm] at this
    exact this.symm
  constructor
  · rw [key, Nat.div_eq_of_lt h, Nat.mod_eq_of_lt h]; simp
  · have e1 : (2 ^ n + r) / 2 ^ n = 1 := by
      rw [Nat.add_div_left _ (Nat.two_pow_pos n), Nat.div_eq_of_lt h]
    have e2 : (2 ^ n + r) % 2 ^ n = r := by rw [Nat.add_mod_left, Nat.mod_eq_of_lt h]
    rw [key, e1, e2]; simp
theorem neg_word (k : FloatKind) (s : Bool) {r : Nat} (h : r < k.format.signWeight) : Op.negFloat k (k.format.word s r) = k.format.word (!s) r := by
  obtain ⟨h1, h2⟩ := xor_top (k.format.exponentBits + k.format.fractionBits) r h
  cases s
  · exact h1
  · exact h2
theorem fv_neg {k : FloatKind} {x : Nat} {i : Int} (h : FV k x i) : FV k (Op.negFloat k x) (-i) := by
  obtain ⟨hx, s, r, hr, rfl, hu, hs⟩ := h
  have h1 := Nat.lt_trans hr (infRung_lt k.format)
  rw [neg_word k s h1]
  refine ⟨?_, !s, r, hr, rfl, by rw [Int.natAbs_neg]; exact hu, fun h0 => ?_⟩
  · have h2 : k.format.width = k.format.exponentBits + k.format.fractionBits + 1 := by unfold Format.width; omega
    rw [h2, Nat.pow_succ]
    unfold Format.word Format.signWeight at *
    cases s
    · simp; omega
    · simp; omega
  · rw [hs (by omega)]
    by_cases c : i < 0
    · rw [decide_eq_true c, decide_eq_false (by omega)]; rfl
    · rw [decide_eq_false c, decide_eq_true (by omega)]; rfl
theorem neg_negF (k : FloatKind) (x : Nat) : Op.negFloat k (Op.negFloat k x) = x := by
  unfold Op.negFloat
  rw [Nat.xor_assoc, Nat.xor_self, Nat.xor_zero]
theorem compare_int_eq (a b : Int) : (compare a b == .eq) = decide (a = b) := by
  simp only [compare, compareOfLessAndEq]
  by_cases h : a < b
  · have : ¬ a = b := by omega
    simp [h, this]
  · by_cases h2 : a = b
    · simp [h2]
    · simp [h, h2]
theorem fv_eq {k : FloatKind} {x y : Nat} {i j : Int} (hx : FV k x i) (hy : FV k y j) : (k.format.order x y == some .eq) = decide (i = j) := by
  obtain ⟨s, m, e, B, hd, hb, hv⟩ := dv_of_fv hx
  obtain ⟨t, n, e', B', hd', hb', hv'⟩ := dv_of_fv hy
  have h1 := dv_common (C := B + B') hb hv (by omega)
  have h2 := dv_common (C := B + B') hb' hv' (by omega)
  have g1 : 0 ≤ e + (B + B' : Nat) := by omega
  have g2 : 0 ≤ e' + (B + B' : Nat) := by omega
  generalize B + B' = C at h1 h2 g1 g2
  show ((k.decode x).order (k.decode y) == some .eq) = _
  rw [hd, hd']
  show (some (compare (signed s m (e - min e e').toNat) (signed t n (e' - min e e').toNat)) == some .eq) = _
  have m1 : min e e' ≤ e := Int.min_le_left _ _
  have m2 : min e e' ≤ e' := Int.min_le_right _ _
  have m3 : min e e' = e ∨ min e e' = e' := by omega
  generalize min e e' = b at m1 m2 m3
  have hbC : 0 ≤ b + C := by omega
  have e1 := signed_add s m (e - b).toNat (b + C).toNat
  have e2 := signed_add t n (e' - b).toNat (b + C).toNat
  rw [show (e - b).toNat + (b + C).toNat = (e + C).toNat by omega, h1] at e1
  rw [show (e' - b).toNat + (b + C).toNat = (e' + C).toNat by omega, h2] at e2
  show (compare (signed s m (e - b).toNat) (signed t n (e' - b).toNat) == .eq) = _
  rw [compare_int_eq]
  generalize signed s m (e - b).toNat = u at e1
  generalize signed t n (e' - b).toNat = v at e2
  have p1 := pow_posI (b + C).toNat
  have p2 := pow_posI C
  congr 1
  refine propext ⟨fun h => ?_, fun h => ?_⟩
  · rw [h, ← e2] at e1
    exact Int.eq_of_mul_eq_mul_right (by omega) e1
  · rw [h, e2] at e1
    exact (Int.eq_of_mul_eq_mul_right (by omega) e1).symm
theorem fv_uniq {k : FloatKind} {x y : Nat} {i : Int} (hx : FV k x i) (hy : FV k y i) (hi : i ≠ 0) : x = y := by
  obtain ⟨_, s, r, _, rfl, hu, hs⟩ := hx
  obtain ⟨_, t, q, _, rfl, hu', hs'⟩ := hy
  rw [hs hi, hs' hi, un_inj k.format (hu.trans hu'.symm)]

end Go.Proofs.Ytiabbafmjgiobaa.Fl
