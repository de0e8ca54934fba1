/-
Floats between bounds, continued: quotients, comparisons, whole parts, narrowing.
-/
import Derived.Test.YtiabbafmjgiobaaIn
import Derived.Test.YtiabbafmjgiobaaLg
set_option linter.unusedVariables false
set_option linter.unusedSimpArgs false
namespace Go.Proofs.Ytiabbafmjgiobaa.Fl
open Go Ieee

theorem in_lt {x y : Nat} {a b c d : Int} (hx : In x a b) (hy : In y c d) (h : b < c) : FloatKind.f64.format.order x y = some .lt := by
  obtain ⟨_, s, m, e, B, hd, hb, g1, g2⟩ := hx
  obtain ⟨_, t, n, e', B', hd', hb', g1', g2'⟩ := hy
  obtain ⟨k1, k2⟩ := ri_up (C := B + B') hb g1 g2 (by omega)
  obtain ⟨k3, k4⟩ := ri_up (C := B + B') hb' g1' g2' (by omega)
  generalize hC : B + B' = C at k1 k2 k3 k4
  show (FloatKind.f64.decode x).order (FloatKind.f64.decode y) = _
  rw [hd, hd']
  have m1 : min e e' ≤ e := Int.min_le_left _ _
  have m2 : min e e' ≤ e' := Int.min_le_right _ _
  have m3 : min e e' = e ∨ min e e' = e' := by omega
  show some (compare (signed s m (e - min e e').toNat) (signed t n (e' - min e e').toNat)) = _
  generalize min e e' = b0 at m1 m2 m3
  have e1 := signed_add s m (e - b0).toNat (b0 + C).toNat
  have e2 := signed_add t n (e' - b0).toNat (b0 + C).toNat
  rw [show (e - b0).toNat + (b0 + C).toNat = (e + C).toNat by omega] at e1
  rw [show (e' - b0).toNat + (b0 + C).toNat = (e' + C).toNat by omega] at e2
  rw [e1] at k2
  rw [e2] at k3
  have pC := pow_posI C
  have pb := pow_posI (b0 + C).toNat
  have pg := pow_posI 40
  have hbc : b * ((2 ^ C : Nat) : Int) < c * ((2 ^ C : Nat) : Int) := Int.mul_lt_mul_of_pos_right h pC
  generalize signed s m (e - b0).toNat = u at *
  generalize signed t n (e' - b0).toNat = v at *
  have hlt : u < v := by
    have h1 := Int.lt_of_le_of_lt k2 (Int.lt_of_lt_of_le hbc k3)
    exact Int.lt_of_mul_lt_mul_right (Int.lt_of_mul_lt_mul_right h1 (Int.le_of_lt pg)) (Int.le_of_lt pb)
  simp only [compare, compareOfLessAndEq]
  rw [if_pos hlt]

theorem cut_gap (n D : Nat) : (min D (n.log2 + 2) = D) ∨ (n < 2 ^ D ∧ n < 2 ^ (min D (n.log2 + 2)) ) := by
  by_cases h : D ≤ n.log2 + 2
  · exact .inl (by omega)
  · refine .inr ?_
    have h1 : n < 2 ^ (n.log2 + 1) := Nat.lt_log2_self
    have e : min D (n.log2 + 2) = n.log2 + 2 := by omega
    rw [e]
    exact ⟨Nat.lt_of_lt_of_le h1 (Nat.pow_le_pow_right (by decide) (by omega)), Nat.lt_of_lt_of_le h1 (Nat.pow_le_pow_right (by decide) (by omega))⟩
theorem cut_zeroI (neg : Bool) (n D : Nat) : Toward.zero.cut neg n D = n / 2 ^ D := by
  unfold Toward.cut
  simp only [Nat.shiftLeft_eq, Nat.one_mul]
  rcases cut_gap n D with h | ⟨h1, h2⟩
  · rw [h]; simp
  · rw [Nat.div_eq_of_lt h1, Nat.div_eq_of_lt h2]; simp
theorem cut_down_pos (n D : Nat) : Toward.down.cut false n D = n / 2 ^ D := by
  unfold Toward.cut
  simp only [Nat.shiftLeft_eq, Nat.one_mul]
  rcases cut_gap n D with h | ⟨h1, h2⟩
  · rw [h]; simp
  · rw [Nat.div_eq_of_lt h1, Nat.div_eq_of_lt h2]; simp
theorem cut_down_neg (n D : Nat) : n ≤ Toward.down.cut true n D * 2 ^ D ∧ (Toward.down.cut true n D = 0 ∨ (Toward.down.cut true n D - 1) * 2 ^ D < n) := by
  unfold Toward.cut
  simp only [Nat.shiftLeft_eq, Nat.one_mul, Bool.true_and]
  have pD := Nat.two_pow_pos D
  rcases cut_gap n D with h | ⟨h1, h2⟩
  · rw [h]
    have hd := Nat.div_add_mod n (2 ^ D)
    have hm := Nat.mod_lt n pD
    rw [Nat.mul_comm] at hd
    by_cases hr : n % 2 ^ D = 0
    · have e : (n % 2 ^ D != 0) = false := by rw [hr]; rfl
      rw [e]
      simp only [Bool.toNat_false, Nat.add_zero]
      refine ⟨by omega, ?_⟩
      rcases Nat.eq_zero_or_pos (n / 2 ^ D) with h0 | h0
      · exact .inl h0
      · refine .inr ?_
        have : (n / 2 ^ D - 1) * 2 ^ D + 2 ^ D = n / 2 ^ D * 2 ^ D := by rw [← Nat.succ_mul]; congr 1; omega
        omega
    · have e : (n % 2 ^ D != 0) = true := by rw [bne_iff_ne]; exact hr
      rw [e]
      simp only [Bool.toNat_true]
      refine ⟨by rw [Nat.add_mul]; omega, .inr ?_⟩
      rw [Nat.add_sub_cancel]
      omega
  · rw [Nat.div_eq_of_lt h2, Nat.mod_eq_of_lt h2]
    by_cases hn : n = 0
    · subst hn; simp
    · have e : (n != 0) = true := by rw [bne_iff_ne]; exact hn
      rw [e]
      simp only [Bool.toNat_true]
      exact ⟨by omega, .inr (by omega)⟩
theorem toInt_dv {d : Datum} {i : Int} (h : DV d i) : d.toInt .zero = some i := by
  obtain ⟨s, m, e, B, rfl, hb, hv⟩ := h
  show some (signed s (Toward.zero.cut s (m <<< e.toNat) (-e).toNat) 0) = some i
  congr 1
  rw [cut_zeroI, Nat.shiftLeft_eq]
  have pB := pow_posI B
  have ha := dv_abs hv
  have hN : m * 2 ^ e.toNat / 2 ^ (-e).toNat = i.natAbs := by
    rcases Int.lt_or_le e 0 with he | he
    · rw [show e.toNat = 0 by omega, Nat.pow_zero, Nat.mul_one]
      have : m = i.natAbs * 2 ^ (-e).toNat := by
        refine Nat.eq_of_mul_eq_mul_right (Nat.two_pow_pos (e + B).toNat) ?_
        rw [ha, Nat.mul_assoc, ← Nat.pow_add]
        congr 2; omega
      rw [this, Nat.mul_div_cancel _ (Nat.two_pow_pos _)]
    · rw [show (-e).toNat = 0 by omega, Nat.pow_zero, Nat.div_one]
      refine Nat.eq_of_mul_eq_mul_right (Nat.two_pow_pos B) ?_
      rw [← ha, Nat.mul_assoc, ← Nat.pow_add]
      congr 2; omega
  rw [hN]
  by_cases h0 : i = 0
  · subst h0; simp [signed]
  · have hs := dv_sign hv h0
    rw [hs]
    unfold signed
    rw [Nat.shiftLeft_eq, Nat.pow_zero, Nat.mul_one]
    by_cases c : i < 0
    · rw [decide_eq_true c, if_pos rfl]; omega
    · rw [decide_eq_false c, if_neg (by decide)]; omega
/-- the whole part of a double between bounds -/
theorem in_floor {x : Nat} {a b : Int} (hx : In x a b) (ha : a.natAbs < 1152921504606846976) (hb : b.natAbs < 1152921504606846976) : ∃ t : Int, floatToIntVal .f64 (floorN x) .i64 = some t ∧ a < (t + 1) * 1099511627776 ∧ t * 1099511627776 ≤ b := by
  obtain ⟨_, s, m, e, B, hd, hB, g1, g2⟩ := hx
  have pB := pow_posI B
  -- the whole part's value
  have key : ∃ N : Nat, (FloatKind.f64.decode x).integral .down = .number s N 0 ∧ signed s N 0 * (2 ^ B : Nat) ≤ signed s m (e + B).toNat ∧ signed s m (e + B).toNat < (signed s N 0 + 1) * (2 ^ B : Nat) := by
    rw [hd]
    refine ⟨_, rfl, ?_⟩
    have hsx : ∀ N : Nat, signed true N 0 = -(N : Int) ∧ signed false N 0 = (N : Int) := fun N => by
      unfold signed; rw [Nat.shiftLeft_eq, Nat.pow_zero, Nat.mul_one]; exact ⟨by rw [if_pos rfl], by rw [if_neg (by decide)]⟩
    have hsm : ∀ u : Nat, signed true m u = -((m * 2 ^ u : Nat) : Int) ∧ signed false m u = ((m * 2 ^ u : Nat) : Int) := fun u => by
      unfold signed; rw [Nat.shiftLeft_eq]; exact ⟨by rw [if_pos rfl], by rw [if_neg (by decide)]⟩
    have hM : m * 2 ^ e.toNat * 2 ^ B = m * 2 ^ (e + B).toNat * 2 ^ (-e).toNat := by
      rw [Nat.mul_assoc, Nat.mul_assoc, ← Nat.pow_add, ← Nat.pow_add]; congr 2; omega
    have pD := Nat.two_pow_pos (-e).toNat
    have pB' := Nat.two_pow_pos B
    cases s
    · rw [(hsx _).2, (hsm _).2, cut_down_pos, Nat.shiftLeft_eq]
      generalize hn : m * 2 ^ e.toNat = n at hM
      have h1 := Nat.div_mul_le_self n (2 ^ (-e).toNat)
      have h2 : n < (n / 2 ^ (-e).toNat + 1) * 2 ^ (-e).toNat := by
        have := Nat.lt_mul_div_succ n pD
        rw [Nat.mul_comm]; exact this
      generalize n / 2 ^ (-e).toNat = N at h1 h2 ⊢
      have q1 : N * 2 ^ B ≤ m * 2 ^ (e + B).toNat := by
        refine Nat.le_of_mul_le_mul_right ?_ pD
        rw [← hM]
        calc N * 2 ^ B * 2 ^ (-e).toNat = N * 2 ^ (-e).toNat * 2 ^ B := by ac_rfl
          _ ≤ n * 2 ^ B := Nat.mul_le_mul_right _ h1
      have q2 : m * 2 ^ (e + B).toNat < (N + 1) * 2 ^ B := by
        refine Nat.lt_of_mul_lt_mul_right (a := 2 ^ (-e).toNat) ?_
        rw [← hM]
        calc n * 2 ^ B < (N + 1) * 2 ^ (-e).toNat * 2 ^ B := Nat.mul_lt_mul_of_pos_right h2 pB'
          _ = (N + 1) * 2 ^ B * 2 ^ (-e).toNat := by ac_rfl
      exact ⟨by exact_mod_cast q1, by exact_mod_cast q2⟩
    · rw [(hsx _).1, (hsm _).1, Nat.shiftLeft_eq]
      generalize hn : m * 2 ^ e.toNat = n at hM
      obtain ⟨h1, h2⟩ := cut_down_neg n (-e).toNat
      generalize Toward.down.cut true n (-e).toNat = N at h1 h2 ⊢
      have q1 : m * 2 ^ (e + B).toNat ≤ N * 2 ^ B := by
        refine Nat.le_of_mul_le_mul_right ?_ pD
        rw [← hM]
        calc n * 2 ^ B ≤ N * 2 ^ (-e).toNat * 2 ^ B := Nat.mul_le_mul_right _ h1
          _ = N * 2 ^ B * 2 ^ (-e).toNat := by ac_rfl
      have q1' : ((m * 2 ^ (e + B).toNat : Nat) : Int) ≤ (N : Int) * ((2 ^ B : Nat) : Int) := by exact_mod_cast q1
      refine ⟨by rw [Int.neg_mul]; omega, ?_⟩
      rcases h2 with h2 | h2
      · have h0 : (0 : Int) ≤ ((m * 2 ^ (e + B).toNat : Nat) : Int) := Int.natCast_nonneg _
        rw [h2]
        have e0 : (-((0 : Nat) : Int) + 1) * ((2 ^ B : Nat) : Int) = ((2 ^ B : Nat) : Int) := by simp
        rw [e0]; omega
      · have hN1 : 1 ≤ N := by
          rcases Nat.eq_zero_or_pos N with h0 | h0
          · subst h0
            have : n = 0 := by omega
            subst this
            simp at h2
          · exact h0
        have q2 : (N - 1) * 2 ^ B < m * 2 ^ (e + B).toNat := by
          refine Nat.lt_of_mul_lt_mul_right (a := 2 ^ (-e).toNat) ?_
          rw [← hM]
          calc (N - 1) * 2 ^ B * 2 ^ (-e).toNat = (N - 1) * 2 ^ (-e).toNat * 2 ^ B := by ac_rfl
            _ < n * 2 ^ B := Nat.mul_lt_mul_of_pos_right h2 pB'
        have q2' : (((N - 1 : Nat)) : Int) * ((2 ^ B : Nat) : Int) < ((m * 2 ^ (e + B).toNat : Nat) : Int) := by exact_mod_cast q2
        have e1 : (-(N : Int) + 1) = -((N - 1 : Nat) : Int) := by omega
        rw [e1, Int.neg_mul]; omega
  obtain ⟨N, hN, k1, k2⟩ := key
  generalize signed s m (e + B).toNat = V at *
  have hi : ∀ i, signed s N 0 = i → i * 1099511627776 ≤ b ∧ a < (i + 1) * 1099511627776 := by
    intro i hi
    rw [hi] at k1 k2
    have pG : (0 : Int) < 1099511627776 := by decide
    have eG : ((2 ^ 40 : Nat) : Int) = 1099511627776 := rfl
    rw [eG] at g1 g2
    constructor
    · refine Int.le_of_mul_le_mul_right ?_ pB
      calc i * 1099511627776 * ((2 ^ B : Nat) : Int) = i * ((2 ^ B : Nat) : Int) * 1099511627776 := by ac_rfl
        _ ≤ V * 1099511627776 := Int.mul_le_mul_of_nonneg_right k1 (Int.le_of_lt pG)
        _ ≤ b * ((2 ^ B : Nat) : Int) := g2
    · refine Int.lt_of_mul_lt_mul_right ?_ (Int.le_of_lt pB)
      calc a * ((2 ^ B : Nat) : Int) ≤ V * 1099511627776 := g1
        _ < (i + 1) * ((2 ^ B : Nat) : Int) * 1099511627776 := Int.mul_lt_mul_of_pos_right k2 pG
        _ = (i + 1) * 1099511627776 * ((2 ^ B : Nat) : Int) := by ac_rfl
  obtain ⟨h1, h2⟩ := hi _ rfl
  generalize hgi : signed s N 0 = i at h1 h2
  have hib : i.natAbs < 2097152 := by omega
  have hdv : DV (.number s N 0) i := ⟨s, N, 0, 0, rfl, by omega, by simpa using hgi⟩
  have hf : FV .f64 (floorN x) i := by
    unfold floorN
    rw [hN]
    exact fv_of_dv .f64 hdv (Nat.lt_of_lt_of_le hib (by decide))
  refine ⟨i, ?_, h2, h1⟩
  unfold floatToIntVal
  rw [toInt_dv (dv_of_fv hf)]
  have e1 : IntKind.i64.min = -9223372036854775808 := rfl
  have e2 : IntKind.i64.max = 9223372036854775807 := rfl
  simp only [e1, e2]
  rw [if_pos (by omega)]

theorem read_lt {x : Nat} {s : Bool} {m : Nat} {e : Int} (h : double.read x = .number s m e) : m < 9007199254740992 := by
  unfold Format.read at h
  dsimp only at h
  have eb : double.binade = 4503599627370496 := rfl
  split at h
  · injection h with h1 h2 h3
    omega
  · split at h
    · injection h with h1 h2 h3
      have := Nat.mod_lt (x % double.signWeight) (show 0 < double.binade by decide)
      omega
    · split at h <;> cases h
/-- the quotient's digits, between bounds -/
theorem quot_mag {m n more z L H : Nat} (hn : 0 < n) (h1 : L * 2 ^ z * n ≤ m * 2 ^ more) (h2 : m * 2 ^ more ≤ H * 2 ^ z * n) :
    L * 2 ^ (z + 1) ≤ 2 * (m * 2 ^ more / n) + (m * 2 ^ more % n != 0).toNat ∧ 2 * (m * 2 ^ more / n) + (m * 2 ^ more % n != 0).toNat ≤ H * 2 ^ (z + 1) := by
  generalize m * 2 ^ more = D at *
  have e1 : L * 2 ^ (z + 1) = 2 * (L * 2 ^ z) := by rw [Nat.pow_succ]; ac_rfl
  have e2 : H * 2 ^ (z + 1) = 2 * (H * 2 ^ z) := by rw [Nat.pow_succ]; ac_rfl
  rw [e1, e2]
  generalize L * 2 ^ z = P at *
  generalize H * 2 ^ z = Q at *
  have q1 : P ≤ D / n := (Nat.le_div_iff_mul_le hn).2 h1
  have q2 : D / n ≤ Q := by
    have := Nat.div_le_div_right (c := n) h2
    rw [Nat.mul_div_cancel _ hn] at this
    exact this
  have hd := Nat.div_add_mod D n
  have hb : (D % n != 0).toNat ≤ 1 := by cases (D % n != 0) <;> simp
  refine ⟨by omega, ?_⟩
  rcases Nat.lt_or_eq_of_le q2 with h | h
  · omega
  · have : D % n = 0 := by
      rw [h, Nat.mul_comm] at hd
      omega
    have e3 : (D % n != 0) = false := by rw [this]; rfl
    rw [e3, h]
    simp
theorem in_div {x y : Nat} {a b c d L H : Int} (hx : In x a b) (hy : In y c d) (hc : 0 < c) (l1 : L * c ≤ a * 1099511627776) (l2 : L * d ≤ a * 1099511627776) (u1 : b * 1099511627776 ≤ H * c) (u2 : b * 1099511627776 ≤ H * d)
    (hL : -1099511627776 ≤ L) (hH : H ≤ 1099511627776) (hL2 : L ≤ 1099511627776) (hH2 : -1099511627776 ≤ H) : In (fdiv x y) L H := by
  obtain ⟨hx64, s, m, i, B0, hd, hb, g1, g2⟩ := hx
  obtain ⟨hy64, t, n, j, B1, hd', hb', g1', g2'⟩ := hy
  have hm := read_lt hd
  obtain ⟨k1, k2⟩ := ri_up (C := B0 + B1) hb g1 g2 (by omega)
  obtain ⟨k3, k4⟩ := ri_up (C := B0 + B1) hb' g1' g2' (by omega)
  have hbi : 0 ≤ i + (B0 + B1 : Nat) := by omega
  have hbj : 0 ≤ j + (B0 + B1 : Nat) := by omega
  generalize B0 + B1 = B at k1 k2 k3 k4 hbi hbj
  clear g1 g2 g1' g2' hb hb'
  have pB := pow_posI B
  have pG : (0 : Int) < 1099511627776 := by decide
  have eG : ((2 ^ 40 : Nat) : Int) = 1099511627776 := rfl
  rw [eG] at k1 k2 k3 k4
  -- the divisor is positive
  have hYpos : 0 < signed t n (j + B).toNat := by
    have h1 : 0 < c * ((2 ^ B : Nat) : Int) := Int.mul_pos hc pB
    rcases Int.lt_or_le 0 (signed t n (j + B).toNat) with h | h
    · exact h
    · have := Int.mul_le_mul_of_nonneg_right h (Int.le_of_lt pG)
      omega
  have ht : t = false := by
    cases t
    · rfl
    · exfalso
      unfold signed at hYpos
      rw [if_pos rfl] at hYpos
      have : (0 : Int) ≤ ((n <<< (j + (B : Int)).toNat : Nat) : Int) := Int.natCast_nonneg _
      omega
  subst ht
  have hY : signed false n (j + B).toNat = ((n * 2 ^ (j + B).toNat : Nat) : Int) := by unfold signed; rw [if_neg (by decide), Nat.shiftLeft_eq]
  rw [hY] at hYpos k3 k4
  have hn : 0 < n := by
    rcases Nat.eq_zero_or_pos n with h | h
    · subst h; simp at hYpos
    · exact h
  -- L and H bound the quotient
  generalize hYY : n * 2 ^ (j + B).toNat = Y at *
  generalize hXX : signed s m (i + B).toNat = X at *
  have mono : ∀ {u p q z M : Int}, p ≤ z → z ≤ q → u * p ≤ M → u * q ≤ M → u * z ≤ M := by
    intro u p q z M h1 h2 h3 h4
    by_cases hu : 0 ≤ u
    · exact Int.le_trans (Int.mul_le_mul_of_nonneg_left h2 hu) h4
    · exact Int.le_trans (Int.mul_le_mul_of_nonpos_left (by omega) h1) h3
  have bL : L * (Y : Int) ≤ X * 1099511627776 := by
    refine Int.le_of_mul_le_mul_right ?_ pG
    have := mono (u := L) k3 k4 (M := a * 1099511627776 * ((2 ^ B : Nat) : Int)) (by
      calc L * (c * ((2 ^ B : Nat) : Int)) = L * c * ((2 ^ B : Nat) : Int) := by ac_rfl
        _ ≤ a * 1099511627776 * ((2 ^ B : Nat) : Int) := Int.mul_le_mul_of_nonneg_right l1 (Int.le_of_lt pB)) (by
      calc L * (d * ((2 ^ B : Nat) : Int)) = L * d * ((2 ^ B : Nat) : Int) := by ac_rfl
        _ ≤ a * 1099511627776 * ((2 ^ B : Nat) : Int) := Int.mul_le_mul_of_nonneg_right l2 (Int.le_of_lt pB))
    calc L * (Y : Int) * 1099511627776 = L * ((Y : Int) * 1099511627776) := by ac_rfl
      _ ≤ a * 1099511627776 * ((2 ^ B : Nat) : Int) := this
      _ = a * ((2 ^ B : Nat) : Int) * 1099511627776 := by ac_rfl
      _ ≤ X * 1099511627776 * 1099511627776 := Int.mul_le_mul_of_nonneg_right k1 (Int.le_of_lt pG)
  have bH : X * 1099511627776 ≤ H * (Y : Int) := by
    refine Int.le_of_mul_le_mul_right ?_ pG
    have := mono (u := -H) k3 k4 (M := -(b * 1099511627776 * ((2 ^ B : Nat) : Int))) (by
      have h1 := Int.mul_le_mul_of_nonneg_right u1 (Int.le_of_lt pB)
      have h2 : -H * (c * ((2 ^ B : Nat) : Int)) = -(H * c * ((2 ^ B : Nat) : Int)) := by rw [Int.neg_mul]; congr 1; ac_rfl
      omega) (by
      have h1 := Int.mul_le_mul_of_nonneg_right u2 (Int.le_of_lt pB)
      have h2 : -H * (d * ((2 ^ B : Nat) : Int)) = -(H * d * ((2 ^ B : Nat) : Int)) := by rw [Int.neg_mul]; congr 1; ac_rfl
      omega)
    have e1 : H * (Y : Int) * 1099511627776 = -(-H * ((Y : Int) * 1099511627776)) := by rw [Int.neg_mul, Int.neg_neg]; ac_rfl
    rw [e1]
    have h3 := Int.mul_le_mul_of_nonneg_right k2 (Int.le_of_lt pG)
    have e2 : b * ((2 ^ B : Nat) : Int) * 1099511627776 = b * 1099511627776 * ((2 ^ B : Nat) : Int) := by ac_rfl
    omega
  -- the places
  have hXabs : X.natAbs = m * 2 ^ (i + B).toNat := by rw [← hXX, signed_natAbs]
  have hle1 : m * 2 ^ (i + B).toNat ≤ n * 2 ^ (j + B).toNat := by
    rw [hYY, ← hXabs]
    have h1 : X ≤ (Y : Int) := by
      refine Int.le_of_mul_le_mul_right (Int.le_trans bH ?_) pG
      rw [Int.mul_comm]
      exact Int.mul_le_mul_of_nonneg_left hH (Int.le_of_lt hYpos)
    have h2 : -(Y : Int) ≤ X := by
      refine Int.le_of_mul_le_mul_right (Int.le_trans ?_ bL) pG
      have := Int.mul_le_mul_of_nonneg_right hL (Int.le_of_lt hYpos)
      rw [Int.neg_mul] at *
      have e : (Y : Int) * 1099511627776 = 1099511627776 * (Y : Int) := Int.mul_comm _ _
      omega
    omega
  have hq : fdiv x y = FloatKind.f64.encode (.number (s ^^ false) (2 * (m * 2 ^ (54 + n.log2 - m.log2) / n) + (m * 2 ^ (54 + n.log2 - m.log2) % n != 0).toNat) (i - j - (54 + n.log2 - m.log2 : Nat) - 1)) := by
    show (((FloatKind.f64.decode x).quotient (double.fractionBits + 2) (FloatKind.f64.decode y)).map double.write).getD 0 = _
    rw [hd, hd']
    unfold Datum.quotient
    simp only []
    rw [if_neg (by omega), Nat.shiftLeft_eq]
    rfl
  have hlm : m.log2 ≤ 52 := by
    by_cases h0 : m = 0
    · subst h0; decide
    · have := (Nat.log2_lt h0).2 (show m < 2 ^ 53 from hm)
      omega
  have hz : 0 ≤ ((54 + n.log2 - m.log2 : Nat) : Int) + j - i - 40 ∨ m = 0 := by
    by_cases h0 : m = 0
    · exact .inr h0
    · refine .inl ?_
      have l1 : 2 ^ m.log2 ≤ m := Nat.log2_self_le h0
      have l2 : n < 2 ^ (n.log2 + 1) := Nat.lt_log2_self
      have h1 : 2 ^ m.log2 * 2 ^ (i + B).toNat < 2 ^ (n.log2 + 1) * 2 ^ (j + B).toNat :=
        Nat.lt_of_le_of_lt (Nat.le_trans (Nat.mul_le_mul_right _ l1) hle1) (Nat.mul_lt_mul_of_pos_right l2 (Nat.two_pow_pos _))
      rw [← Nat.pow_add, ← Nat.pow_add] at h1
      have := (Nat.pow_lt_pow_iff_right (a := 2) (by decide)).1 h1
      omega
  generalize 54 + n.log2 - m.log2 = more at hq hz
  suffices hr : RI (.number (s ^^ false) (2 * (m * 2 ^ more / n) + (m * 2 ^ more % n != 0).toNat) (i - j - (more : Nat) - 1)) 40 L H by
    have hw := ri_write .f64 (g := 40) (by decide) hr (by
      show L.natAbs < 9007199254740992
      omega) (by
      show H.natAbs < 9007199254740992
      omega)
    rw [hq]; exact ⟨hw.2, hw.1⟩
  by_cases h0 : m = 0
  · subst h0
    have hX0 : X = 0 := by
      have : X.natAbs = 0 := by rw [hXabs]; simp
      omega
    rw [hX0] at bL bH
    have q1 : L ≤ 0 := by
      rcases Int.lt_or_le 0 L with h | h
      · have := Int.mul_pos h hYpos; omega
      · exact h
    have q2 : 0 ≤ H := by
      rcases Int.lt_or_le H 0 with h | h
      · have := Int.mul_neg_of_neg_of_pos h hYpos; omega
      · exact h
    have e0 : 2 * (0 * 2 ^ more / n) + (0 * 2 ^ more % n != 0).toNat = 0 := by simp
    rw [e0]
    refine ⟨_, _, _, (i - j - (more : Nat) - 1).natAbs, rfl, by omega, ?_⟩
    have es : ∀ u, signed (s ^^ false) 0 u = 0 := fun u => by unfold signed; simp
    rw [es]
    have p1 := pow_posI (i - j - (more : Nat) - 1).natAbs
    rw [Int.zero_mul]
    exact ⟨Int.mul_nonpos_of_nonpos_of_nonneg q1 (Int.le_of_lt p1), Int.mul_nonneg q2 (Int.le_of_lt p1)⟩
  have hz' : 0 ≤ (more : Int) + j - i - 40 := by omega
  obtain ⟨z, hzz⟩ : ∃ z : Nat, (z : Int) = (more : Int) + j - i - 40 := ⟨((more : Int) + j - i - 40).toNat, by omega⟩
  -- scaled magnitudes
  have scale : ∀ K : Nat, (K * Y ≤ m * 2 ^ (i + B).toNat * 2 ^ 40 → K * 2 ^ z * n ≤ m * 2 ^ more) ∧ (m * 2 ^ (i + B).toNat * 2 ^ 40 ≤ K * Y → m * 2 ^ more ≤ K * 2 ^ z * n) := by
    intro K
    have e1 : m * 2 ^ more * 2 ^ (j + B).toNat = m * 2 ^ (i + B).toNat * 2 ^ 40 * 2 ^ z := by
      rw [Nat.mul_assoc, Nat.mul_assoc, Nat.mul_assoc, ← Nat.pow_add, ← Nat.pow_add, ← Nat.pow_add]; congr 2; omega
    have e2 : K * 2 ^ z * n * 2 ^ (j + B).toNat = K * Y * 2 ^ z := by rw [← hYY]; ac_rfl
    constructor
    · intro h
      refine Nat.le_of_mul_le_mul_right ?_ (Nat.two_pow_pos (j + B).toNat)
      rw [e1, e2]; exact Nat.mul_le_mul_right _ h
    · intro h
      refine Nat.le_of_mul_le_mul_right ?_ (Nat.two_pow_pos (j + B).toNat)
      rw [e1, e2]; exact Nat.mul_le_mul_right _ h
  have ez : (i - j - (more : Nat) - 1 + ((z + 41 : Nat) : Int)).toNat = 0 := by omega
  have ep : ((2 ^ (z + 41) : Nat) : Int) = ((2 ^ (z + 1) : Nat) : Int) * 1099511627776 := by
    rw [show z + 41 = z + 1 + 40 by omega, Nat.pow_add, Int.natCast_mul, eG]
  refine ⟨_, _, _, z + 41, rfl, by omega, ?_⟩
  rw [ez, ep, eG, Bool.xor_false]
  have fin : ∀ {u v : Int}, u ≤ v → u * 1099511627776 ≤ v * 1099511627776 := fun h => Int.mul_le_mul_of_nonneg_right h (Int.le_of_lt pG)
  rw [← Int.mul_assoc, ← Int.mul_assoc]
  have sX : X = if s then -((m * 2 ^ (i + B).toNat : Nat) : Int) else ((m * 2 ^ (i + B).toNat : Nat) : Int) := by
    rw [← hXX]; unfold signed; rw [Nat.shiftLeft_eq]
  have sQ : ∀ q, signed s q 0 = if s then -(q : Int) else (q : Int) := fun q => by unfold signed; rw [Nat.shiftLeft_eq, Nat.pow_zero, Nat.mul_one]
  rw [sQ]
  generalize m * 2 ^ (i + B).toNat = M at *
  have lowN : ∀ K : Int, K * (Y : Int) ≤ (M : Int) * 1099511627776 → K.toNat * Y ≤ M * 2 ^ 40 := by
    intro K h
    rcases Int.lt_or_le K 0 with hk | hk
    · rw [show K.toNat = 0 by omega]; omega
    · have e : ((K.toNat : Nat) : Int) = K := by omega
      have : ((K.toNat * Y : Nat) : Int) ≤ ((M * 2 ^ 40 : Nat) : Int) := by rw [Int.natCast_mul, Int.natCast_mul, e, eG]; exact h
      exact_mod_cast this
  have highN : ∀ K : Int, (M : Int) * 1099511627776 ≤ K * (Y : Int) → M * 2 ^ 40 ≤ K.toNat * Y ∧ 0 ≤ K := by
    intro K h
    have hK : 0 ≤ K := by
      rcases Int.lt_or_le K 0 with hk | hk
      · have h1 := Int.mul_neg_of_neg_of_pos hk hYpos
        have h2 : (0 : Int) ≤ (M : Int) * 1099511627776 := by omega
        omega
      · exact hk
    have e : ((K.toNat : Nat) : Int) = K := by omega
    have : ((M * 2 ^ 40 : Nat) : Int) ≤ ((K.toNat * Y : Nat) : Int) := by rw [Int.natCast_mul, Int.natCast_mul, e, eG]; exact h
    exact ⟨by exact_mod_cast this, hK⟩
  have pz := pow_posI (z + 1)
  cases s
  · rw [if_neg (by decide)] at sX ⊢
    rw [sX] at bL bH
    obtain ⟨hh, hH0⟩ := highN H bH
    have hl := lowN L bL
    obtain ⟨r1, r2⟩ := quot_mag (L := L.toNat) (H := H.toNat) hn ((scale L.toNat).1 hl) ((scale H.toNat).2 hh)
    generalize 2 * (m * 2 ^ more / n) + (m * 2 ^ more % n != 0).toNat = q at r1 r2
    have r1' : ((L.toNat : Nat) : Int) * ((2 ^ (z + 1) : Nat) : Int) ≤ (q : Int) := by exact_mod_cast r1
    have r2' : (q : Int) ≤ ((H.toNat : Nat) : Int) * ((2 ^ (z + 1) : Nat) : Int) := by exact_mod_cast r2
    have e2 : ((H.toNat : Nat) : Int) = H := by omega
    rw [e2] at r2'
    exact ⟨fin (Int.le_trans (Int.mul_le_mul_of_nonneg_right (by omega) (Int.le_of_lt pz)) r1'), fin r2'⟩
  · rw [if_pos rfl] at sX ⊢
    rw [sX] at bL bH
    rw [Int.neg_mul] at bL bH
    obtain ⟨hh, hH0⟩ := highN (-L) (by rw [Int.neg_mul]; omega)
    have hl := lowN (-H) (by rw [Int.neg_mul]; omega)
    obtain ⟨r1, r2⟩ := quot_mag (L := (-H).toNat) (H := (-L).toNat) hn ((scale (-H).toNat).1 hl) ((scale (-L).toNat).2 hh)
    generalize 2 * (m * 2 ^ more / n) + (m * 2 ^ more % n != 0).toNat = q at r1 r2
    have r1' : (((-H).toNat : Nat) : Int) * ((2 ^ (z + 1) : Nat) : Int) ≤ (q : Int) := by exact_mod_cast r1
    have r2' : (q : Int) ≤ (((-L).toNat : Nat) : Int) * ((2 ^ (z + 1) : Nat) : Int) := by exact_mod_cast r2
    have e2 : (((-L).toNat : Nat) : Int) = -L := by omega
    rw [e2, Int.neg_mul] at r2'
    have r3 : -H * ((2 ^ (z + 1) : Nat) : Int) ≤ (q : Int) := Int.le_trans (Int.mul_le_mul_of_nonneg_right (by omega) (Int.le_of_lt pz)) r1'
    rw [Int.neg_mul] at r3
    exact ⟨fin (by omega), fin (by omega)⟩

end Go.Proofs.Ytiabbafmjgiobaa.Fl
