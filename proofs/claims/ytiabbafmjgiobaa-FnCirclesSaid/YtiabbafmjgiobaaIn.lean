/-
Floats between two bounds on a grid: sums, products, quotients and rounding keep the bounds.
-/
import Derived.Test.YtiabbafmjgiobaaIv
set_option linter.unusedVariables false
set_option linter.unusedSimpArgs false
namespace Go.Proofs.Ytiabbafmjgiobaa.Fl
open Go Ieee

/-- the datum's value times 2 ^ g lies between two integers -/
def RI (d : Datum) (g : Nat) (lo hi : Int) : Prop := ∃ (s : Bool) (m : Nat) (e : Int) (B : Nat), d = .number s m e ∧ 0 ≤ e + B ∧
  lo * (2 ^ B : Nat) ≤ signed s m (e + B).toNat * (2 ^ g : Nat) ∧ signed s m (e + B).toNat * (2 ^ g : Nat) ≤ hi * (2 ^ B : Nat)
theorem ri_up {s : Bool} {m : Nat} {e lo hi : Int} {g B C : Nat} (hb : 0 ≤ e + B) (h1 : lo * (2 ^ B : Nat) ≤ signed s m (e + B).toNat * (2 ^ g : Nat)) (h2 : signed s m (e + B).toNat * (2 ^ g : Nat) ≤ hi * (2 ^ B : Nat)) (hC : B ≤ C) :
    lo * (2 ^ C : Nat) ≤ signed s m (e + C).toNat * (2 ^ g : Nat) ∧ signed s m (e + C).toNat * (2 ^ g : Nat) ≤ hi * (2 ^ C : Nat) := by
  have e1 : (e + C).toNat = (e + B).toNat + (C - B) := by omega
  have e2 : (2 ^ C : Nat) = 2 ^ B * 2 ^ (C - B) := by rw [← Nat.pow_add]; congr 1; omega
  rw [e1, signed_add, e2]
  have hp := Int.le_of_lt (pow_posI (C - B))
  push_cast at *
  constructor
  · have := Int.mul_le_mul_of_nonneg_right h1 hp
    calc lo * (2 ^ B * 2 ^ (C - B)) = lo * 2 ^ B * 2 ^ (C - B) := by ac_rfl
      _ ≤ signed s m (e + B).toNat * 2 ^ g * 2 ^ (C - B) := this
      _ = signed s m (e + B).toNat * 2 ^ (C - B) * 2 ^ g := by ac_rfl
  · have := Int.mul_le_mul_of_nonneg_right h2 hp
    calc signed s m (e + B).toNat * 2 ^ (C - B) * 2 ^ g = signed s m (e + B).toNat * 2 ^ g * 2 ^ (C - B) := by ac_rfl
      _ ≤ hi * 2 ^ B * 2 ^ (C - B) := this
      _ = hi * (2 ^ B * 2 ^ (C - B)) := by ac_rfl
theorem RI.mono {d : Datum} {g : Nat} {lo hi lo' hi' : Int} (h : RI d g lo hi) (h1 : lo' ≤ lo) (h2 : hi ≤ hi') : RI d g lo' hi' := by
  obtain ⟨s, m, e, B, hd, hb, g1, g2⟩ := h
  have hp := Int.le_of_lt (pow_posI B)
  exact ⟨s, m, e, B, hd, hb, Int.le_trans (Int.mul_le_mul_of_nonneg_right h1 hp) g1, Int.le_trans g2 (Int.mul_le_mul_of_nonneg_right h2 hp)⟩
theorem ri_of_dv {d : Datum} {i : Int} (h : DV d i) (g : Nat) : RI d g (i * (2 ^ g : Nat)) (i * (2 ^ g : Nat)) := by
  obtain ⟨s, m, e, B, hd, hb, hv⟩ := h
  refine ⟨s, m, e, B, hd, hb, ?_, ?_⟩ <;> rw [hv] <;> refine Int.le_of_eq ?_ <;> ac_rfl
theorem ri_sum {d d' : Datum} {g : Nat} {lo hi lo' hi' : Int} (h : RI d g lo hi) (h' : RI d' g lo' hi') : ∃ p, d.sum d' = some p ∧ RI p g (lo + lo') (hi + hi') := by
  obtain ⟨s, m, e, B, rfl, hb, g1, g2⟩ := h
  obtain ⟨t, n, e', B', rfl, hb', g1', g2'⟩ := h'
  refine ⟨_, rfl, ?_⟩
  obtain ⟨k1, k2⟩ := ri_up (C := B + B') hb g1 g2 (by omega)
  obtain ⟨k3, k4⟩ := ri_up (C := B + B') hb' g1' g2' (by omega)
  generalize hC : B + B' = C at k1 k2 k3 k4
  have m1 : min e e' ≤ e := Int.min_le_left _ _
  have m2 : min e e' ≤ e' := Int.min_le_right _ _
  have m3 : min e e' = e ∨ min e e' = e' := by omega
  generalize min e e' = b at m1 m2 m3
  have hbC : 0 ≤ b + C := by omega
  have key : signed (if signed s m (e - b).toNat + signed t n (e' - b).toNat = 0 then s && t else decide (signed s m (e - b).toNat + signed t n (e' - b).toNat < 0)) (signed s m (e - b).toNat + signed t n (e' - b).toNat).natAbs (b + C).toNat = signed s m (e + C).toNat + signed t n (e' + C).toNat := by
    rw [signed_of, Int.add_mul, ← signed_add, ← signed_add, show (e - b).toNat + (b + C).toNat = (e + C).toNat by omega, show (e' - b).toNat + (b + C).toNat = (e' + C).toNat by omega]
  refine ⟨_, _, _, C, rfl, hbC, ?_, ?_⟩
  · refine Int.le_trans ?_ (Int.le_of_eq (congrArg (· * ((2 ^ g : Nat) : Int)) key).symm)
    show _ ≤ (signed s m (e + C).toNat + signed t n (e' + C).toNat) * _
    rw [Int.add_mul, Int.add_mul]; omega
  · refine Int.le_trans (Int.le_of_eq (congrArg (· * ((2 ^ g : Nat) : Int)) key)) ?_
    show (signed s m (e + C).toNat + signed t n (e' + C).toNat) * _ ≤ _
    rw [Int.add_mul, Int.add_mul]; omega
theorem ri_opp {d : Datum} {g : Nat} {lo hi : Int} (h : RI d g lo hi) : RI d.opposite g (-hi) (-lo) := by
  obtain ⟨s, m, e, B, rfl, hb, g1, g2⟩ := h
  refine ⟨!s, m, e, B, rfl, hb, ?_, ?_⟩ <;> rw [signed_not, Int.neg_mul, Int.neg_mul] <;> omega

theorem box {x y a b c d L H : Int} (hx1 : a ≤ x) (hx2 : x ≤ b) (hy1 : c ≤ y) (hy2 : y ≤ d) (l1 : L ≤ a * c) (l2 : L ≤ a * d) (l3 : L ≤ b * c) (l4 : L ≤ b * d) (u1 : a * c ≤ H) (u2 : a * d ≤ H) (u3 : b * c ≤ H) (u4 : b * d ≤ H) : L ≤ x * y ∧ x * y ≤ H := by
  have line : ∀ {u v z p q M : Int}, p ≤ z → z ≤ q → u * p ≤ M → u * q ≤ M → u * z ≤ M := by
    intro u v z p q M h1 h2 h3 h4
    by_cases hu : 0 ≤ u
    · exact Int.le_trans (Int.mul_le_mul_of_nonneg_left h2 hu) h4
    · exact Int.le_trans (Int.mul_le_mul_of_nonpos_left (by omega) h1) h3
  have lineL : ∀ {u z p q M : Int}, p ≤ z → z ≤ q → M ≤ u * p → M ≤ u * q → M ≤ u * z := by
    intro u z p q M h1 h2 h3 h4
    by_cases hu : 0 ≤ u
    · exact Int.le_trans h3 (Int.mul_le_mul_of_nonneg_left h1 hu)
    · exact Int.le_trans h4 (Int.mul_le_mul_of_nonpos_left (by omega) h2)
  have A1 := lineL (u := a) hy1 hy2 l1 l2
  have A2 := lineL (u := b) hy1 hy2 l3 l4
  have B1 := line (v := 0) (u := a) hy1 hy2 u1 u2
  have B2 := line (v := 0) (u := b) hy1 hy2 u3 u4
  rw [Int.mul_comm a y] at A1 B1
  rw [Int.mul_comm b y] at A2 B2
  have C1 := lineL (u := y) hx1 hx2 A1 A2
  have C2 := line (v := 0) (u := y) hx1 hx2 B1 B2
  rw [Int.mul_comm y x] at C1 C2
  exact ⟨C1, C2⟩
theorem ri_prod {d d' : Datum} {g : Nat} {a b c f L H : Int} (h : RI d g a b) (h' : RI d' g c f) (l1 : L * (2 ^ g : Nat) ≤ a * c) (l2 : L * (2 ^ g : Nat) ≤ a * f) (l3 : L * (2 ^ g : Nat) ≤ b * c) (l4 : L * (2 ^ g : Nat) ≤ b * f)
    (u1 : a * c ≤ H * (2 ^ g : Nat)) (u2 : a * f ≤ H * (2 ^ g : Nat)) (u3 : b * c ≤ H * (2 ^ g : Nat)) (u4 : b * f ≤ H * (2 ^ g : Nat)) : ∃ p, d.product d' = some p ∧ RI p g L H := by
  obtain ⟨s, m, e, B, rfl, hb, g1, g2⟩ := h
  obtain ⟨t, n, e', B', rfl, hb', g1', g2'⟩ := h'
  refine ⟨_, rfl, _, _, _, B + B', rfl, by omega, ?_⟩
  have e1 : (e + e' + ((B + B' : Nat) : Int)).toNat = (e + B).toNat + (e' + B').toNat := by omega
  rw [e1, signed_xor]
  have p1 := Int.le_of_lt (pow_posI B)
  have p2 := Int.le_of_lt (pow_posI B')
  have p3 := pow_posI g
  have e2 : ((2 ^ (B + B') : Nat) : Int) = ((2 ^ B : Nat) : Int) * ((2 ^ B' : Nat) : Int) := by rw [Nat.pow_add]; push_cast; rfl
  rw [e2]
  generalize signed s m (e + B).toNat = x at *
  generalize signed t n (e' + B').toNat = y at *
  generalize ((2 ^ B : Nat) : Int) = P at *
  generalize ((2 ^ B' : Nat) : Int) = Q at *
  generalize ((2 ^ g : Nat) : Int) = G at *
  have hPQ : 0 ≤ P * Q := Int.mul_nonneg p1 p2
  have sc : ∀ {u v : Int}, u ≤ v → u * (P * Q) ≤ v * (P * Q) := fun h => Int.mul_le_mul_of_nonneg_right h hPQ
  have corner : ∀ u v : Int, u * P * (v * Q) = u * v * (P * Q) := fun u v => by ac_rfl
  have bx := box (L := L * G * (P * Q)) (H := H * G * (P * Q)) g1 g2 g1' g2' (by rw [corner]; exact sc l1) (by rw [corner]; exact sc l2) (by rw [corner]; exact sc l3) (by rw [corner]; exact sc l4) (by rw [corner]; exact sc u1) (by rw [corner]; exact sc u2) (by rw [corner]; exact sc u3) (by rw [corner]; exact sc u4)
  have e3 : x * G * (y * G) = x * y * G * G := by ac_rfl
  rw [e3] at bx
  constructor
  · refine Int.le_of_mul_le_mul_right ?_ p3
    calc L * (P * Q) * G = L * G * (P * Q) := by ac_rfl
      _ ≤ x * y * G * G := bx.1
  · refine Int.le_of_mul_le_mul_right ?_ p3
    calc x * y * G * G ≤ H * G * (P * Q) := bx.2
      _ = H * (P * Q) * G := by ac_rfl
theorem ri_coarse {d : Datum} {g k : Nat} {lo hi : Int} (h : RI d (g + k) lo hi) {L H : Int} (h1 : L * (2 ^ k : Nat) ≤ lo) (h2 : hi ≤ H * (2 ^ k : Nat)) : RI d g L H := by
  obtain ⟨s, m, e, B, hd, hb, g1, g2⟩ := h
  refine ⟨s, m, e, B, hd, hb, ?_⟩
  have p1 := Int.le_of_lt (pow_posI B)
  have p3 := pow_posI k
  have e2 : ((2 ^ (g + k) : Nat) : Int) = ((2 ^ g : Nat) : Int) * ((2 ^ k : Nat) : Int) := by rw [Nat.pow_add]; push_cast; rfl
  rw [e2] at g1 g2
  generalize signed s m (e + B).toNat = x at *
  generalize ((2 ^ B : Nat) : Int) = P at *
  generalize ((2 ^ g : Nat) : Int) = G at *
  generalize ((2 ^ k : Nat) : Int) = K at *
  constructor
  · refine Int.le_of_mul_le_mul_right ?_ p3
    calc L * P * K = L * K * P := by ac_rfl
      _ ≤ lo * P := Int.mul_le_mul_of_nonneg_right h1 p1
      _ ≤ x * (G * K) := g1
      _ = x * G * K := by ac_rfl
  · refine Int.le_of_mul_le_mul_right ?_ p3
    calc x * G * K = x * (G * K) := by ac_rfl
      _ ≤ hi * P := g2
      _ ≤ H * K * P := Int.mul_le_mul_of_nonneg_right h2 p1
      _ = H * P * K := by ac_rfl

theorem mag_round (k : FloatKind) (s : Bool) {m g A C B : Nat} {e : Int} (hg : g ≤ (-k.format.leastPlace).toNat) (hb : 0 ≤ e + B) (h1 : A * 2 ^ B ≤ m * 2 ^ (e + B).toNat * 2 ^ g) (h2 : m * 2 ^ (e + B).toNat * 2 ^ g ≤ C * 2 ^ B) (hC : C < 2 * k.format.binade) :
    ∃ r, r < k.format.infRung ∧ k.format.nearest s m e = k.format.word s r ∧ A * 2 ^ (-k.format.leastPlace).toNat ≤ un k.format r * 2 ^ g ∧ un k.format r * 2 ^ g ≤ C * 2 ^ (-k.format.leastPlace).toNat := by
  have hl := lp_le k
  have hAC : A ≤ C := Nat.le_of_mul_le_mul_right (Nat.le_trans h1 h2) (Nat.two_pow_pos B)
  obtain ⟨rh, hrh⟩ := exists_rung k.format ((-k.format.leastPlace).toNat - g) C hC
  obtain ⟨rl, hrl⟩ := exists_rung k.format ((-k.format.leastPlace).toNat - g) A (Nat.lt_of_le_of_lt hAC hC)
  have inf : ∀ {r K : Nat}, K ≤ C → un k.format r = K * 2 ^ ((-k.format.leastPlace).toNat - g) → r < k.format.infRung := by
    intro r K hK hr
    have hle : un k.format r ≤ 2 ^ (k.format.fractionBits + 1 + (-k.format.leastPlace).toNat) := by
      rw [hr, Nat.pow_add]
      refine Nat.mul_le_mul (Nat.le_of_lt ?_) (Nat.pow_le_pow_right (by decide) (by omega))
      rw [Nat.pow_succ, Nat.mul_comm]
      exact Nat.lt_of_le_of_lt hK hC
    refine rung_lt_inf k.format ?_ r _ hle ?_
    · cases k <;> decide
    · cases k <;> decide
  have ih := inf (Nat.le_refl C) hrh
  have il := inf hAC hrl
  have hN : 2 ^ g * 2 ^ ((-k.format.leastPlace).toNat - g) = 2 ^ (-k.format.leastPlace).toNat := by rw [← Nat.pow_add]; congr 1; omega
  obtain ⟨r, hr1, hr2⟩ := nearest_mono_le k.format s m e rh ih (x := (e + B).toNat + (-k.format.leastPlace).toNat) (y := B) (by omega) (by
    rw [Nat.pow_add, hrh, ← hN]
    calc m * (2 ^ (e + B).toNat * (2 ^ g * 2 ^ ((-k.format.leastPlace).toNat - g))) = m * 2 ^ (e + B).toNat * 2 ^ g * 2 ^ ((-k.format.leastPlace).toNat - g) := by ac_rfl
      _ ≤ C * 2 ^ B * 2 ^ ((-k.format.leastPlace).toNat - g) := Nat.mul_le_mul_right _ h2
      _ = C * 2 ^ ((-k.format.leastPlace).toNat - g) * 2 ^ B := by ac_rfl)
  obtain ⟨q, hq1, _, hq2⟩ := nearest_mono_ge k.format s m e rl il (x := (e + B).toNat + (-k.format.leastPlace).toNat) (y := B) (by omega) (by
    rw [Nat.pow_add, hrl, ← hN]
    calc A * 2 ^ ((-k.format.leastPlace).toNat - g) * 2 ^ B = A * 2 ^ B * 2 ^ ((-k.format.leastPlace).toNat - g) := by ac_rfl
      _ ≤ m * 2 ^ (e + B).toNat * 2 ^ g * 2 ^ ((-k.format.leastPlace).toNat - g) := Nat.mul_le_mul_right _ h1
      _ = m * (2 ^ (e + B).toNat * (2 ^ g * 2 ^ ((-k.format.leastPlace).toNat - g))) := by ac_rfl)
  have hqr : q = r := word_inj k.format (hq2.symm.trans hr2)
  subst hqr
  refine ⟨q, Nat.lt_of_le_of_lt hr1 ih, hr2, ?_, ?_⟩
  · have := (un_le_iff k.format _ _).2 hq1
    rw [hrl] at this
    calc A * 2 ^ (-k.format.leastPlace).toNat = A * 2 ^ ((-k.format.leastPlace).toNat - g) * 2 ^ g := by rw [← hN]; ac_rfl
      _ ≤ un k.format q * 2 ^ g := Nat.mul_le_mul_right _ this
  · have := (un_le_iff k.format _ _).2 hr1
    rw [hrh] at this
    calc un k.format q * 2 ^ g ≤ C * 2 ^ ((-k.format.leastPlace).toNat - g) * 2 ^ g := Nat.mul_le_mul_right _ this
      _ = C * 2 ^ (-k.format.leastPlace).toNat := by rw [← hN]; ac_rfl
theorem word_lt (k : FloatKind) (s : Bool) {r : Nat} (h : r < k.format.infRung) : k.format.word s r < 2 ^ k.format.width := by
  have h1 := Nat.lt_trans h (infRung_lt k.format)
  have h2 : k.format.width = k.format.exponentBits + k.format.fractionBits + 1 := by unfold Format.width; omega
  rw [h2, Nat.pow_succ]
  unfold Format.word Format.signWeight at *
  cases s
  · rw [if_neg (by decide)]; omega
  · rw [if_pos rfl]; omega
/-- ROUNDING KEEPS BOUNDS ON THE GRID. -/
theorem ri_write (k : FloatKind) {d : Datum} {g : Nat} {lo hi : Int} (hg : g ≤ (-k.format.leastPlace).toNat) (h : RI d g lo hi) (h1 : lo.natAbs < 2 * k.format.binade) (h2 : hi.natAbs < 2 * k.format.binade) : RI (k.decode (k.encode d)) g lo hi ∧ k.encode d < 2 ^ k.format.width := by
  obtain ⟨s, m, e, B, rfl, hb, g1, g2⟩ := h
  have hl := lp_le k
  have pB := pow_posI B
  cases s
  · have e1 : signed false m (e + B).toNat * (2 ^ g : Nat) = ((m * 2 ^ (e + B).toNat * 2 ^ g : Nat) : Int) := by
      unfold signed; rw [if_neg (by decide), Nat.shiftLeft_eq]; push_cast; rfl
    rw [e1] at g1 g2
    have hhi : 0 ≤ hi := by
      rcases Int.lt_or_le hi 0 with h | h
      · have := Int.mul_neg_of_neg_of_pos h pB
        omega
      · exact h
    obtain ⟨r, hr, hw, b1, b2⟩ := mag_round k false (A := lo.toNat) (C := hi.toNat) hg hb (by
        rcases Int.lt_or_le lo 0 with h | h
        · rw [show lo.toNat = 0 by omega]; omega
        · have e2 : ((lo.toNat : Nat) : Int) = lo := by omega
          have : ((lo.toNat * 2 ^ B : Nat) : Int) ≤ ((m * 2 ^ (e + B).toNat * 2 ^ g : Nat) : Int) := by push_cast; rw [e2]; push_cast at g1; exact g1
          exact_mod_cast this) (by
        have e2 : ((hi.toNat : Nat) : Int) = hi := by omega
        have : ((m * 2 ^ (e + B).toNat * 2 ^ g : Nat) : Int) ≤ ((hi.toNat * 2 ^ B : Nat) : Int) := by push_cast; rw [e2]; push_cast at g2; exact g2
        exact_mod_cast this) (by omega)
    have he : k.encode (.number false m e) = k.format.word false r := hw
    rw [he]
    refine ⟨⟨false, _, _, (-k.format.leastPlace).toNat, read_word k.format false r hr, by omega, ?_⟩, word_lt k false hr⟩
    rw [show (k.format.leastPlace + (exq k.format r : Nat) + ((-k.format.leastPlace).toNat : Int)).toNat = exq k.format r by omega]
    have e3 : signed false (sig k.format r) (exq k.format r) * (2 ^ g : Nat) = ((un k.format r * 2 ^ g : Nat) : Int) := by
      unfold signed un; rw [if_neg (by decide), Nat.shiftLeft_eq]; push_cast; rfl
    rw [e3]
    have c1 : ((lo.toNat * 2 ^ (-k.format.leastPlace).toNat : Nat) : Int) ≤ ((un k.format r * 2 ^ g : Nat) : Int) := by exact_mod_cast b1
    have c2 : ((un k.format r * 2 ^ g : Nat) : Int) ≤ ((hi.toNat * 2 ^ (-k.format.leastPlace).toNat : Nat) : Int) := by exact_mod_cast b2
    have pp := Int.le_of_lt (pow_posI (-k.format.leastPlace).toNat)
    constructor
    · refine Int.le_trans ?_ c1
      rw [Int.natCast_mul]
      exact Int.mul_le_mul_of_nonneg_right (by omega) pp
    · refine Int.le_trans c2 ?_
      rw [Int.natCast_mul]
      exact Int.mul_le_mul_of_nonneg_right (by omega) pp
  · have e1 : signed true m (e + B).toNat * (2 ^ g : Nat) = -((m * 2 ^ (e + B).toNat * 2 ^ g : Nat) : Int) := by
      unfold signed; rw [if_pos rfl, Nat.shiftLeft_eq]; push_cast; rw [Int.neg_mul]
    rw [e1] at g1 g2
    have hlo : lo ≤ 0 := by
      rcases Int.lt_or_le 0 lo with h | h
      · have := Int.mul_pos h pB
        omega
      · exact h
    obtain ⟨r, hr, hw, b1, b2⟩ := mag_round k true (A := (-hi).toNat) (C := (-lo).toNat) hg hb (by
        rcases Int.lt_or_le 0 hi with h | h
        · rw [show (-hi).toNat = 0 by omega]; omega
        · have e2 : (((-hi).toNat : Nat) : Int) = -hi := by omega
          have : (((-hi).toNat * 2 ^ B : Nat) : Int) ≤ ((m * 2 ^ (e + B).toNat * 2 ^ g : Nat) : Int) := by
            rw [Int.natCast_mul, e2, Int.neg_mul]; omega
          exact_mod_cast this) (by
        have e2 : (((-lo).toNat : Nat) : Int) = -lo := by omega
        have : ((m * 2 ^ (e + B).toNat * 2 ^ g : Nat) : Int) ≤ (((-lo).toNat * 2 ^ B : Nat) : Int) := by
          rw [Int.natCast_mul ((-lo).toNat), e2, Int.neg_mul]; omega
        exact_mod_cast this) (by omega)
    have he : k.encode (.number true m e) = k.format.word true r := hw
    rw [he]
    refine ⟨⟨true, _, _, (-k.format.leastPlace).toNat, read_word k.format true r hr, by omega, ?_⟩, word_lt k true hr⟩
    rw [show (k.format.leastPlace + (exq k.format r : Nat) + ((-k.format.leastPlace).toNat : Int)).toNat = exq k.format r by omega]
    have e3 : signed true (sig k.format r) (exq k.format r) * (2 ^ g : Nat) = -((un k.format r * 2 ^ g : Nat) : Int) := by
      unfold signed un; rw [if_pos rfl, Nat.shiftLeft_eq]; push_cast; rw [Int.neg_mul]
    rw [e3]
    have c1 : (((-hi).toNat * 2 ^ (-k.format.leastPlace).toNat : Nat) : Int) ≤ ((un k.format r * 2 ^ g : Nat) : Int) := by exact_mod_cast b1
    have c2 : ((un k.format r * 2 ^ g : Nat) : Int) ≤ (((-lo).toNat * 2 ^ (-k.format.leastPlace).toNat : Nat) : Int) := by exact_mod_cast b2
    have pp := Int.le_of_lt (pow_posI (-k.format.leastPlace).toNat)
    rw [Int.natCast_mul] at c1
    rw [Int.natCast_mul (-lo).toNat] at c2
    constructor
    · have : -lo * ((2 ^ (-k.format.leastPlace).toNat : Nat) : Int) = (((-lo).toNat : Nat) : Int) * ((2 ^ (-k.format.leastPlace).toNat : Nat) : Int) := by congr 1; omega
      rw [← this, Int.neg_mul] at c2
      omega
    · have h3 : -hi * ((2 ^ (-k.format.leastPlace).toNat : Nat) : Int) ≤ (((-hi).toNat : Nat) : Int) * ((2 ^ (-k.format.leastPlace).toNat : Nat) : Int) := Int.mul_le_mul_of_nonneg_right (by omega) pp
      rw [Int.neg_mul] at h3
      omega

/-- a double between two numbers of the grid 2 ^ -40 -/
def In (x : Nat) (lo hi : Int) : Prop := x < 18446744073709551616 ∧ RI (FloatKind.f64.decode x) 40 lo hi
theorem In.fnt {x : Nat} {lo hi : Int} (h : In x lo hi) : Fnt x := by
  obtain ⟨_, s, m, e, B, hd, _⟩ := h
  exact ⟨s, m, e, hd⟩
theorem In.mono {x : Nat} {lo hi lo' hi' : Int} (h : In x lo hi) (h1 : lo' ≤ lo) (h2 : hi ≤ hi') : In x lo' hi' := ⟨h.1, h.2.mono h1 h2⟩
theorem in_add {x y : Nat} {a b c d : Int} (hx : In x a b) (hy : In y c d) (h1 : (a + c).natAbs < 9007199254740992) (h2 : (b + d).natAbs < 9007199254740992) : In (fadd x y) (a + c) (b + d) := by
  obtain ⟨p, hp, hr⟩ := ri_sum hx.2 hy.2
  have hw := ri_write .f64 (g := 40) (by decide) hr h1 h2
  have e : fadd x y = FloatKind.f64.encode p := by
    show (((FloatKind.f64.decode x).sum (FloatKind.f64.decode y)).map double.write).getD 0 = _
    rw [hp]; rfl
  rw [e]; exact ⟨hw.2, hw.1⟩
theorem in_sub {x y : Nat} {a b c d : Int} (hx : In x a b) (hy : In y c d) (h1 : (a - d).natAbs < 9007199254740992) (h2 : (b - c).natAbs < 9007199254740992) : In (fsub x y) (a - d) (b - c) := by
  obtain ⟨p, hp, hr⟩ := ri_sum hx.2 (ri_opp hy.2)
  have hw := ri_write .f64 (g := 40) (by decide) hr (by rw [← Int.sub_eq_add_neg]; exact h1) (by rw [← Int.sub_eq_add_neg]; exact h2)
  have e : fsub x y = FloatKind.f64.encode p := by
    show (((FloatKind.f64.decode x).sum (FloatKind.f64.decode y).opposite).map double.write).getD 0 = _
    rw [hp]; rfl
  rw [e, Int.sub_eq_add_neg, Int.sub_eq_add_neg]; exact ⟨hw.2, hw.1⟩
theorem in_mul {x y : Nat} {a b c d L H : Int} (hx : In x a b) (hy : In y c d) (l1 : L * 1099511627776 ≤ a * c) (l2 : L * 1099511627776 ≤ a * d) (l3 : L * 1099511627776 ≤ b * c) (l4 : L * 1099511627776 ≤ b * d)
    (u1 : a * c ≤ H * 1099511627776) (u2 : a * d ≤ H * 1099511627776) (u3 : b * c ≤ H * 1099511627776) (u4 : b * d ≤ H * 1099511627776) (h1 : L.natAbs < 9007199254740992) (h2 : H.natAbs < 9007199254740992) : In (fmul x y) L H := by
  obtain ⟨p, hp, hr⟩ := ri_prod hx.2 hy.2 l1 l2 l3 l4 u1 u2 u3 u4
  have hw := ri_write .f64 (g := 40) (by decide) hr h1 h2
  have e : fmul x y = FloatKind.f64.encode p := by
    show (((FloatKind.f64.decode x).product (FloatKind.f64.decode y)).map double.write).getD 0 = _
    rw [hp]; rfl
  rw [e]; exact ⟨hw.2, hw.1⟩

end Go.Proofs.Ytiabbafmjgiobaa.Fl
