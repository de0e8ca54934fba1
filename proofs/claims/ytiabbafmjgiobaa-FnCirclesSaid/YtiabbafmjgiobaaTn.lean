/-
Tenths of decibels between bounds: plain part.
-/
import Derived.Test.YtiabbafmjgiobaaIo
set_option linter.unusedVariables false
set_option linter.unusedSimpArgs false
namespace Go.Proofs.Ytiabbafmjgiobaa.Fl
open Go Ieee

theorem In.le {x : Nat} {a b : Int} (h : In x a b) : a ≤ b := by
  obtain ⟨_, s, m, e, B, _, _, g1, g2⟩ := h
  exact Int.le_of_mul_le_mul_right (Int.le_trans g1 g2) (pow_posI B)
theorem divG (z : Nat) : z / 1099511627776 * 1099511627776 ≤ z ∧ z < (z / 1099511627776 + 1) * 1099511627776 := by omega
theorem n_mul {x y a b c d : Nat} (hx : In x a b) (hy : In y c d) (h : b * d / 1099511627776 + 1 < 9007199254740992) : In (fmul x y) (a * c / 1099511627776 : Nat) (b * d / 1099511627776 + 1 : Nat) := by
  have hab : a ≤ b := by exact_mod_cast hx.le
  have hcd : c ≤ d := by exact_mod_cast hy.le
  have p1 : a * c ≤ a * d := Nat.mul_le_mul_left _ hcd
  have p2 : a * c ≤ b * c := Nat.mul_le_mul_right _ hab
  have p3 : a * d ≤ b * d := Nat.mul_le_mul_right _ hab
  have p4 : b * c ≤ b * d := Nat.mul_le_mul_left _ hcd
  have hL := (divG (a * c)).1
  have hH := (divG (b * d)).2
  have hm : a * c / 1099511627776 ≤ b * d / 1099511627776 := Nat.div_le_div_right (Nat.le_trans p1 p3)
  refine in_mul hx hy ?_ ?_ ?_ ?_ ?_ ?_ ?_ ?_ (by omega) (by omega) <;> (rw [← Int.natCast_mul]; omega)
theorem n_mul_neg {x y a b c d : Nat} (hx : In x (-(b : Int)) (-(a : Int))) (hy : In y c d) (h : b * d / 1099511627776 + 1 < 9007199254740992) : In (fmul x y) (-((b * d / 1099511627776 + 1 : Nat) : Int)) (-((a * c / 1099511627776 : Nat) : Int)) := by
  have hab : a ≤ b := by have := hx.le; omega
  have hcd : c ≤ d := by exact_mod_cast hy.le
  have p1 : a * c ≤ a * d := Nat.mul_le_mul_left _ hcd
  have p2 : a * c ≤ b * c := Nat.mul_le_mul_right _ hab
  have p3 : a * d ≤ b * d := Nat.mul_le_mul_right _ hab
  have p4 : b * c ≤ b * d := Nat.mul_le_mul_left _ hcd
  have hL := (divG (a * c)).1
  have hH := (divG (b * d)).2
  have hm : a * c / 1099511627776 ≤ b * d / 1099511627776 := Nat.div_le_div_right (Nat.le_trans p1 p3)
  refine in_mul hx hy ?_ ?_ ?_ ?_ ?_ ?_ ?_ ?_ (by omega) (by omega) <;> (simp only [Int.neg_mul]; simp only [← Int.natCast_mul b c, ← Int.natCast_mul b d, ← Int.natCast_mul a c, ← Int.natCast_mul a d]; omega)
theorem n_sq_neg {x a b : Nat} (hx : In x (-(b : Int)) (-(a : Int))) (h : b * b / 1099511627776 + 1 < 9007199254740992) : In (fmul x x) (a * a / 1099511627776 : Nat) (b * b / 1099511627776 + 1 : Nat) := by
  have hab : a ≤ b := by have := hx.le; omega
  have p1 : a * a ≤ a * b := Nat.mul_le_mul_left _ hab
  have p2 : a * a ≤ b * a := Nat.mul_le_mul_right _ hab
  have p3 : a * b ≤ b * b := Nat.mul_le_mul_right _ hab
  have p4 : b * a ≤ b * b := Nat.mul_le_mul_left _ hab
  have hL := (divG (a * a)).1
  have hH := (divG (b * b)).2
  have hm : a * a / 1099511627776 ≤ b * b / 1099511627776 := Nat.div_le_div_right (Nat.le_trans p1 p3)
  refine in_mul hx hx ?_ ?_ ?_ ?_ ?_ ?_ ?_ ?_ (by omega) (by omega) <;> (rw [Int.neg_mul_neg, ← Int.natCast_mul]; omega)
theorem divB (z c : Nat) (hc : 0 < c) : z / c * c ≤ z ∧ z < (z / c + 1) * c := ⟨Nat.div_mul_le_self _ _, by
  have := Nat.lt_mul_div_succ z hc
  rw [Nat.mul_comm]; exact this⟩
theorem n_divPQ {x y a b c d P Q : Nat} (hx : In x a b) (hy : In y c d) (hc : 0 < c) (hcd : c ≤ d) (q1 : P * d ≤ a * 1099511627776) (q2 : b * 1099511627776 < (Q + 1) * c) (h1 : Q < 1099511627776) (h2 : P ≤ Q) : In (fdiv x y) (P : Nat) (Q + 1 : Nat) := by
  have r1 : P * c ≤ P * d := Nat.mul_le_mul_left _ hcd
  have r2 : (Q + 1) * c ≤ (Q + 1) * d := Nat.mul_le_mul_left _ hcd
  have i1 : (P : Int) * (c : Int) ≤ (a : Int) * 1099511627776 := by rw [← Int.natCast_mul P c]; omega
  have i2 : (P : Int) * (d : Int) ≤ (a : Int) * 1099511627776 := by rw [← Int.natCast_mul P d]; omega
  have i3 : (b : Int) * 1099511627776 ≤ ((Q + 1 : Nat) : Int) * (c : Int) := by rw [← Int.natCast_mul (Q + 1) c]; omega
  have i4 : (b : Int) * 1099511627776 ≤ ((Q + 1 : Nat) : Int) * (d : Int) := by rw [← Int.natCast_mul (Q + 1) d]; omega
  exact in_div hx hy (by omega) i1 i2 i3 i4 (by omega) (by omega) (by omega) (by omega)
theorem n_divPQ_neg {x y a b c d P Q : Nat} (hx : In x (-(b : Int)) (-(a : Int))) (hy : In y c d) (hc : 0 < c) (hcd : c ≤ d) (q1 : P * d ≤ a * 1099511627776) (q2 : b * 1099511627776 < (Q + 1) * c) (h1 : Q < 1099511627776) (h2 : P ≤ Q) : In (fdiv x y) (-((Q + 1 : Nat) : Int)) (-((P : Nat) : Int)) := by
  have r1 : P * c ≤ P * d := Nat.mul_le_mul_left _ hcd
  have r2 : (Q + 1) * c ≤ (Q + 1) * d := Nat.mul_le_mul_left _ hcd
  have i1 : -((Q + 1 : Nat) : Int) * (c : Int) ≤ -(b : Int) * 1099511627776 := by rw [Int.neg_mul, ← Int.natCast_mul (Q + 1) c]; omega
  have i2 : -((Q + 1 : Nat) : Int) * (d : Int) ≤ -(b : Int) * 1099511627776 := by rw [Int.neg_mul, ← Int.natCast_mul (Q + 1) d]; omega
  have i3 : -(a : Int) * 1099511627776 ≤ -(P : Int) * (c : Int) := by rw [Int.neg_mul (P : Int), ← Int.natCast_mul P c]; omega
  have i4 : -(a : Int) * 1099511627776 ≤ -(P : Int) * (d : Int) := by rw [Int.neg_mul (P : Int), ← Int.natCast_mul P d]; omega
  exact in_div hx hy (by omega) i1 i2 i3 i4 (by omega) (by omega) (by omega) (by omega)
theorem quo_facts {a b c d : Nat} (hab : a ≤ b) (hcd : c ≤ d) (hc : 0 < c) (hbc : b < c) : a * 1099511627776 / d * d ≤ a * 1099511627776 ∧ b * 1099511627776 < (b * 1099511627776 / c + 1) * c ∧ b * 1099511627776 / c < 1099511627776 ∧ a * 1099511627776 / d ≤ b * 1099511627776 / c :=
  ⟨(divB _ d (by omega)).1, (divB _ c hc).2, (Nat.div_lt_iff_lt_mul hc).2 (by rw [Nat.mul_comm]; exact Nat.mul_lt_mul_of_pos_left hbc (by decide)), Nat.div_le_div (Nat.mul_le_mul_right _ hab) hcd (by omega)⟩
theorem n_div {x y a b c d : Nat} (hx : In x a b) (hy : In y c d) (hc : 0 < c) (hbc : b < c) : In (fdiv x y) (a * 1099511627776 / d : Nat) (b * 1099511627776 / c + 1 : Nat) := by
  have hab : a ≤ b := by exact_mod_cast hx.le
  have hcd : c ≤ d := by exact_mod_cast hy.le
  obtain ⟨f1, f2, f3, f4⟩ := quo_facts hab hcd hc hbc
  exact n_divPQ hx hy hc hcd f1 f2 f3 f4
theorem n_div_neg {x y a b c d : Nat} (hx : In x (-(b : Int)) (-(a : Int))) (hy : In y c d) (hc : 0 < c) (hbc : b < c) : In (fdiv x y) (-((b * 1099511627776 / c + 1 : Nat) : Int)) (-((a * 1099511627776 / d : Nat) : Int)) := by
  have hab : a ≤ b := by have := hx.le; omega
  have hcd : c ≤ d := by exact_mod_cast hy.le
  obtain ⟨f1, f2, f3, f4⟩ := quo_facts hab hcd hc hbc
  exact n_divPQ_neg hx hy hc hcd f1 f2 f3 f4
theorem n_add {x y a b c d : Nat} (hx : In x a b) (hy : In y c d) (h : b + d < 9007199254740992) : In (fadd x y) (a + c : Nat) (b + d : Nat) := by
  have hab : a ≤ b := by exact_mod_cast hx.le
  have hcd : c ≤ d := by exact_mod_cast hy.le
  have := in_add hx hy (by omega) (by omega)
  push_cast at this ⊢
  exact this
theorem in_int (n : Nat) (h : n < 8192) : In (floatOfInt .f64 (n : Int)) (n * 1099511627776 : Nat) (n * 1099511627776 : Nat) := by
  have hf := fv_int .f64 (n : Int) (Nat.lt_of_lt_of_le (show (n : Int).natAbs < 8192 by omega) (by decide))
  have := ri_of_dv (dv_of_fv hf) 40
  refine ⟨hf.lt64, ?_⟩
  have e : ((n * 1099511627776 : Nat) : Int) = (n : Int) * ((2 ^ 40 : Nat) : Int) := Int.natCast_mul n 1099511627776
  rw [e]; exact this
theorem in_one : In 4607182418800017408 (1099511627776 : Nat) (1099511627776 : Nat) := by
  have := in_int 1 (by decide)
  have e : floatOfInt .f64 ((1 : Nat) : Int) = 4607182418800017408 := by kernel_rfl
  rw [e] at this
  exact this
/-- the series' inner part -/
theorem logS_in {u : Nat} (hu : In u (0 : Nat) (68719476736 : Nat)) : In (logS u 11) (219902325555 : Nat) (230897441832 : Nat) := by
  have step : ∀ j k lo hi : Nat, kO j = (k : Int) → 2 ≤ k → k < 100 → hi < 2199023255552 → In (logS u j) lo hi → In (logS u (j + 1)) (1099511627776 * 1099511627776 / (k * 1099511627776) : Nat) (1099511627776 * 1099511627776 / (k * 1099511627776) + 1 + (68719476736 * hi / 1099511627776 + 1) : Nat) := by
    intro j k lo hi hk h2 h3 hh h
    have hc := n_div in_one (in_int k (by omega)) (by omega) (by omega)
    rw [← hk] at hc
    have hm := n_mul hu h (by omega)
    have hq : 1099511627776 * 1099511627776 / (k * 1099511627776) ≤ 1099511627776 := by
      rw [Nat.mul_div_mul_right _ _ (by decide)]
      exact Nat.div_le_self _ _
    have := n_add hc hm (by omega)
    rw [Nat.zero_mul, Nat.zero_div, Nat.add_zero] at this
    exact this
  have s0 : In (logS u 0) (0 : Nat) (0 : Nat) := by
    have h0 := in_int 0 (by decide)
    have e : floatOfInt .f64 ((0 : Nat) : Int) = 0 := by kernel_rfl
    rw [e] at h0
    exact h0
  have s1 := step 0 25 _ _ rfl (by decide) (by decide) (by decide) s0
  have s2 := step 1 23 _ _ rfl (by decide) (by decide) (by decide) s1
  have s3 := step 2 21 _ _ rfl (by decide) (by decide) (by decide) s2
  have s4 := step 3 19 _ _ rfl (by decide) (by decide) (by decide) s3
  have s5 := step 4 17 _ _ rfl (by decide) (by decide) (by decide) s4
  have s6 := step 5 15 _ _ rfl (by decide) (by decide) (by decide) s5
  have s7 := step 6 13 _ _ rfl (by decide) (by decide) (by decide) s6
  have s8 := step 7 11 _ _ rfl (by decide) (by decide) (by decide) s7
  have s9 := step 8 9 _ _ rfl (by decide) (by decide) (by decide) s8
  have s10 := step 9 7 _ _ rfl (by decide) (by decide) (by decide) s9
  have s11 := step 10 5 _ _ rfl (by decide) (by decide) (by decide) s10
  exact s11.mono (by decide) (by decide)

/-- bounds read off a double's bits -/
def chkIn (x : Nat) (lo hi : Int) : Bool := decide (x < 18446744073709551616) && match double.read x with
  | .number s m e => decide (lo * ((2 ^ e.natAbs : Nat) : Int) ≤ signed s m (e + (e.natAbs : Nat)).toNat * ((2 ^ 40 : Nat) : Int)) && decide (signed s m (e + (e.natAbs : Nat)).toNat * ((2 ^ 40 : Nat) : Int) ≤ hi * ((2 ^ e.natAbs : Nat) : Int))
  | _ => false
theorem in_bits {x : Nat} {lo hi : Int} (h : chkIn x lo hi = true) : In x lo hi := by
  unfold chkIn at h
  rw [Bool.and_eq_true, decide_eq_true_eq] at h
  obtain ⟨h1, h2⟩ := h
  cases hd : double.read x with
  | number s m e =>
    rw [hd] at h2
    simp only [Bool.and_eq_true, decide_eq_true_eq] at h2
    exact ⟨h1, s, m, e, e.natAbs, hd, by omega, h2.1, h2.2⟩
  | infinity s => rw [hd] at h2; cases h2
  | nan s f => rw [hd] at h2; cases h2
theorem in_two : In 4611686018427387904 (2199023255552 : Nat) (2199023255552 : Nat) := in_bits (by kernel_rfl)
theorem in_half : In 4602678819172646912 (549755813888 : Nat) (549755813888 : Nat) := in_bits (by kernel_rfl)
theorem in_ln2 : In 4604418534313441775 (762123384785 : Nat) (762123384786 : Nat) := in_bits (by kernel_rfl)
theorem in_c43 : In 4631308968768463603 (47751183273157 : Nat) (47751183273158 : Nat) := in_bits (by kernel_rfl)
theorem in_third : In (fdiv 4607182418800017408 (floatOfInt .f64 (kO 11))) (366503875925 : Nat) (366503875926 : Nat) := in_bits (by kernel_rfl)
theorem in_first : In (fdiv 4607182418800017408 (floatOfInt .f64 (kO 12))) (1099511627776 : Nat) (1099511627776 : Nat) := in_bits (by kernel_rfl)
/-- twice s (1 + u (1/3 + u ..)), between bounds -/
def coreU (s1 s2 : Nat) : Nat × Nat := (s1 * s1 / 1099511627776, s2 * s2 / 1099511627776 + 1)
def coreQ (u1 u2 : Nat) : Nat × Nat := (366503875925 + u1 * 219902325555 / 1099511627776, 366503875926 + (u2 * 230897441832 / 1099511627776 + 1))
def coreP (u1 u2 q1 q2 : Nat) : Nat × Nat := (1099511627776 + u1 * q1 / 1099511627776, 1099511627776 + (u2 * q2 / 1099511627776 + 1))
def coreM (s1 s2 p1 p2 : Nat) : Nat × Nat := (s1 * p1 / 1099511627776, s2 * p2 / 1099511627776 + 1)
theorem core_q {u u1 u2 : Nat} (hu : In u u1 u2) (h : u2 ≤ 68719476736) (hp : (coreP u1 u2 (coreQ u1 u2).1 (coreQ u1 u2).2).2 ≤ 2199023255552) :
    In (logS u 13) (coreP u1 u2 (coreQ u1 u2).1 (coreQ u1 u2).2).1 (coreP u1 u2 (coreQ u1 u2).1 (coreQ u1 u2).2).2 := by
  have h11 := logS_in (hu.mono (by omega) (by omega))
  have h12 : In (logS u 12) (coreQ u1 u2).1 (coreQ u1 u2).2 := n_add in_third (n_mul hu h11 (by omega)) (by omega)
  unfold coreP at hp ⊢
  generalize (coreQ u1 u2).1 = q1 at *
  generalize (coreQ u1 u2).2 = q2 at *
  exact n_add in_first (n_mul hu h12 (by omega)) (by omega)
theorem core_pos {s s1 s2 : Nat} (hs : In s s1 s2) (hu : (coreU s1 s2).2 ≤ 68719476736) (hp : (coreP (coreU s1 s2).1 (coreU s1 s2).2 (coreQ (coreU s1 s2).1 (coreU s1 s2).2).1 (coreQ (coreU s1 s2).1 (coreU s1 s2).2).2).2 ≤ 2199023255552) {p1 p2 : Nat}
    (e1 : (coreP (coreU s1 s2).1 (coreU s1 s2).2 (coreQ (coreU s1 s2).1 (coreU s1 s2).2).1 (coreQ (coreU s1 s2).1 (coreU s1 s2).2).2).1 = p1) (e2 : (coreP (coreU s1 s2).1 (coreU s1 s2).2 (coreQ (coreU s1 s2).1 (coreU s1 s2).2).1 (coreQ (coreU s1 s2).1 (coreU s1 s2).2).2).2 = p2)
    (hm : (coreM s1 s2 p1 p2).2 ≤ 274877906944) : In (fmul 4611686018427387904 (fmul s (logS (fmul s s) 13))) (2 * (coreM s1 s2 p1 p2).1 : Nat) (2 * (coreM s1 s2 p1 p2).2 + 1 : Nat) := by
  have h1 : In (fmul s s) (coreU s1 s2).1 (coreU s1 s2).2 := n_mul hs hs (by unfold coreU at hu; simp only at hu; omega)
  have h2 := core_q h1 hu hp
  rw [e1, e2] at h2
  have h3 : In (fmul s (logS (fmul s s) 13)) (coreM s1 s2 p1 p2).1 (coreM s1 s2 p1 p2).2 := n_mul hs h2 (by unfold coreM at hm; simp only at hm; omega)
  generalize (coreM s1 s2 p1 p2).1 = m1 at *
  generalize (coreM s1 s2 p1 p2).2 = m2 at *
  exact (n_mul in_two h3 (by omega)).mono (by omega) (by omega)
theorem core_neg {s s1 s2 : Nat} (hs : In s (-(s2 : Int)) (-(s1 : Int))) (hu : (coreU s1 s2).2 ≤ 68719476736) (hp : (coreP (coreU s1 s2).1 (coreU s1 s2).2 (coreQ (coreU s1 s2).1 (coreU s1 s2).2).1 (coreQ (coreU s1 s2).1 (coreU s1 s2).2).2).2 ≤ 2199023255552) {p1 p2 : Nat}
    (e1 : (coreP (coreU s1 s2).1 (coreU s1 s2).2 (coreQ (coreU s1 s2).1 (coreU s1 s2).2).1 (coreQ (coreU s1 s2).1 (coreU s1 s2).2).2).1 = p1) (e2 : (coreP (coreU s1 s2).1 (coreU s1 s2).2 (coreQ (coreU s1 s2).1 (coreU s1 s2).2).1 (coreQ (coreU s1 s2).1 (coreU s1 s2).2).2).2 = p2)
    (hm : (coreM s1 s2 p1 p2).2 ≤ 274877906944) : In (fmul 4611686018427387904 (fmul s (logS (fmul s s) 13))) (-((2 * (coreM s1 s2 p1 p2).2 + 1 : Nat) : Int)) (-((2 * (coreM s1 s2 p1 p2).1 : Nat) : Int)) := by
  have h1 : In (fmul s s) (coreU s1 s2).1 (coreU s1 s2).2 := n_sq_neg hs (by unfold coreU at hu; simp only at hu; omega)
  have h2 := core_q h1 hu hp
  rw [e1, e2] at h2
  have h3 : In (fmul s (logS (fmul s s) 13)) (-((coreM s1 s2 p1 p2).2 : Int)) (-((coreM s1 s2 p1 p2).1 : Int)) := n_mul_neg hs h2 (by unfold coreM at hm; simp only at hm; omega)
  generalize (coreM s1 s2 p1 p2).1 = m1 at *
  generalize (coreM s1 s2 p1 p2).2 = m2 at *
  have hle := h3.le
  refine in_mul in_two h3 ?_ ?_ ?_ ?_ ?_ ?_ ?_ ?_ (by omega) (by omega) <;> omega
theorem in_intZ (n : Int) (h : n.natAbs < 8192) : In (floatOfInt .f64 n) (n * 1099511627776) (n * 1099511627776) := by
  have hf := fv_int .f64 n (Nat.lt_of_lt_of_le h (by decide))
  exact ⟨hf.lt64, ri_of_dv (dv_of_fv hf) 40⟩
/-- e times ln 2 -/
theorem e_ln2 (e : Int) (h : e.natAbs ≤ 12) : In (fmul (floatOfInt .f64 e) 4604418534313441775) (if 0 ≤ e then e * 762123384785 else e * 762123384786) (if 0 ≤ e then e * 762123384786 else e * 762123384785) := by
  have h1 := in_intZ e (by omega)
  by_cases c : 0 ≤ e
  · rw [if_pos c, if_pos c]
    refine in_mul h1 in_ln2 ?_ ?_ ?_ ?_ ?_ ?_ ?_ ?_ (by omega) (by omega) <;> omega
  · rw [if_neg c, if_neg c]
    refine in_mul h1 in_ln2 ?_ ?_ ?_ ?_ ?_ ?_ ?_ ?_ (by omega) (by omega) <;> omega
/-- the last steps -/
theorem last_in {x : Nat} {a b : Nat} (hx : In x ((a : Int) - 5497558138880) ((b : Int) - 5497558138880)) (ha : a ≤ 17592186044416) (hb : b ≤ 17592186044416) :
    In (fadd (fmul x 4631308968768463603) 4602678819172646912) ((a * 47751183273157 / 1099511627776 : Nat) - 5 * 47751183273158 + 549755813888 : Int) ((b * 47751183273158 / 1099511627776 + 1 : Nat) - 5 * 47751183273157 + 549755813888 : Int) := by
  have hab := hx.le
  have h1 : In (fmul x 4631308968768463603) ((a * 47751183273157 / 1099511627776 : Nat) - 5 * 47751183273158 : Int) ((b * 47751183273158 / 1099511627776 + 1 : Nat) - 5 * 47751183273157 : Int) := by
    refine in_mul hx in_c43 ?_ ?_ ?_ ?_ ?_ ?_ ?_ ?_ (by omega) (by omega) <;> omega
  have h2 := in_add h1 in_half (by omega) (by omega)
  exact h2

end Go.Proofs.Ytiabbafmjgiobaa.Fl
