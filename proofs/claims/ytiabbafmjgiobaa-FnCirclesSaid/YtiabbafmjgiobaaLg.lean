/-
Plain laws on doubles for the logarithm: halving and doubling are exact, the series' bounds, whole parts.
-/
import Derived.Test.YtiabbafmjgiobaaFt
namespace Go.Proofs.Ytiabbafmjgiobaa.Fl
open Go Ieee

theorem sig_normal {r : Nat} (h : 4503599627370496 ≤ r) : sig double (r + 4503599627370496) = sig double r ∧ exq double (r + 4503599627370496) = exq double r + 1 := by
  have eb : double.binade = 4503599627370496 := rfl
  unfold sig exq
  rw [eb, if_neg (by omega), if_neg (by omega), if_neg (by omega), if_neg (by omega)]
  omega
theorem un_dbl {r : Nat} (h : 4503599627370496 ≤ r) : un double (r + 4503599627370496) = 2 * un double r := by
  obtain ⟨h1, h2⟩ := sig_normal h
  unfold un
  rw [h1, h2, Nat.pow_succ, ← Nat.mul_assoc, Nat.mul_comm _ 2]

theorem read_two : double.read 4611686018427387904 = .number false 4503599627370496 (-51) := rfl

theorem mul52 (z : Nat) : z * 4503599627370496 = 2 * z * 2 ^ 51 := by omega
theorem dbl {r : Nat} (h : 4503599627370496 ≤ r) (h2 : r + 4503599627370496 < double.infRung) : fmul (double.word false r) 4611686018427387904 = double.word false (r + 4503599627370496) := by
  obtain ⟨M, hM, hp⟩ : ∃ M, sig double r * 4503599627370496 = M ∧ (double.read (double.word false r)).product (double.read 4611686018427387904) = some (.number false M (double.leastPlace + (exq double r : Nat) + -51)) := by
    rw [read_word double false r (by omega), read_two]
    exact ⟨_, rfl, rfl⟩
  have hx := nearest_exact double false M (double.leastPlace + (exq double r : Nat) + -51) (r + 4503599627370496) h2 (x := exq double r) (y := 51) (by omega) (by
    have e : M * 2 ^ exq double r = un double r * 4503599627370496 := by
      rw [← hM]; unfold un; exact Nat.mul_right_comm _ _ _
    rw [un_dbl h, e]
    exact mul52 _)
  clear hM
  show ((((double.read (double.word false r)).product (double.read 4611686018427387904)).map double.write).getD 0) = _
  rw [hp]; exact hx

theorem log2_sig {r : Nat} (h : 4503599627370496 ≤ r) : (sig double r).log2 = 52 := by
  have eb : double.binade = 4503599627370496 := rfl
  have h1 : 2 ^ 52 ≤ sig double r := by unfold sig; rw [eb, if_neg (by omega)]; omega
  have h2 : sig double r < 2 ^ 53 := by
    have := sig_lt double r
    rw [eb] at this; omega
  have h0 : sig double r ≠ 0 := by omega
  have a1 := (Nat.le_log2 h0).2 h1
  have a2 := (Nat.log2_lt h0).2 h2
  omega

theorem halve {r : Nat} (h : 9007199254740992 ≤ r) (hr : r < double.infRung) : fdiv (double.word false r) 4611686018427387904 = double.word false (r - 4503599627370496) := by
  have hl := log2_sig (r := r) (by omega)
  have hp : (double.read (double.word false r)).quotient 54 (double.read 4611686018427387904) = some (.number false (8 * sig double r) (double.leastPlace + (exq double r : Nat) - -51 - 54 - 1)) := by
    rw [read_word double false r hr, read_two]
    unfold Datum.quotient
    simp only []
    rw [if_neg (by decide), hl]
    have e1 : 54 + Nat.log2 4503599627370496 - 52 = 54 := by decide
    rw [e1, Nat.shiftLeft_eq]
    have e2 : sig double r * 2 ^ 54 / 4503599627370496 = 4 * sig double r := by omega
    have e3 : sig double r * 2 ^ 54 % 4503599627370496 = 0 := by omega
    rw [e2, e3]
    have e4 : 2 * (4 * sig double r) + ((0 : Nat) != 0).toNat = 8 * sig double r := by
      have : ((0 : Nat) != 0).toNat = 0 := rfl
      omega
    rw [e4]; rfl
  have hq : 1 ≤ exq double r := by
    have eb : double.binade = 4503599627370496 := rfl
    unfold exq
    rw [eb, if_neg (by omega)]; omega
  have hu := un_dbl (r := r - 4503599627370496) (by omega)
  rw [Nat.sub_add_cancel (by omega : 4503599627370496 ≤ r)] at hu
  have hx := nearest_exact double false (8 * sig double r) (double.leastPlace + (exq double r : Nat) - -51 - 54 - 1) (r - 4503599627370496) (by omega) (x := exq double r) (y := 4) (by omega) (by
    have e : 8 * sig double r * 2 ^ exq double r = 8 * un double r := by unfold un; rw [Nat.mul_assoc]
    rw [e, hu]
    generalize un double (r - 4503599627370496) = z
    omega)
  show ((((double.read (double.word false r)).quotient 54 (double.read 4611686018427387904)).map double.write).getD 0) = _
  rw [hp]; exact hx

/-- a difference of two that are not negative is at most .. -/
theorem sub_le {r c d : Nat} (hr : r < double.infRung) (hc : c < double.infRung) (hd : d < double.infRung) (h1 : un double r ≤ un double c + un double d) (h2 : un double c ≤ un double r + un double d) :
    ∃ s r', r' ≤ d ∧ fsub (double.word false r) (double.word false c) = double.word s r' := by
  have hs : ∃ p, (double.read (double.word false r)).sum (double.read (double.word false c)).opposite = some p ∧ ∃ s r', r' ≤ d ∧ double.write p = double.word s r' := by
    rw [read_word double false r hr, read_word double false c hc]
    refine ⟨_, rfl, ?_⟩
    generalize hb : min (exq double r) (exq double c) = b
    have e1 : (double.leastPlace + (exq double r : Nat) - min (double.leastPlace + (exq double r : Nat)) (double.leastPlace + (exq double c : Nat))).toNat = exq double r - b := by omega
    have e2 : (double.leastPlace + (exq double c : Nat) - min (double.leastPlace + (exq double r : Nat)) (double.leastPlace + (exq double c : Nat))).toNat = exq double c - b := by omega
    have e3 : min (double.leastPlace + ((exq double r : Nat) : Int)) (double.leastPlace + ((exq double c : Nat) : Int)) = double.leastPlace + (b : Int) := by omega
    rw [e1, e2, e3]
    have u1 : un double r = sig double r * 2 ^ (exq double r - b) * 2 ^ b := by unfold un; rw [Nat.mul_assoc, ← Nat.pow_add]; congr 2; omega
    have u2 : un double c = sig double c * 2 ^ (exq double c - b) * 2 ^ b := by unfold un; rw [Nat.mul_assoc, ← Nat.pow_add]; congr 2; omega
    rw [u1, u2] at h1 h2
    have d1 : signed false (sig double r) (exq double r - b) = ((sig double r * 2 ^ (exq double r - b) : Nat) : Int) := by unfold signed; rw [Nat.shiftLeft_eq]; rfl
    have d2 : signed (!false) (sig double c) (exq double c - b) = -((sig double c * 2 ^ (exq double c - b) : Nat) : Int) := by unfold signed; rw [Nat.shiftLeft_eq]; rfl
    rw [d1, d2]
    generalize sig double r * 2 ^ (exq double r - b) = X at *
    generalize sig double c * 2 ^ (exq double c - b) = Y at *
    generalize (if (X : Int) + -(Y : Int) = 0 then false && !false else decide ((X : Int) + -(Y : Int) < 0)) = s
    have e5 : ((X : Int) + -(Y : Int)).natAbs = (X - Y) + (Y - X) := by omega
    rw [e5]
    obtain ⟨r', h5, h6⟩ := nearest_mono_le double s (X - Y + (Y - X)) (double.leastPlace + (b : Int)) d hd (x := b) (y := 0) (by omega) (by
      rw [Nat.pow_zero, Nat.mul_one, Nat.add_mul, Nat.sub_mul, Nat.sub_mul]
      omega)
    exact ⟨s, r', h5, h6⟩
  obtain ⟨p, hp, s, r', h2', h3⟩ := hs
  refine ⟨s, r', h2', ?_⟩
  show ((((double.read (double.word false r)).sum (double.read (double.word false c)).opposite).map double.write).getD 0) = _
  rw [hp]; exact h3

/-- what is written of a number of at least '2 ^ n' -/
theorem ge2_write {p : Datum} {n N : Int} (h : Pos2 p n) (hn : -1074 ≤ n) (hb : Bd (double.write p) N) : Ge2 (double.read (double.write p)) n := by
  obtain ⟨m, e, j, rfl, hm, hj⟩ := h
  have h0 : un double 0 = 0 := un_small double (by decide)
  obtain ⟨r, _, h2, h3⟩ := nearest_mono_ge double false m e 0 (by decide) (x := (e - double.leastPlace).toNat) (y := (double.leastPlace - e).toNat) (by omega) (by rw [h0]; omega)
  have hw : double.write (.number false m e) = double.word false r := h3
  have hri : r < double.infRung := by
    rcases Nat.lt_or_eq_of_le h2 with h4 | h4
    · exact h4
    · exfalso
      subst h4
      rw [hw] at hb
      obtain ⟨s', m', e', hd⟩ := hb.fin
      rw [read_inf double false (by decide)] at hd
      cases hd
  have hg := nearest_ge double false m e n j r hm hj hn h3 hri
  rw [hw, read_word double false r hri]
  have elp : double.leastPlace = -1074 := rfl
  by_cases hc : exq double r ≤ (n - double.leastPlace).toNat
  · refine ⟨_, _, _, (n - double.leastPlace).toNat - exq double r, rfl, ?_, by omega⟩
    have e : 2 ^ (n - double.leastPlace).toNat = 2 ^ ((n - double.leastPlace).toNat - exq double r) * 2 ^ exq double r := by rw [← Nat.pow_add]; congr 1; omega
    rw [e] at hg
    exact Nat.le_of_mul_le_mul_right hg (Nat.two_pow_pos _)
  · refine ⟨_, _, _, 0, rfl, ?_, by omega⟩
    have := Nat.two_pow_pos (n - double.leastPlace).toNat
    rcases Nat.eq_zero_or_pos (sig double r) with hz | hz
    · rw [hz, Nat.zero_mul] at hg; omega
    · exact hz

/-- a sum with a number of at least '2 ^ n', both not negative -/
theorem ge2_add {x y : Nat} {n N : Int} (hx : Pos2 (double.read x) n) (hy : ∃ m e, double.read y = .number false m e) (hn : -1074 ≤ n) (hb : Bd (fadd x y) N) : Ge2 (double.read (fadd x y)) n := by
  obtain ⟨p, hp, hpos⟩ := pos2_sum hx hy
  have e : fadd x y = double.write p := by
    show ((((double.read x).sum (double.read y)).map double.write).getD 0) = _
    rw [hp]; rfl
  rw [e] at hb ⊢
  exact ge2_write hpos hn hb

/-! whole parts -/
def floorN (x : Nat) : Nat := FloatKind.f64.encode ((FloatKind.f64.decode x).integral .down)
theorem cut_down (neg : Bool) (n drop : Nat) : Toward.down.cut neg n drop ≤ n / 2 ^ drop + 1 := by
  have h := cut_zero neg n drop
  unfold Toward.cut at h ⊢
  simp only [Bool.toNat_false, Nat.add_zero] at h
  simp only []
  rw [h]
  have := Bool.toNat_le (neg && (n % 1 <<< min drop (n.log2 + 2) != 0))
  omega
theorem floor_bd {x : Nat} {n : Int} (h : Bd x n) (h0 : 0 ≤ n) (h1 : n + 1 < 1024) : Bd (floorN x) (n + 1) := by
  obtain ⟨_, s, m, e, j, hd, hm, he⟩ := h
  have hi : Le2 ((FloatKind.f64.decode x).integral .down) (n + 1) := by
    show Le2 ((double.read x).integral .down) (n + 1)
    rw [hd]
    show Le2 (.number s (Toward.down.cut s (m <<< e.toNat) (-e).toNat) 0) (n + 1)
    refine ⟨_, _, _, n.toNat + 1, rfl, ?_, by omega⟩
    have hc := cut_down s (m <<< e.toNat) (-e).toNat
    have hle : m <<< e.toNat / 2 ^ (-e).toNat ≤ 2 ^ n.toNat := by
      refine Nat.div_le_of_le_mul ?_
      rw [Nat.shiftLeft_eq]
      have a1 : m * 2 ^ e.toNat ≤ 2 ^ (j + e.toNat) := by rw [Nat.pow_add]; exact Nat.mul_le_mul_right _ hm
      have a2 : 2 ^ (j + e.toNat) ≤ 2 ^ ((-e).toNat + n.toNat) := Nat.pow_le_pow_right (by omega) (by omega)
      rw [Nat.pow_add 2 _ n.toNat] at a2
      exact Nat.le_trans a1 a2
    have hp := Nat.two_pow_pos n.toNat
    rw [Nat.pow_succ]; omega
  exact write_bd hi (by omega) h1

/-! the counter of the powers of two -/
theorem e_up {j : Nat} (h : j < 130) : fadd (floatOfInt .f64 (j : Int)) 4607182418800017408 = floatOfInt .f64 ((j : Int) + 1) := by
  have hall : (List.range 130).all (fun j => decide (fadd (floatOfInt .f64 (j : Int)) 4607182418800017408 = floatOfInt .f64 ((j : Int) + 1))) = true := by kernel_rfl
  have := List.all_eq_true.1 hall j (List.mem_range.2 h)
  exact of_decide_eq_true this
theorem e_down {j : Nat} (h : j < 160) : fsub (floatOfInt .f64 (-(j : Int))) 4607182418800017408 = floatOfInt .f64 (-(j : Int) - 1) := by
  have hall : (List.range 160).all (fun j => decide (fsub (floatOfInt .f64 (-(j : Int))) 4607182418800017408 = floatOfInt .f64 (-(j : Int) - 1))) = true := by kernel_rfl
  have := List.all_eq_true.1 hall j (List.mem_range.2 h)
  exact of_decide_eq_true this
theorem int_bd {t : Int} {n : Nat} (h : t.natAbs ≤ 2 ^ n) (hn : n ≤ 52) : Bd (floatOfInt .f64 t) n := by
  have h52 : (2 : Nat) ^ n ≤ 2 ^ 52 := Nat.pow_le_pow_right (by omega) hn
  obtain ⟨r, h1, h2, h3⟩ := int_read (t := t) (by omega)
  rw [h3]
  refine bd_word _ h1 (by omega) ?_
  rw [h2]
  have e : ((n : Int) + 1074).toNat = n + 1074 := by omega
  rw [e, Nat.pow_add]
  exact Nat.mul_le_mul_right _ h

/-! the series -/
def kO (j : Nat) : Int := 25 - 2 * (j : Int)
def logS (u : Nat) : Nat → Nat
  | 0 => 0
  | j + 1 => fadd (fdiv 4607182418800017408 (floatOfInt .f64 (kO j))) (fmul u (logS u j))
theorem kO_ge (j : Nat) (h : j < 13) : Ge2 (double.read (floatOfInt .f64 (kO j))) 0 := by
  have : j = 0 ∨ j = 1 ∨ j = 2 ∨ j = 3 ∨ j = 4 ∨ j = 5 ∨ j = 6 ∨ j = 7 ∨ j = 8 ∨ j = 9 ∨ j = 10 ∨ j = 11 ∨ j = 12 := by omega
  rcases this with rfl | rfl | rfl | rfl | rfl | rfl | rfl | rfl | rfl | rfl | rfl | rfl | rfl <;> exact ⟨_, _, _, 52, rfl, by decide, by decide⟩
theorem logS_bd {u : Nat} (hu : Bd u 2) : ∀ j : Nat, j ≤ 13 → Bd (logS u j) (3 * j) := by
  intro j
  induction j with
  | zero => intro _; exact bd_zero
  | succ j ih =>
    intro hj
    have h1 := ih (by omega)
    have h2 : Bd (fmul u (logS u j)) (2 + 3 * j) := bd_mul hu h1
    have h3 : Bd (fdiv 4607182418800017408 (floatOfInt .f64 (kO j))) (0 - 0) := bd_div bd_one (kO_ge j (by omega))
    have h4 : Bd (logS u (j + 1)) (2 + 3 * j + 1) := bd_add (h3.mono (by omega)) h2
    exact h4.mono (by omega)
theorem logS_facts {u : Nat} (hu : Bd u 2) (j : Nat) (hj : j < 13) : Fnt (logS u j) ∧ Fnt (fmul u (logS u j)) ∧ NZ (floatOfInt .f64 (kO j)) ∧ Fnt (fdiv 4607182418800017408 (floatOfInt .f64 (kO j))) := by
  have h1 := logS_bd hu j (by omega)
  have h2 : Bd (fmul u (logS u j)) (2 + 3 * j) := bd_mul hu h1
  have h3 : Bd (fdiv 4607182418800017408 (floatOfInt .f64 (kO j))) (0 - 0) := bd_div bd_one (kO_ge j hj)
  exact ⟨h1.fin, h2.fin, ge2_nz (kO_ge j hj), h3.fin⟩

/-- the logarithm of a number between 3/4 and 3/2, and 'e' powers of two -/
def lgS (y : Nat) : Nat := fdiv (fsub y 4607182418800017408) (fadd y 4607182418800017408)
def logN (y : Nat) (e : Int) : Nat := fadd (fmul 4611686018427387904 (fmul (lgS y) (logS (fmul (lgS y) (lgS y)) 13))) (fmul (floatOfInt .f64 e) 4604418534313441775)
def tenN (y : Nat) (e : Int) : Nat := fadd (fmul (logN y e) 4631308968768463603) 4602678819172646912

theorem bd_two : Bd 4611686018427387904 1 := ⟨by decide, _, _, _, 52, rfl, by decide, by decide⟩
theorem bd_ln2 : Bd 4604418534313441775 0 := ⟨by decide, _, _, _, 53, rfl, by decide, by decide⟩
theorem bd_43 : Bd 4631308968768463603 6 := ⟨by decide, _, _, _, 53, rfl, by decide, by decide⟩
theorem un_two : un double 4611686018427387904 = 2 * un double 4607182418800017408 := un_dbl (r := 4607182418800017408) (by decide)

/-- all that a walk asks of a number between 3/4 and 3/2 -/
structure LogOK (y : Nat) (e : Int) : Prop where
  a : Fnt (fsub y 4607182418800017408)
  b : NZ (fadd y 4607182418800017408)
  s : Fnt (lgS y)
  u : Bd (fmul (lgS y) (lgS y)) 2
  q : Fnt (logS (fmul (lgS y) (lgS y)) 13)
  sq : Fnt (fmul (lgS y) (logS (fmul (lgS y) (lgS y)) 13))
  t : Fnt (fmul 4611686018427387904 (fmul (lgS y) (logS (fmul (lgS y) (lgS y)) 13)))
  ee : Fnt (floatOfInt .f64 e)
  l : Fnt (fmul (floatOfInt .f64 e) 4604418534313441775)
  n : Bd (logN y e) 42
  m : Fnt (fmul (logN y e) 4631308968768463603)
  x : Bd (tenN y e) 49
theorem log_ok {r : Nat} {e : Int} (h1 : 4604930618986332160 ≤ r) (h2 : r < 4609434218613702656) (he : e.natAbs ≤ 256) : LogOK (double.word false r) e := by
  have hr : r < double.infRung := Nat.lt_trans h2 (by decide)
  have hu1 := (un_le_iff double _ _).2 (Nat.le_of_lt h2)
  have hu2 : un double 4609434218613702656 ≤ un double 4611686018427387904 := (un_le_iff double _ _).2 (by decide)
  have ht := un_two
  obtain ⟨s', r', h3, h4⟩ := sub_le (c := 4607182418800017408) (d := 4607182418800017408) hr (by decide) (by decide) (by omega) (by omega)
  have ha : Bd (fsub (double.word false r) 4607182418800017408) 0 := by
    have h5 : fsub (double.word false r) 4607182418800017408 = double.word s' r' := h4
    rw [h5]; exact bd_rung h3
  have hy : Bd (double.word false r) 1 := by
    refine bd_word false hr (by omega) ?_
    have e1 : un double 4611686018427387904 = 2 ^ ((1 : Int) + 1074).toNat := by
      have s1 : sig double 4611686018427387904 = 2 ^ 52 := rfl
      have s2 : exq double 4611686018427387904 = 1023 := rfl
      unfold un; rw [s1, s2]; exact pow_sum 52 1023 _ rfl
    rw [← e1]; omega
  have hb0 : Bd (fadd (double.word false r) 4607182418800017408) (1 + 1) := bd_add hy (bd_one.mono (by omega))
  have hpos : Pos2 (double.read (double.word false r)) (-1) := by
    have eb : double.binade = 4503599627370496 := rfl
    rw [read_word double false r hr]
    refine ⟨_, _, 52, rfl, ?_, ?_⟩
    · unfold sig; rw [eb, if_neg (by omega)]; omega
    · have elp : double.leastPlace = -1074 := rfl
      rw [elp]
      unfold exq; rw [eb, if_neg (by omega)]; omega
  have hb : Ge2 (double.read (fadd (double.word false r) 4607182418800017408)) (-1) := ge2_add hpos ⟨_, _, rfl⟩ (by omega) hb0
  have hs : Bd (lgS (double.word false r)) (0 - -1) := bd_div ha hb
  have hu : Bd (fmul (lgS (double.word false r)) (lgS (double.word false r))) (0 - -1 + (0 - -1)) := bd_mul hs hs
  have hu' := (hu.mono (by omega) : Bd (fmul (lgS (double.word false r)) (lgS (double.word false r))) 2)
  have hq := logS_bd hu' 13 (by omega)
  have hsq := bd_mul hs hq
  have htt := bd_mul bd_two hsq
  have hee : Bd (floatOfInt .f64 e) ((8 : Nat) : Int) := int_bd (n := 8) he (by omega)
  have hl := bd_mul hee bd_ln2
  have hn : Bd (logN (double.word false r) e) (41 + 1) := bd_add (htt.mono (by omega)) (hl.mono (by omega))
  have hn' := (hn.mono (by omega) : Bd (logN (double.word false r) e) 42)
  have hm := bd_mul hn' bd_43
  have hx : Bd (tenN (double.word false r) e) (42 + 6 + 1) := bd_add hm (bd_half.mono (by omega))
  exact ⟨ha.fin, ge2_nz hb, hs.fin, hu', hq.fin, hsq.fin, htt.fin, hee.fin, hl.fin, hn', hm.fin, hx.mono (by omega)⟩

theorem ge15 {r : Nat} (hr : r < double.infRung) : ((FloatKind.f64.format.order (double.word false r) 4609434218613702656 == some .gt) || (FloatKind.f64.format.order (double.word false r) 4609434218613702656 == some .eq)) = decide (4609434218613702656 ≤ r) := by
  rw [ge_word false hr (by decide)]
  congr 1
  exact propext ((sun_ge (by decide)).trans ⟨fun h => h.2, fun h => ⟨rfl, h⟩⟩)
theorem lt75 {r : Nat} (hr : r < double.infRung) : (FloatKind.f64.format.order (double.word false r) 4604930618986332160 == some .lt) = decide (r < 4604930618986332160) := by
  rw [lt_word false hr (by decide)]
  congr 1
  have h : (un double 4604930618986332160 : Int) ≤ sun false r ↔ false = false ∧ 4604930618986332160 ≤ r := sun_ge (by decide)
  refine propext ⟨fun h1 => ?_, fun h1 => ?_⟩
  · refine Nat.lt_of_not_le fun h2 => ?_
    have := h.2 ⟨rfl, h2⟩
    omega
  · refine Int.not_le.1 fun h2 => ?_
    have := (h.1 h2).2
    omega
end Go.Proofs.Ytiabbafmjgiobaa.Fl
