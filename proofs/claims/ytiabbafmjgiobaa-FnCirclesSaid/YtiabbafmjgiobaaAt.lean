/-
Plain laws on doubles for the angle: roots, quotients that are at most 1, the series' bounds.
-/
import Derived.Test.YtiabbafmjgiobaaLg
namespace Go.Proofs.Ytiabbafmjgiobaa.Fl
open Go Ieee

/-- a number that is not negative is written so -/
theorem pos_write {p : Datum} {N : Int} (h : ∃ m e, p = .number false m e) (hb : Bd (double.write p) N) : ∃ r, r < double.infRung ∧ double.write p = double.word false r := by
  obtain ⟨m, e, rfl⟩ := h
  have h0 : un double 0 = 0 := un_small double (by decide)
  obtain ⟨r, _, h2, h3⟩ := nearest_mono_ge double false m e 0 (by decide) (x := (e - double.leastPlace).toNat) (y := (double.leastPlace - e).toNat) (by omega) (by rw [h0]; omega)
  have hw : double.write (.number false m e) = double.word false r := h3
  rcases Nat.lt_or_eq_of_le h2 with h4 | h4
  · exact ⟨r, h4, hw⟩
  · exfalso
    subst h4
    rw [hw] at hb
    obtain ⟨s', m', e', hd⟩ := hb.fin
    rw [read_inf double false (by decide)] at hd
    cases hd
theorem pos_sum {d d' : Datum} (h : ∃ m e, d = .number false m e) (h' : ∃ m e, d' = .number false m e) : ∃ p, d.sum d' = some p ∧ ∃ m e, p = .number false m e := by
  obtain ⟨m, e, rfl⟩ := h
  obtain ⟨m', e', rfl⟩ := h'
  refine ⟨_, rfl, ?_⟩
  have s1 : signed false m (e - min e e').toNat = ((m * 2 ^ (e - min e e').toNat : Nat) : Int) := by unfold signed; rw [Nat.shiftLeft_eq]; rfl
  have s2 : signed false m' (e' - min e e').toNat = ((m' * 2 ^ (e' - min e e').toNat : Nat) : Int) := by unfold signed; rw [Nat.shiftLeft_eq]; rfl
  rw [s1, s2]
  generalize m * 2 ^ (e - min e e').toNat = a
  generalize m' * 2 ^ (e' - min e e').toNat = b
  have hs : (if (a : Int) + (b : Int) = 0 then false && false else decide ((a : Int) + (b : Int) < 0)) = false := by
    split
    · rfl
    · rw [decide_eq_false_iff_not]; omega
  rw [hs]
  exact ⟨_, _, rfl⟩
theorem add_pos {r c : Nat} {N : Int} (hr : r < double.infRung) (hc : c < double.infRung) (hb : Bd (fadd (double.word false r) (double.word false c)) N) : ∃ q, q < double.infRung ∧ fadd (double.word false r) (double.word false c) = double.word false q := by
  obtain ⟨p, hp, hf⟩ := pos_sum ⟨_, _, read_word double false r hr⟩ ⟨_, _, read_word double false c hc⟩
  have e : fadd (double.word false r) (double.word false c) = double.write p := by
    show ((((double.read (double.word false r)).sum (double.read (double.word false c))).map double.write).getD 0) = _
    rw [hp]; rfl
  rw [e] at hb ⊢
  exact pos_write hf hb
theorem square_pos {t : Nat} (h : Bd t 0) : ∃ q, q < double.infRung ∧ fmul t t = double.word false q := by
  have hb : Bd (fmul t t) (0 + 0) := bd_mul h h
  obtain ⟨s, m, e, hd⟩ := h.fin
  have e1 : fmul t t = double.write (.number (s ^^ s) (m * m) (e + e)) := by
    show ((((double.read t).product (double.read t)).map double.write).getD 0) = _
    rw [hd]; rfl
  rw [e1] at hb ⊢
  rw [Bool.xor_self] at hb ⊢
  exact pos_write ⟨_, _, rfl⟩ hb

def fsq (x : Nat) : Nat := (FloatKind.f64.format.sqrt x).getD 0
theorem pos_one : Pos2 (double.read 4607182418800017408) 0 := ⟨4503599627370496, -52, 52, rfl, by decide, by decide⟩
theorem one_word : (4607182418800017408 : Nat) = double.word false 4607182418800017408 := rfl

/-- what a walk asks of a halving of the angle -/
structure HalfOK (t : Nat) : Prop where
  tf : Bd t 0
  tt : Fnt (fmul t t)
  x : Fnt (fadd 4607182418800017408 (fmul t t))
  s : FloatKind.f64.format.sqrt (fadd 4607182418800017408 (fmul t t)) = some (fsq (fadd 4607182418800017408 (fmul t t)))
  fs : Fnt (fsq (fadd 4607182418800017408 (fmul t t)))
  nz : NZ (fadd 4607182418800017408 (fsq (fadd 4607182418800017408 (fmul t t))))
  n : Bd (fdiv t (fadd 4607182418800017408 (fsq (fadd 4607182418800017408 (fmul t t))))) 0
theorem half_ok {t : Nat} (h : Bd t 0) : HalfOK t := by
  have htt : Bd (fmul t t) (0 + 0) := bd_mul h h
  obtain ⟨q, hq, eq⟩ := square_pos h
  have hx : Bd (fadd 4607182418800017408 (fmul t t)) (0 + 1) := bd_add bd_one (htt.mono (by omega))
  have hxp : ∃ c, c < double.infRung ∧ fadd 4607182418800017408 (fmul t t) = double.word false c := by
    rw [eq] at hx ⊢
    exact add_pos (r := 4607182418800017408) (by decide) hq hx
  obtain ⟨c, hc, ec⟩ := hxp
  have hl : Le2 (double.read (fadd 4607182418800017408 (fmul t t))) 1 := hx.2
  have hroot : ∃ p, (double.read (fadd 4607182418800017408 (fmul t t))).root 54 = some p ∧ Le2 p 1 ∧ ∃ m' e', p = .number false m' e' := by
    rw [ec, read_word double false c hc] at hl ⊢
    refine le2_root 54 hl (by omega) ?_
    intro hm
    have h0 := sig_zero double hm
    subst h0
    decide
  obtain ⟨p, hp, hpl, hpp⟩ := hroot
  have hsq : FloatKind.f64.format.sqrt (fadd 4607182418800017408 (fmul t t)) = some (double.write p) := by
    show ((double.read (fadd 4607182418800017408 (fmul t t))).root 54).map double.write = _
    rw [hp]; rfl
  have hsb : Bd (double.write p) 1 := write_bd hpl (by omega) (by omega)
  obtain ⟨cs, hcs, ecs⟩ := pos_write hpp hsb
  have hfs : fsq (fadd 4607182418800017408 (fmul t t)) = double.write p := by unfold fsq; rw [hsq]; rfl
  have hd : Bd (fadd 4607182418800017408 (double.write p)) (1 + 1) := bd_add (bd_one.mono (by decide) : Bd 4607182418800017408 1) hsb
  have hg : Ge2 (double.read (fadd 4607182418800017408 (double.write p))) 0 := ge2_add pos_one ⟨_, _, by rw [ecs]; exact read_word double false cs hcs⟩ (by omega) hd
  have hn : Bd (fdiv t (fadd 4607182418800017408 (double.write p))) (0 - 0) := bd_div h hg
  rw [← hfs] at hsb hg hn hsq
  exact ⟨h, htt.fin, hx.fin, hsq, hsb.fin, ge2_nz hg, hn.mono (by omega)⟩

/-- a quotient that is at most 1 -/
theorem quot_one {r c : Nat} (hle : r ≤ c) (h0 : 0 < c) (hc : c < double.infRung) : Bd (fdiv (double.word false r) (double.word false c)) 0 ∧ NZ (double.word false c) := by
  have hr : r < double.infRung := Nat.lt_of_le_of_lt hle hc
  have hs0 : sig double c ≠ 0 := fun h => by have := sig_zero double h; omega
  have hu := (un_le_iff double _ _).2 hle
  refine ⟨?_, ⟨_, _, _, read_word double false c hc, hs0⟩⟩
  obtain ⟨p, hp, hl⟩ := le2_quotient_one 54 (s := false) (t := false) (m := sig double r) (y := sig double c) (i := double.leastPlace + (exq double r : Nat)) (j := double.leastPlace + (exq double c : Nat)) (B := double.leastPlace) hs0 (by omega) (by omega) (by
    intro hm
    have h1 := sig_zero double hm
    have h2 : exq double r = 0 := by rw [h1]; rfl
    omega) (by
    have e1 : (double.leastPlace + ((exq double r : Nat) : Int) - double.leastPlace).toNat = exq double r := by omega
    have e2 : (double.leastPlace + ((exq double c : Nat) : Int) - double.leastPlace).toNat = exq double c := by omega
    rw [e1, e2]; exact hu)
  have e : fdiv (double.word false r) (double.word false c) = double.write p := by
    show ((((double.read (double.word false r)).quotient 54 (double.read (double.word false c))).map double.write).getD 0) = _
    rw [read_word double false r hr, read_word double false c hc, hp]; rfl
  rw [e]; exact write_bd hl (by omega) (by omega)
/-- a quotient of two that are not both zero is some word -/
theorem quot_any {r c : Nat} (hr : r < double.infRung) (hc : c < double.infRung) (h : 0 < r ∨ 0 < c) : ∃ q, floatBits .quo .f64 (double.word false r) (double.word false c) = some q := by
  by_cases h0 : 0 < c
  · have hs0 : sig double c ≠ 0 := fun h => by have := sig_zero double h; omega
    exact ⟨_, div_ok ⟨_, _, _, read_word double false r hr⟩ ⟨_, _, _, read_word double false c hc, hs0⟩⟩
  · have hc0 : c = 0 := by omega
    subst hc0
    have hs0 : sig double r ≠ 0 := fun h => by have := sig_zero double h; omega
    have hz : sig double 0 = 0 := by decide
    refine ⟨double.write (.infinity (false ^^ false)), ?_⟩
    show ((double.read (double.word false r)).quotient 54 (double.read (double.word false 0))).map double.write = _
    rw [read_word double false r hr, read_word double false 0 hc]
    unfold Datum.quotient
    simp only []
    rw [if_pos hz, if_neg hs0]
    rfl

/-! the series -/
def kA (j : Nat) : Int := 15 - 2 * (j : Int)
def angS (u : Nat) : Nat → Nat
  | 0 => 0
  | j + 1 => fsub (fdiv 4607182418800017408 (floatOfInt .f64 (kA j))) (fmul u (angS u j))
theorem kA_ge (j : Nat) (h : j < 8) : Ge2 (double.read (floatOfInt .f64 (kA j))) 0 := by
  have : j = 0 ∨ j = 1 ∨ j = 2 ∨ j = 3 ∨ j = 4 ∨ j = 5 ∨ j = 6 ∨ j = 7 := by omega
  rcases this with rfl | rfl | rfl | rfl | rfl | rfl | rfl | rfl <;> exact ⟨_, _, _, 52, rfl, by decide, by decide⟩
theorem angS_bd {u : Nat} (hu : Bd u 0) : ∀ j : Nat, j ≤ 8 → Bd (angS u j) j := by
  intro j
  induction j with
  | zero => intro _; exact bd_zero
  | succ j ih =>
    intro hj
    have h1 := ih (by omega)
    have h2 : Bd (fmul u (angS u j)) (0 + j) := bd_mul hu h1
    have h3 : Bd (fdiv 4607182418800017408 (floatOfInt .f64 (kA j))) (0 - 0) := bd_div bd_one (kA_ge j (by omega))
    have h4 : Bd (angS u (j + 1)) (0 + j + 1) := bd_sub (h3.mono (by omega)) h2
    exact h4.mono (by omega)
theorem angS_facts {u : Nat} (hu : Bd u 0) (j : Nat) (hj : j < 8) : Fnt (angS u j) ∧ Fnt (fmul u (angS u j)) ∧ NZ (floatOfInt .f64 (kA j)) ∧ Fnt (fdiv 4607182418800017408 (floatOfInt .f64 (kA j))) := by
  have h1 := angS_bd hu j (by omega)
  have h2 : Bd (fmul u (angS u j)) (0 + j) := bd_mul hu h1
  have h3 : Bd (fdiv 4607182418800017408 (floatOfInt .f64 (kA j))) (0 - 0) := bd_div bd_one (kA_ge j hj)
  exact ⟨h1.fin, h2.fin, ge2_nz (kA_ge j hj), h3.fin⟩

theorem bd_eight : Bd 4620693217682128896 3 := ⟨by decide, _, _, _, 52, rfl, by decide, by decide⟩
theorem ge_turn : Ge2 (double.read 4618760256179416344) 2 := ⟨_, _, _, 52, rfl, by decide, by decide⟩
def ang0 (t : Nat) : Nat := fdiv (fmul 4620693217682128896 (fmul t (angS (fmul t t) 8))) 4618760256179416344
def ang1 (o : Bool) (a : Nat) : Nat := if o then fsub 4598175219545276416 a else a
def ang2 (o : Bool) (a : Nat) : Nat := if o then fsub 4602678819172646912 a else a
def ang3 (o : Bool) (a : Nat) : Nat := if o then Op.negFloat .f64 a else a
/-- all that a walk asks behind the halvings -/
structure AngOK (t : Nat) (o xn yn : Bool) : Prop where
  tf : Fnt t
  u : Bd (fmul t t) 0
  p : Fnt (angS (fmul t t) 8)
  tp : Fnt (fmul t (angS (fmul t t) 8))
  e : Fnt (fmul 4620693217682128896 (fmul t (angS (fmul t t) 8)))
  a0 : Fnt (ang0 t)
  a1 : Fnt (ang1 o (ang0 t))
  a2 : Fnt (ang2 xn (ang1 o (ang0 t)))
  a3 : Bd (ang3 yn (ang2 xn (ang1 o (ang0 t)))) 127
theorem ang_ok {t : Nat} (o xn yn : Bool) (h : Bd t 0) : AngOK t o xn yn := by
  have hu : Bd (fmul t t) (0 + 0) := bd_mul h h
  have hp := angS_bd hu 8 (by omega)
  have htp := bd_mul h hp
  have he := bd_mul bd_eight htp
  have h0 : Bd (ang0 t) (3 + (0 + ((8 : Nat) : Int)) - 2) := bd_div he ge_turn
  have h0' := (h0.mono (by omega) : Bd (ang0 t) 9)
  have h1 : Bd (ang1 o (ang0 t)) (9 + 1) := by
    unfold ang1
    split
    · exact bd_sub (bd_quarter.mono (by omega)) h0'
    · exact h0'.mono (by omega)
  have h2 : Bd (ang2 xn (ang1 o (ang0 t))) (9 + 1 + 1) := by
    unfold ang2
    split
    · exact bd_sub (bd_half.mono (by omega)) h1
    · exact h1.mono (by omega)
  have h3 : Bd (ang3 yn (ang2 xn (ang1 o (ang0 t)))) (9 + 1 + 1) := by
    unfold ang3
    split
    · exact bd_neg h2
    · exact h2
  exact ⟨h.fin, hu.mono (by omega), hp.fin, htp.fin, he.fin, h0.fin, h1.fin, h2.fin, h3.mono (by omega)⟩

/-- the halvings -/
def halfT (t : Nat) : Nat → Nat
  | 0 => t
  | j + 1 => fdiv (halfT t j) (fadd 4607182418800017408 (fsq (fadd 4607182418800017408 (fmul (halfT t j) (halfT t j)))))
theorem half_bd {t : Nat} (h : Bd t 0) : ∀ j, Bd (halfT t j) 0
  | 0 => h
  | j + 1 => (half_ok (half_bd h j)).n

/-- a float32 and the same as a double, against zero -/
theorem order_zero {x r' : Nat} (hx : x < 4294967296) (hf : x % single.signWeight < single.infRung) (h1 : r' < double.infRung) (h2 : un double r' = un single (x % single.signWeight) * 2 ^ 925) :
    (FloatKind.f64.format.order (double.word (decide (2147483648 ≤ x)) r') 0 == some .lt) = (FloatKind.f32.format.order x 0 == some .lt) ∧
    (FloatKind.f64.format.order (double.word (decide (2147483648 ≤ x)) r') 0 == some .eq) = (FloatKind.f32.format.order x 0 == some .eq) := by
  have hr := read_rung single x hf
  have h0 : single.read 0 = .number false (sig single 0) (single.leastPlace + (exq single 0 : Nat)) := read_word single false 0 (by decide)
  have hz : un single 0 = 0 := un_small single (by decide)
  have hzd : un double 0 = 0 := un_small double (by decide)
  have ho : FloatKind.f32.format.order x 0 = some (compare (if (x / single.signWeight % 2 == 1) then -(un single (x % single.signWeight) : Int) else (un single (x % single.signWeight) : Int)) (if false = true then -(un single 0 : Int) else (un single 0 : Int))) := by
    show (single.read x).order (single.read 0) = _
    rw [hr, h0, order_number]
  have hd : FloatKind.f64.format.order (double.word (decide (2147483648 ≤ x)) r') 0 = some (compare (sun (decide (2147483648 ≤ x)) r') (sun false 0)) := order_fin _ false h1 (by decide)
  rw [sign_single hx, hz] at ho
  unfold sun at hd
  rw [hzd, h2] at hd
  rw [ho, hd, cmp_lt, cmp_lt, cmp_eq, cmp_eq]
  have hp := Nat.two_pow_pos 925
  generalize un single (x % single.signWeight) = a
  clear h2 hd ho
  generalize 2 ^ 925 = P at hp ⊢
  have hza : a * P = 0 ↔ a = 0 := by
    constructor
    · intro h
      rcases Nat.mul_eq_zero.1 h with h | h
      · exact h
      · omega
    · intro h; rw [h, Nat.zero_mul]
  generalize a * P = b at hza
  cases decide (2147483648 ≤ x)
  · simp only [Bool.false_eq_true, if_false]
    refine ⟨?_, ?_⟩
    · congr 1; exact propext ⟨fun h => by omega, fun h => by omega⟩
    · congr 1; exact propext ⟨fun h => by omega, fun h => by omega⟩
  · simp only [if_true, Bool.false_eq_true, if_false]
    refine ⟨?_, ?_⟩
    · congr 1; exact propext ⟨fun h => by omega, fun h => by omega⟩
    · congr 1; exact propext ⟨fun h => by omega, fun h => by omega⟩
end Go.Proofs.Ytiabbafmjgiobaa.Fl
