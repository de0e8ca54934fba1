/-
Parts of the proof, put together: At Wn Wo We Wf Nb Hm Nl Oy. No condition.
-/
import Derived.Test.YtiabbafmjgiobaaGreatDoorNa2
import Derived.Carry
import Derived.Deep.QuietTactic
import Derived.BigQuiet
import Derived.OpenShut

/-
Plain laws on doubles for the angle: roots, quotients that are at most 1, the series' bounds.
-/
namespace Go.Proofs.YtiabbafmjgiobaaGreatDoor.Fl
open Go Ieee

/-- a number that is not negative is written so -/
theorem pos_write {p : Datum} {N : Int} (h : ∃ m e, p = .number false m e) (hb : Bd (double.write p) N) : ∃ r, r < double.infRung ∧ double.write p = double.word false r := by
  obtain ⟨m, e, rfl⟩ := h
  have h0 : un double 0 = 0 := un_small double (by decide)
  obtain ⟨r, _, h2, h3⟩ := nearest_mono_ge double false m e 0 (by decide) (x := (e - double.leastPlace).toNat) (y := (double.leastPlace - e).toNat) (by omega) (by rw [h0]; omega)
  have hw : double.write (.number false m e) = double.word false r := h3
  rcases Nat.lt_or_eq_of_le h2 with h4 | h4
  · exact ⟨r, h4, hw⟩
  · exfalso
    subst h4
    rw [hw] at hb
    obtain ⟨s', m', e', hd⟩ := hb.fin
    rw [read_inf double false (by decide)] at hd
    cases hd
theorem pos_sum {d d' : Datum} (h : ∃ m e, d = .number false m e) (h' : ∃ m e, d' = .number false m e) : ∃ p, d.sum d' = some p ∧ ∃ m e, p = .number false m e := by
  obtain ⟨m, e, rfl⟩ := h
  obtain ⟨m', e', rfl⟩ := h'
  refine ⟨_, rfl, ?_⟩
  have s1 : signed false m (e - min e e').toNat = ((m * 2 ^ (e - min e e').toNat : Nat) : Int) := by unfold signed; rw [Nat.shiftLeft_eq]; rfl
  have s2 : signed false m' (e' - min e e').toNat = ((m' * 2 ^ (e' - min e e').toNat : Nat) : Int) := by unfold signed; rw [Nat.shiftLeft_eq]; rfl
  rw [s1, s2]
  generalize m * 2 ^ (e - min e e').toNat = a
  generalize m' * 2 ^ (e' - min e e').toNat = b
  have hs : (if (a : Int) + (b : Int) = 0 then false && false else decide ((a : Int) + (b : Int) < 0)) = false := by
    split
    · rfl
    · rw [decide_eq_false_iff_not]; omega
  rw [hs]
  exact ⟨_, _, rfl⟩
theorem add_pos {r c : Nat} {N : Int} (hr : r < double.infRung) (hc : c < double.infRung) (hb : Bd (fadd (double.word false r) (double.word false c)) N) : ∃ q, q < double.infRung ∧ fadd (double.word false r) (double.word false c) = double.word false q := by
  obtain ⟨p, hp, hf⟩ := pos_sum ⟨_, _, read_word double false r hr⟩ ⟨_, _, read_word double false c hc⟩
  have e : fadd (double.word false r) (double.word false c) = double.write p := by
    show ((((double.read (double.word false r)).sum (double.read (double.word false c))).map double.write).getD 0) = _
    rw [hp]; rfl
  rw [e] at hb ⊢
  exact pos_write hf hb
theorem square_pos {t : Nat} (h : Bd t 0) : ∃ q, q < double.infRung ∧ fmul t t = double.word false q := by
  have hb : Bd (fmul t t) (0 + 0) := bd_mul h h
  obtain ⟨s, m, e, hd⟩ := h.fin
  have e1 : fmul t t = double.write (.number (s ^^ s) (m * m) (e + e)) := by
    show ((((double.read t).product (double.read t)).map double.write).getD 0) = _
    rw [hd]; rfl
  rw [e1] at hb ⊢
  rw [Bool.xor_self] at hb ⊢
  exact pos_write ⟨_, _, rfl⟩ hb

def fsq (x : Nat) : Nat := (FloatKind.f64.format.sqrt x).getD 0
theorem pos_one : Pos2 (double.read 4607182418800017408) 0 := ⟨4503599627370496, -52, 52, rfl, by decide, by decide⟩
theorem one_word : (4607182418800017408 : Nat) = double.word false 4607182418800017408 := rfl

/-- what a walk asks of a halving of the angle -/
structure HalfOK (t : Nat) : Prop where
  tf : Bd t 0
  tt : Fnt (fmul t t)
  x : Fnt (fadd 4607182418800017408 (fmul t t))
  s : FloatKind.f64.format.sqrt (fadd 4607182418800017408 (fmul t t)) = some (fsq (fadd 4607182418800017408 (fmul t t)))
  fs : Fnt (fsq (fadd 4607182418800017408 (fmul t t)))
  nz : NZ (fadd 4607182418800017408 (fsq (fadd 4607182418800017408 (fmul t t))))
  n : Bd (fdiv t (fadd 4607182418800017408 (fsq (fadd 4607182418800017408 (fmul t t))))) 0
theorem half_ok {t : Nat} (h : Bd t 0) : HalfOK t := by
  have htt : Bd (fmul t t) (0 + 0) := bd_mul h h
  obtain ⟨q, hq, eq⟩ := square_pos h
  have hx : Bd (fadd 4607182418800017408 (fmul t t)) (0 + 1) := bd_add bd_one (htt.mono (by omega))
  have hxp : ∃ c, c < double.infRung ∧ fadd 4607182418800017408 (fmul t t) = double.word false c := by
    rw [eq] at hx ⊢
    exact add_pos (r := 4607182418800017408) (by decide) hq hx
  obtain ⟨c, hc, ec⟩ := hxp
  have hl : Le2 (double.read (fadd 4607182418800017408 (fmul t t))) 1 := hx.2
  have hroot : ∃ p, (double.read (fadd 4607182418800017408 (fmul t t))).root 54 = some p ∧ Le2 p 1 ∧ ∃ m' e', p = .number false m' e' := by
    rw [ec, read_word double false c hc] at hl ⊢
    refine le2_root 54 hl (by omega) ?_
    intro hm
    have h0 := sig_zero double hm
    subst h0
    decide
  obtain ⟨p, hp, hpl, hpp⟩ := hroot
  have hsq : FloatKind.f64.format.sqrt (fadd 4607182418800017408 (fmul t t)) = some (double.write p) := by
    show ((double.read (fadd 4607182418800017408 (fmul t t))).root 54).map double.write = _
    rw [hp]; rfl
  have hsb : Bd (double.write p) 1 := write_bd hpl (by omega) (by omega)
  obtain ⟨cs, hcs, ecs⟩ := pos_write hpp hsb
  have hfs : fsq (fadd 4607182418800017408 (fmul t t)) = double.write p := by unfold fsq; rw [hsq]; rfl
  have hd : Bd (fadd 4607182418800017408 (double.write p)) (1 + 1) := bd_add (bd_one.mono (by decide) : Bd 4607182418800017408 1) hsb
  have hg : Ge2 (double.read (fadd 4607182418800017408 (double.write p))) 0 := ge2_add pos_one ⟨_, _, by rw [ecs]; exact read_word double false cs hcs⟩ (by omega) hd
  have hn : Bd (fdiv t (fadd 4607182418800017408 (double.write p))) (0 - 0) := bd_div h hg
  rw [← hfs] at hsb hg hn hsq
  exact ⟨h, htt.fin, hx.fin, hsq, hsb.fin, ge2_nz hg, hn.mono (by omega)⟩

/-- a quotient that is at most 1 -/
theorem quot_one {r c : Nat} (hle : r ≤ c) (h0 : 0 < c) (hc : c < double.infRung) : Bd (fdiv (double.word false r) (double.word false c)) 0 ∧ NZ (double.word false c) := by
  have hr : r < double.infRung := Nat.lt_of_le_of_lt hle hc
  have hs0 : sig double c ≠ 0 := fun h => by have := sig_zero double h; omega
  have hu := (un_le_iff double _ _).2 hle
  refine ⟨?_, ⟨_, _, _, read_word double false c hc, hs0⟩⟩
  obtain ⟨p, hp, hl⟩ := le2_quotient_one 54 (s := false) (t := false) (m := sig double r) (y := sig double c) (i := double.leastPlace + (exq double r : Nat)) (j := double.leastPlace + (exq double c : Nat)) (B := double.leastPlace) hs0 (by omega) (by omega) (by
    intro hm
    have h1 := sig_zero double hm
    have h2 : exq double r = 0 := by rw [h1]; rfl
    omega) (by
    have e1 : (double.leastPlace + ((exq double r : Nat) : Int) - double.leastPlace).toNat = exq double r := by omega
    have e2 : (double.leastPlace + ((exq double c : Nat) : Int) - double.leastPlace).toNat = exq double c := by omega
    rw [e1, e2]; exact hu)
  have e : fdiv (double.word false r) (double.word false c) = double.write p := by
    show ((((double.read (double.word false r)).quotient 54 (double.read (double.word false c))).map double.write).getD 0) = _
    rw [read_word double false r hr, read_word double false c hc, hp]; rfl
  rw [e]; exact write_bd hl (by omega) (by omega)
/-- a quotient of two that are not both zero is some word -/
theorem quot_any {r c : Nat} (hr : r < double.infRung) (hc : c < double.infRung) (h : 0 < r ∨ 0 < c) : ∃ q, floatBits .quo .f64 (double.word false r) (double.word false c) = some q := by
  by_cases h0 : 0 < c
  · have hs0 : sig double c ≠ 0 := fun h => by have := sig_zero double h; omega
    exact ⟨_, div_ok ⟨_, _, _, read_word double false r hr⟩ ⟨_, _, _, read_word double false c hc, hs0⟩⟩
  · have hc0 : c = 0 := by omega
    subst hc0
    have hs0 : sig double r ≠ 0 := fun h => by have := sig_zero double h; omega
    have hz : sig double 0 = 0 := by decide
    refine ⟨double.write (.infinity (false ^^ false)), ?_⟩
    show ((double.read (double.word false r)).quotient 54 (double.read (double.word false 0))).map double.write = _
    rw [read_word double false r hr, read_word double false 0 hc]
    unfold Datum.quotient
    simp only []
    rw [if_pos hz, if_neg hs0]
    rfl

/-! the series -/
def kA (j : Nat) : Int := 15 - 2 * (j : Int)
def angS (u : Nat) : Nat → Nat
  | 0 => 0
  | j + 1 => fsub (fdiv 4607182418800017408 (floatOfInt .f64 (kA j))) (fmul u (angS u j))
theorem kA_ge (j : Nat) (h : j < 8) : Ge2 (double.read (floatOfInt .f64 (kA j))) 0 := by
  have : j = 0 ∨ j = 1 ∨ j = 2 ∨ j = 3 ∨ j = 4 ∨ j = 5 ∨ j = 6 ∨ j = 7 := by omega
  rcases this with rfl | rfl | rfl | rfl | rfl | rfl | rfl | rfl <;> exact ⟨_, _, _, 52, rfl, by decide, by decide⟩
theorem angS_bd {u : Nat} (hu : Bd u 0) : ∀ j : Nat, j ≤ 8 → Bd (angS u j) j := by
  intro j
  induction j with
  | zero => intro _; exact bd_zero
  | succ j ih =>
    intro hj
    have h1 := ih (by omega)
    have h2 : Bd (fmul u (angS u j)) (0 + j) := bd_mul hu h1
    have h3 : Bd (fdiv 4607182418800017408 (floatOfInt .f64 (kA j))) (0 - 0) := bd_div bd_one (kA_ge j (by omega))
    have h4 : Bd (angS u (j + 1)) (0 + j + 1) := bd_sub (h3.mono (by omega)) h2
    exact h4.mono (by omega)
theorem angS_facts {u : Nat} (hu : Bd u 0) (j : Nat) (hj : j < 8) : Fnt (angS u j) ∧ Fnt (fmul u (angS u j)) ∧ NZ (floatOfInt .f64 (kA j)) ∧ Fnt (fdiv 4607182418800017408 (floatOfInt .f64 (kA j))) := by
  have h1 := angS_bd hu j (by omega)
  have h2 : Bd (fmul u (angS u j)) (0 + j) := bd_mul hu h1
  have h3 : Bd (fdiv 4607182418800017408 (floatOfInt .f64 (kA j))) (0 - 0) := bd_div bd_one (kA_ge j hj)
  exact ⟨h1.fin, h2.fin, ge2_nz (kA_ge j hj), h3.fin⟩

theorem bd_eight : Bd 4620693217682128896 3 := ⟨by decide, _, _, _, 52, rfl, by decide, by decide⟩
theorem ge_turn : Ge2 (double.read 4618760256179416344) 2 := ⟨_, _, _, 52, rfl, by decide, by decide⟩
def ang0 (t : Nat) : Nat := fdiv (fmul 4620693217682128896 (fmul t (angS (fmul t t) 8))) 4618760256179416344
def ang1 (o : Bool) (a : Nat) : Nat := if o then fsub 4598175219545276416 a else a
def ang2 (o : Bool) (a : Nat) : Nat := if o then fsub 4602678819172646912 a else a
def ang3 (o : Bool) (a : Nat) : Nat := if o then Op.negFloat .f64 a else a
/-- all that a walk asks behind the halvings -/
structure AngOK (t : Nat) (o xn yn : Bool) : Prop where
  tf : Fnt t
  u : Bd (fmul t t) 0
  p : Fnt (angS (fmul t t) 8)
  tp : Fnt (fmul t (angS (fmul t t) 8))
  e : Fnt (fmul 4620693217682128896 (fmul t (angS (fmul t t) 8)))
  a0 : Fnt (ang0 t)
  a1 : Fnt (ang1 o (ang0 t))
  a2 : Fnt (ang2 xn (ang1 o (ang0 t)))
  a3 : Bd (ang3 yn (ang2 xn (ang1 o (ang0 t)))) 127
theorem ang_ok {t : Nat} (o xn yn : Bool) (h : Bd t 0) : AngOK t o xn yn := by
  have hu : Bd (fmul t t) (0 + 0) := bd_mul h h
  have hp := angS_bd hu 8 (by omega)
  have htp := bd_mul h hp
  have he := bd_mul bd_eight htp
  have h0 : Bd (ang0 t) (3 + (0 + ((8 : Nat) : Int)) - 2) := bd_div he ge_turn
  have h0' := (h0.mono (by omega) : Bd (ang0 t) 9)
  have h1 : Bd (ang1 o (ang0 t)) (9 + 1) := by
    unfold ang1
    split
    · exact bd_sub (bd_quarter.mono (by omega)) h0'
    · exact h0'.mono (by omega)
  have h2 : Bd (ang2 xn (ang1 o (ang0 t))) (9 + 1 + 1) := by
    unfold ang2
    split
    · exact bd_sub (bd_half.mono (by omega)) h1
    · exact h1.mono (by omega)
  have h3 : Bd (ang3 yn (ang2 xn (ang1 o (ang0 t)))) (9 + 1 + 1) := by
    unfold ang3
    split
    · exact bd_neg h2
    · exact h2
  exact ⟨h.fin, hu.mono (by omega), hp.fin, htp.fin, he.fin, h0.fin, h1.fin, h2.fin, h3.mono (by omega)⟩

/-- the halvings -/
def halfT (t : Nat) : Nat → Nat
  | 0 => t
  | j + 1 => fdiv (halfT t j) (fadd 4607182418800017408 (fsq (fadd 4607182418800017408 (fmul (halfT t j) (halfT t j)))))
theorem half_bd {t : Nat} (h : Bd t 0) : ∀ j, Bd (halfT t j) 0
  | 0 => h
  | j + 1 => (half_ok (half_bd h j)).n

/-- a float32 and the same as a double, against zero -/
theorem order_zero {x r' : Nat} (hx : x < 4294967296) (hf : x % single.signWeight < single.infRung) (h1 : r' < double.infRung) (h2 : un double r' = un single (x % single.signWeight) * 2 ^ 925) :
    (FloatKind.f64.format.order (double.word (decide (2147483648 ≤ x)) r') 0 == some .lt) = (FloatKind.f32.format.order x 0 == some .lt) ∧
    (FloatKind.f64.format.order (double.word (decide (2147483648 ≤ x)) r') 0 == some .eq) = (FloatKind.f32.format.order x 0 == some .eq) := by
  have hr := read_rung single x hf
  have h0 : single.read 0 = .number false (sig single 0) (single.leastPlace + (exq single 0 : Nat)) := read_word single false 0 (by decide)
  have hz : un single 0 = 0 := un_small single (by decide)
  have hzd : un double 0 = 0 := un_small double (by decide)
  have ho : FloatKind.f32.format.order x 0 = some (compare (if (x / single.signWeight % 2 == 1) then -(un single (x % single.signWeight) : Int) else (un single (x % single.signWeight) : Int)) (if false = true then -(un single 0 : Int) else (un single 0 : Int))) := by
    show (single.read x).order (single.read 0) = _
    rw [hr, h0, order_number]
  have hd : FloatKind.f64.format.order (double.word (decide (2147483648 ≤ x)) r') 0 = some (compare (sun (decide (2147483648 ≤ x)) r') (sun false 0)) := order_fin _ false h1 (by decide)
  rw [sign_single hx, hz] at ho
  unfold sun at hd
  rw [hzd, h2] at hd
  rw [ho, hd, cmp_lt, cmp_lt, cmp_eq, cmp_eq]
  have hp := Nat.two_pow_pos 925
  generalize un single (x % single.signWeight) = a
  clear h2 hd ho
  generalize 2 ^ 925 = P at hp ⊢
  have hza : a * P = 0 ↔ a = 0 := by
    constructor
    · intro h
      rcases Nat.mul_eq_zero.1 h with h | h
      · exact h
      · omega
    · intro h; rw [h, Nat.zero_mul]
  generalize a * P = b at hza
  cases decide (2147483648 ≤ x)
  · simp only [Bool.false_eq_true, if_false]
    refine ⟨?_, ?_⟩
    · congr 1; exact propext ⟨fun h => by omega, fun h => by omega⟩
    · congr 1; exact propext ⟨fun h => by omega, fun h => by omega⟩
  · simp only [if_true, Bool.false_eq_true, if_false]
    refine ⟨?_, ?_⟩
    · congr 1; exact propext ⟨fun h => by omega, fun h => by omega⟩
    · congr 1; exact propext ⟨fun h => by omega, fun h => by omega⟩
end Go.Proofs.YtiabbafmjgiobaaGreatDoor.Fl

/-
Contracts and walk of the law on AngleTurns.
-/
set_option linter.unusedVariables false
set_option linter.unusedSimpArgs false
namespace Go.Proofs.YtiabbafmjgiobaaGreatDoor
open Fl Go.RowKit

@[go_sem] theorem x_sqrt_ok {x r : Nat} (h : FloatKind.f64.format.sqrt x = some r) (w : World) : (callFunc 70 #[.float .f64 x]).run Tryz.prog w = .ok (.value (.float .f64 r)) w := by
  rw [x_sqrt]
  have e : Extern.MathSqrt.sqrt #[.float .f64 x] = (match FloatKind.f64.format.sqrt x with | some r => pure (.float .f64 r) | none => do pure (.float .f64 (← choose (.nanBits .f64 x x)))) := rfl
  rw [e, h]; rfl
theorem c_sqrt_ok (x r : Nat) (h : FloatKind.f64.format.sqrt x = some r) (w : World) : Calls Tryz.prog 44 #[.float .f64 x] w fun e w' => e = .returned (.float .f64 r) ∧ w = w' := by
  go_enter Tryz.func44, Tryz.ntmps44
  go_wp2_with fail
  go_ret
  exact ⟨rfl, rfl⟩

/-- the series' counter -/
theorem kA_round (j : Nat) (h : j < 8) : fsub (floatOfInt .f64 (kA j)) 4611686018427387904 = floatOfInt .f64 (kA (j + 1)) ∧
    ((FloatKind.f64.format.order (floatOfInt .f64 (kA j)) 4607182418800017408 == some .gt) || (FloatKind.f64.format.order (floatOfInt .f64 (kA j)) 4607182418800017408 == some .eq)) = true ∧
    mk (floatOfInt .f64 (kA (j + 1))) < mk (floatOfInt .f64 (kA j)) ∧ Fnt (floatOfInt .f64 (kA j)) := by
  have : j = 0 ∨ j = 1 ∨ j = 2 ∨ j = 3 ∨ j = 4 ∨ j = 5 ∨ j = 6 ∨ j = 7 := by omega
  rcases this with rfl | rfl | rfl | rfl | rfl | rfl | rfl | rfl <;> exact ⟨rfl, by decide, by decide, fin_lit _ (by decide)⟩
theorem kA_end : ((FloatKind.f64.format.order (floatOfInt .f64 (kA 8)) 4607182418800017408 == some .gt) || (FloatKind.f64.format.order (floatOfInt .f64 (kA 8)) 4607182418800017408 == some .eq)) = false := by decide

/-- what a walk asks of the halvings -/
def Halves (T : Nat → Nat) : Prop := ∀ j, j < 3 → Fnt (T j) ∧ Fnt (fmul (T j) (T j)) ∧ Fnt (fadd 4607182418800017408 (fmul (T j) (T j))) ∧ ∃ s, FloatKind.f64.format.sqrt (fadd 4607182418800017408 (fmul (T j) (T j))) = some s ∧ Fnt s ∧ NZ (fadd 4607182418800017408 s) ∧ fdiv (T j) (fadd 4607182418800017408 s) = T (j + 1)
theorem halves {t : Nat} (h : Bd t 0) : Halves (halfT t) := by
  intro j _
  have H := half_ok (half_bd h j)
  exact ⟨H.tf.fin, H.tt, H.x, _, H.s, H.fs, H.nz, rfl⟩
theorem fin_eight : Fnt 4620693217682128896 := bd_eight.fin
theorem nz_turn : NZ 4618760256179416344 := ge2_nz ge_turn

theorem c_angle00 (y x y' x' : Nat) (T : Nat → Nat) (xn yn : Bool) (v : Nat) (hfy : isFin (fv .f32 y) = true) (hfx : isFin (fv .f32 x) = true) (hcy : ∀ w, (convert 28 46 (.float .f32 y)).run Tryz.prog w = .ok (.float .f64 y') w) (hcx : ∀ w, (convert 28 46 (.float .f32 x)).run Tryz.prog w = .ok (.float .f64 x') w)
    (hy : y' < 18446744073709551616) (hx : x' < 18446744073709551616) (hz : (FloatKind.f32.format.order x 0 == some .eq) = false)
    (ho : (FloatKind.f64.format.order (y' % 9223372036854775808) (x' % 9223372036854775808) == some .gt) = false) (Fa : Fnt (y' % 9223372036854775808)) (Fb : Fnt (x' % 9223372036854775808)) (nz : NZ (x' % 9223372036854775808))
    (q : Nat) (hq : ∀ w, (binOp .quo 46 (.float .f64 (y' % 9223372036854775808)) (.float .f64 (x' % 9223372036854775808))).run Tryz.prog w = .ok (.float .f64 q) w)
    (hT0 : q = T 0) (hT : Halves T) (hL : AngOK (T 3) false xn yn) (hxn : (FloatKind.f32.format.order x 0 == some .lt) = xn) (hyn : (FloatKind.f32.format.order y 0 == some .lt) = yn)
    (hN : ∀ w, (convert 46 28 (.float .f64 (ang3 yn (ang2 xn (ang1 false (ang0 (T 3))))))).run Tryz.prog w = .ok (.float .f32 v) w) (w : World) :
    Calls Tryz.prog 34 #[.float .f32 y, .float .f32 x] w fun e w' => e = .returned (.float .f32 v) ∧ ∃ n, w' = w.drewN n := by
  have HT : Hid _ := hT
  have HL : Hid _ := hL
  have HN : Hid _ := hN
  have IY : Hid _ := c_implIsFinite y
  have IX : Hid _ := c_implIsFinite x
  have AY : Hid _ := c_abs y' hy
  have AX : Hid _ := c_abs x' hx
  have IYf : Hid _ := hfy
  have IXf : Hid _ := hfx
  clear hT hL hy hx hN hfy hfx
  have h1 := fin_one
  have h8 := fin_eight
  have h2 := fin_two
  have ht := nz_turn
  have hqf : Fnt 4598175219545276416 := bd_quarter.fin
  have hhf := fin_half
  generalize y' % 9223372036854775808 = a at *
  generalize x' % 9223372036854775808 = b at *
  clear nz
  go_enter Tryz.func34, Tryz.ntmps34
  go_wp2_with (first | (go_at_call 61; first | ((with_reducible refine (IY.out _).mono ?_); rw [IYf.out]; rintro e w' ⟨rfl, n, rfl⟩) | ((with_reducible refine (IX.out _).mono ?_); rw [IXf.out]; rintro e w' ⟨rfl, n', rfl⟩)) | (go_at_call 65; first | ((with_reducible refine (AY.out _).mono ?_); rintro e w' ⟨rfl, rfl⟩) | ((with_reducible refine (AX.out _).mono ?_); rintro e w' ⟨rfl, rfl⟩)))
  clear hz hcy hcx hq hT0 IY IX AY AX IYf IXf
  go_loop [7, 43] (fun v i => ∃ j : Nat, j ≤ 3 ∧ v = .float .f64 (T j) ∧ i = .int .i64 j) (fun _ i => 3 - (intOf i).toNat)
  case atStart => exact ⟨0, Nat.zero_le _, rfl, rfl⟩
  case round =>
    obtain ⟨j, hj, rfl, rfl⟩ := hrel
    by_cases hlt : j < 3
    · obtain ⟨a1, a2, a3, s, a4, a5, a6, a7⟩ := HT.out j hlt
      have CS : Hid _ := c_sqrt_ok _ _ a4
      obtain ⟨g', eg⟩ : ∃ g', T (j + 1) = g' := ⟨_, rfl⟩
      rw [eg] at a7
      have HG : Hid _ := eg
      clear eg a4
      generalize T j = g at *
      have hj3 : (j : Int) < 3 := by omega
      go_wp2_with (go_at_call 44; refine (CS.out _).mono ?_; rintro e w' ⟨rfl, rfl⟩)
      go_round
      case rel => exact ⟨j + 1, by omega, by rw [HG.out], by go_num⟩
      case measure => simp [intOf]; omega
    · have h3 : j = 3 := by omega
      subst h3
      have L := HL.out
      obtain ⟨t, et⟩ : ∃ t, T 3 = t := ⟨_, rfl⟩
      rw [et] at L
      rw [et]
      have Lt := L.tf
      have Lu := L.u
      have Lp := L.p
      have Ltp := L.tp
      have Le := L.e
      have L0 := L.a0
      have L1 := L.a1
      obtain ⟨u, eu⟩ : ∃ u, fmul t t = u := ⟨_, rfl⟩
      rw [eu] at Lu Lp Ltp Le
      obtain ⟨A0, e0⟩ : ∃ A0, ang0 t = A0 := ⟨_, rfl⟩
      rw [e0] at L0 L1
      have e0' : fdiv (fmul 4620693217682128896 (fmul t (angS u 8))) 4618760256179416344 = A0 := by rw [← e0, ← eu]; rfl
      have L1' : Fnt (A0) := L1
      have HA : Hid (ang0 (T 3) = A0) := by
        show ang0 (T 3) = A0
        rw [et]; exact e0
      clear et e0 L1 L
      have LU : Hid _ := Lu
      have Lf := Lu.fin
      clear Lu
      go_wp2_with fail
      clear eu
      go_loop [9, 10] (fun v i => ∃ i' : Nat, i' ≤ 8 ∧ v = .float .f64 (angS u i') ∧ i = .float .f64 (floatOfInt .f64 (kA i'))) (fun _ k => mk (bitsF k))
      case atStart => exact ⟨0, Nat.zero_le _, rfl, rfl⟩
      case round =>
        obtain ⟨i, hi, rfl, rfl⟩ := hrel
        by_cases hlt : i < 8
        · obtain ⟨b1, b2, b3, b4⟩ := angS_facts LU.out i hlt
          obtain ⟨c1, c2, c3, c4⟩ := kA_round i hlt
          have C3 : Hid _ := c3
          have HL0 : Hid _ := L0
          have HLp : Hid _ := Lp
          clear c3 Ltp Le e0' L1' L0 Lp
          have b5 : fsub (fdiv 4607182418800017408 (floatOfInt .f64 (kA i))) (fmul u (angS u i)) = angS u (i + 1) := rfl
          go_wp2_with fail
          go_round
          case rel => exact ⟨i + 1, by omega, rfl, rfl⟩
          case measure => exact C3.out
        · have h8 : i = 8 := by omega
          subst h8
          have hk := kA_end
          have hn := HN.out
          rw [HA.out] at hn
          clear hlt hi
          cases xn <;> cases yn
          all_goals simp only [ang1, ang2, ang3, if_true, if_false, Bool.false_eq_true] at hn
          all_goals go_wp2_with fail
          all_goals go_ret
          all_goals exact ⟨rfl, _, rfl⟩
theorem c_angle01 (y x y' x' : Nat) (T : Nat → Nat) (xn yn : Bool) (v : Nat) (hfy : isFin (fv .f32 y) = true) (hfx : isFin (fv .f32 x) = true) (hcy : ∀ w, (convert 28 46 (.float .f32 y)).run Tryz.prog w = .ok (.float .f64 y') w) (hcx : ∀ w, (convert 28 46 (.float .f32 x)).run Tryz.prog w = .ok (.float .f64 x') w)
    (hy : y' < 18446744073709551616) (hx : x' < 18446744073709551616) (hz : (FloatKind.f32.format.order x 0 == some .eq) = true) (hz' : (FloatKind.f32.format.order y 0 == some .eq) = false)
    (ho : (FloatKind.f64.format.order (y' % 9223372036854775808) (x' % 9223372036854775808) == some .gt) = false) (Fa : Fnt (y' % 9223372036854775808)) (Fb : Fnt (x' % 9223372036854775808)) (nz : NZ (x' % 9223372036854775808))
    (q : Nat) (hq : ∀ w, (binOp .quo 46 (.float .f64 (y' % 9223372036854775808)) (.float .f64 (x' % 9223372036854775808))).run Tryz.prog w = .ok (.float .f64 q) w)
    (hT0 : q = T 0) (hT : Halves T) (hL : AngOK (T 3) false xn yn) (hxn : (FloatKind.f32.format.order x 0 == some .lt) = xn) (hyn : (FloatKind.f32.format.order y 0 == some .lt) = yn)
    (hN : ∀ w, (convert 46 28 (.float .f64 (ang3 yn (ang2 xn (ang1 false (ang0 (T 3))))))).run Tryz.prog w = .ok (.float .f32 v) w) (w : World) :
    Calls Tryz.prog 34 #[.float .f32 y, .float .f32 x] w fun e w' => e = .returned (.float .f32 v) ∧ ∃ n, w' = w.drewN n := by
  have HT : Hid _ := hT
  have HL : Hid _ := hL
  have HN : Hid _ := hN
  have IY : Hid _ := c_implIsFinite y
  have IX : Hid _ := c_implIsFinite x
  have AY : Hid _ := c_abs y' hy
  have AX : Hid _ := c_abs x' hx
  have IYf : Hid _ := hfy
  have IXf : Hid _ := hfx
  clear hT hL hy hx hN hfy hfx
  have h1 := fin_one
  have h8 := fin_eight
  have h2 := fin_two
  have ht := nz_turn
  have hqf : Fnt 4598175219545276416 := bd_quarter.fin
  have hhf := fin_half
  generalize y' % 9223372036854775808 = a at *
  generalize x' % 9223372036854775808 = b at *
  clear nz
  go_enter Tryz.func34, Tryz.ntmps34
  go_wp2_with (first | (go_at_call 61; first | ((with_reducible refine (IY.out _).mono ?_); rw [IYf.out]; rintro e w' ⟨rfl, n, rfl⟩) | ((with_reducible refine (IX.out _).mono ?_); rw [IXf.out]; rintro e w' ⟨rfl, n', rfl⟩)) | (go_at_call 65; first | ((with_reducible refine (AY.out _).mono ?_); rintro e w' ⟨rfl, rfl⟩) | ((with_reducible refine (AX.out _).mono ?_); rintro e w' ⟨rfl, rfl⟩)))
  clear hz hcy hcx hq hT0 IY IX AY AX IYf IXf hz'
  go_loop [7, 43] (fun v i => ∃ j : Nat, j ≤ 3 ∧ v = .float .f64 (T j) ∧ i = .int .i64 j) (fun _ i => 3 - (intOf i).toNat)
  case atStart => exact ⟨0, Nat.zero_le _, rfl, rfl⟩
  case round =>
    obtain ⟨j, hj, rfl, rfl⟩ := hrel
    by_cases hlt : j < 3
    · obtain ⟨a1, a2, a3, s, a4, a5, a6, a7⟩ := HT.out j hlt
      have CS : Hid _ := c_sqrt_ok _ _ a4
      obtain ⟨g', eg⟩ : ∃ g', T (j + 1) = g' := ⟨_, rfl⟩
      rw [eg] at a7
      have HG : Hid _ := eg
      clear eg a4
      generalize T j = g at *
      have hj3 : (j : Int) < 3 := by omega
      go_wp2_with (go_at_call 44; refine (CS.out _).mono ?_; rintro e w' ⟨rfl, rfl⟩)
      go_round
      case rel => exact ⟨j + 1, by omega, by rw [HG.out], by go_num⟩
      case measure => simp [intOf]; omega
    · have h3 : j = 3 := by omega
      subst h3
      have L := HL.out
      obtain ⟨t, et⟩ : ∃ t, T 3 = t := ⟨_, rfl⟩
      rw [et] at L
      rw [et]
      have Lt := L.tf
      have Lu := L.u
      have Lp := L.p
      have Ltp := L.tp
      have Le := L.e
      have L0 := L.a0
      have L1 := L.a1
      obtain ⟨u, eu⟩ : ∃ u, fmul t t = u := ⟨_, rfl⟩
      rw [eu] at Lu Lp Ltp Le
      obtain ⟨A0, e0⟩ : ∃ A0, ang0 t = A0 := ⟨_, rfl⟩
      rw [e0] at L0 L1
      have e0' : fdiv (fmul 4620693217682128896 (fmul t (angS u 8))) 4618760256179416344 = A0 := by rw [← e0, ← eu]; rfl
      have L1' : Fnt (A0) := L1
      have HA : Hid (ang0 (T 3) = A0) := by
        show ang0 (T 3) = A0
        rw [et]; exact e0
      clear et e0 L1 L
      have LU : Hid _ := Lu
      have Lf := Lu.fin
      clear Lu
      go_wp2_with fail
      clear eu
      go_loop [9, 10] (fun v i => ∃ i' : Nat, i' ≤ 8 ∧ v = .float .f64 (angS u i') ∧ i = .float .f64 (floatOfInt .f64 (kA i'))) (fun _ k => mk (bitsF k))
      case atStart => exact ⟨0, Nat.zero_le _, rfl, rfl⟩
      case round =>
        obtain ⟨i, hi, rfl, rfl⟩ := hrel
        by_cases hlt : i < 8
        · obtain ⟨b1, b2, b3, b4⟩ := angS_facts LU.out i hlt
          obtain ⟨c1, c2, c3, c4⟩ := kA_round i hlt
          have C3 : Hid _ := c3
          have HL0 : Hid _ := L0
          have HLp : Hid _ := Lp
          clear c3 Ltp Le e0' L1' L0 Lp
          have b5 : fsub (fdiv 4607182418800017408 (floatOfInt .f64 (kA i))) (fmul u (angS u i)) = angS u (i + 1) := rfl
          go_wp2_with fail
          go_round
          case rel => exact ⟨i + 1, by omega, rfl, rfl⟩
          case measure => exact C3.out
        · have h8 : i = 8 := by omega
          subst h8
          have hk := kA_end
          have hn := HN.out
          rw [HA.out] at hn
          clear hlt hi
          cases xn <;> cases yn
          all_goals simp only [ang1, ang2, ang3, if_true, if_false, Bool.false_eq_true] at hn
          all_goals go_wp2_with fail
          all_goals go_ret
          all_goals exact ⟨rfl, _, rfl⟩
theorem c_angle10 (y x y' x' : Nat) (T : Nat → Nat) (xn yn : Bool) (v : Nat) (hfy : isFin (fv .f32 y) = true) (hfx : isFin (fv .f32 x) = true) (hcy : ∀ w, (convert 28 46 (.float .f32 y)).run Tryz.prog w = .ok (.float .f64 y') w) (hcx : ∀ w, (convert 28 46 (.float .f32 x)).run Tryz.prog w = .ok (.float .f64 x') w)
    (hy : y' < 18446744073709551616) (hx : x' < 18446744073709551616) (hz : (FloatKind.f32.format.order x 0 == some .eq) = false)
    (ho : (FloatKind.f64.format.order (y' % 9223372036854775808) (x' % 9223372036854775808) == some .gt) = true) (Fa : Fnt (y' % 9223372036854775808)) (Fb : Fnt (x' % 9223372036854775808)) (nz : NZ (y' % 9223372036854775808))
    (q : Nat) (hq : ∀ w, (binOp .quo 46 (.float .f64 (y' % 9223372036854775808)) (.float .f64 (x' % 9223372036854775808))).run Tryz.prog w = .ok (.float .f64 q) w)
    (hT0 : fdiv (x' % 9223372036854775808) (y' % 9223372036854775808) = T 0) (hT : Halves T) (hL : AngOK (T 3) true xn yn) (hxn : (FloatKind.f32.format.order x 0 == some .lt) = xn) (hyn : (FloatKind.f32.format.order y 0 == some .lt) = yn)
    (hN : ∀ w, (convert 46 28 (.float .f64 (ang3 yn (ang2 xn (ang1 true (ang0 (T 3))))))).run Tryz.prog w = .ok (.float .f32 v) w) (w : World) :
    Calls Tryz.prog 34 #[.float .f32 y, .float .f32 x] w fun e w' => e = .returned (.float .f32 v) ∧ ∃ n, w' = w.drewN n := by
  have HT : Hid _ := hT
  have HL : Hid _ := hL
  have HN : Hid _ := hN
  have IY : Hid _ := c_implIsFinite y
  have IX : Hid _ := c_implIsFinite x
  have AY : Hid _ := c_abs y' hy
  have AX : Hid _ := c_abs x' hx
  have IYf : Hid _ := hfy
  have IXf : Hid _ := hfx
  clear hT hL hy hx hN hfy hfx
  have h1 := fin_one
  have h8 := fin_eight
  have h2 := fin_two
  have ht := nz_turn
  have hqf : Fnt 4598175219545276416 := bd_quarter.fin
  have hhf := fin_half
  generalize y' % 9223372036854775808 = a at *
  generalize x' % 9223372036854775808 = b at *
  skip
  go_enter Tryz.func34, Tryz.ntmps34
  go_wp2_with (first | (go_at_call 61; first | ((with_reducible refine (IY.out _).mono ?_); rw [IYf.out]; rintro e w' ⟨rfl, n, rfl⟩) | ((with_reducible refine (IX.out _).mono ?_); rw [IXf.out]; rintro e w' ⟨rfl, n', rfl⟩)) | (go_at_call 65; first | ((with_reducible refine (AY.out _).mono ?_); rintro e w' ⟨rfl, rfl⟩) | ((with_reducible refine (AX.out _).mono ?_); rintro e w' ⟨rfl, rfl⟩)))
  clear hz hcy hcx hq hT0 IY IX AY AX IYf IXf nz
  go_loop [7, 43] (fun v i => ∃ j : Nat, j ≤ 3 ∧ v = .float .f64 (T j) ∧ i = .int .i64 j) (fun _ i => 3 - (intOf i).toNat)
  case atStart => exact ⟨0, Nat.zero_le _, rfl, rfl⟩
  case round =>
    obtain ⟨j, hj, rfl, rfl⟩ := hrel
    by_cases hlt : j < 3
    · obtain ⟨a1, a2, a3, s, a4, a5, a6, a7⟩ := HT.out j hlt
      have CS : Hid _ := c_sqrt_ok _ _ a4
      obtain ⟨g', eg⟩ : ∃ g', T (j + 1) = g' := ⟨_, rfl⟩
      rw [eg] at a7
      have HG : Hid _ := eg
      clear eg a4
      generalize T j = g at *
      have hj3 : (j : Int) < 3 := by omega
      go_wp2_with (go_at_call 44; refine (CS.out _).mono ?_; rintro e w' ⟨rfl, rfl⟩)
      go_round
      case rel => exact ⟨j + 1, by omega, by rw [HG.out], by go_num⟩
      case measure => simp [intOf]; omega
    · have h3 : j = 3 := by omega
      subst h3
      have L := HL.out
      obtain ⟨t, et⟩ : ∃ t, T 3 = t := ⟨_, rfl⟩
      rw [et] at L
      rw [et]
      have Lt := L.tf
      have Lu := L.u
      have Lp := L.p
      have Ltp := L.tp
      have Le := L.e
      have L0 := L.a0
      have L1 := L.a1
      obtain ⟨u, eu⟩ : ∃ u, fmul t t = u := ⟨_, rfl⟩
      rw [eu] at Lu Lp Ltp Le
      obtain ⟨A0, e0⟩ : ∃ A0, ang0 t = A0 := ⟨_, rfl⟩
      rw [e0] at L0 L1
      have e0' : fdiv (fmul 4620693217682128896 (fmul t (angS u 8))) 4618760256179416344 = A0 := by rw [← e0, ← eu]; rfl
      have L1' : Fnt (fsub 4598175219545276416 A0) := L1
      have HA : Hid (ang0 (T 3) = A0) := by
        show ang0 (T 3) = A0
        rw [et]; exact e0
      clear et e0 L1 L
      have LU : Hid _ := Lu
      have Lf := Lu.fin
      clear Lu
      go_wp2_with fail
      clear eu
      go_loop [9, 10] (fun v i => ∃ i' : Nat, i' ≤ 8 ∧ v = .float .f64 (angS u i') ∧ i = .float .f64 (floatOfInt .f64 (kA i'))) (fun _ k => mk (bitsF k))
      case atStart => exact ⟨0, Nat.zero_le _, rfl, rfl⟩
      case round =>
        obtain ⟨i, hi, rfl, rfl⟩ := hrel
        by_cases hlt : i < 8
        · obtain ⟨b1, b2, b3, b4⟩ := angS_facts LU.out i hlt
          obtain ⟨c1, c2, c3, c4⟩ := kA_round i hlt
          have C3 : Hid _ := c3
          have HL0 : Hid _ := L0
          have HLp : Hid _ := Lp
          clear c3 Ltp Le e0' L1' L0 Lp
          have b5 : fsub (fdiv 4607182418800017408 (floatOfInt .f64 (kA i))) (fmul u (angS u i)) = angS u (i + 1) := rfl
          go_wp2_with fail
          go_round
          case rel => exact ⟨i + 1, by omega, rfl, rfl⟩
          case measure => exact C3.out
        · have h8 : i = 8 := by omega
          subst h8
          have hk := kA_end
          have hn := HN.out
          rw [HA.out] at hn
          clear hlt hi
          cases xn <;> cases yn
          all_goals simp only [ang1, ang2, ang3, if_true, if_false, Bool.false_eq_true] at hn
          all_goals go_wp2_with fail
          all_goals go_ret
          all_goals exact ⟨rfl, _, rfl⟩
theorem c_angle11 (y x y' x' : Nat) (T : Nat → Nat) (xn yn : Bool) (v : Nat) (hfy : isFin (fv .f32 y) = true) (hfx : isFin (fv .f32 x) = true) (hcy : ∀ w, (convert 28 46 (.float .f32 y)).run Tryz.prog w = .ok (.float .f64 y') w) (hcx : ∀ w, (convert 28 46 (.float .f32 x)).run Tryz.prog w = .ok (.float .f64 x') w)
    (hy : y' < 18446744073709551616) (hx : x' < 18446744073709551616) (hz : (FloatKind.f32.format.order x 0 == some .eq) = true) (hz' : (FloatKind.f32.format.order y 0 == some .eq) = false)
    (ho : (FloatKind.f64.format.order (y' % 9223372036854775808) (x' % 9223372036854775808) == some .gt) = true) (Fa : Fnt (y' % 9223372036854775808)) (Fb : Fnt (x' % 9223372036854775808)) (nz : NZ (y' % 9223372036854775808))
    (q : Nat) (hq : ∀ w, (binOp .quo 46 (.float .f64 (y' % 9223372036854775808)) (.float .f64 (x' % 9223372036854775808))).run Tryz.prog w = .ok (.float .f64 q) w)
    (hT0 : fdiv (x' % 9223372036854775808) (y' % 9223372036854775808) = T 0) (hT : Halves T) (hL : AngOK (T 3) true xn yn) (hxn : (FloatKind.f32.format.order x 0 == some .lt) = xn) (hyn : (FloatKind.f32.format.order y 0 == some .lt) = yn)
    (hN : ∀ w, (convert 46 28 (.float .f64 (ang3 yn (ang2 xn (ang1 true (ang0 (T 3))))))).run Tryz.prog w = .ok (.float .f32 v) w) (w : World) :
    Calls Tryz.prog 34 #[.float .f32 y, .float .f32 x] w fun e w' => e = .returned (.float .f32 v) ∧ ∃ n, w' = w.drewN n := by
  have HT : Hid _ := hT
  have HL : Hid _ := hL
  have HN : Hid _ := hN
  have IY : Hid _ := c_implIsFinite y
  have IX : Hid _ := c_implIsFinite x
  have AY : Hid _ := c_abs y' hy
  have AX : Hid _ := c_abs x' hx
  have IYf : Hid _ := hfy
  have IXf : Hid _ := hfx
  clear hT hL hy hx hN hfy hfx
  have h1 := fin_one
  have h8 := fin_eight
  have h2 := fin_two
  have ht := nz_turn
  have hqf : Fnt 4598175219545276416 := bd_quarter.fin
  have hhf := fin_half
  generalize y' % 9223372036854775808 = a at *
  generalize x' % 9223372036854775808 = b at *
  skip
  go_enter Tryz.func34, Tryz.ntmps34
  go_wp2_with (first | (go_at_call 61; first | ((with_reducible refine (IY.out _).mono ?_); rw [IYf.out]; rintro e w' ⟨rfl, n, rfl⟩) | ((with_reducible refine (IX.out _).mono ?_); rw [IXf.out]; rintro e w' ⟨rfl, n', rfl⟩)) | (go_at_call 65; first | ((with_reducible refine (AY.out _).mono ?_); rintro e w' ⟨rfl, rfl⟩) | ((with_reducible refine (AX.out _).mono ?_); rintro e w' ⟨rfl, rfl⟩)))
  clear hz hcy hcx hq hT0 IY IX AY AX IYf IXf hz' nz
  go_loop [7, 43] (fun v i => ∃ j : Nat, j ≤ 3 ∧ v = .float .f64 (T j) ∧ i = .int .i64 j) (fun _ i => 3 - (intOf i).toNat)
  case atStart => exact ⟨0, Nat.zero_le _, rfl, rfl⟩
  case round =>
    obtain ⟨j, hj, rfl, rfl⟩ := hrel
    by_cases hlt : j < 3
    · obtain ⟨a1, a2, a3, s, a4, a5, a6, a7⟩ := HT.out j hlt
      have CS : Hid _ := c_sqrt_ok _ _ a4
      obtain ⟨g', eg⟩ : ∃ g', T (j + 1) = g' := ⟨_, rfl⟩
      rw [eg] at a7
      have HG : Hid _ := eg
      clear eg a4
      generalize T j = g at *
      have hj3 : (j : Int) < 3 := by omega
      go_wp2_with (go_at_call 44; refine (CS.out _).mono ?_; rintro e w' ⟨rfl, rfl⟩)
      go_round
      case rel => exact ⟨j + 1, by omega, by rw [HG.out], by go_num⟩
      case measure => simp [intOf]; omega
    · have h3 : j = 3 := by omega
      subst h3
      have L := HL.out
      obtain ⟨t, et⟩ : ∃ t, T 3 = t := ⟨_, rfl⟩
      rw [et] at L
      rw [et]
      have Lt := L.tf
      have Lu := L.u
      have Lp := L.p
      have Ltp := L.tp
      have Le := L.e
      have L0 := L.a0
      have L1 := L.a1
      obtain ⟨u, eu⟩ : ∃ u, fmul t t = u := ⟨_, rfl⟩
      rw [eu] at Lu Lp Ltp Le
      obtain ⟨A0, e0⟩ : ∃ A0, ang0 t = A0 := ⟨_, rfl⟩
      rw [e0] at L0 L1
      have e0' : fdiv (fmul 4620693217682128896 (fmul t (angS u 8))) 4618760256179416344 = A0 := by rw [← e0, ← eu]; rfl
      have L1' : Fnt (fsub 4598175219545276416 A0) := L1
      have HA : Hid (ang0 (T 3) = A0) := by
        show ang0 (T 3) = A0
        rw [et]; exact e0
      clear et e0 L1 L
      have LU : Hid _ := Lu
      have Lf := Lu.fin
      clear Lu
      go_wp2_with fail
      clear eu
      go_loop [9, 10] (fun v i => ∃ i' : Nat, i' ≤ 8 ∧ v = .float .f64 (angS u i') ∧ i = .float .f64 (floatOfInt .f64 (kA i'))) (fun _ k => mk (bitsF k))
      case atStart => exact ⟨0, Nat.zero_le _, rfl, rfl⟩
      case round =>
        obtain ⟨i, hi, rfl, rfl⟩ := hrel
        by_cases hlt : i < 8
        · obtain ⟨b1, b2, b3, b4⟩ := angS_facts LU.out i hlt
          obtain ⟨c1, c2, c3, c4⟩ := kA_round i hlt
          have C3 : Hid _ := c3
          have HL0 : Hid _ := L0
          have HLp : Hid _ := Lp
          clear c3 Ltp Le e0' L1' L0 Lp
          have b5 : fsub (fdiv 4607182418800017408 (floatOfInt .f64 (kA i))) (fmul u (angS u i)) = angS u (i + 1) := rfl
          go_wp2_with fail
          go_round
          case rel => exact ⟨i + 1, by omega, rfl, rfl⟩
          case measure => exact C3.out
        · have h8 : i = 8 := by omega
          subst h8
          have hk := kA_end
          have hn := HN.out
          rw [HA.out] at hn
          clear hlt hi
          cases xn <;> cases yn
          all_goals simp only [ang1, ang2, ang3, if_true, if_false, Bool.false_eq_true] at hn
          all_goals go_wp2_with fail
          all_goals go_ret
          all_goals exact ⟨rfl, _, rfl⟩
end Go.Proofs.YtiabbafmjgiobaaGreatDoor

/-
The law on AngleTurns, over the contracts of the angles.
-/
set_option linter.unusedVariables false
set_option linter.unusedSimpArgs false
namespace Go.Proofs.YtiabbafmjgiobaaGreatDoor
open Fl Go.RowKit

/-- a finite float32 as a double: its rung, its place against zero -/
theorem widen_all {x : Nat} (hx : x < 4294967296) (hf : isFin (fv .f32 x) = true) : ∃ s r, r < Ieee.double.infRung ∧ (∀ w, (convert 28 46 (.float .f32 x)).run Tryz.prog w = .ok (.float .f64 (Ieee.double.word s r)) w) ∧
    (FloatKind.f64.format.order (Ieee.double.word s r) 0 == some .lt) = (FloatKind.f32.format.order x 0 == some .lt) ∧ (FloatKind.f64.format.order (Ieee.double.word s r) 0 == some .eq) = (FloatKind.f32.format.order x 0 == some .eq) := by
  obtain ⟨y, hF, hy, hB, hc, hconv⟩ := widen_one hx hf
  rw [isFin_iff hx] at hf
  simp only [Bool.and_eq_true, Bool.not_eq_true', decide_eq_true_eq] at hf
  obtain ⟨r', h1, h2, h3, _⟩ := widen_word hx hf.1
  rw [hc] at h2
  have e2 := Option.some.inj h2
  rw [e2] at hconv
  obtain ⟨h4, h5⟩ := h3 hf.2
  have h6 := order_zero hx hf.2 h4 h5
  exact ⟨_, r', h4, hconv, h6.1, h6.2⟩

theorem c_implAngle_nan (y x : Nat) (hf : isFin (fv .f32 x) = false ∨ isFin (fv .f32 x) = true ∧ isFin (fv .f32 y) = false) (w : World) : Calls Tryz.prog 34 #[.float .f32 y, .float .f32 x] w (RF .f32 none w) := by
  have IY : Hid _ := c_implIsFinite y
  have IX : Hid _ := c_implIsFinite x
  rcases hf with hf | ⟨hf, hf'⟩
  · have IXf : Hid _ := hf
    clear hf IY
    go_enter Tryz.func34, Tryz.ntmps34
    go_wp2_with (first | (go_at_call 61; (with_reducible refine (IX.out _).mono ?_); rw [IXf.out]; rintro e w' ⟨rfl, n', rfl⟩) | (go_at_call 66; refine (c_nan _).mono ?_; rintro e w' ⟨rfl, rfl⟩) | ((with_reducible refine upon_narrow Tryz.underlying46 Tryz.underlying28 (by decide) (by rw [fv_nan]; exact fits_none) ?_); intro q m hq))
    go_ret
    exact ⟨q, ⟨hq.1.trans (by rw [fv_nan]; rfl), hq.2⟩, rfl, _, rfl⟩
  · have IXf : Hid _ := hf
    have IYf : Hid _ := hf'
    clear hf hf'
    go_enter Tryz.func34, Tryz.ntmps34
    go_wp2_with (first | (go_at_call 61; first | ((with_reducible refine (IX.out _).mono ?_); rw [IXf.out]; rintro e w' ⟨rfl, n', rfl⟩) | ((with_reducible refine (IY.out _).mono ?_); rw [IYf.out]; rintro e w' ⟨rfl, n, rfl⟩)) | (go_at_call 66; refine (c_nan _).mono ?_; rintro e w' ⟨rfl, rfl⟩) | ((with_reducible refine upon_narrow Tryz.underlying46 Tryz.underlying28 (by decide) (by rw [fv_nan]; exact fits_none) ?_); intro q m hq))
    go_ret
    exact ⟨q, ⟨hq.1.trans (by rw [fv_nan]; rfl), hq.2⟩, rfl, _, rfl⟩
theorem c_implAngle_zero (y x : Nat) (hfy : isFin (fv .f32 y) = true) (hfx : isFin (fv .f32 x) = true) (hz : (FloatKind.f32.format.order x 0 == some .eq) = true) (hz' : (FloatKind.f32.format.order y 0 == some .eq) = true) (w : World) : Calls Tryz.prog 34 #[.float .f32 y, .float .f32 x] w (RF .f32 (some 0) w) := by
  have IY : Hid _ := c_implIsFinite y
  have IX : Hid _ := c_implIsFinite x
  have IXf : Hid _ := hfx
  have IYf : Hid _ := hfy
  clear hfx hfy
  go_enter Tryz.func34, Tryz.ntmps34
  go_wp2_with (go_at_call 61; first | ((with_reducible refine (IX.out _).mono ?_); rw [IXf.out]; rintro e w' ⟨rfl, n', rfl⟩) | ((with_reducible refine (IY.out _).mono ?_); rw [IYf.out]; rintro e w' ⟨rfl, n, rfl⟩))
  go_ret
  exact ⟨0, ⟨rfl, by decide⟩, rfl, _, rfl⟩

theorem zero_eq (s : Bool) : (FloatKind.f64.format.order (Ieee.double.word s 0) 0 == some .eq) = true := by cases s <;> decide

end Go.Proofs.YtiabbafmjgiobaaGreatDoor

/-
Contracts and the walk of the law on FlushNumber.
-/
namespace Go.Proofs.YtiabbafmjgiobaaGreatDoor
open Fl Go.RowKit

/-- a number, a zero of its sign if it is subnormal -/
def flushV (x : Nat) : Option Nat := if ((fv .f32 x).isSome && decide (x % 2147483648 < 8388608)) = true then some (x / 2147483648 * 2147483648) else fv .f32 x

theorem and_bit (a k : Nat) : a &&& 2 ^ k = a / 2 ^ k % 2 * 2 ^ k := by
  apply Nat.eq_of_testBit_eq
  intro i
  have e : a / 2 ^ k % 2 * 2 ^ k = (a / 2 ^ k % 2 ^ 1) * 2 ^ k := by rw [Nat.pow_one]
  rw [e, Nat.testBit_and, Nat.testBit_two_pow, Nat.testBit_mul_two_pow, Nat.testBit_mod_two_pow, Nat.testBit_div_two_pow]
  by_cases h : k = i
  · subst h; simp
  · by_cases h2 : k ≤ i
    · have : ¬ i - k < 1 := by omega
      simp [h, this]
    · simp [h, h2]

theorem and_sign (x : Nat) (hx : x < 4294967296) : bits .and .i64 (x : Int) 2147483648 = ((x / 2147483648 * 2147483648 : Nat) : Int) := by
  have h := i64_and_nat x 2147483648 (by omega) (by decide)
  rw [show ((2147483648 : Nat) : Int) = 2147483648 from rfl] at h
  have e : x &&& 2147483648 = x / 2147483648 % 2 * 2147483648 := and_bit x 31
  rw [h, e]
  omega
theorem u64_sign (x : Nat) (hx : x < 18446744073709551616) : bits .and .u64 (x : Int) 9223372036854775808 = ((x / 9223372036854775808 * 9223372036854775808 : Nat) : Int) := by
  have h := bits_and_u64_nat x 9223372036854775808 hx (by decide)
  rw [show ((9223372036854775808 : Nat) : Int) = 9223372036854775808 from rfl] at h
  have e : x &&& 9223372036854775808 = x / 9223372036854775808 % 2 * 9223372036854775808 := and_bit x 63
  rw [h, e]
  omega
theorem u64_or0 (x : Nat) (hx : x < 18446744073709551616) : bits .or .u64 0 (x : Int) = (x : Int) := by
  have h := bits_or_u64_nat 0 x (by decide) hx
  rw [show ((0 : Nat) : Int) = 0 from rfl] at h
  rw [h, Nat.zero_or]

theorem c_copysign0 (r : Nat) (hr : r < 18446744073709551616) (w : World) : Calls Tryz.prog 63 #[.float .f64 0, .float .f64 r] w fun e w' => e = .returned (.float .f64 (r / 9223372036854775808 * 9223372036854775808)) ∧ w = w' := by
  have h1 := u64_sign r hr
  have h2 : bits .andNot .u64 0 9223372036854775808 = 0 := by decide
  have hlt : r / 9223372036854775808 * 9223372036854775808 < 18446744073709551616 := by omega
  generalize r / 9223372036854775808 * 9223372036854775808 = z at h1 hlt ⊢
  have h3 := u64_or0 z hlt
  go_enter Tryz.func63, Tryz.ntmps63
  go_wp2
  go_ret
  exact ⟨rfl, rfl⟩

/-- a zero of a float32's sign, as a float64 and back -/
theorem zero_back {x r : Nat} (hx : x < 4294967296) (hn : (FloatKind.f32.decode x).isNaN = false) (h : RV .f64 (cvf .f32 .f64 (fv .f32 x)) r) :
    FitsF .f64 .f32 (fv .f64 (r / 9223372036854775808 * 9223372036854775808)) ∧ cvf .f64 .f32 (fv .f64 (r / 9223372036854775808 * 9223372036854775808)) = some (x / 2147483648 * 2147483648) := by
  obtain ⟨r', a1, a2, _, _⟩ := widen_word hx hn
  have e1 : r = _ := (fv_some.1 (h.1.trans a2)).2
  have hw := word_sign (decide (2147483648 ≤ x)) a1
  rw [← e1] at hw
  have hr := rv64 h
  by_cases hs : 2147483648 ≤ x
  · have e2 : r / 9223372036854775808 = 1 := by
      have := hw.2 (decide_eq_true hs); omega
    have e3 : x / 2147483648 = 1 := by omega
    rw [e2, e3]
    exact ⟨by intro y hy; obtain ⟨_, rfl⟩ := fv_some.1 hy; rfl, rfl⟩
  · have e2 : r / 9223372036854775808 = 0 := by
      have : ¬ 9223372036854775808 ≤ r := by rw [hw]; simp [hs]
      omega
    have e3 : x / 2147483648 = 0 := by omega
    rw [e2, e3]
    exact ⟨by intro y hy; obtain ⟨_, rfl⟩ := fv_some.1 hy; rfl, rfl⟩

theorem c_implFlush (x : Nat) (hx : x < 4294967296) (w : World) : Calls Tryz.prog 28 #[.float .f32 x] w (RF .f32 (flushV x) w) := by
  cases hs : subV x
  · have hv : fv .f32 x = flushV x := by
      unfold flushV
      cases h : ((fv .f32 x).isSome && decide (x % 2147483648 < 8388608))
      · rw [if_neg (by decide)]
      · rw [if_pos rfl]
        simp only [Bool.and_eq_true, decide_eq_true_eq] at h
        have h0 : x % 2147483648 = 0 := by
          unfold subV at hs
          rw [h.1, decide_eq_true h.2] at hs
          simp at hs; omega
        have e : x / 2147483648 * 2147483648 = x := by omega
        rw [e]
        obtain ⟨y, hy⟩ := Option.isSome_iff_exists.1 h.1
        rw [hy, (fv_some.1 hy).2]
    go_enter Tryz.func28, Tryz.ntmps28
    go_wp2_with (go_at_call 33; refine (c_implIsSubnormal _ hx _).mono ?_; rw [hs]; rintro e w' ⟨rfl, n, rfl⟩)
    go_ret
    exact ⟨x, ⟨hv, hx⟩, rfl, _, rfl⟩
  · have hn : (FloatKind.f32.decode x).isNaN = false := by
      cases hn : (FloatKind.f32.decode x).isNaN with
      | false => rfl
      | true => unfold subV at hs; rw [fv_none.2 hn] at hs; cases hs
    have hv : flushV x = some (x / 2147483648 * 2147483648) := by
      unfold flushV subV at *
      rw [fv_some.2 ⟨hn, rfl⟩] at hs ⊢
      simp only [Option.isSome_some, Bool.true_and, Bool.and_eq_true, decide_eq_true_eq] at hs ⊢
      rw [if_pos hs.2]
    rw [hv]
    go_enter Tryz.func28, Tryz.ntmps28
    go_wp2_with (first | (go_at_call 33; refine (c_implIsSubnormal _ hx _).mono ?_; rw [hs]; rintro e w' ⟨rfl, n, rfl⟩) | ((with_reducible refine upon_widen Tryz.underlying28 Tryz.underlying46 hx ?_); intro r n hr) | (go_at_call 63; refine (c_copysign0 _ (rv64 hr) _).mono ?_; rintro e w' ⟨rfl, rfl⟩) | ((with_reducible refine upon_narrow Tryz.underlying46 Tryz.underlying28 (by have := rv64 hr; omega) (zero_back hx hn hr).1 ?_); intro q n hq))
    go_ret
    exact ⟨q, ⟨hq.1.trans (zero_back hx hn hr).2, hq.2⟩, rfl, _, rfl⟩

end Go.Proofs.YtiabbafmjgiobaaGreatDoor

/-
Contracts and walks of the law on SumNumbers.
-/
namespace Go.Proofs.YtiabbafmjgiobaaGreatDoor
open Fl Go.RowKit

/-- the sum from left to right -/
def sumV (xs : List Nat) : Option Nat := xs.foldl (fun s x => opf .add .f32 s (fv .f32 x)) (some 0)
theorem sumV_snoc (xs : List Nat) (k : Nat) (hk : k < xs.length) : sumV (xs.take (k + 1)) = opf .add .f32 (sumV (xs.take k)) (fv .f32 (xs.getD k 0)) := by
  rw [List.take_succ_eq_append_getElem hk]
  unfold sumV
  rw [List.foldl_append, List.getD_eq_getElem?_getD, List.getElem?_eq_getElem hk]
  rfl

/-- what both give: the sum, or nothing where the list is too long -/
def RS (v : Option Nat) (ok : Bool) (w : World) (e : Ending) (w' : World) : Prop := ∃ r, RV .f32 v r ∧ e = .returned (.tuple #[.float .f32 r, .bool ok]) ∧ ∃ n, w' = w.drewN n

theorem c_implSum (A : Option Addr) (cap : Nat) (xs : List Nat) (w : World) (h : Fl32 w A xs) (hm : xs.length ≤ 256) :
    Calls Tryz.prog 30 #[.slice A xs.length cap] w (RS (sumV xs) true w) := by
  have hd : decide (256 < (xs.length : Int)) = false := by rw [decide_eq_false_iff_not]; omega
  by_cases hp : 0 < xs.length
  · obtain ⟨b, off, rfl, hb, hc⟩ := h.of_pos hp
    clear h
    go_enter Tryz.func30, Tryz.ntmps30
    go_wp2_with fail
    have HC : Hid _ := hc
    clear hc
    go_loopw [4, 12] (fun v i wr => ∃ k m r : Nat, k ≤ xs.length ∧ i = .int .i64 k ∧ v = .float .f32 r ∧ RV .f32 (sumV (xs.take k)) r ∧ wr = w.drewN m) (fun _ i _ => xs.length - (intOf i).toNat)
    case atStart => exact ⟨0, 0, 0, Nat.zero_le _, rfl, rfl, ⟨rfl, by decide⟩, rfl⟩
    case round =>
      obtain ⟨k, m, r, hk, rfl, rfl, hr, rfl⟩ := hrel
      by_cases hlt : k < xs.length
      · have h1 := HC.out k hlt
        have HS : Hid _ := sumV_snoc xs k hlt
        generalize xs.getD k 0 = v at h1 HS
        go_wp2_with ((with_reducible refine upon_fbin ?_ ?_); exact rfl; intro q n hq)
        go_roundw
        case rel => exact ⟨k + 1, _, q, by omega, by go_num, rfl, ⟨by rw [HS.out, hq.1, hr.1], hq.2⟩, rfl⟩
        case measure => simp [intOf]; omega
      · have hks : k = xs.length := by omega
        subst hks
        go_wp2_with fail
        go_ret2
        exact ⟨r, by rw [List.take_length] at hr; exact hr, rfl, m, rfl⟩
  · obtain rfl : xs = [] := List.eq_nil_of_length_eq_zero (by omega)
    clear hd
    go_enter Tryz.func30, Tryz.ntmps30
    go_wp2_with fail
    go_loop [4, 12] (fun v i => v = .float .f32 0 ∧ i = .int .i64 0) (fun _ _ => 0)
    case atStart => exact ⟨rfl, rfl⟩
    case round =>
      obtain ⟨rfl, rfl⟩ := hrel
      go_wp2_with fail
      go_ret2
      exact ⟨0, ⟨rfl, by decide⟩, rfl, 0, rfl⟩
theorem c_implSum_no (A : Option Addr) (cap n : Nat) (w : World) (hm : 256 < n) (hn : n ≤ 9223372036854775807) :
    Calls Tryz.prog 30 #[.slice A n cap] w (RS (some 0) false w) := by
  have hd : decide (256 < (n : Int)) = true := by rw [decide_eq_true_iff]; omega
  go_enter Tryz.func30, Tryz.ntmps30
  go_wp2_with fail
  go_ret2
  exact ⟨0, ⟨rfl, by decide⟩, rfl, 0, rfl⟩


end Go.Proofs.YtiabbafmjgiobaaGreatDoor

/-
What the program's own functions give at the great law on numbers: angles, narrowing back, the sine of a quarter turn.
-/
set_option linter.unusedVariables false
set_option linter.unusedSimpArgs false
namespace Go.Proofs.YtiabbafmjgiobaaGreatDoor
open Fl Go Go.RowKit

/-- the program's angle at finite numbers that are not both zero -/
theorem angleI_fin (y x : Nat) (hy : y < 4294967296) (hx : x < 4294967296) (hfy : isFin (fv .f32 y) = true) (hfx : isFin (fv .f32 x) = true) (hnz : (FloatKind.f32.format.order x 0 == some .eq) = false ∨ (FloatKind.f32.format.order x 0 == some .eq) = true ∧ (FloatKind.f32.format.order y 0 == some .eq) = false) :
    ∃ v, ∀ w, Calls Tryz.prog 34 #[.float .f32 y, .float .f32 x] w (RF .f32 v w) := by
  obtain ⟨sy, ry, hry, hcy, ly, ey⟩ := widen_all hy hfy
  obtain ⟨sx, rx, hrx, hcx, lx, ex⟩ := widen_all hx hfx
  have ay : Ieee.double.word sy ry % 9223372036854775808 = ry := word_abs sy (Nat.le_of_lt hry)
  have ax : Ieee.double.word sx rx % 9223372036854775808 = rx := word_abs sx (Nat.le_of_lt hrx)
  have Fy := fin_word sy hry
  have Fx := fin_word sx hrx
  have Fa : Fnt ry := fin_word false hry
  have Fb : Fnt rx := fin_word false hrx
  have h64y := word_lt64 sy (Nat.le_of_lt hry)
  have h64x := word_lt64 sx (Nat.le_of_lt hrx)
  have hgt : (FloatKind.f64.format.order ry rx == some .gt) = decide (rx < ry) := by
    have h := gt_word false hry hrx
    have e : Ieee.double.word false ry = ry := rfl
    rw [e] at h
    rw [h]
    congr 1
    have hs : sun false ry = (un Ieee.double ry : Int) := rfl
    rw [hs]
    refine propext ⟨fun h1 => ?_, fun h1 => ?_⟩
    · refine Nat.lt_of_not_le fun h2 => ?_
      have := (un_le_iff Ieee.double _ _).2 h2
      omega
    · have := un_lt Ieee.double h1
      omega
  have hnz0 : 0 < rx ∨ 0 < ry := by
    rcases Nat.eq_zero_or_pos rx with h | h
    · rcases Nat.eq_zero_or_pos ry with h' | h'
      · exfalso
        subst h; subst h'
        rw [zero_eq] at ex ey
        rcases hnz with h | ⟨_, h⟩
        · rw [← ex] at h; cases h
        · rw [← ey] at h; cases h
      · exact .inr h'
    · exact .inl h
  by_cases ho : rx < ry
  · rw [decide_eq_true ho] at hgt
    obtain ⟨hb, hnzq⟩ := quot_one (Nat.le_of_lt ho) (by omega) hry
    obtain ⟨q, hq⟩ := quot_any hry hrx (.inl (by omega))
    have hT := halves hb
    have hL := ang_ok true (FloatKind.f32.format.order x 0 == some .lt) (FloatKind.f32.format.order y 0 == some .lt) (half_bd hb 3)
    obtain ⟨v, hv, hN⟩ := narrow_one hL.a3
    have hq' : ∀ w, (binOp .quo 46 (.float .f64 ry) (.float .f64 rx)).run Tryz.prog w = .ok (.float .f64 q) w := fun w => run_float_arith w _ _ _ _ _ _ hq
    refine ⟨_, fun w => (?_ : Calls _ _ _ w fun e w' => e = .returned (.float .f32 v) ∧ ∃ n, w' = w.drewN n).mono fun e w' h => ⟨v, hv, h.1, h.2⟩⟩
    rcases hnz with hz | ⟨hz, hz'⟩
    · exact c_angle10 y x _ _ _ _ _ v hfy hfx hcy hcx h64y h64x hz (by rw [ay, ax]; exact hgt) (by rw [ay]; exact Fa) (by rw [ax]; exact Fb) (by rw [ay]; exact hnzq) q (by rw [ay, ax]; exact hq') (by rw [ay, ax]; rfl) hT hL rfl rfl hN w
    · exact c_angle11 y x _ _ _ _ _ v hfy hfx hcy hcx h64y h64x hz hz' (by rw [ay, ax]; exact hgt) (by rw [ay]; exact Fa) (by rw [ax]; exact Fb) (by rw [ay]; exact hnzq) q (by rw [ay, ax]; exact hq') (by rw [ay, ax]; rfl) hT hL rfl rfl hN w
  · rw [decide_eq_false ho] at hgt
    obtain ⟨hb, hnzq⟩ := quot_one (Nat.le_of_not_lt ho) (by omega) hrx
    have hq : floatBits .quo .f64 ry rx = some (fdiv ry rx) := div_ok Fa hnzq
    have hT := halves hb
    have hL := ang_ok false (FloatKind.f32.format.order x 0 == some .lt) (FloatKind.f32.format.order y 0 == some .lt) (half_bd hb 3)
    obtain ⟨v, hv, hN⟩ := narrow_one hL.a3
    have hq' : ∀ w, (binOp .quo 46 (.float .f64 ry) (.float .f64 rx)).run Tryz.prog w = .ok (.float .f64 (fdiv ry rx)) w := fun w => run_float_arith w _ _ _ _ _ _ hq
    refine ⟨_, fun w => (?_ : Calls _ _ _ w fun e w' => e = .returned (.float .f32 v) ∧ ∃ n, w' = w.drewN n).mono fun e w' h => ⟨v, hv, h.1, h.2⟩⟩
    rcases hnz with hz | ⟨hz, hz'⟩
    · exact c_angle00 y x _ _ (halfT (fdiv (Ieee.double.word false ry) (Ieee.double.word false rx))) _ _ v hfy hfx hcy hcx h64y h64x hz (by rw [ay, ax]; exact hgt) (by rw [ay]; exact Fa) (by rw [ax]; exact Fb) (by rw [ax]; exact hnzq) (fdiv ry rx) (by rw [ay, ax]; exact hq') rfl hT hL rfl rfl hN w
    · exact c_angle01 y x _ _ (halfT (fdiv (Ieee.double.word false ry) (Ieee.double.word false rx))) _ _ v hfy hfx hcy hcx h64y h64x hz hz' (by rw [ay, ax]; exact hgt) (by rw [ay]; exact Fa) (by rw [ax]; exact Fb) (by rw [ax]; exact hnzq) (fdiv ry rx) (by rw [ay, ax]; exact hq') rfl hT hL rfl rfl hN w

theorem angleI (y x : Nat) (hy : y < 4294967296) (hx : x < 4294967296) :
    ∃ v, ∀ w, Calls Tryz.prog 34 #[.float .f32 y, .float .f32 x] w (RF .f32 v w) := by
  cases hfy : isFin (fv .f32 y)
  · refine ⟨none, fun w => c_implAngle_nan y x ?_ w⟩
    cases hfx : isFin (fv .f32 x)
    · exact .inl rfl
    · exact .inr ⟨rfl, hfy⟩
  · cases hfx : isFin (fv .f32 x)
    · exact ⟨none, fun w => c_implAngle_nan y x (.inl hfx) w⟩
    · cases hz : (FloatKind.f32.format.order x 0 == some .eq)
      · exact angleI_fin y x hy hx hfy hfx (.inl hz)
      · cases hz' : (FloatKind.f32.format.order y 0 == some .eq)
        · exact angleI_fin y x hy hx hfy hfx (.inr ⟨hz, hz'⟩)
        · exact ⟨some 0, fun w => c_implAngle_zero y x hfy hfx hz hz' w⟩
theorem c_angleOf (y x : Nat) (v : Option Nat) (h : ∀ w, Calls Tryz.prog 34 #[.float .f32 y, .float .f32 x] w (RF .f32 v w)) (w : World) :
    Calls Tryz.prog 35 #[.complex .f32 x y] w (RF .f32 v w) := by
  have H := hide_ h
  clear h
  unfold RF at *
  go_enter Tryz.func35, Tryz.ntmps35
  go_wp2_with fail
  go_at_call 34
  refine Calls.mono (H.out _) ?_
  rintro e w1 ⟨r, hr, rfl, n, rfl⟩
  go_wp2_with fail
  go_ret
  exact ⟨r, hr, rfl, n, rfl⟩

/-- what is widened and narrowed again is the same -/
theorem narrow_widen {x : Nat} (hx : x < 4294967296) : cvf .f64 .f32 (cvf .f32 .f64 (fv .f32 x)) = fv .f32 x ∧ FitsF .f64 .f32 (cvf .f32 .f64 (fv .f32 x)) := by
  by_cases hn : (FloatKind.f32.decode x).isNaN = true
  · rw [fv_none.2 hn]
    exact ⟨rfl, fits_none⟩
  have hn' : (FloatKind.f32.decode x).isNaN = false := by simpa using hn
  have hfv : fv .f32 x = some x := fv_some.2 ⟨hn', rfl⟩
  obtain ⟨r', h1, h2, h3, h4⟩ := widen_word hx hn'
  have key : floatToFloatBits .f64 (Ieee.double.word (decide (2147483648 ≤ x)) r') .f32 = some x := by
    have hle := rung_le_of_not_nan Ieee.single (by decide) x hn'
    have e6 : Ieee.single.signWeight = 2147483648 := rfl
    rw [e6] at hle
    rcases Nat.lt_or_eq_of_le hle with h | h
    · obtain ⟨h5, h6⟩ := h3 h
      have := narrow_back (b := x) hx (r' := r') (by rw [e6]; exact h) h5 (by rw [e6]; exact h6)
      rw [sign_single hx] at this
      exact this
    · rw [h4 h]
      have hd : FloatKind.f64.decode (Ieee.double.word (decide (2147483648 ≤ x)) Ieee.double.infRung) = .infinity (decide (2147483648 ≤ x)) := read_inf Ieee.double _ (by decide)
      unfold floatToFloatBits
      rw [if_neg (by decide), hd]
      simp only
      congr 1
      have := word_of Ieee.single x hx
      rw [sign_single hx, e6, h] at this
      rw [this]
      generalize decide (2147483648 ≤ x) = b
      cases b <;> decide +kernel
  rw [h2, hfv]
  refine ⟨key, fun y hy => ?_⟩
  rw [← Option.some.inj hy, key]
  rfl

theorem c_narrow (x r : Nat) (hx : x < 4294967296) (hr : RV .f64 (cvf .f32 .f64 (fv .f32 x)) r) (w : World) :
    Calls Tryz.prog 36 #[.float .f64 r] w (RF .f32 (fv .f32 x) w) := by
  obtain ⟨h1, h2⟩ := narrow_widen hx
  rw [← hr.1] at h1 h2
  have hr64 := rv64 hr
  unfold RF
  go_enter Tryz.func36, Tryz.ntmps36
  go_wp2_with ((with_reducible refine upon_narrow Tryz.underlying46 Tryz.underlying28 hr64 h2 ?_); intro q m hq)
  go_ret
  exact ⟨q, ⟨hq.1.trans h1, hq.2⟩, rfl, _, rfl⟩

theorem c_sineQuarter (w : World) : Calls Tryz.prog 37 #[.float .f32 1048576000] w (RF .f32 (some 1065353216) w) := by
  have hf : isFin (fv .f32 1048576000) = true := by kernel_rfl
  obtain ⟨y, hF, hy, _, hcv0, hconv⟩ := widen_one (x := 1048576000) (by decide) hf
  have ey : y = 4598175219545276416 := by
    have e : cvf .f32 .f64 (fv .f32 1048576000) = some 4598175219545276416 := by kernel_rfl
    rw [e] at hcv0
    exact (Option.some.inj hcv0).symm
  subst ey
  have hb : bigN 4598175219545276416 = false := by kernel_rfl
  obtain ⟨t, hcv, _, hft, hb0⟩ := frac_sub hF (small_bd hy hF hb)
  have et : t = 0 := by
    have e : floatToIntVal .f64 4598175219545276416 .i64 = some 0 := by kernel_rfl
    rw [e] at hcv
    exact (Option.some.inj hcv).symm
  subst et
  have hbf := fracN_bd hb0
  have hv := (sine_bd hbf).mono (by decide : (77 : Int) ≤ 127)
  have e : cvf .f64 .f32 (some (sineN (fracN 4598175219545276416 0))) = some 1065353216 := by kernel_rfl
  rw [← e]
  exact c_implSine_small 1048576000 _ _ hf hF hy hb hconv (fun w => c_sine _ _ (fun w => c_fraction _ 0 hF hcv hft hb0 w) hbf w) hv w
theorem quarter_one {r : Nat} (h : RV .f32 (some 1065353216) r) : (FloatKind.f32.format.order r 1065353216 == some .eq) = true := by
  obtain ⟨_, rfl⟩ := fv_some.1 h.1
  kernel_rfl

end Go.Proofs.YtiabbafmjgiobaaGreatDoor

/-
Marking a list that a law owns, and looking whether the marks still stand.
-/
set_option linter.unusedVariables false
set_option linter.unusedSimpArgs false
namespace Go.Proofs.YtiabbafmjgiobaaGreatDoor
open Fl Go Go.RowKit

theorem OwnF.fl {base : Nat} {xs : List Nat} {v : Value} {w : World} (h : OwnF base xs v w) : ∃ A cap, v = .slice A xs.length cap ∧ Fl32 w A xs := by
  obtain ⟨A, cap, rfl, h1, h2⟩ := h
  refine ⟨A, cap, rfl, ?_⟩
  rcases h2 with ⟨hv, hn⟩ | ⟨g, cp, cur, hv, hb, hh, hr⟩
  · exact .inl (List.eq_nil_of_length_eq_zero hn)
  · simp only [Value.slice.injEq] at hv
    obtain ⟨rfl, _, rfl⟩ := hv
    refine .inr ⟨g, 0, rfl, (Array.getElem?_eq_some_iff.1 hh).1, fun j hj => ?_⟩
    have ho : w.ownsRow base 28 1 (.slice (some ⟨g, 0, none⟩) xs.length cap) xs.length (xs.map (Value.float .f32)) := ⟨h1, .inr ⟨g, cap, cur, rfl, hb, hh, hr⟩⟩
    rw [Nat.zero_add, ho.cellAt j (by omega), List.getElem?_map, List.getElem?_eq_getElem hj]
    simp [List.getD_eq_getElem?_getD, hj]

/-- what new memory leaves, and the writing of another block -/
theorem OwnF.grown {base : Nat} {xs : List Nat} {v : Value} {w w' : World} {row : Option Nat} (h : OwnF base xs v w) (hg : w.grownBy w' row) (hne : v.ownBlock = none ∨ v.ownBlock ≠ row) : OwnF base xs v w' := by
  obtain ⟨A, cap, rfl, h1⟩ := h
  exact ⟨A, cap, rfl, h1.kept hg hne⟩
def cvt (k : Nat) : Nat := floatOfInt .f32 (k : Int)
def marks (k n : Nat) : List Nat := (List.range n).map fun i => cvt (k + i)
theorem marks_len (k n : Nat) : (marks k n).length = n := by simp [marks]
theorem marks_get (k n : Nat) {i : Nat} (h : i < n) : (marks k n).getD i 0 = cvt (k + i) := by
  simp [marks, List.getD_eq_getElem?_getD, h]

theorem mark_step {w : World} {base n : Nat} {v : Value} {ys : List Value} (h : w.ownsRow base 28 1 v n ys) {k j : Nat} {g : Nat} {cap : Nat} (hv : v = .slice (some ⟨g, 0, none⟩) n cap) (hy : ∀ i, i < j → ys[i]? = some (.float .f32 (cvt (k + i)))) (hj : j < n) :
    ∃ zs, (w.setCell ⟨g, j, none⟩ (.float .f32 (cvt (k + j)))).ownsRow base 28 1 v n zs ∧ ∀ i, i < j + 1 → zs[i]? = some (.float .f32 (cvt (k + i))) := by
  subst hv
  have hl : ys.length = n * 1 := h.1
  refine ⟨_, (h.stored j (.float .f32 (cvt (k + j)))).1, fun i hi => ?_⟩
  rw [List.getElem?_set]
  by_cases h1 : j = i
  · subst h1
    rw [if_pos rfl, if_pos (by omega)]
  · rw [if_neg h1]; exact hy i (by omega)
theorem mark_end {w : World} {base n : Nat} {A : Option Addr} {cap : Nat} {ys : List Value} (h : w.ownsRow base 28 1 (.slice A n cap) n ys) {k : Nat} (hy : ∀ i, i < n → ys[i]? = some (.float .f32 (cvt (k + i)))) : OwnF base (marks k n) (.slice A n cap) w := by
  have hl : ys.length = n * 1 := h.1
  have e : ys = (marks k n).map (Value.float .f32) := by
    apply List.ext_getElem?
    intro i
    by_cases hi : i < n
    · rw [hy i hi]; simp [marks, hi]
    · rw [List.getElem?_eq_none (by omega), List.getElem?_eq_none (by simp [marks]; omega)]
  subst e
  exact ⟨A, cap, by rw [marks_len], by rw [marks_len]; exact h⟩
theorem setCell_grown (w : World) (a : Addr) (u : Value) : w.grownBy (w.setCell a u) (some a.block) :=
  ⟨rfl, rfl, rfl, by simp [World.setCell], fun k hk hne => Below.heap_setCell w a u k (fun e => hne (by rw [e]))⟩
theorem grown_trans {a b c : World} {row : Option Nat} (h : a.grownBy b row) (k : b.grownBy c row) : a.grownBy c row :=
  ⟨k.os.trans h.os, k.tape.trans h.tape, k.output.trans h.output, Nat.le_trans h.size k.size, fun i hi hne => (k.block i (Nat.lt_of_lt_of_le hi h.size) hne).trans (h.block i hi hne)⟩


end Go.Proofs.YtiabbafmjgiobaaGreatDoor

/-
The law FnNumbers, walked.
-/
set_option linter.unusedVariables false
set_option linter.unusedSimpArgs false
namespace Go.Proofs.YtiabbafmjgiobaaGreatDoor
open Fl Go Go.RowKit

theorem bits_fv {a b : Nat} (h : fv .f32 a = fv .f32 b) : bitsOf a = bitsOf b := by
  unfold bitsOf
  rw [h]
  cases hb : fv .f32 b with
  | none => rfl
  | some v =>
    rw [hb] at h
    rw [(fv_some.1 h).2, (fv_some.1 hb).2]
theorem same_fv {a b : Nat} (h : fv .f32 a = fv .f32 b) : sameV a b = true := by
  unfold sameV
  rw [bits_fv h]
  simp
theorem flush_cases {x z : Nat} (h : RV .f32 (flushV x) z) : ((fv .f32 x).isSome = true ∧ x % 2147483648 < 8388608 ∧ z = x / 2147483648 * 2147483648 ∧ (fv .f32 z).isSome = true) ∨ ((fv .f32 x).isSome = false ∨ 8388608 ≤ x % 2147483648) ∧ fv .f32 z = fv .f32 x := by
  have h1 := h.1
  unfold flushV at h1
  split at h1
  · rename_i hc
    simp only [Bool.and_eq_true, decide_eq_true_eq] at hc
    exact .inl ⟨hc.1, hc.2, (fv_some.1 h1).2, by rw [h1]; rfl⟩
  · rename_i hc
    simp only [Bool.and_eq_true, decide_eq_true_eq, Classical.not_and_iff_not_or_not] at hc
    refine .inr ⟨?_, h1⟩
    rcases hc with h2 | h2
    · exact .inl (by simpa using h2)
    · exact .inr (by omega)
theorem flush_sub {x z : Nat} (h : RV .f32 (flushV x) z) : subV z = false := by
  rcases flush_cases h with ⟨_, _, rfl, _⟩ | ⟨hc, e⟩
  · unfold subV
    have : x / 2147483648 * 2147483648 % 2147483648 = 0 := Nat.mul_mod_left _ _
    rw [this]
    simp
  · unfold subV
    rw [e]
    cases hx : fv .f32 x with
    | none => simp
    | some v =>
      rw [hx] at e
      have ez := (fv_some.1 e).2
      have ex := (fv_some.1 hx).2
      rw [hx] at hc
      rcases hc with hc | hc
      · cases hc
      · rw [ez, ← ex]
        have : decide (x % 2147483648 < 8388608) = false := by rw [decide_eq_false_iff_not]; omega
        rw [this]; simp
theorem flush_same {x z : Nat} (h : RV .f32 (flushV x) z) : (subV x == sameV x z) = false := by
  rcases flush_cases h with ⟨hx, hs, ez, hz⟩ | ⟨hc, e⟩
  · unfold subV sameV
    have b1 : bitsOf x = (x : Int) := by unfold bitsOf; rw [if_pos hx]
    have b2 : bitsOf z = (z : Int) := by unfold bitsOf; rw [if_pos hz]
    rw [b1, b2, hx, decide_eq_true hs]
    by_cases h0 : x % 2147483648 = 0
    · have e1 : decide (0 < x % 2147483648) = false := by rw [decide_eq_false_iff_not]; omega
      have e2 : x = z := by omega
      rw [e1, ← e2]
      simp
    · have e1 : decide (0 < x % 2147483648) = true := by rw [decide_eq_true_eq]; omega
      have e2 : ((x : Int) == (z : Int)) = false := by rw [beq_eq_false_iff_ne]; omega
      rw [e1, e2]
      rfl
  · rw [same_fv e.symm]
    have : subV x = false := by
      unfold subV
      rcases hc with hc | hc
      · rw [hc]; simp
      · have : decide (x % 2147483648 < 8388608) = false := by rw [decide_eq_false_iff_not]; omega
        rw [this]; simp
    rw [this]; rfl

theorem text_size (xs : List Nat) (hl : xs.length ≤ 256) : (⟨(textL (xs.map hex8)).toArray⟩ : ByteArray).size ≤ 1048576 := by
  show (textL (xs.map hex8)).toArray.size ≤ _
  rw [List.size_toArray]
  unfold textL
  split
  · simp
  · have := join_bound (B := 8) (ds := xs.map hex8) (by
      intro d hd
      simp only [List.mem_map] at hd
      obtain ⟨v, _, rfl⟩ := hd
      exact Nat.le_of_eq (hxL_len _ _))
    rw [List.length_map] at this
    omega

theorem c_fromBits (x : Nat) (hx : x < 4294967296) (w : World) : Calls Tryz.prog 20 #[.int .i64 (nb x : Nat)] w fun e w' => e = .returned (.tuple #[.float .f32 (nb x), .bool true]) ∧ w = w' := by
  have hn := nb_lt hx
  refine (c_implFromBits (nb x : Nat) w).mono ?_
  rintro e w' ⟨rfl, rfl⟩
  refine ⟨?_, rfl⟩
  unfold fromV inV
  have e1 : decide ((0 : Int) ≤ (nb x : Nat)) = true := decide_eq_true (by omega)
  have e2 : decide (((nb x : Nat) : Int) ≤ 4294967295) = true := decide_eq_true (by omega)
  rw [e1, e2]
  rfl
theorem c_bitsOf (x : Nat) (hx : x < 4294967296) (w : World) : Calls Tryz.prog 21 #[.float .f32 x] w fun e w' => e = .returned (.int .i64 (nb x : Nat)) ∧ w = w' := by
  refine (c_implBitsOf x hx w).mono ?_
  rintro e w' ⟨rfl, rfl⟩
  exact ⟨by rw [nb_eq], rfl⟩
/-- two numbers that are the same, in the reference's words -/
theorem c_sameYes (x y : Nat) (hx : x < 4294967296) (hy : y < 4294967296) (h : sameV x y = true) (w : World) : Calls Tryz.prog 10 #[.float .f32 x, .float .f32 y] w fun e w' => e = .returned (.bool true) ∧ w = w' := by
  refine (c_specSameNumber x y hx hy w).mono ?_
  rintro e w' ⟨rfl, rfl⟩
  exact ⟨by rw [h], rfl⟩
theorem drew_belowN {B : Nat} (w : World) (n : Nat) : Below B w (w.drewN n) := ⟨rfl, rfl, rfl, Nat.le_refl _, fun _ _ => rfl⟩

set_option maxRecDepth 100000 in
set_option maxHeartbeats 4000000 in
theorem walk_FnNumbers (A : Option Addr) (c L : Nat) (B : Option Addr) (d M : Nat) (w : World) (hA : By w A L) (hB : By w B M) (hv : VarsM w) (hz : Tz w) :
    Calls Tryz.prog 4 #[.slice A L c, .slice B M d] w (LawD w) := by
  have HLong := hide_ (c_b10Long A B L M c d w)
  by_cases hlong : 1048576 < L ∨ 1048576 < M
  · rw [decide_eq_true hlong] at HLong
    clear hA hB hv hz
    go_enter Tryz.func4, Tryz.ntmps4
    go_wp2_with fail
    go_at_call 5
    refine Calls.mono HLong.out ?_
    rintro e w1 ⟨rfl, rfl⟩
    go_wp2_with fail
    go_ret
    exact ⟨rfl, Below.refl _ _⟩
  · rw [decide_eq_false hlong] at HLong
    obtain ⟨hL, hM⟩ : L ≤ 1048576 ∧ M ≤ 1048576 := by omega
    clear hlong
    have HA := hide_ hA
    have HB := hide_ hB
    have HV := hide_ hv
    have HZ := hide_ hz
    have NX := hide_ (c_B10Number (A := A) (L := L) (c := c) w hA hL)
    have NY := hide_ (fun W h => c_B10Number (A := B) (L := M) (c := d) W h hM)
    have NAt := hide_ (fun W h => c_b10At (A := A) (L := L) (c := c) 0 12 W h hL (by decide) (by decide) (by decide))
    have NL := hide_ (fun n (hn : n ≤ 1000) W h => c_B10Numbers (A := B) (L := M) (c := d) n W h hM hn)
    clear hA hB hv hz
    go_enter Tryz.func4, Tryz.ntmps4
    go_wp2_with fail
    go_at_call 5
    refine Calls.mono HLong.out ?_
    rintro e w0 ⟨rfl, rfl⟩
    go_wp2_with fail
    go_at_call 19
    refine Calls.mono NX.out ?_
    rintro e w1 ⟨⟨x, hx, rfl⟩, hB1⟩
    have B1 := hide_ hB1
    clear hB1
    go_wp2_with fail
    go_at_call 19
    refine Calls.mono (NY.out _ (HB.out.keep B1.out (Nat.le_refl _))) ?_
    rintro e w2 ⟨⟨y, hy, rfl⟩, hB2⟩
    have B2 := hide_ (B1.out.trans (hB2.mono B1.out.size))
    clear hB2
    go_wp2_with fail
    go_at_call 21
    refine Calls.mono (c_bitsOf x hx _) ?_
    rintro e w3 ⟨rfl, rfl⟩
    have FB := hide_ (fun W => c_fromBits x hx W)
    have SB := hide_ (fun W => c_sameYes (nb x) x (nb_lt hx) hx (same_nb x) W)
    generalize nb x = bx at FB SB
    go_wp2_with fail
    go_at_call 20
    refine Calls.mono (FB.out _) ?_
    rintro e w4 ⟨rfl, rfl⟩
    go_wp2_with fail
    go_at_call 28
    refine Calls.mono (c_implFlush x hx _) ?_
    rintro e w5 ⟨z, hzr, rfl, n5, rfl⟩
    have ZR := hide_ hzr
    have hz32 : z < 4294967296 := rv32 hzr
    have B5 := hide_ (B2.out.trans (drew_belowN w2 n5))
    clear hzr
    generalize w2.drewN n5 = w5 at B5 ⊢
    go_wp2_with fail
    go_at_call 16
    refine Calls.mono (NAt.out _ (HA.out.keep B5.out (Nat.le_refl _))) ?_
    rintro e w6 ⟨⟨n, hn, rfl⟩, rfl⟩
    go_wp2_with fail
    go_at_call 29
    refine Calls.mono (NL.out n (by omega) _ (HB.out.keep B5.out (Nat.le_refl _))) ?_
    rintro e w7 ⟨v, xs, rfl, hxl, hO, hxs, hB7⟩
    subst hxl
    obtain ⟨A7, c7, rfl, hF7⟩ := hO.fl
    have hx256 : xs.length ≤ 256 := by omega
    have B7 := hide_ (B5.out.trans (hB7.mono B5.out.size))
    have F7 := hide_ hF7
    have AX := hide_ (all32_of hxs)
    have XS := hide_ hxs
    clear hB7 hO hF7 hxs B5
    go_wp2_with fail
    go_loopw [11, 41] (fun v i wr => ∃ k m r : Nat, k ≤ xs.length ∧ i = .int .i64 k ∧ v = .float .f32 r ∧ RV .f32 (sumV (xs.take k)) r ∧ wr = w7.drewN m) (fun _ i _ => xs.length - (intOf i).toNat)
    case atStart => exact ⟨0, 0, 0, Nat.zero_le _, rfl, rfl, ⟨rfl, by decide⟩, rfl⟩
    case round =>
      obtain ⟨k, m, r, hk, rfl, rfl, hr, rfl⟩ := hrel
      by_cases hlt : k < xs.length
      · obtain ⟨b, off, rfl, hb, hc⟩ := F7.out.of_pos (by omega)
        have h1 := hc k hlt
        have HS := hide_ (sumV_snoc xs k hlt)
        generalize xs.getD k 0 = v at h1 HS
        clear hc
        go_wp2_with ((with_reducible refine upon_fbin ?_ ?_); exact rfl; intro q n hq)
        go_roundw
        case rel => exact ⟨k + 1, _, q, by omega, by go_num, rfl, ⟨by rw [HS.out, hq.1, hr.1], hq.2⟩, rfl⟩
        case measure => simp [intOf]; omega
      · have hks : k = xs.length := by omega
        subst hks
        rw [List.take_length] at hr
        have HR := hide_ hr
        have hr32 := rv32 hr
        have B8 := hide_ (B7.out.trans (drew_belowN w7 m))
        have F8 := hide_ (F7.out.drewN m)
        have SM := hide_ (c_implSum A7 c7 xs (w7.drewN m) F8.out hx256)
        clear hr B7
        generalize w7.drewN m = w8 at B8 F8 SM ⊢
        go_wp2_with fail
        go_at_call 30
        refine Calls.mono SM.out ?_
        rintro e w9 ⟨q, hq, rfl, n9, hw9⟩
        have SQ := hide_ (fun W => c_sameYes q r (rv32 hq) hr32 (same_fv (hq.1.trans HR.out.1.symm)) W)
        have B9 := hide_ (show Below w.heap.size w w9 by rw [hw9]; exact B8.out.trans (drew_belowN _ _))
        have F9 := hide_ (show Fl32 w9 A7 xs by rw [hw9]; exact F8.out.drewN n9)
        clear hq hw9 SM F8 B8
        have NT := hide_ (c_implNText A7 c7 xs w9 F9.out AX.out (by omega) (HZ.out.keep B9.out))
        unfold NTextGives at NT
        rw [(numT_yes (xs := xs) hx256).1, (numT_yes (xs := xs) hx256).2] at NT
        have RN := hide_ (fun W hv hz => c_implReadNumbers ⟨(textL (xs.map hex8)).toArray⟩ W (text_size xs hx256) hv hz)
        unfold NReadGives at RN
        rw [(text_back xs XS.out hx256).1, (text_back xs XS.out hx256).2] at RN
        generalize (⟨(textL (xs.map hex8)).toArray⟩ : ByteArray) = T at NT RN
        go_wp2_with fail
        go_at_call 31
        refine Calls.mono NT.out ?_
        rintro e w10 ⟨rfl, hB10⟩
        have B10 := hide_ (B9.out.trans (hB10.mono B9.out.size))
        have F10 := hide_ (F9.out.keep hB10 (Nat.le_refl _))
        clear hB10 NT F9 B9
        go_wp2_with fail
        go_at_call 32
        refine Calls.mono (RN.out _ (HV.out.keep B10.out) (HZ.out.keep B10.out)) ?_
        rintro e w11 ⟨v, rfl, hO, hB11⟩
        obtain ⟨A11, c11, rfl, hF11⟩ := hO.fl
        have B11 := hide_ (B10.out.trans (hB11.mono B10.out.size))
        have F11 := hide_ (F10.out.keep hB11 (Nat.le_refl _))
        have G11 := hide_ hF11
        rw [List.length_map]
        clear hB11 hO hF11 F10 B10 RN
        have SZ := hide_ (fun W => c_implIsSubnormal z hz32 W)
        rw [flush_sub ZR.out] at SZ
        have SX := hide_ (fun W => c_implIsSubnormal x hx W)
        have SXZ := hide_ (fun W => c_specSameNumber x z hx hz32 W)
        have hpq := flush_same ZR.out
        generalize subV x = p at SX hpq
        generalize sameV x z = t at SXZ hpq
        have HPQ := hide_ hpq
        clear hpq
        go_wp2_with fail
        go_at_call 10
        refine Calls.mono (SB.out _) ?_
        rintro e w12 ⟨rfl, rfl⟩
        go_wp2_with fail
        go_at_call 33
        refine Calls.mono (SZ.out _) ?_
        rintro e w13 ⟨rfl, n13, hw13⟩
        have B13 := hide_ (show Below w.heap.size w w13 by rw [hw13]; exact B11.out.trans (drew_belowN _ _))
        have F13 := hide_ (show Fl32 w13 A7 xs by rw [hw13]; exact F11.out.drewN n13)
        have G13 := hide_ (show Fl32 w13 A11 (xs.map nb) by rw [hw13]; exact G11.out.drewN n13)
        clear hw13 B11 F11 G11
        go_wp2_with fail
        go_at_call 33
        refine Calls.mono (SX.out _) ?_
        rintro e w14 ⟨rfl, n14, hw14⟩
        have B14 := hide_ (show Below w.heap.size w w14 by rw [hw14]; exact B13.out.trans (drew_belowN _ _))
        have F14 := hide_ (show Fl32 w14 A7 xs by rw [hw14]; exact F13.out.drewN n14)
        have G14 := hide_ (show Fl32 w14 A11 (xs.map nb) by rw [hw14]; exact G13.out.drewN n14)
        clear hw14 B13 F13 G13
        go_wp2_with fail
        go_at_call 10
        refine Calls.mono (SXZ.out _) ?_
        rintro e w15 ⟨rfl, rfl⟩
        have hpq := HPQ.out
        go_wp2_with fail
        go_at_call 10
        refine Calls.mono (SQ.out _) ?_
        rintro e w16 ⟨rfl, rfl⟩
        clear hpq
        go_wp2_with fail
        obtain ⟨va, hva⟩ := angleI y x hy hx
        have AT := hide_ hva
        have AO := hide_ (fun W => c_angleOf y x va hva W)
        have CN := hide_ (fun r hr W => c_narrow x r hx hr W)
        have CS := hide_ (fun W => c_sineQuarter W)
        clear hva
        go_loopw [113] (fun i wr => ∃ k m : Nat, k ≤ xs.length ∧ i = .int .i64 k ∧ wr = w14.drewN m) (fun i _ => xs.length - (intOf i).toNat)
        case atStart => exact ⟨0, 0, Nat.zero_le _, rfl, rfl⟩
        case round =>
          obtain ⟨k, m2, hk, rfl, rfl⟩ := hrel
          by_cases hlt : k < xs.length
          · obtain ⟨b, off, rfl, hb, hc⟩ := F14.out.of_pos (by omega)
            obtain ⟨b', off', rfl, hb', hc'⟩ := G14.out.of_pos (by rw [List.length_map]; omega)
            have h1 := hc k hlt
            have h2 := hc' k (by rw [List.length_map]; exact hlt)
            have e2 : (xs.map nb).getD k 0 = nb (xs.getD k 0) := by simp [List.getD_eq_getElem?_getD, hlt]
            rw [e2] at h2
            have hvk := AX.out k
            generalize xs.getD k 0 = v at h1 h2 hvk
            have SV := hide_ (fun W => c_sameYes (nb v) v (nb_lt hvk) hvk (same_nb v) W)
            generalize nb v = bv at h2 SV
            clear hc hc' e2
            have hltI : (k : Int) < xs.length := by omega
            have h1' : (w14.drewN m2).cell? ⟨b, off + k, none⟩ = some (.float .f32 v) := h1
            have h2' : (w14.drewN m2).cell? ⟨b', off' + k, none⟩ = some (.float .f32 bv) := h2
            clear h1 h2
            generalize hwq : w14.drewN m2 = wq at h1' h2' ⊢
            have HWQ := hide_ hwq
            clear hwq
            go_wp2_with fail
            go_quiet ((go_at_call 10; exact Calls.quiet_of_same ((SV.out _).mono fun e w' h => ⟨h.1, h.2.symm⟩)))
            go_wp2_with fail
            go_roundw
            case rel => exact ⟨k + 1, m2 + _, by omega, by go_num, by rw [← HWQ.out, World.drewN_drewN]⟩
            case measure => simp [intOf]; omega
          · have hks : k = xs.length := by omega
            subst hks
            have B15 := hide_ (B14.out.trans (drew_belowN w14 m2))
            clear B14 F14 G14
            generalize w14.drewN m2 = w15 at B15 ⊢
            go_wp2_with fail
            go_at_call 34
            refine Calls.mono (AT.out _) ?_
            rintro e w16 ⟨a1, ha1, rfl, n16, hw16⟩
            have B16 := hide_ (show Below w.heap.size w w16 by rw [hw16]; exact B15.out.trans (drew_belowN _ _))
            have HA1 := hide_ ha1
            clear hw16 B15 ha1
            go_wp2_with fail
            go_at_call 35
            refine Calls.mono (AO.out _) ?_
            rintro e w17 ⟨a2, ha2, rfl, n17, hw17⟩
            have B17 := hide_ (show Below w.heap.size w w17 by rw [hw17]; exact B16.out.trans (drew_belowN _ _))
            have SA := hide_ (fun W => c_sameYes a1 a2 (rv32 HA1.out) (rv32 ha2) (same_fv (HA1.out.1.trans ha2.1.symm)) W)
            clear hw17 B16 ha2
            go_wp2_with fail
            go_at_call 10
            refine Calls.mono (SA.out _) ?_
            rintro e w18 ⟨rfl, rfl⟩
            go_wp2_with ((with_reducible refine upon_widen Tryz.underlying28 Tryz.underlying46 hx ?_); intro r1 n18 hr1)
            go_at_call 36
            refine Calls.mono (CN.out r1 hr1 _) ?_
            rintro e w19 ⟨a3, ha3, rfl, n19, hw19⟩
            have B19 := hide_ (show Below w.heap.size w w19 by rw [hw19]; exact (B17.out.trans (drew_belowN _ _)).trans (drew_belowN _ _))
            have SN := hide_ (fun W => c_sameYes a3 x (rv32 ha3) hx (same_fv ha3.1) W)
            clear hw19 B17 ha3
            go_wp2_with fail
            go_at_call 10
            refine Calls.mono (SN.out _) ?_
            rintro e w20 ⟨rfl, rfl⟩
            go_wp2_with fail
            go_at_call 37
            refine Calls.mono (CS.out _) ?_
            rintro e w21 ⟨a4, ha4, rfl, n21, hw21⟩
            have B21 := hide_ (show Below w.heap.size w w21 by rw [hw21]; exact B19.out.trans (drew_belowN _ _))
            have hq4 := quarter_one ha4
            clear hw21 B19 ha4
            go_wp2_with fail
            go_ret
            exact ⟨rfl, B21.out⟩

end Go.Proofs.YtiabbafmjgiobaaGreatDoor

/-
A slice of bytes that came in, opened.
-/
namespace Go.Proofs.YtiabbafmjgiobaaGreatDoor
open Go Go.RowKit Go.ChangeShapes Go.WideShapes Go.ChangeAt
set_option linter.unusedVariables false

theorem trod_u8 {H : Type} {enc : TypeId × Value → H} {P : Program} {w : World} {base : Nat} {spare : Nat → Bool} {held : Bool} {fuel : Nat} {t : TypeId} {k : IntKind} {cs : List Value} {x : DataW H × List MemPlace}
    (ht : P.underlying t = some (.int k)) (h : DataW.trod enc P w base spare held fuel t cs = some x) : ∃ n, cs = [.int k n] ∧ (Lit.int k n).wf = true := by
  cases fuel with
  | zero => simp [DataW.trod] at h
  | succ n =>
    unfold DataW.trod at h
    rw [ht] at h
    split at h <;> simp_all
theorem wf_u8 {n : Int} (h : (Lit.int .u8 n).wf = true) : 0 ≤ n ∧ n < 256 := by
  have e1 : IntKind.u8.min = 0 := rfl
  have e2 : IntKind.u8.max = 255 := rfl
  simp only [Lit.wf, Bool.and_eq_true, decide_eq_true_eq, e1, e2] at h
  omega
theorem cells_u8 : Tryz.prog.cellsOf 5 = 1 := by kernel_rfl
theorem open_byP {H : Type} {enc : TypeId × Value → H} {P : Program} {w : World} {base : Nat} {spare : Nat → Bool} {held : Bool} {fuel : Nat} {t e : TypeId} {A : Option Addr} {n cap : Nat} {x : DataW H × List MemPlace}
    (ht : P.underlying t = some (.slice e)) (he : P.underlying e = some (.int .u8)) (hc : P.cellsOf e = 1)
    (h : DataW.trod enc P w base spare held fuel t [.slice A n cap] = some x) : By w A n := by
  rcases DataW.trod_slice ht h with ⟨h0, _⟩ | ⟨a, len, cap', elems, rest, m, _, h0, _, hb, hl, hm, hlen, hel, _, _⟩
  · simp only [List.cons.injEq, Value.slice.injEq, and_true] at h0
    exact .inl h0.2.1
  · simp only [List.cons.injEq, Value.slice.injEq, and_true] at h0
    obtain ⟨rfl, rfl, rfl⟩ := h0
    have each : ∀ i, i < n → ∃ x : Nat, x < 256 ∧ w.cell? (a.add i) = some (.int .u8 x) := by
      intro i hi
      have h1 := hel i hi
      rw [List.getElem?_eq_getElem (by omega), Option.bind_eq_some_iff] at h1
      obtain ⟨cs', hcs, hy⟩ := h1
      obtain ⟨v, rfl, hv⟩ := trod_u8 he hy
      rw [hc, Nat.mul_one] at hcs
      obtain ⟨z0, z1⟩ := wf_u8 hv
      refine ⟨v.toNat, by omega, ?_⟩
      rw [cell_of_cells?_one hcs]
      congr 2
      omega
    by_cases hn : n = 0
    · exact .inl hn
    · refine .inr ?_
      obtain ⟨b, off, spot⟩ := a
      obtain ⟨x0, _, hx0⟩ := each 0 (by omega)
      have hs := World.cell?_spot hx0
      have hspot : spot = none := by simpa [Addr.add] using hs
      subst hspot
      have hblk := World.block_lt_of_cell? _ _ hx0
      refine ⟨b, off, rfl, by simpa [Addr.add] using hblk, fun j hj => ?_⟩
      obtain ⟨x, hx, h2⟩ := each j hj
      rw [Addr.add_lit] at h2
      exact ⟨x, hx, h2⟩
set_option maxRecDepth 100000 in
theorem open_by {H : Type} {enc : TypeId × Value → H} {w : World} {base0 base : Nat} {spare : Nat → Bool} {held : Bool} {v : Value} {d : DataW H} {ps : List MemPlace}
    (hv : Value.okWide Tryz.prog w .any base0 22 v) (h : DataW.Trod enc Tryz.prog w base spare held 22 v d ps) : ∃ A cap L, v = .slice A L cap ∧ By w A L := by
  obtain ⟨A, n, cap, rfl⟩ := okWide_slice Tryz.underlying22 hv
  obtain ⟨fuel, hf⟩ := h
  exact ⟨A, cap, n, rfl, open_byP Tryz.underlying22 Tryz.underlying5 cells_u8 hf⟩

end Go.Proofs.YtiabbafmjgiobaaGreatDoor
