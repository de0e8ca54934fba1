/-
Doubles that are finite: their operations give one result, without a draw; bounds.
-/
import Derived.Test.YtiabbafmjgiobaaFl
namespace Go.Proofs.Ytiabbafmjgiobaa.Fl
open Go Ieee

/-- a finite double -/
def Fnt (x : Nat) : Prop := ∃ s m e, double.read x = .number s m e
/-- a finite double that is not zero -/
def NZ (x : Nat) : Prop := ∃ s m e, double.read x = .number s m e ∧ m ≠ 0
/-- a double of at most '2 ^ n' -/
def Bd (x : Nat) (n : Int) : Prop := x < 18446744073709551616 ∧ Le2 (double.read x) n

theorem Bd.fin {x : Nat} {n : Int} (h : Bd x n) : Fnt x := by
  obtain ⟨_, s, m, e, j, hd, _, _⟩ := h
  exact ⟨s, m, e, hd⟩
theorem Bd.mono {x : Nat} {n n' : Int} (h : Bd x n) (hn : n ≤ n') : Bd x n' := ⟨h.1, h.2.mono hn⟩
theorem NZ.fin {x : Nat} (h : NZ x) : Fnt x := by obtain ⟨s, m, e, h, _⟩ := h; exact ⟨s, m, e, h⟩
theorem Fnt.fv {x : Nat} (h : Fnt x) : fv .f64 x = some x := by
  obtain ⟨s, m, e, h⟩ := h
  refine fv_some.2 ⟨?_, rfl⟩
  show (double.read x).isNaN = false
  rw [h]; rfl

def fadd (x y : Nat) : Nat := (floatBits .add .f64 x y).getD 0
def fsub (x y : Nat) : Nat := (floatBits .sub .f64 x y).getD 0
def fmul (x y : Nat) : Nat := (floatBits .mul .f64 x y).getD 0
def fdiv (x y : Nat) : Nat := (floatBits .quo .f64 x y).getD 0

theorem add_ok {x y : Nat} (hx : Fnt x) (hy : Fnt y) : floatBits .add .f64 x y = some (fadd x y) := by
  obtain ⟨s, m, e, hx⟩ := hx
  obtain ⟨t, n, i, hy⟩ := hy
  unfold fadd
  have : (floatBits .add .f64 x y).isSome = true := by
    show (((double.read x).sum (double.read y)).map _).isSome = true
    rw [hx, hy]; rfl
  obtain ⟨r, hr⟩ := Option.isSome_iff_exists.1 this
  rw [hr]; rfl
theorem sub_ok {x y : Nat} (hx : Fnt x) (hy : Fnt y) : floatBits .sub .f64 x y = some (fsub x y) := by
  obtain ⟨s, m, e, hx⟩ := hx
  obtain ⟨t, n, i, hy⟩ := hy
  unfold fsub
  have : (floatBits .sub .f64 x y).isSome = true := by
    show (((double.read x).sum (double.read y).opposite).map _).isSome = true
    rw [hx, hy]; rfl
  obtain ⟨r, hr⟩ := Option.isSome_iff_exists.1 this
  rw [hr]; rfl
theorem mul_ok {x y : Nat} (hx : Fnt x) (hy : Fnt y) : floatBits .mul .f64 x y = some (fmul x y) := by
  obtain ⟨s, m, e, hx⟩ := hx
  obtain ⟨t, n, i, hy⟩ := hy
  unfold fmul
  have : (floatBits .mul .f64 x y).isSome = true := by
    show (((double.read x).product (double.read y)).map _).isSome = true
    rw [hx, hy]; rfl
  obtain ⟨r, hr⟩ := Option.isSome_iff_exists.1 this
  rw [hr]; rfl
theorem div_ok {x y : Nat} (hx : Fnt x) (hy : NZ y) : floatBits .quo .f64 x y = some (fdiv x y) := by
  obtain ⟨s, m, e, hx⟩ := hx
  obtain ⟨t, n, i, hy, hn⟩ := hy
  unfold fdiv
  have : (floatBits .quo .f64 x y).isSome = true := by
    show (((double.read x).quotient _ (double.read y)).map _).isSome = true
    rw [hx, hy]
    unfold Datum.quotient
    simp only [if_neg hn]
    rfl
  obtain ⟨r, hr⟩ := Option.isSome_iff_exists.1 this
  rw [hr]; rfl

section
variable {P : Program} (w : World) (t : TypeId)
@[go_sem] theorem run_fadd {x y : Nat} (hx : Fnt x) (hy : Fnt y) : (binOp .add t (.float .f64 x) (.float .f64 y)).run P w = .ok (.float .f64 (fadd x y)) w := run_float_arith w _ t _ _ _ _ (add_ok hx hy)
@[go_sem] theorem run_fsub {x y : Nat} (hx : Fnt x) (hy : Fnt y) : (binOp .sub t (.float .f64 x) (.float .f64 y)).run P w = .ok (.float .f64 (fsub x y)) w := run_float_arith w _ t _ _ _ _ (sub_ok hx hy)
@[go_sem] theorem run_fmul {x y : Nat} (hx : Fnt x) (hy : Fnt y) : (binOp .mul t (.float .f64 x) (.float .f64 y)).run P w = .ok (.float .f64 (fmul x y)) w := run_float_arith w _ t _ _ _ _ (mul_ok hx hy)
@[go_sem] theorem run_fdiv {x y : Nat} (hx : Fnt x) (hy : NZ y) : (binOp .quo t (.float .f64 x) (.float .f64 y)).run P w = .ok (.float .f64 (fdiv x y)) w := run_float_arith w _ t _ _ _ _ (div_ok hx hy)
end

@[go_sem] theorem unary_neg_float (k : FloatKind) (b : Nat) : Op.unary .neg (.float k b) = pure (.float k (Op.negFloat k b)) := rfl

theorem write_bd {d : Datum} {n : Int} (h : Le2 d n) (h1 : -1074 ≤ n) (h2 : n < 1024) : Bd (double.write d) n :=
  ⟨double.write_lt d, le2_write double good_double d n h (by exact h1) (by exact h2)⟩

theorem bd_add {x y : Nat} {n : Int} (hx : Bd x n) (hy : Bd y n) (h1 : -1074 ≤ n + 1 := by omega) (h2 : n + 1 < 1024 := by omega) : Bd (fadd x y) (n + 1) := by
  obtain ⟨p, hp, hb⟩ := le2_sum hx.2 hy.2
  have : fadd x y = double.write p := by
    show ((((double.read x).sum (double.read y)).map double.write).getD 0) = _
    rw [hp]; rfl
  rw [this]; exact write_bd hb h1 h2
theorem bd_sub {x y : Nat} {n : Int} (hx : Bd x n) (hy : Bd y n) (h1 : -1074 ≤ n + 1 := by omega) (h2 : n + 1 < 1024 := by omega) : Bd (fsub x y) (n + 1) := by
  obtain ⟨p, hp, hb⟩ := le2_sum hx.2 (le2_opposite hy.2)
  have : fsub x y = double.write p := by
    show ((((double.read x).sum (double.read y).opposite).map double.write).getD 0) = _
    rw [hp]; rfl
  rw [this]; exact write_bd hb h1 h2
theorem bd_mul {x y : Nat} {n m : Int} (hx : Bd x n) (hy : Bd y m) (h1 : -1074 ≤ n + m := by omega) (h2 : n + m < 1024 := by omega) : Bd (fmul x y) (n + m) := by
  obtain ⟨p, hp, hb⟩ := le2_product hx.2 hy.2
  have : fmul x y = double.write p := by
    show ((((double.read x).product (double.read y)).map double.write).getD 0) = _
    rw [hp]; rfl
  rw [this]; exact write_bd hb h1 h2
theorem ge2_nz {y : Nat} {c : Int} (h : Ge2 (double.read y) c) : NZ y := by
  obtain ⟨s, m, e, j, hd, hm, _⟩ := h
  exact ⟨s, m, e, hd, by have := Nat.two_pow_pos j; omega⟩
theorem bd_div {x y : Nat} {n c : Int} (hx : Bd x n) (hy : Ge2 (double.read y) c) (h1 : -1074 ≤ n - c := by omega) (h2 : n - c < 1024 := by omega) : Bd (fdiv x y) (n - c) := by
  obtain ⟨p, hp, hb⟩ := le2_quotient (double.fractionBits + 2) hx.2 hy
  have : fdiv x y = double.write p := by
    show ((((double.read x).quotient (double.fractionBits + 2) (double.read y)).map double.write).getD 0) = _
    rw [hp]; rfl
  rw [this]; exact write_bd hb h1 h2

/-- a double that is not too great fits a float32 -/
theorem fits_bd {x : Nat} (h : Bd x 127) : FitsF .f64 .f32 (fv .f64 x) := by
  intro y hy
  obtain ⟨hn, rfl⟩ := fv_some.1 hy
  have hd : Le2 (FloatKind.f64.decode x) 127 := h.2
  have hw := le2_write single good_single _ 127 hd (by decide) (by decide)
  obtain ⟨s, m, e, j, hd', _, _⟩ := hd
  unfold floatToFloatBits
  rw [if_neg (by decide)]
  rw [hd'] at hw ⊢
  have h2 : (FloatKind.f32.decode (FloatKind.f32.encode (.number s m e))).isInfinity = false := (le2_number hw).1
  simp only [h2]; rfl

theorem neg_read {x : Nat} (hx : x < 18446744073709551616) {s : Bool} {m : Nat} {e : Int} (h : double.read x = .number s m e) : double.read (Op.negFloat .f64 x) = .number (!s) m e ∧ Op.negFloat .f64 x < 18446744073709551616 := by
  have e1 : double.signWeight = 9223372036854775808 := rfl
  have hx2 : x < 2 ^ 64 := hx
  have hlt : x ^^^ 2 ^ 63 < 2 ^ 64 := Nat.xor_lt_two_pow hx2 (by decide)
  have hneg : Op.negFloat .f64 x = x ^^^ 2 ^ 63 := rfl
  have hmod : (x ^^^ 2 ^ 63) % 9223372036854775808 = x % 9223372036854775808 := by
    have : (x ^^^ 2 ^ 63) % 2 ^ 63 = x % 2 ^ 63 ^^^ 2 ^ 63 % 2 ^ 63 := Nat.xor_mod_two_pow
    rw [Nat.mod_self, Nat.xor_zero] at this
    exact this
  have hdiv : (x ^^^ 2 ^ 63) / 9223372036854775808 % 2 = 1 - x / 9223372036854775808 % 2 := by
    have h1 : (x ^^^ 2 ^ 63) / 2 ^ 63 = x / 2 ^ 63 ^^^ 2 ^ 63 / 2 ^ 63 := Nat.xor_div_two_pow
    have h2 : x / 2 ^ 63 < 2 := by omega
    have h3 : (2 : Nat) ^ 63 / 2 ^ 63 = 1 := by decide
    rw [h3] at h1
    have h4 : x / 9223372036854775808 = x / 2 ^ 63 := rfl
    have h5 : (x ^^^ 2 ^ 63) / 9223372036854775808 = x / 2 ^ 63 ^^^ 1 := h1
    rw [h4, h5]
    have : x / 2 ^ 63 = 0 ∨ x / 2 ^ 63 = 1 := by omega
    rcases this with h | h <;> rw [h] <;> decide
  refine ⟨?_, by rw [hneg]; exact hlt⟩
  rw [hneg]
  unfold Format.read at h ⊢
  dsimp only at h ⊢
  rw [e1] at h ⊢
  rw [hmod, hdiv]
  have hb : ((1 - x / 9223372036854775808 % 2 == 1) : Bool) = !(x / 9223372036854775808 % 2 == 1) := by
    have : x / 9223372036854775808 % 2 = 0 ∨ x / 9223372036854775808 % 2 = 1 := by omega
    rcases this with h | h <;> rw [h] <;> rfl
  split at h
  · rename_i c
    rw [if_pos c]
    injection h with h1 h2 h3
    rw [hb, h1, h2, h3]
  · rename_i c
    rw [if_neg c]
    split at h
    · rename_i c'
      rw [if_pos c']
      injection h with h1 h2 h3
      rw [hb, h1, h2, h3]
    · split at h <;> cases h

theorem bd_neg {x : Nat} {n : Int} (h : Bd x n) : Bd (Op.negFloat .f64 x) n := by
  obtain ⟨hx, s, m, e, j, hd, hm, hn⟩ := h
  obtain ⟨h1, h2⟩ := neg_read hx hd
  exact ⟨h2, _, _, _, j, h1, hm, hn⟩

theorem fits_inf {x : Nat} {s : Bool} (h : double.read x = .infinity s) : FitsF .f64 .f32 (some x) := by
  intro y hy
  obtain rfl := Option.some.inj hy
  have hd : FloatKind.f64.decode x = .infinity s := h
  unfold floatToFloatBits
  rw [if_neg (by decide), hd]; rfl

theorem root_true (n m : Nat) (i : Int) : Datum.root n (.number true m i) = if m = 0 then some (.number true m i) else none := by
  unfold Datum.root
  simp

/-- a finite float32 as a float64 is below 2 ^ 128 -/
theorem widen_bd {x y : Nat} (h : cvf .f32 .f64 (fv .f32 x) = some y) (hy : Fnt y) : Bd y 128 := by
  unfold cvf at h
  cases hf : fv .f32 x with
  | none => rw [hf] at h; cases h
  | some z =>
    obtain ⟨hn, rfl⟩ := fv_some.1 hf
    rw [hf] at h
    have h' : floatToFloatBits .f32 x .f64 = some y := h
    unfold floatToFloatBits at h'
    rw [if_neg (by decide)] at h'
    cases hd : FloatKind.f32.decode x with
    | nan s t => rw [hd] at hn; cases hn
    | infinity s =>
      rw [hd] at h'
      have e : y = double.write (.infinity s) := (Option.some.inj h').symm
      obtain ⟨a, b, c, hr⟩ := hy
      rw [e] at hr
      have := read_inf double s (by decide)
      have h3 : double.read (double.write (.infinity s)) = .infinity s := this
      rw [h3] at hr; cases hr
    | number s m e =>
      rw [hd] at h'
      simp only [] at h'
      split at h'
      · cases h'
      · have e2 : y = double.write (.number s m e) := (Option.some.inj h').symm
        rw [e2]
        exact write_bd (le2_single hd) (by decide) (by decide)

/-- the root of a float32 fits a float32 -/
theorem fits_root {x : Nat} (hx : x < 4294967296) : FitsF .f64 .f32 (sqf (cvf .f32 .f64 (fv .f32 x))) := by
  by_cases hn : (FloatKind.f32.decode x).isNaN = true
  · rw [fv_none.2 hn]
    intro y hy; cases hy
  have hn' : (FloatKind.f32.decode x).isNaN = false := by simpa using hn
  obtain ⟨r', h1, h2, h3, h4⟩ := widen_word hx hn'
  rw [h2]
  show FitsF .f64 .f32 (((double.read (double.word _ r')).root (double.fractionBits + 2)).map double.write)
  have e6 : single.signWeight = 2147483648 := rfl
  have hle := rung_le_of_not_nan single (by decide) x hn'
  rw [e6] at hle
  rcases Nat.lt_or_eq_of_le hle with h | h
  · obtain ⟨h5, h6⟩ := h3 h
    rw [read_word double _ r' h5]
    cases hs : decide (2147483648 ≤ x)
    · have hle2 : Le2 (.number false (sig double r') (double.leastPlace + (exq double r' : Nat))) 128 := by
        have := (widen_bd h2 ⟨_, _, _, read_word double _ r' h5⟩).2
        rw [read_word double _ r' h5, hs] at this
        exact this
      obtain ⟨p, hp, hb, m', e', rfl⟩ := le2_root (double.fractionBits + 2) hle2 (N := 65) (by omega) (by
        intro h0
        have h00 := sig_zero double h0
        rw [h00]
        show double.leastPlace + ((exq double 0 : Nat) : Int) ≤ 65
        decide)
      rw [hp]
      have hb2 : Bd (double.write (.number false m' e')) 65 := write_bd hb (by decide) (by decide)
      have hf := fits_bd (hb2.mono (by decide : (65 : Int) ≤ 127))
      rw [hb2.fin.fv] at hf
      exact hf
    · rw [root_true]
      by_cases h0 : sig double r' = 0
      · have h00 := sig_zero double h0
        subst h00
        have hz : sig double 0 = 0 := rfl
        rw [if_pos hz]
        have hb2 : Bd (double.write (.number true (sig double 0) (double.leastPlace + (exq double 0 : Nat)))) 0 := write_bd ⟨_, _, _, 0, rfl, by decide, by decide⟩ (by decide) (by decide)
        have hf := fits_bd (hb2.mono (by decide : (0 : Int) ≤ 127))
        rw [hb2.fin.fv] at hf
        exact hf
      · rw [if_neg h0]
        intro y hy; cases hy
  · rw [h4 h, read_inf double _ (by decide)]
    cases hs : decide (2147483648 ≤ x)
    · show FitsF .f64 .f32 (some (double.write (.infinity false)))
      exact fits_inf (read_inf double false (by decide))
    · intro y hy; cases hy

end Go.Proofs.Ytiabbafmjgiobaa.Fl
