/-
Tenths of eighths and of their products: what the law asks of them.
-/
import Derived.Test.YtiabbafmjgiobaaTw
import Derived.Test.YtiabbafmjgiobaaTq
import Derived.Test.YtiabbafmjgiobaaTr
set_option linter.unusedVariables false
set_option linter.unusedSimpArgs false
namespace Go.Proofs.Ytiabbafmjgiobaa
open Fl Go Go.RowKit

def xF (i : Nat) : Nat := (floatBits .quo .f32 (floatOfInt .f32 (1 + (i : Int))) 1090519040).getD 0
def chk32 (x K : Nat) : Bool := decide (x < 4294967296) && match Ieee.single.read x with
  | .number s m e => decide (0 ≤ e + ((149 : Nat) : Int)) && decide (Ieee.signed s m (e + ((149 : Nat) : Int)).toNat * ((2 ^ 6 : Nat) : Int) = (K : Int) * ((2 ^ 149 : Nat) : Int))
  | _ => false
theorem xv_of {x K : Nat} (h : chk32 x K = true) : XV x K := by
  unfold chk32 at h
  rw [Bool.and_eq_true] at h
  obtain ⟨h1, h2⟩ := h
  refine ⟨of_decide_eq_true h1, ?_⟩
  cases hd : Ieee.single.read x with
  | nan => rw [hd] at h2; cases h2
  | infinity s => rw [hd] at h2; cases h2
  | number s m e =>
    rw [hd] at h2
    simp only [Bool.and_eq_true, decide_eq_true_eq] at h2
    obtain ⟨h3, h4⟩ := h2
    exact ⟨s, m, e, 149, hd, h3, Int.le_of_eq h4.symm, Int.le_of_eq h4⟩
def chk8 (i : Nat) : Bool := (floatBits .quo .f32 (floatOfInt .f32 (1 + (i : Int))) 1090519040 == some (xF i)) && chk32 (xF i) (8 * (i + 1))
theorem tab8 : (List.range 200).all chk8 = true := by kernel_rfl
theorem xv_one : XV 1065353216 64 := xv_of (by kernel_rfl)
theorem xF_of {i : Nat} (h : i < 200) : floatBits .quo .f32 (floatOfInt .f32 (1 + (i : Int))) 1090519040 = some (xF i) ∧ XV (xF i) (8 * (i + 1)) := by
  have := List.all_eq_true.1 tab8 i (List.mem_range.2 h)
  unfold chk8 at this
  simp only [Bool.and_eq_true, beq_iff_eq] at this
  exact ⟨this.1, xv_of this.2⟩
theorem prod_of {x y a b : Nat} (hx : XV x (8 * a)) (hy : XV y (8 * b)) (hl : a * b < 16777216) : ∃ z, floatBits .mul .f32 x y = some z ∧ XV z (a * b) := by
  have e : ((a * b : Nat) : Int) * ((2 ^ 6 : Nat) : Int) = ((8 * a : Nat) : Int) * ((8 * b : Nat) : Int) := by
    rw [← Int.natCast_mul, ← Int.natCast_mul]
    congr 1
    show a * b * 64 = _
    rw [show 8 * a * (8 * b) = 64 * (a * b) by grind, Nat.mul_comm]
  have e1 := Int.le_of_eq e
  have e2 := Int.le_of_eq e.symm
  obtain ⟨p, hp, hr⟩ := ri_prod hx.2 hy.2 e1 e1 e1 e1 e2 e2 e2 e2
  have hw := ri_write .f32 (by decide) hr (by rw [Int.natAbs_natCast]; exact hl) (by rw [Int.natAbs_natCast]; exact hl)
  refine ⟨FloatKind.f32.encode p, ?_, hw.2, hw.1⟩
  show ((FloatKind.f32.format.read x).product (FloatKind.f32.format.read y)).map FloatKind.f32.format.write = _
  rw [show FloatKind.f32.format.read x = FloatKind.f32.decode x from rfl, show FloatKind.f32.format.read y = FloatKind.f32.decode y from rfl, hp]; rfl

theorem pair_of {i j : Nat} (h : j ≤ i) (hi : i < 200) : chkPair i j = true := by
  have g : ∀ {a n : Nat}, chkRows a n = true → a ≤ i → i < a + n → chkPair i j = true := by
    intro a n hr h1 h2
    unfold chkRows at hr
    have := List.all_eq_true.1 (List.all_eq_true.1 hr (i - a) (List.mem_range.2 (by omega))) j (List.mem_range.2 (by omega))
    rw [show a + (i - a) = i by omega] at this
    exact this
  have c : i < 50 ∨ (50 ≤ i ∧ i < 90) ∨ (90 ≤ i ∧ i < 150) ∨ (150 ≤ i ∧ i < 200) := by omega
  rcases c with c | ⟨c, d⟩ | ⟨c, d⟩ | ⟨c, d⟩
  · exact g rows0 (by omega) (by omega)
  · exact g rows1 (by omega) (by omega)
  · exact g rows2 (by omega) (by omega)
  · exact g rows3 (by omega) (by omega)
theorem pair_any {i j : Nat} (hi : i < 200) (hj : j < 200) : okK ((i + 1) * (j + 1)) = true ∧ (tenK (8 * (i + 1))).2 + (tenK (8 * (j + 1))).2 ≤ (tenK ((i + 1) * (j + 1))).1 + 330952999960576 ∧ (tenK ((i + 1) * (j + 1))).2 + 329853488332800 ≤ (tenK (8 * (i + 1))).1 + (tenK (8 * (j + 1))).1 := by
  rcases Nat.le_total j i with h | h
  · have := pair_of h hi
    unfold chkPair at this
    simp only [Bool.and_eq_true, decide_eq_true_eq] at this
    exact ⟨this.1.1, this.1.2, this.2⟩
  · have := pair_of h hj
    unfold chkPair at this
    simp only [Bool.and_eq_true, decide_eq_true_eq] at this
    rw [Nat.mul_comm (j + 1) (i + 1)] at this
    exact ⟨this.1.1, by omega, by omega⟩
def TensI (x : Nat) (t : Int) : Prop := ∀ w, Calls Try.prog 22 #[.float .f32 x] w fun e w' => e = .returned (.tuple #[.int .i64 t, .bool true]) ∧ ∃ n, w' = w.drewN n
theorem tens_one : TensI 1065353216 0 := by
  obtain ⟨t, h1, h2, h⟩ := tenths_val xv_one ok64.1
  rw [ok64.2] at h1 h2
  dsimp only at h1 h2
  have : t = 0 := by omega
  subst this
  exact h
/-- the tenths of two and of their product -/
theorem tens_laws {i j : Nat} (hi : i < 200) (hj : j < 200) : ∃ (z : Nat) (m n o : Int), floatBits .mul .f32 (xF i) (xF j) = some z ∧ TensI (xF i) m ∧ TensI (xF j) n ∧ TensI z o ∧
    (m.natAbs ≤ 10000 ∧ n.natAbs ≤ 10000 ∧ o.natAbs ≤ 10000) ∧ m + n - o ≤ 1 ∧ o - m - n ≤ 1 := by
  obtain ⟨_, vi⟩ := xF_of hi
  obtain ⟨_, vj⟩ := xF_of hj
  obtain ⟨q0, q1, q2⟩ := pair_any hi hj
  have b : (i + 1) * (j + 1) ≤ 200 * 200 := Nat.mul_le_mul (by omega) (by omega)
  obtain ⟨z, hz, vz⟩ := prod_of vi vj (by omega)
  have k1 : okK (8 * (i + 1)) = true := List.all_eq_true.1 ok8 i (List.mem_range.2 hi)
  have k2 : okK (8 * (j + 1)) = true := List.all_eq_true.1 ok8 j (List.mem_range.2 hj)
  obtain ⟨m, m1, m2, cm⟩ := tenths_val vi k1
  obtain ⟨n, n1, n2, cn⟩ := tenths_val vj k2
  obtain ⟨o, o1, o2, co⟩ := tenths_val vz q0
  have t1 := tenK_hi k1
  have t2 := tenK_hi k2
  have t3 := tenK_hi q0
  generalize (tenK (8 * (i + 1))).1 = a1 at *
  generalize (tenK (8 * (i + 1))).2 = b1 at *
  generalize (tenK (8 * (j + 1))).1 = a2 at *
  generalize (tenK (8 * (j + 1))).2 = b2 at *
  generalize (tenK ((i + 1) * (j + 1))).1 = a3 at *
  generalize (tenK ((i + 1) * (j + 1))).2 = b3 at *
  exact ⟨z, m, n, o, hz, cm, cn, co, ⟨by omega, by omega, by omega⟩, by omega, by omega⟩

end Go.Proofs.Ytiabbafmjgiobaa
