/-
Decimal texts read back: plain lists of bytes.
-/
import Derived.Lib.ItoaNum
import Derived.Lib.ParseIntB
namespace Go.Proofs.YticggbmmeefelaaDoor
open Go

def isDig (c : UInt8) : Prop := 48 ≤ c.toNat ∧ c.toNat ≤ 57
instance (c : UInt8) : Decidable (isDig c) := inferInstanceAs (Decidable (_ ∧ _))
/-- the digits of a text as a number; other bytes are passed over -/
def dgv (acc : Nat) (l : List UInt8) : Nat := l.foldl (fun a c => if isDig c then 10 * a + (c.toNat - 48) else a) acc
theorem dgv_snoc (acc : Nat) (l : List UInt8) (c : UInt8) : dgv acc (l ++ [c]) = if isDig c then 10 * dgv acc l + (c.toNat - 48) else dgv acc l := by
  unfold dgv; rw [List.foldl_append]; rfl
theorem dgv_lt : ∀ (l : List UInt8), dgv 0 l < 10 ^ l.length := by
  have key : ∀ (n : Nat) (l : List UInt8), l.length = n → dgv 0 l < 10 ^ n := by
    intro n
    induction n with
    | zero => intro l h; rw [List.eq_nil_of_length_eq_zero h]; simp [dgv]
    | succ n ih =>
      intro l h
      have hne : l ≠ [] := fun e => by subst e; cases h
      obtain ⟨m, c, rfl⟩ : ∃ m c, l = m ++ [c] := ⟨l.dropLast, l.getLast hne, (List.dropLast_concat_getLast hne).symm⟩
      have := ih m (by simpa using h)
      rw [dgv_snoc, Nat.pow_succ]
      split
      · rename_i hd; unfold isDig at hd; omega
      · omega
  exact fun l => key l.length l rfl
theorem dec_all (u : Nat) : ∀ c ∈ Lib.decDigits u, isDig c := by
  induction u using Nat.strongRecOn with
  | ind u ih =>
    intro c hc
    rw [Lib.decDigits] at hc
    split at hc
    · rename_i h
      simp only [List.mem_singleton] at hc
      subst hc
      unfold isDig
      rw [UInt8.toNat_ofNat_of_lt' (by show 48 + u < 256; omega)]; omega
    · rename_i h
      rcases List.mem_append.1 hc with hc | hc
      · exact ih (u / 10) (by omega) c hc
      · simp only [List.mem_singleton] at hc
        subst hc
        unfold isDig
        rw [UInt8.toNat_ofNat_of_lt' (by show 48 + u % 10 < 256; omega)]; omega
theorem dec_val (u : Nat) : dgv 0 (Lib.decDigits u) = u := by
  induction u using Nat.strongRecOn with
  | ind u ih =>
    rw [Lib.decDigits]
    split
    · rename_i h
      have e := dgv_snoc 0 [] (UInt8.ofNat (48 + u))
      simp only [List.nil_append] at e
      rw [e, UInt8.toNat_ofNat_of_lt' (by show 48 + u < 256; omega), if_pos (by unfold isDig; rw [UInt8.toNat_ofNat_of_lt' (by show 48 + u < 256; omega)]; omega)]
      simp [dgv]
    · rename_i h
      rw [dgv_snoc, ih (u / 10) (by omega), UInt8.toNat_ofNat_of_lt' (by show 48 + u % 10 < 256; omega), if_pos (by unfold isDig; rw [UInt8.toNat_ofNat_of_lt' (by show 48 + u % 10 < 256; omega)]; omega)]
      omega
theorem dec_ne (u : Nat) : Lib.decDigits u ≠ [] := by rw [Lib.decDigits]; split <;> simp
theorem dgv_mono (l : List UInt8) : ∀ acc, acc ≤ dgv acc l := by
  induction l with
  | nil => intro acc; exact Nat.le_refl _
  | cons c l ih =>
    intro acc
    have := ih (if isDig c then 10 * acc + (c.toNat - 48) else acc)
    show acc ≤ dgv (if isDig c then 10 * acc + (c.toNat - 48) else acc) l
    split at this <;> rename_i h
    · rw [if_pos h]; omega
    · rw [if_neg h]; omega
theorem parse_digits (M : Nat) (hM : 1000000000000000 ≤ M) : ∀ (l : List UInt8) (acc : Nat), (∀ c ∈ l, isDig c) → dgv acc l ≤ 1000000000000000 → Lib.parseUintM M acc l = .ok (dgv acc l) := by
  intro l
  induction l with
  | nil => intro acc _ _; rfl
  | cons c l ih =>
    intro acc hall hv
    have hc := hall c (by simp)
    have e : dgv acc (c :: l) = dgv (acc * 10 + (c.toNat - 48)) l := by
      show dgv (if isDig c then 10 * acc + (c.toNat - 48) else acc) l = _
      rw [if_pos hc, Nat.mul_comm]
    rw [e] at hv ⊢
    have hm := dgv_mono l (acc * 10 + (c.toNat - 48))
    unfold Lib.parseUintM
    rw [if_pos (show 48 ≤ c.toNat ∧ c.toNat ≤ 57 from hc), if_neg (by omega), if_neg (by omega)]
    exact ih _ (fun d hd => hall d (by simp [hd])) hv

/-- the number that the reference reads -/
def specN (l : List UInt8) : Int := if l.head? = some 45 then -(dgv 0 l : Int) else (dgv 0 l : Int)
theorem head_dig {u : Nat} {c : UInt8} (h : (Lib.decDigits u).head? = some c) : isDig c := dec_all u c (List.mem_of_mem_head? h)
theorem specN_itoa (n : Int) : specN (Lib.itoa n) = n := by
  unfold Lib.itoa
  split
  · rename_i h
    unfold specN
    rw [if_pos (show (45 :: Lib.decDigits n.natAbs).head? = some 45 from rfl)]
    have e : dgv 0 (45 :: Lib.decDigits n.natAbs) = dgv 0 (Lib.decDigits n.natAbs) := rfl
    rw [e, dec_val]
    omega
  · rename_i h
    unfold specN
    rw [if_neg (fun h => by have := head_dig h; unfold isDig at this; have e : (45 : UInt8).toNat = 45 := rfl; omega), dec_val]
    omega
theorem pow63 : (2 : Nat) ^ (64 - 1) = 9223372036854775808 := by decide
theorem parse_dec (u : Nat) (h : u ≤ 1000000000000000) : Lib.parseUintB 64 (Lib.decDigits u) = .ok u := by
  unfold Lib.parseUintB
  rw [if_neg (dec_ne _), parse_digits _ (by decide) _ 0 (dec_all _) (by rw [dec_val]; exact h), dec_val]
theorem parse_itoa {n : Int} (h0 : -1000000000000000 ≤ n) (h1 : n ≤ 1000000000000000) : Lib.parseIntB 64 (Lib.itoa n) = .ok n := by
  unfold Lib.itoa
  split
  · rename_i h
    have hp := parse_dec n.natAbs (by omega)
    have e : (if (45 : UInt8).toNat = 43 ∨ (45 : UInt8).toNat = 45 then Lib.decDigits n.natAbs else 45 :: Lib.decDigits n.natAbs) = Lib.decDigits n.natAbs := if_pos (Or.inr rfl)
    have e45 : (45 : UInt8).toNat = 45 := rfl
    unfold Lib.parseIntB
    simp only [e, hp]
    rw [if_neg (fun hh => hh.1 e45), if_neg (fun hh => by have := hh.2; rw [pow63] at this; omega), if_pos e45]
    congr 1
    omega
  · rename_i h
    have hp := parse_dec n.toNat (by omega)
    cases hd : Lib.decDigits n.toNat with
    | nil => exact absurd hd (dec_ne n.toNat)
    | cons c r =>
      have hc : isDig c := head_dig (u := n.toNat) (by rw [hd]; rfl)
      unfold isDig at hc
      rw [hd] at hp
      have e : (if c.toNat = 43 ∨ c.toNat = 45 then r else c :: r) = c :: r := if_neg (by omega)
      unfold Lib.parseIntB
      simp only [e, hp]
      rw [if_neg (fun hh => by have := hh.2; rw [pow63] at this; omega), if_neg (fun hh => by have := hh.1; omega), if_neg (by omega)]
      congr 1
      omega
theorem dig_short : ∀ (k u : Nat), u < 10 ^ (k + 1) → (Lib.decDigits u).length ≤ k + 1 := by
  intro k
  induction k with
  | zero => intro u hu; rw [Lib.decDigits, dif_pos (by simpa using hu)]; simp
  | succ k ih =>
    intro u hu
    rw [Lib.decDigits]
    split
    · simp
    · have := ih (u / 10) (by rw [Nat.pow_succ] at hu; omega)
      simp; omega
theorem itoa_short {n : Int} (h0 : -1000000000000000 ≤ n) (h1 : n ≤ 1000000000000000) : 1 ≤ (Lib.itoa n).length ∧ (Lib.itoa n).length ≤ 17 := by
  unfold Lib.itoa
  split
  · have := dig_short 15 n.natAbs (Nat.lt_of_le_of_lt (show n.natAbs ≤ 1000000000000000 by omega) (by decide))
    simp; omega
  · have := dig_short 15 n.toNat (Nat.lt_of_le_of_lt (show n.toNat ≤ 1000000000000000 by omega) (by decide))
    have h2 := List.length_pos_iff.2 (dec_ne n.toNat)
    omega

end Go.Proofs.YticggbmmeefelaaDoor
