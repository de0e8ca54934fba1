/-
strconv.ParseUint at base 16 and 32 bits, on texts of 8 bytes.
-/
import Derived.Test.YticggbmmeefelaaDoorHx
import Derived.Test.YticggbmmeefelaaDoorDg
import Derived.Test.YticggbmmeefelaaDoorSu
import Derived.Lib.ConvBytes
import Derived.Lib.AtoiAllMem
import Derived.Lib.Walk
import Derived.Laws.Strings3
import Derived.WalkKit
import Derived.BigCall
import Derived.BigGuard
set_option linter.unusedVariables false
set_option linter.unusedSimpArgs false
namespace Go.Proofs.YticggbmmeefelaaDoor
open Fl Go Go.RowKit

/-- the value of a hexadecimal digit, small or great -/
def hv (c : Nat) : Option Nat := if 48 ≤ c ∧ c ≤ 57 then some (c - 48) else if 97 ≤ c ∧ c ≤ 102 then some (c - 87) else if 65 ≤ c ∧ c ≤ 70 then some (c - 55) else none
/-- the value of hexadecimal digits -/
def pz : Nat → List UInt8 → Option Nat
  | acc, [] => some acc
  | acc, c :: l => match hv c.toNat with
    | some d => pz (16 * acc + d) l
    | none => none
theorem hv_lt {c d : Nat} (h : hv c = some d) : d < 16 := by
  unfold hv at h
  split at h
  · cases h; omega
  · split at h
    · cases h; omega
    · split at h
      · cases h; omega
      · cases h
/-- where the small letter of a byte lies -/
theorem low_case : ∀ c : Fin 256, ¬ (48 ≤ c.val ∧ c.val ≤ 57) → ∃ m : Fin 256, bits .or .u8 (c.val : Int) 32 = (m.val : Int) ∧ ((97 ≤ m.val ∧ m.val ≤ 102 ∧ hv c.val = some (m.val - 87)) ∨ (103 ≤ m.val ∧ m.val ≤ 122 ∧ hv c.val = none) ∨ ((m.val < 97 ∨ 122 < m.val) ∧ hv c.val = none)) := by decide +kernel

def puTuple (r : Option Nat) : Value := match r with
  | some v => .tuple #[.int .u64 (v : Int), .nilIface]
  | none => .tuple #[.int .u64 0, .iface 103 (.int .i64 2)]

theorem c_lower (c : Int) (w : World) : Calls Tryd.prog 100 #[.int .u8 c] w fun e w' => e = .returned (.int .u8 (bits .or .u8 c 32)) ∧ w = w' := by
  go_enter Tryd.func100, Tryd.ntmps100
  go_wp2_with fail
  go_ret
  exact ⟨rfl, rfl⟩
set_option maxHeartbeats 8000000 in
set_option maxRecDepth 100000 in
theorem c_innerParse (t : ByteArray) (ht : t.size = 8) (w : World) :
    Calls Tryd.prog 84 #[.string t, .int .i64 16, .int .i64 32] w fun e w' => e = .returned (puTuple (pz 0 t.data.toList)) ∧ w' = Lib.bytesWorld w 5 t := by
  have hemp : t.toList.isEmpty = false := by
    rw [← decide_eq_emptyBytes]
    exact decide_eq_false (fun h => by rw [h] at ht; exact absurd ht (by decide))
  have hcv := Lib.run_convert_string_bytes (P := Tryd.prog) w 9 68 5 t (u := .string) Tryd.underlying9 Tryd.underlying68 Tryd.underlying5
  have hB : ∀ j, j < t.size → (Lib.bytesWorld w 5 t).cell? ⟨w.heap.size, j, none⟩ = some (.int .u8 (t.data.toList.getD j 0).toNat) := fun j hj => Lib.bytesWorld_cell w 5 t j hj
  obtain ⟨W1, hW1⟩ : ∃ W1, W1 = Lib.bytesWorld w 5 t := ⟨_, rfl⟩
  rw [← hW1] at hcv hB ⊢
  clear hW1
  obtain ⟨bs, hL⟩ : ∃ bs, bs = t.data.toList := ⟨_, rfl⟩
  have hLn : bs.length = t.size := by rw [hL, len_data]
  rw [← hL] at hB ⊢
  clear hL
  go_enter Tryd.func84, Tryd.ntmps84
  go_wp2
  go_loop [12, 13, 101] (fun vu vn vi => ∃ (k acc : Nat) (a : Int), vu = .bool false ∧ vn = .int .u64 a ∧ vi = .int .i64 k ∧ k ≤ t.size ∧ Hid (a = (acc : Int) ∧ acc < 16 ^ k ∧ pz 0 bs = pz acc (bs.drop k)))
    (fun _ _ vi => t.size - (intOf vi).toNat)
  case atStart => exact ⟨0, 0, 0, rfl, rfl, rfl, by omega, rfl, by decide, rfl⟩
  case round =>
    obtain ⟨k, acc, a, rfl, rfl, rfl, hk, hh⟩ := hrel
    obtain ⟨ha, hacc, hdec⟩ := hh.out
    clear hh
    have a0 : 0 ≤ a := by omega
    by_cases hkn : k < t.size
    · have hacc7 : acc < 268435456 := Nat.lt_of_lt_of_le hacc (Nat.le_trans (Nat.pow_le_pow_right (by decide) (show k ≤ 7 by omega)) (by decide))
      have a1 : a < 268435456 := by omega
      have hc := hB k hkn
      have hdrop : bs.drop k = bs[k]'(by omega) :: bs.drop (k + 1) := List.drop_eq_getElem_cons (by omega)
      have hget : bs.getD k 0 = bs[k]'(by omega) := by simp [List.getD, List.getElem?_eq_getElem (show k < bs.length by omega)]
      rw [hdrop] at hdec
      rw [hget] at hc
      generalize bs[k]'(by omega) = c at hc hdec
      have hc256 : c.toNat < 256 := c.toNat_lt
      clear hB hdrop hget
      by_cases hdig : 48 ≤ c.toNat ∧ c.toNat ≤ 57
      · obtain ⟨hd0, hd1⟩ := hdig
        have hv1 : hv c.toNat = some (c.toNat - 48) := by unfold hv; rw [if_pos ⟨hd0, hd1⟩]
        have hF : pz acc (c :: bs.drop (k + 1)) = pz (16 * acc + (c.toNat - 48)) (bs.drop (k + 1)) := by simp only [pz, hv1]
        have HN : Hid (a * 16 + ((c.toNat : Int) - 48) = ((16 * acc + (c.toNat - 48) : Nat) : Int) ∧ 16 * acc + (c.toNat - 48) < 16 ^ (k + 1) ∧ pz 0 bs = pz (16 * acc + (c.toNat - 48)) (bs.drop (k + 1))) := ⟨by omega, by rw [Nat.pow_succ]; omega, by rw [hdec, hF]⟩
        have iov : a * 16 + ((c.toNat : Int) - 48) < 4294967296 := by omega
        clear hacc hF hdec ha hv1
        go_wp2
        refine ⟨⟨k + 1, 16 * acc + (c.toNat - 48), a * 16 + ((c.toNat : Int) - 48), rfl, (by first | rfl | (congr 1; omega)), (by first | rfl | (congr 1; omega)), by omega, HN⟩, by simp [intOf]; omega⟩
      · obtain ⟨⟨m, hm⟩, hlow, hcase⟩ := low_case ⟨c.toNat, hc256⟩ hdig
        simp only at hlow hcase
        have HLo : Hid (∀ w, Calls Tryd.prog 100 #[.int .u8 (c.toNat : Int)] w fun e w' => e = .returned (.int .u8 (m : Int)) ∧ w = w') := by
          intro w
          have := c_lower (c.toNat : Int) w
          rw [hlow] at this
          exact this
        clear hlow
        have hnd : (c.toNat : Int) < 48 ∨ ((48 : Int) ≤ c.toNat ∧ (57 : Int) < c.toNat) := by omega
        have h95 : ((c.toNat : Int) == 95) = true ∨ ((c.toNat : Int) == 95) = false := by cases (c.toNat : Int) == 95 <;> simp
        clear hdig
        rcases hcase with ⟨m1, m2, hv1⟩ | ⟨m1, m2, hv1⟩ | ⟨m1, hv1⟩
        · have hF : pz acc (c :: bs.drop (k + 1)) = pz (16 * acc + (m - 87)) (bs.drop (k + 1)) := by simp only [pz, hv1]
          have HN : Hid (a * 16 + ((m : Int) - 97 + 10) = ((16 * acc + (m - 87) : Nat) : Int) ∧ 16 * acc + (m - 87) < 16 ^ (k + 1) ∧ pz 0 bs = pz (16 * acc + (m - 87)) (bs.drop (k + 1))) := ⟨by omega, by rw [Nat.pow_succ]; omega, by rw [hdec, hF]⟩
          have iov : a * 16 + ((m : Int) - 97 + 10) < 4294967296 := by omega
          have i97 : (97 : Int) ≤ m := by omega
          have i122 : (m : Int) ≤ 102 := by omega
          clear hacc hF hdec ha hv1 m1 m2
          generalize (c.toNat : Int) = ci at *
          rcases hnd with n1 | ⟨n1, n2⟩ <;> rcases h95 with n3 | n3
          all_goals
            go_wp2_with (go_at_call 100; refine (HLo.out _).mono ?_; rintro e w' ⟨rfl, rfl⟩)
            exact ⟨⟨k + 1, 16 * acc + (m - 87), _, rfl, rfl, (by first | rfl | (congr 1; omega)), by omega, HN⟩, by simp [intOf]; omega⟩
        · have hF : pz acc (c :: bs.drop (k + 1)) = none := by simp only [pz, hv1]
          have HD := hide_ (hdec.trans hF)
          have i97 : (97 : Int) ≤ m := by omega
          have i103 : (103 : Int) ≤ m := by omega
          have i122 : (m : Int) ≤ 122 := by omega
          clear hacc hF hdec ha hv1 m1 m2
          generalize (c.toNat : Int) = ci at *
          rcases hnd with n1 | ⟨n1, n2⟩ <;> rcases h95 with n3 | n3
          all_goals
            go_wp2_with (go_at_call 100; refine (HLo.out _).mono ?_; rintro e w' ⟨rfl, rfl⟩)
            go_ret2
            exact ⟨by rw [HD.out]; rfl, rfl⟩
        · have hF : pz acc (c :: bs.drop (k + 1)) = none := by simp only [pz, hv1]
          have HD := hide_ (hdec.trans hF)
          have i97 : (m : Int) < 97 ∨ ((97 : Int) ≤ m ∧ (122 : Int) < m) := by omega
          clear hacc hF hdec ha hv1 m1
          generalize (c.toNat : Int) = ci at *
          rcases i97 with i1 | ⟨i1, i2⟩ <;> rcases hnd with n1 | ⟨n1, n2⟩ <;> rcases h95 with n3 | n3
          all_goals
            go_wp2_with (go_at_call 100; refine (HLo.out _).mono ?_; rintro e w' ⟨rfl, rfl⟩)
            go_ret2
            exact ⟨by rw [HD.out]; rfl, rfl⟩
    · have hkk : k = t.size := by omega
      subst hkk
      have hF : pz acc (bs.drop t.size) = some acc := by rw [List.drop_eq_nil_of_le (by omega)]; rfl
      rw [hF] at hdec
      subst ha
      clear hacc hF a0
      have HD := hide_ hdec
      clear hdec
      go_wp2
      go_ret2
      exact ⟨by rw [HD.out]; rfl, rfl⟩

end Go.Proofs.YticggbmmeefelaaDoor
