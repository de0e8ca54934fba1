/-
Decimal texts read back: the reference.
-/
import Derived.Test.YticggbmmeefelaaDoorDc
import Derived.Test.YticggbmmeefelaaDoorPd
set_option linter.unusedVariables false
set_option linter.unusedSimpArgs false
namespace Go.Proofs.YticggbmmeefelaaDoor
open Go Go.RowKit

/-- is a text the decimal text of a value -/
def readP (l : List UInt8) : Bool := decide (1 ≤ l.length ∧ l.length ≤ 17) && (isV (specN l) && (Lib.itoa (specN l) == l))
def readN (l : List UInt8) : Int := if readP l then specN l else 0
theorem readN_no {l : List UInt8} (h : readP l = false) : readN l = 0 := by unfold readN; rw [h]; rfl
theorem readN_yes {l : List UInt8} (h : readP l = true) : readN l = specN l := by unfold readN; rw [h]; rfl
def ReadGives (l : List UInt8) (w : World) (e : Ending) (w' : World) : Prop := e = .returned (.tuple #[.int .i64 (readN l), .bool (readP l)]) ∧ Below w.heap.size w w'
theorem take_snoc (s : ByteArray) (k : Nat) (h : k < s.size) : s.data.toList.take (k + 1) = s.data.toList.take k ++ [s[k]] := by
  rw [List.take_succ_eq_append_getElem (by simpa using h)]; rfl
theorem len_data (s : ByteArray) : s.data.toList.length = s.size := Array.length_toList
theorem toList_eq (s : ByteArray) : s.toList = s.data.toList := ByteArray.toList_eq s
theorem pow17 {k : Nat} (h : k ≤ 17) : 10 ^ k ≤ 100000000000000000 := Nat.le_trans (Nat.pow_le_pow_right (by decide) h) (by decide)

theorem head_at (s : ByteArray) (h : 0 < s.size) : s.data.toList.head? = some s[0] := by
  have hl : 0 < s.data.toList.length := by rw [len_data]; exact h
  cases hd : s.data.toList with
  | nil => rw [hd] at hl; cases hl
  | cons c r =>
    have : s[0] = s.data.toList[0] := rfl
    rw [this]
    simp [hd]
theorem specN_neg (s : ByteArray) (h : 0 < s.size) (h45 : s[0].toNat = 45) : specN s.data.toList = -(dgv 0 s.data.toList : Int) := by
  unfold specN
  rw [head_at s h, if_pos]
  congr 1
  exact UInt8.toNat.inj h45
theorem specN_pos (s : ByteArray) (h : 0 < s.size) (h45 : ¬ s[0].toNat = 45) : specN s.data.toList = (dgv 0 s.data.toList : Int) := by
  unfold specN
  rw [head_at s h, if_neg]
  intro e
  have := Option.some.inj e
  rw [this] at h45
  exact h45 rfl
theorem str_eq (l : List UInt8) (s : ByteArray) : (l == s.toList) = (l == s.data.toList) := by
  rw [toList_eq]

set_option maxRecDepth 100000 in
set_option maxHeartbeats 1000000 in
theorem c_l01Value (s : ByteArray) (w : World) (hm : s.size ≤ maxLen) : Calls Tryd.prog 46 #[.string s] w (ReadGives s.data.toList w) := by
  unfold maxLen at hm
  unfold ReadGives
  by_cases hlen : 1 ≤ s.size ∧ s.size ≤ 17
  · obtain ⟨l1, l2⟩ := hlen
    clear hm
    have hv0 := dgv_lt s.data.toList
    rw [len_data] at hv0
    have hv17 : dgv 0 s.data.toList < 100000000000000000 := Nat.lt_of_lt_of_le hv0 (pow17 l2)
    clear hv0
    have HL : Hid (1 ≤ s.data.toList.length ∧ s.data.toList.length ≤ 17) := by rw [len_data]; exact ⟨l1, l2⟩
    have i1 : ¬ (s.size : Int) < 1 := by omega
    have i2 : ¬ (17 : Int) < s.size := by omega
    have HV := hide_ hv17
    clear hv17
    go_enter Tryd.func46, Tryd.ntmps46
    go_wp2_with fail
    go_loop [4, 5] (fun n i => ∃ k : Nat, k ≤ s.size ∧ i = .int .i64 k ∧ n = .int .i64 (dgv 0 (s.data.toList.take k) : Nat)) (fun _ i => s.size - (intOf i).toNat)
    case atStart => exact ⟨0, Nat.zero_le _, rfl, rfl⟩
    case round =>
      obtain ⟨k, hk, rfl, rfl⟩ := hrel
      by_cases hlt : k < s.size
      · have hb := dgv_lt (s.data.toList.take k)
        have hl : (s.data.toList.take k).length ≤ 17 := by rw [List.length_take]; omega
        have hb17 := Nat.lt_of_lt_of_le hb (pow17 hl)
        have HS := hide_ (dgv_snoc 0 (s.data.toList.take k) s[k])
        rw [← take_snoc s k hlt] at HS
        clear hb hl
        have hltI : (k : Int) < s.size := by omega
        generalize dgv 0 (s.data.toList.take k) = d at *
        have hdI : (d : Int) < 100000000000000000 := by omega
        clear hb17
        by_cases hdg : isDig s[k]
        · have HD : Hid (dgv 0 (s.data.toList.take (k + 1)) = 10 * d + (s[k].toNat - 48)) := by
            have := HS.out
            rw [if_pos hdg] at this
            exact this
          have h1 : (48 : Int) ≤ (s[k].toNat : Int) := by have := hdg.1; omega
          have h2 : (s[k].toNat : Int) ≤ 57 := by have := hdg.2; omega
          clear hdg HS
          go_wp2_with fail
          go_round
          case rel => exact ⟨k + 1, by omega, by go_num, by rw [HD.out]; congr 1; omega⟩
          case measure => simp [intOf]; omega
        · have HD : Hid (dgv 0 (s.data.toList.take (k + 1)) = d) := by
            have := HS.out
            rw [if_neg hdg] at this
            exact this
          by_cases h1 : (48 : Int) ≤ (s[k].toNat : Int)
          · have h2 : ¬ (s[k].toNat : Int) ≤ 57 := fun h => hdg ⟨by omega, by omega⟩
            clear hdg HS
            go_wp2_with fail
            go_round
            case rel => exact ⟨k + 1, by omega, by go_num, by rw [HD.out]⟩
            case measure => simp [intOf]; omega
          · clear hdg HS
            go_wp2_with fail
            go_round
            case rel => exact ⟨k + 1, by omega, by go_num, by rw [HD.out]⟩
            case measure => simp [intOf]; omega
      · obtain rfl : k = s.size := by omega
        have e0 : s.data.toList.take s.size = s.data.toList := List.take_of_length_le (by rw [len_data]; exact Nat.le_refl _)
        rw [e0]
        have h0 : (0 : Int) < s.size := by omega
        have hd17 : (dgv 0 s.data.toList : Int) < 100000000000000000 := by have := HV.out; omega
        have HE : Hid ((s[0].toNat = 45 → specN s.data.toList = -(dgv 0 s.data.toList : Int)) ∧ (¬ s[0].toNat = 45 → specN s.data.toList = (dgv 0 s.data.toList : Int))) := ⟨specN_neg s (by omega), specN_pos s (by omega)⟩
        generalize dgv 0 s.data.toList = d at *
        by_cases h45 : s[0].toNat = 45
        · have t45 : ((s[0].toNat : Int) == 45) = true := beq_iff_eq.2 (by omega)
          have n1 : IntKind.i64.wrap (-(d : Int)) = -(d : Int) := IntWalk.i64_in _ (by omega)
          have n2 : wrap64 (-(d : Int)) = -(d : Int) := IntWalk.wrap64_in _ (by omega)
          have HSn : Hid (specN s.data.toList = -(d : Int)) := HE.out.1 h45
          have HIn := hide_ (d_l00In (-(d : Int)) (-1000000000000000) 1000000000000000)
          have HDc := hide_ (c_l01Dec (-(d : Int)) (by omega) (by omega))
          clear hd17
          cases hv : isV (-(d : Int))
          · have HR := hide_ (show readP s.data.toList = false by unfold readP; rw [HSn.out, hv]; simp)
            have HIn' : Hid (∀ w, Calls Tryd.prog 58 #[.int .i64 (-(d : Int)), .int .i64 (-1000000000000000), .int .i64 1000000000000000] w fun e w' => e = .returned (.bool false) ∧ w = w') := by
              have := HIn.out
              rw [show inR (-(d : Int)) (-1000000000000000) 1000000000000000 = false from hv] at this
              exact this
            have HN := hide_ (readN_no HR.out)
            clear hv HIn HDc
            go_wp2_with (go_at_call 58; refine (HIn'.out _).mono ?_; rintro e w' ⟨rfl, rfl⟩)
            go_ret2
            exact ⟨by rw [HN.out, HR.out]; rfl, Below.refl _ _⟩
          · have HIn' : Hid (∀ w, Calls Tryd.prog 58 #[.int .i64 (-(d : Int)), .int .i64 (-1000000000000000), .int .i64 1000000000000000] w fun e w' => e = .returned (.bool true) ∧ w = w') := by
              have := HIn.out
              rw [show inR (-(d : Int)) (-1000000000000000) 1000000000000000 = true from hv] at this
              exact this
            cases hq : (Lib.itoa (-(d : Int)) == s.data.toList)
            · have HR := hide_ (show readP s.data.toList = false by unfold readP; rw [HSn.out, hv, hq]; simp)
              have HN := hide_ (readN_no HR.out)
              have hcmp := (str_eq (Lib.itoa (-(d : Int))) s).trans hq
              clear hv hq HIn
              go_wp2_with (first | (go_at_call 58; refine (HIn'.out _).mono ?_; rintro e w' ⟨rfl, rfl⟩) | (go_at_call 35; refine (HDc.out _).mono ?_; rintro e w1 ⟨rfl, hB1⟩))
              go_ret2
              exact ⟨by rw [HN.out, HR.out]; rfl, hB1⟩
            · have HR := hide_ (show readP s.data.toList = true by unfold readP; rw [HSn.out, hv, hq, decide_eq_true HL.out]; rfl)
              have HN : Hid (readN s.data.toList = -(d : Int)) := (readN_yes HR.out).trans HSn.out
              have hcmp := (str_eq (Lib.itoa (-(d : Int))) s).trans hq
              clear hv hq HIn
              go_wp2_with (first | (go_at_call 58; refine (HIn'.out _).mono ?_; rintro e w' ⟨rfl, rfl⟩) | (go_at_call 35; refine (HDc.out _).mono ?_; rintro e w1 ⟨rfl, hB1⟩))
              go_ret2
              exact ⟨by rw [HN.out, HR.out]; rfl, hB1⟩
        · have t45 : ((s[0].toNat : Int) == 45) = false := beq_eq_false_iff_ne.2 (fun h => h45 (by omega))
          have HSn : Hid (specN s.data.toList = (d : Int)) := HE.out.2 h45
          have HIn := hide_ (d_l00In ((d : Int)) (-1000000000000000) 1000000000000000)
          have HDc := hide_ (c_l01Dec ((d : Int)) (by omega) (by omega))
          clear hd17
          cases hv : isV ((d : Int))
          · have HR := hide_ (show readP s.data.toList = false by unfold readP; rw [HSn.out, hv]; simp)
            have HIn' : Hid (∀ w, Calls Tryd.prog 58 #[.int .i64 ((d : Int)), .int .i64 (-1000000000000000), .int .i64 1000000000000000] w fun e w' => e = .returned (.bool false) ∧ w = w') := by
              have := HIn.out
              rw [show inR ((d : Int)) (-1000000000000000) 1000000000000000 = false from hv] at this
              exact this
            have HN := hide_ (readN_no HR.out)
            clear hv HIn HDc
            go_wp2_with (go_at_call 58; refine (HIn'.out _).mono ?_; rintro e w' ⟨rfl, rfl⟩)
            go_ret2
            exact ⟨by rw [HN.out, HR.out]; rfl, Below.refl _ _⟩
          · have HIn' : Hid (∀ w, Calls Tryd.prog 58 #[.int .i64 ((d : Int)), .int .i64 (-1000000000000000), .int .i64 1000000000000000] w fun e w' => e = .returned (.bool true) ∧ w = w') := by
              have := HIn.out
              rw [show inR ((d : Int)) (-1000000000000000) 1000000000000000 = true from hv] at this
              exact this
            cases hq : (Lib.itoa ((d : Int)) == s.data.toList)
            · have HR := hide_ (show readP s.data.toList = false by unfold readP; rw [HSn.out, hv, hq]; simp)
              have HN := hide_ (readN_no HR.out)
              have hcmp := (str_eq (Lib.itoa ((d : Int))) s).trans hq
              clear hv hq HIn
              go_wp2_with (first | (go_at_call 58; refine (HIn'.out _).mono ?_; rintro e w' ⟨rfl, rfl⟩) | (go_at_call 35; refine (HDc.out _).mono ?_; rintro e w1 ⟨rfl, hB1⟩))
              go_ret2
              exact ⟨by rw [HN.out, HR.out]; rfl, hB1⟩
            · have HR := hide_ (show readP s.data.toList = true by unfold readP; rw [HSn.out, hv, hq, decide_eq_true HL.out]; rfl)
              have HN : Hid (readN s.data.toList = (d : Int)) := (readN_yes HR.out).trans HSn.out
              have hcmp := (str_eq (Lib.itoa ((d : Int))) s).trans hq
              clear hv hq HIn
              go_wp2_with (first | (go_at_call 58; refine (HIn'.out _).mono ?_; rintro e w' ⟨rfl, rfl⟩) | (go_at_call 35; refine (HDc.out _).mono ?_; rintro e w1 ⟨rfl, hB1⟩))
              go_ret2
              exact ⟨by rw [HN.out, HR.out]; rfl, hB1⟩
  · have hv : readP s.data.toList = false := by unfold readP; rw [len_data, decide_eq_false hlen]; rfl
    rw [readN_no hv, hv]
    by_cases h1 : 1 ≤ s.size
    · have i1 : ¬ (s.size : Int) < 1 := by omega
      have i2 : (17 : Int) < s.size := by omega
      clear hlen hm
      go_enter Tryd.func46, Tryd.ntmps46
      go_wp2_with fail
      go_ret2
      exact ⟨rfl, Below.refl _ _⟩
    · have i1 : (s.size : Int) < 1 := by omega
      clear hlen hm
      go_enter Tryd.func46, Tryd.ntmps46
      go_wp2_with fail
      go_ret2
      exact ⟨rfl, Below.refl _ _⟩

end Go.Proofs.YticggbmmeefelaaDoor
