/-
Eight hexadecimal digits read by the reference (l01Digits); plain part of lists of complex numbers.
-/
import Derived.Test.YticggbmmeefelaaDoorHr
set_option linter.unusedVariables false
set_option linter.unusedSimpArgs false
namespace Go.Proofs.YticggbmmeefelaaDoor
open Fl Go Go.RowKit

/-- what reading 8 digits gives -/
def dgN (p : ByteArray) : Nat := if okH p then vH p else 0
theorem dg_no {p : ByteArray} (h : okH p = false) : dgN p = 0 := by unfold dgN; rw [h]; rfl
theorem dg_yes {p : ByteArray} (h : okH p = true) : dgN p = vH p := by unfold dgN; rw [h]; rfl
def DigGives (p : ByteArray) (w : World) (e : Ending) (w' : World) : Prop := e = .returned (.tuple #[.float .f32 (dgN p), .bool (okH p)]) ∧ w = w'

set_option maxRecDepth 100000 in
set_option maxHeartbeats 2000000 in
theorem c_l01Digits (p : ByteArray) (h8 : p.size = 8) (w : World) : Calls Tryd.prog 72 #[.string p] w (DigGives p w) := by
  unfold DigGives
  have HNone := hide_ (fun h => okH_none (p := p) h8 h)
  have HSome := hide_ (fun n h => okH_some (p := p) (n := n) h8 h)
  have HZ0 := hide_ (PZ.zero p)
  have HNo := hide_ (fun h => dg_no (p := p) h)
  have HYes := hide_ (fun h => dg_yes (p := p) h)
  generalize dgN p = dg at *
  generalize okH p = ok at *
  go_enter Tryd.func72, Tryd.ntmps72
  go_wp2_with fail
  go_loop [4, 5] (fun n j => ∃ m i : Nat, i ≤ 8 ∧ n = .int .i64 m ∧ j = .int .i64 i ∧ Hid (PZ p i m)) (fun n j => 8 - (intOf j).toNat)
  case atStart => exact ⟨0, 0, by omega, rfl, rfl, HZ0⟩
  case round =>
    obtain ⟨m, i, hi8, rfl, rfl, HZ⟩ := hrel
    by_cases hil : i < 8
    · have hip : i < p.size := by omega
      have hm28 : m < 268435456 := Nat.lt_of_lt_of_le HZ.out.1 (Nat.le_trans (Nat.pow_le_pow_right (by decide) (show i ≤ 7 by omega)) (by decide))
      have HX := hide_ (fun d h => HZ.out.next (d := d) hip h)
      have HY := hide_ (fun h => HZ.out.bad hip h)
      have hx256 : (p[i]'hip).toNat < 256 := (p[i]'hip).toNat_lt
      have hipI : (i : Int) < p.size := by omega
      obtain ⟨cb, hcb⟩ : ∃ cb, p[i]'hip = cb := ⟨_, rfl⟩
      rw [hcb] at HX HY hx256
      by_cases hA : 48 ≤ cb.toNat ∧ cb.toNat ≤ 57
      · have HD := hide_ (HX.out _ (lvA hA.1 hA.2))
        have j1 : (48 : Int) ≤ cb.toNat := by omega
        have j2 : (cb.toNat : Int) ≤ 57 := by omega
        have j3 : ¬ (97 : Int) ≤ cb.toNat := by omega
        have HCM := hide_ (show (16 * (m : Int) + ((cb.toNat : Int) - 48)) = ((16 * m + (cb.toNat - 48) : Nat) : Int) by omega)
        clear hA
        go_wp2_with fail
        go_round
        case rel => exact ⟨16 * m + (cb.toNat - 48), i + 1, by omega, by rw [HCM.out], by go_num, HD⟩
        case measure => simp [intOf] <;> omega
      · by_cases hBb : 97 ≤ cb.toNat ∧ cb.toNat ≤ 102
        · have HD := hide_ (HX.out _ (lvB hBb.1 hBb.2))
          have j1 : (97 : Int) ≤ cb.toNat := by omega
          have j2 : (cb.toNat : Int) ≤ 102 := by omega
          have j3 : ¬ (cb.toNat : Int) ≤ 57 := by omega
          have j4 : (48 : Int) ≤ cb.toNat := by omega
          have HCM := hide_ (show (16 * (m : Int) + ((cb.toNat : Int) - 97 + 10)) = ((16 * m + (cb.toNat - 87) : Nat) : Int) by omega)
          clear hA hBb
          go_wp2_with fail
          go_round
          case rel => exact ⟨16 * m + (cb.toNat - 87), i + 1, by omega, by rw [HCM.out], by go_num, HD⟩
          case measure => simp [intOf] <;> omega
        · have HQ := hide_ (HNone.out (HY.out (lvC hA hBb)))
          have HQ2 := hide_ (HNo.out HQ.out)
          have hcc : ((cb.toNat : Int) < 48 ∧ ¬ (48 : Int) ≤ cb.toNat ∧ ¬ (97 : Int) ≤ cb.toNat) ∨ ((48 : Int) ≤ cb.toNat ∧ ¬ (cb.toNat : Int) ≤ 57 ∧ ¬ (97 : Int) ≤ cb.toNat) ∨ ((48 : Int) ≤ cb.toNat ∧ ¬ (cb.toNat : Int) ≤ 57 ∧ (97 : Int) ≤ cb.toNat ∧ ¬ (cb.toNat : Int) ≤ 102) := by omega
          clear hA hBb
          rcases hcc with ⟨j1, j2, j3⟩ | ⟨j1, j2, j3⟩ | ⟨j1, j2, j3, j4⟩
          all_goals
            go_wp2_with fail
            go_ret2
            exact ⟨by rw [HQ.out, HQ2.out]; rfl, rfl⟩
    · obtain rfl : i = 8 := by omega
      have hsv := HZ.out.fin h8
      have hm32 : m < 4294967296 := HZ.out.1
      have hq := HSome.out m hsv
      have HFr := hide_ (c_from m hm32)
      have HBt := hide_ (c_l01Bits m hm32)
      have hpI : (p.size : Int) = 8 := by omega
      clear hsv
      cases hbm : (bitsOf m == (m : Int))
      · have HQ := hide_ (hq.2.trans hbm)
        have HQ2 := hide_ (HNo.out HQ.out)
        have hne : (bitsOf m != (m : Int)) = true := by rw [bne, hbm]; rfl
        clear hq hbm
        generalize bitsOf m = bm at *
        go_wp2_with (first | (go_at_call 67; refine (HFr.out _).mono ?_; rintro e w' ⟨rfl, rfl⟩) | (go_at_call 68; refine (HBt.out _).mono ?_; rintro e w' ⟨rfl, rfl⟩))
        go_ret2
        exact ⟨by rw [HQ.out, HQ2.out]; rfl, rfl⟩
      · have HQ := hide_ (hq.2.trans hbm)
        have HQ2 := hide_ ((HYes.out HQ.out).trans hq.1)
        have hne : (bitsOf m != (m : Int)) = false := by rw [bne, hbm]; rfl
        clear hq hbm
        generalize bitsOf m = bm at *
        go_wp2_with (first | (go_at_call 67; refine (HFr.out _).mono ?_; rintro e w' ⟨rfl, rfl⟩) | (go_at_call 68; refine (HBt.out _).mono ?_; rintro e w' ⟨rfl, rfl⟩))
        go_ret2
        exact ⟨by rw [HQ.out, HQ2.out]; rfl, rfl⟩

/-- the two halves of a piece -/
def p1 (p : ByteArray) : ByteArray := p.extract 0 8
def p2 (p : ByteArray) : ByteArray := p.extract 8 p.size
theorem half_size {p : ByteArray} (h : p.size = 16) : (p1 p).size = 8 ∧ (p2 p).size = 8 := by
  unfold p1 p2
  rw [ByteArray.size_extract, ByteArray.size_extract, h]
  exact ⟨rfl, rfl⟩
theorem half_data {p : ByteArray} (h : p.size = 16) : (p1 p).data.toList ++ (p2 p).data.toList = p.data.toList := by
  unfold p1 p2
  rw [ex_data, Lib.extract_data, List.drop_zero]
  exact List.take_append_drop _ _
def okC (p : ByteArray) : Bool := decide (p.size = 16) && (okH (p1 p) && okH (p2 p))
/-- the two numbers that are read of a piece -/
def vC (p : ByteArray) : Nat × Nat := (vH (p1 p), vH (p2 p))
def hexC (c : Nat × Nat) : List UInt8 := hex8 c.1 ++ hex8 c.2
theorem hexC_len (c : Nat × Nat) : (hexC c).length = 16 := by
  unfold hexC hex8
  rw [List.length_append, hxL_len, hxL_len]
theorem okC_iff {p : ByteArray} (h : p.size = 16) : okC p = (hexC (vC p) == p.data.toList) := by
  obtain ⟨h1, h2⟩ := half_size h
  unfold okC okH hexC vC
  rw [decide_eq_true h, decide_eq_true h1, decide_eq_true h2, Bool.true_and, Bool.true_and, Bool.true_and, ← half_data h]
  rw [Bool.eq_iff_iff]
  simp only [Bool.and_eq_true, beq_iff_eq]
  constructor
  · rintro ⟨e1, e2⟩; rw [e1, e2]
  · intro e
    exact List.append_inj e (by rw [len_data, h1]; exact hxL_len _ _)
theorem okC_size {p : ByteArray} (h : ¬ p.size = 16) : okC p = false := by unfold okC; rw [decide_eq_false h]; rfl
theorem tail_inj2 {n : Nat} : ∀ {A B : List (List UInt8)}, A.length = B.length → (∀ x ∈ A, x.length = n) → (∀ x ∈ B, x.length = n) → Lib.joinTail [44] A = Lib.joinTail [44] B → A = B
  | [], [], _, _, _, _ => rfl
  | x :: A, y :: B, hl, h1, h2, h => by
    simp only [Lib.joinTail, List.map_cons, List.flatten_cons, List.cons_append, List.nil_append, List.cons.injEq, true_and] at h
    have e := List.append_inj h (by rw [h1 x (by simp), h2 y (by simp)])
    rw [e.1, tail_inj2 (by simpa using hl) (fun z hz => h1 z (by simp [hz])) (fun z hz => h2 z (by simp [hz])) e.2]
  | [], _ :: _, hl, _, _, _ => by simp at hl
  | _ :: _, [], hl, _, _, _ => by simp at hl
theorem join_inj2 {n : Nat} : ∀ {A B : List (List UInt8)}, A.length = B.length → (∀ x ∈ A, x.length = n) → (∀ x ∈ B, x.length = n) → Lib.join A [44] = Lib.join B [44] → A = B
  | [], [], _, _, _, _ => rfl
  | x :: A, y :: B, hl, h1, h2, h => by
    rw [Lib.join_cons, Lib.join_cons] at h
    have e := List.append_inj h (by rw [h1 x (by simp), h2 y (by simp)])
    rw [e.1, tail_inj2 (by simpa using hl) (fun z hz => h1 z (by simp [hz])) (fun z hz => h2 z (by simp [hz])) e.2]
  | [], _ :: _, hl, _, _, _ => by simp at hl
  | _ :: _, [], hl, _, _, _ => by simp at hl

/-- has a text a list of complex numbers -/
def accC (s : ByteArray) : Bool := isNo s || (decide ((sp s).length ≤ 256) && (sp s).all okC)
def lstC (s : ByteArray) : List (Nat × Nat) := if isNo s then [] else if accC s then (sp s).map vC else []
theorem nC_none {s : ByteArray} (h : isNo s = true) : accC s = true ∧ lstC s = [] := by
  unfold accC lstC; rw [h]; exact ⟨rfl, rfl⟩
theorem nC_long {s : ByteArray} (h : isNo s = false) (hl : ¬ (sp s).length ≤ 256) : accC s = false ∧ lstC s = [] := by
  have : accC s = false := by unfold accC; rw [h, decide_eq_false hl]; rfl
  unfold lstC; rw [h, this]; exact ⟨rfl, rfl⟩
theorem nC_all {s : ByteArray} (h : isNo s = false) (hl : (sp s).all okC = false) : accC s = false ∧ lstC s = [] := by
  have : accC s = false := by unfold accC; rw [h, hl]; simp
  unfold lstC; rw [h, this]; exact ⟨rfl, rfl⟩
theorem nC_bad {s : ByteArray} {k : Nat} (h : isNo s = false) (hk : k < (sp s).length) (hr : okC ((sp s).getD k default) = false) : accC s = false ∧ lstC s = [] := by
  refine nC_all h ?_
  have e : (sp s).getD k default = (sp s)[k] := by simp [List.getD_eq_getElem?_getD, hk]
  rw [List.all_eq_false]
  exact ⟨(sp s)[k], List.getElem_mem hk, by rw [← e, hr]; decide⟩
theorem nC_yes {s : ByteArray} (h : isNo s = false) (hl : (sp s).length ≤ 256) (ha : (sp s).all okC = true) : accC s = true ∧ lstC s = (sp s).map vC := by
  have : accC s = true := by unfold accC; rw [h, ha, decide_eq_true hl]; rfl
  unfold lstC; rw [h, this]; exact ⟨rfl, rfl⟩
theorem nC_good {s : ByteArray} (h : isNo s = false) (hl : (sp s).length ≤ 256) (hr : ∀ k, k < (sp s).length → okC ((sp s).getD k default) = true) : accC s = true ∧ lstC s = (sp s).map vC := by
  refine nC_yes h hl ?_
  rw [List.all_eq_true]
  intro x hx
  obtain ⟨k, hk, rfl⟩ := List.getElem_of_mem hx
  have e : (sp s).getD k default = (sp s)[k] := by simp [List.getD_eq_getElem?_getD, hk]
  rw [← e]; exact hr k hk
theorem nC_text {s : ByteArray} (hz : ∀ k, k < (sp s).length → ((sp s).getD k default).size = 16) : (textL (((sp s).map vC).map hexC) == s.data.toList) = (sp s).all okC := by
  have hz' : ∀ p ∈ sp s, p.size = 16 := by
    intro p hp
    obtain ⟨k, hk, rfl⟩ := List.getElem_of_mem hp
    have e : (sp s).getD k default = (sp s)[k] := by simp [List.getD_eq_getElem?_getD, hk]
    rw [← e]; exact hz k hk
  have ht : textL (((sp s).map vC).map hexC) = Lib.join (((sp s).map vC).map hexC) [44] := by
    unfold textL
    rw [if_neg (by simp [sp_ne])]
  rw [ht, ← join_sp s]
  cases ha : (sp s).all okC
  · rw [beq_eq_false_iff_ne]
    intro e
    have e2 := join_inj2 (n := 16) (by simp) (by
      intro x hx
      simp only [List.mem_map] at hx
      obtain ⟨v, _, rfl⟩ := hx
      exact hexC_len _) (by
      intro x hx
      simp only [List.mem_map] at hx
      obtain ⟨p, hp, rfl⟩ := hx
      rw [len_data]; exact hz' p hp) e
    rw [List.map_map] at e2
    have : (sp s).all okC = true := by
      rw [List.all_eq_true]
      intro p hp
      have := List.map_inj_left.1 e2 p hp
      rw [okC_iff (hz' p hp)]
      simpa using this
    rw [this] at ha
    cases ha
  · rw [beq_iff_eq]
    congr 1
    rw [List.map_map]
    refine List.map_congr_left fun p hp => ?_
    have := List.all_eq_true.1 ha p hp
    rw [okC_iff (hz' p hp)] at this
    simpa using this

end Go.Proofs.YticggbmmeefelaaDoor
