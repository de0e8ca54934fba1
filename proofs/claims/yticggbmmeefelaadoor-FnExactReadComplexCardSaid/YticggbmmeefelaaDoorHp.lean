/-
Texts of lists of numbers read back: plain part.
-/
import Derived.Test.YticggbmmeefelaaDoorHu
import Derived.Test.YticggbmmeefelaaDoorRa
import Derived.Test.YticggbmmeefelaaDoorDd
set_option linter.unusedVariables false
set_option linter.unusedSimpArgs false
namespace Go.Proofs.YticggbmmeefelaaDoor
open Fl Go Go.RowKit

def lv (c : Nat) : Option Nat := if 48 ≤ c ∧ c ≤ 57 then some (c - 48) else if 97 ≤ c ∧ c ≤ 102 then some (c - 87) else none
/-- the value of small hexadecimal digits -/
def sv : Nat → List UInt8 → Option Nat
  | acc, [] => some acc
  | acc, c :: l => match lv c.toNat with
    | some d => sv (16 * acc + d) l
    | none => none
theorem lv_hv {c d : Nat} (h : lv c = some d) : hv c = some d := by
  unfold lv at h
  unfold hv
  split at h
  · rename_i h1; rw [if_pos h1]; exact h
  · rename_i h1
    rw [if_neg h1]
    split at h
    · rename_i h2; rw [if_pos h2]; exact h
    · cases h
theorem sv_pz : ∀ {l : List UInt8} {acc n : Nat}, sv acc l = some n → pz acc l = some n
  | [], acc, n, h => h
  | c :: l, acc, n, h => by
    unfold sv at h
    unfold pz
    cases hl : lv c.toNat with
    | none => rw [hl] at h; cases h
    | some d =>
      rw [hl] at h
      rw [lv_hv hl]
      exact sv_pz h
theorem lv_hd256 : ∀ c : Fin 256, ∀ d : Fin 16, lv c.val = some d.val → c.val = (hd d.val).toNat := by decide +kernel
theorem lv_lt {c d : Nat} (h : lv c = some d) : d < 16 := hv_lt (lv_hv h)
theorem lv_hd {c : UInt8} {d : Nat} (h : lv c.toNat = some d) : c = hd d :=
  UInt8.toNat.inj (lv_hd256 ⟨c.toNat, c.toNat_lt⟩ ⟨d, lv_lt h⟩ h)
theorem hd_lv16 : ∀ d : Fin 16, lv (hd d.val).toNat = some d.val := by decide +kernel
theorem sv_hxL : ∀ {l : List UInt8} {acc n : Nat}, sv acc l = some n → l = hxL n l.length ∧ n / 16 ^ l.length = acc
  | [], acc, n, h => by cases h; exact ⟨rfl, by simp⟩
  | c :: l, acc, n, h => by
    unfold sv at h
    cases hl : lv c.toNat with
    | none => rw [hl] at h; cases h
    | some d =>
      rw [hl] at h
      obtain ⟨h1, h2⟩ := sv_hxL h
      have hd16 := lv_lt hl
      refine ⟨?_, ?_⟩
      · rw [List.length_cons, hxL_top, h2, ← h1, lv_hd hl]
        congr 2
        omega
      · rw [List.length_cons, Nat.pow_succ, ← Nat.div_div_eq_div_mul, h2]
        omega
theorem hxL_sv : ∀ (k acc n : Nat), sv acc (hxL n k) = some (acc * 16 ^ k + n % 16 ^ k)
  | 0, acc, n => by simp [hxL, sv, Nat.mod_one]
  | k + 1, acc, n => by
    rw [hxL_top, sv, hd_lv16 ⟨n / 16 ^ k % 16, Nat.mod_lt _ (by decide)⟩]
    simp only
    rw [hxL_sv k, Nat.pow_succ, Nat.mod_mul, Nat.add_mul, Nat.mul_comm 16 acc, Nat.mul_assoc, Nat.mul_comm 16 (16 ^ k), Nat.mul_comm (n / 16 ^ k % 16)]
    congr 1
    omega
theorem hex_sv {n : Nat} (h : n < 4294967296) : sv 0 (hxL n 8) = some n := by
  rw [hxL_sv, Nat.zero_mul, Nat.zero_add, Nat.mod_eq_of_lt (Nat.lt_of_lt_of_le h (by decide))]
theorem pz_lt : ∀ {l : List UInt8} {acc n : Nat}, pz acc l = some n → n < (acc + 1) * 16 ^ l.length
  | [], acc, n, h => by cases h; simp
  | c :: l, acc, n, h => by
    unfold pz at h
    cases hl : hv c.toNat with
    | none => rw [hl] at h; cases h
    | some d =>
      rw [hl] at h
      have h1 := pz_lt h
      have hd16 := hv_lt hl
      rw [List.length_cons, Nat.pow_succ, Nat.mul_comm (16 ^ l.length), ← Nat.mul_assoc]
      exact Nat.lt_of_lt_of_le h1 (Nat.mul_le_mul_right _ (by omega))

/-- the number that is read of a piece -/
def vH (p : ByteArray) : Nat := (pz 0 p.data.toList).getD 0
theorem vH_lt {p : ByteArray} (h : p.size = 8) : vH p < 4294967296 := by
  unfold vH
  cases hp : pz 0 p.data.toList with
  | none => simp
  | some n =>
    have := pz_lt hp
    rw [len_data, h] at this
    exact this
def okH (p : ByteArray) : Bool := decide (p.size = 8) && (hex8 (vH p) == p.data.toList)
theorem okH_size {p : ByteArray} (h : ¬ p.size = 8) : okH p = false := by unfold okH; rw [decide_eq_false h]; rfl
theorem okH_none {p : ByteArray} (hs : p.size = 8) (h : sv 0 p.data.toList = none) : okH p = false := by
  cases hk : okH p
  · rfl
  · unfold okH at hk
    simp only [Bool.and_eq_true, beq_iff_eq] at hk
    have e : hxL (nb (vH p)) 8 = p.data.toList := hk.2
    rw [← e, hex_sv (nb_lt (vH_lt hs))] at h
    cases h
theorem okH_some {p : ByteArray} {n : Nat} (hs : p.size = 8) (h : sv 0 p.data.toList = some n) : vH p = n ∧ okH p = (bitsOf n == (n : Int)) := by
  have hv1 : vH p = n := by unfold vH; rw [sv_pz h]; rfl
  refine ⟨hv1, ?_⟩
  have hp : p.data.toList = hxL n 8 := by
    have := (sv_hxL h).1
    rw [len_data, hs] at this
    exact this
  have hn : n < 4294967296 := by rw [← hv1]; exact vH_lt hs
  unfold okH
  rw [hv1, decide_eq_true hs, Bool.true_and, hp]
  show (hxL (nb n) 8 == hxL n 8) = _
  rw [nb_eq]
  by_cases e : nb n = n
  · rw [e]; simp
  · have e1 : (hxL (nb n) 8 == hxL n 8) = false := by
      rw [beq_eq_false_iff_ne]
      intro e2
      have := hex_sv (nb_lt hn)
      rw [e2, hex_sv hn] at this
      exact e (Option.some.inj this).symm
    rw [e1]
    symm
    rw [beq_eq_false_iff_ne]
    omega

theorem join_cons2 (x : List UInt8) {l : List (List UInt8)} (h : l ≠ []) : Lib.join (x :: l) [44] = x ++ 44 :: Lib.join l [44] := by
  cases l with
  | nil => exact absurd rfl h
  | cons y r => rw [Lib.join_cons, Lib.join_cons]; simp [Lib.joinTail]
theorem sp_ne (s : ByteArray) : sp s ≠ [] := fun h => by
  have := sp_len s
  rw [h] at this
  simp at this
theorem join_from (s : ByteArray) : ∀ (m a i : Nat), a ≤ i → i + m = s.size → NoC s a i → Lib.join ((sp (s.extract a s.size)).map (·.data.toList)) [44] = s.data.toList.drop a
  | 0, a, i, h1, h2, h3 => by
    obtain rfl : i = s.size := by omega
    rw [sp_miss s a h3, List.map_singleton, Lib.join_one, ex_data]
  | m + 1, a, i, h1, h2, h3 => by
    have hlt : i < s.size := by omega
    have hl : i < s.data.toList.length := by rw [len_data]; exact hlt
    by_cases hc : s.data.toList[i]? = some 44
    · rw [sp_hit s a i h3 h1 hlt hc, List.map_cons, join_cons2 _ (by simp [sp_ne]), join_from s m (i + 1) (i + 1) (Nat.le_refl _) (by omega) (fun j c g1 g2 => absurd g2 (by omega)), Lib.extract_data]
      have hg : s.data.toList[i] = 44 := by
        rw [List.getElem?_eq_getElem hl] at hc
        exact Option.some.inj hc
      have e1 : s.data.toList.drop i = 44 :: s.data.toList.drop (i + 1) := by rw [List.drop_eq_getElem_cons hl, hg]
      rw [← e1]
      have : s.data.toList.drop i = (s.data.toList.drop a).drop (i - a) := by rw [List.drop_drop]; congr 1; omega
      rw [this, List.take_append_drop]
    · refine join_from s m a (i + 1) (by omega) (by omega) (fun j c g1 g2 g3 => ?_)
      by_cases e : j = i
      · subst e
        intro e2
        subst e2
        exact hc g3
      · exact h3 j c g1 (by omega) g3
theorem join_sp (s : ByteArray) : Lib.join ((sp s).map (·.data.toList)) [44] = s.data.toList := by
  have := join_from s s.size 0 0 (Nat.le_refl _) (by omega) (fun j c g1 g2 => absurd g2 (by omega))
  rw [ex_all, List.drop_zero] at this
  exact this
theorem tail_inj : ∀ {A B : List (List UInt8)}, A.length = B.length → (∀ x ∈ A, x.length = 8) → (∀ x ∈ B, x.length = 8) → Lib.joinTail [44] A = Lib.joinTail [44] B → A = B
  | [], [], _, _, _, _ => rfl
  | x :: A, y :: B, hl, h1, h2, h => by
    simp only [Lib.joinTail, List.map_cons, List.flatten_cons, List.cons_append, List.nil_append, List.cons.injEq, true_and] at h
    have e := List.append_inj h (by rw [h1 x (by simp), h2 y (by simp)])
    rw [e.1, tail_inj (by simpa using hl) (fun z hz => h1 z (by simp [hz])) (fun z hz => h2 z (by simp [hz])) e.2]
  | [], _ :: _, hl, _, _, _ => by simp at hl
  | _ :: _, [], hl, _, _, _ => by simp at hl
theorem join_inj : ∀ {A B : List (List UInt8)}, A.length = B.length → (∀ x ∈ A, x.length = 8) → (∀ x ∈ B, x.length = 8) → Lib.join A [44] = Lib.join B [44] → A = B
  | [], [], _, _, _, _ => rfl
  | x :: A, y :: B, hl, h1, h2, h => by
    rw [Lib.join_cons, Lib.join_cons] at h
    have e := List.append_inj h (by rw [h1 x (by simp), h2 y (by simp)])
    rw [e.1, tail_inj (by simpa using hl) (fun z hz => h1 z (by simp [hz])) (fun z hz => h2 z (by simp [hz])) e.2]
  | [], _ :: _, hl, _, _, _ => by simp at hl
  | _ :: _, [], hl, _, _, _ => by simp at hl

/-- has a text a list of numbers -/
def accN (s : ByteArray) : Bool := isNo s || (decide ((sp s).length ≤ 256) && (sp s).all okH)
def lstN (s : ByteArray) : List Nat := if isNo s then [] else if accN s then (sp s).map vH else []
theorem nN_none {s : ByteArray} (h : isNo s = true) : accN s = true ∧ lstN s = [] := by
  unfold accN lstN; rw [h]; exact ⟨rfl, rfl⟩
theorem nN_long {s : ByteArray} (h : isNo s = false) (hl : ¬ (sp s).length ≤ 256) : accN s = false ∧ lstN s = [] := by
  have : accN s = false := by unfold accN; rw [h, decide_eq_false hl]; rfl
  unfold lstN; rw [h, this]; exact ⟨rfl, rfl⟩
theorem nN_all {s : ByteArray} (h : isNo s = false) (hl : (sp s).all okH = false) : accN s = false ∧ lstN s = [] := by
  have : accN s = false := by unfold accN; rw [h, hl]; simp
  unfold lstN; rw [h, this]; exact ⟨rfl, rfl⟩
theorem nN_bad {s : ByteArray} {k : Nat} (h : isNo s = false) (hk : k < (sp s).length) (hr : okH ((sp s).getD k default) = false) : accN s = false ∧ lstN s = [] := by
  refine nN_all h ?_
  have e : (sp s).getD k default = (sp s)[k] := by simp [List.getD_eq_getElem?_getD, hk]
  rw [List.all_eq_false]
  exact ⟨(sp s)[k], List.getElem_mem hk, by rw [← e, hr]; decide⟩
theorem nN_yes {s : ByteArray} (h : isNo s = false) (hl : (sp s).length ≤ 256) (ha : (sp s).all okH = true) : accN s = true ∧ lstN s = (sp s).map vH := by
  have : accN s = true := by unfold accN; rw [h, ha, decide_eq_true hl]; rfl
  unfold lstN; rw [h, this]; exact ⟨rfl, rfl⟩
theorem nN_good {s : ByteArray} (h : isNo s = false) (hl : (sp s).length ≤ 256) (hr : ∀ k, k < (sp s).length → okH ((sp s).getD k default) = true) : accN s = true ∧ lstN s = (sp s).map vH := by
  refine nN_yes h hl ?_
  rw [List.all_eq_true]
  intro x hx
  obtain ⟨k, hk, rfl⟩ := List.getElem_of_mem hx
  have e : (sp s).getD k default = (sp s)[k] := by simp [List.getD_eq_getElem?_getD, hk]
  rw [← e]; exact hr k hk
theorem nN_text {s : ByteArray} (hz : ∀ k, k < (sp s).length → ((sp s).getD k default).size = 8) : (textL (((sp s).map vH).map hex8) == s.data.toList) = (sp s).all okH := by
  have hz' : ∀ p ∈ sp s, p.size = 8 := by
    intro p hp
    obtain ⟨k, hk, rfl⟩ := List.getElem_of_mem hp
    have e : (sp s).getD k default = (sp s)[k] := by simp [List.getD_eq_getElem?_getD, hk]
    rw [← e]; exact hz k hk
  have ht : textL (((sp s).map vH).map hex8) = Lib.join (((sp s).map vH).map hex8) [44] := by
    unfold textL
    rw [if_neg (by simp [sp_ne])]
  rw [ht, ← join_sp s]
  cases ha : (sp s).all okH
  · rw [beq_eq_false_iff_ne]
    intro e
    have e2 := join_inj (by simp) (by
      intro x hx
      simp only [List.mem_map] at hx
      obtain ⟨v, _, rfl⟩ := hx
      exact hxL_len _ _) (by
      intro x hx
      simp only [List.mem_map] at hx
      obtain ⟨p, hp, rfl⟩ := hx
      rw [len_data]; exact hz' p hp) e
    rw [List.map_map] at e2
    have : (sp s).all okH = true := by
      rw [List.all_eq_true]
      intro p hp
      have := List.map_inj_left.1 e2 p hp
      unfold okH
      rw [decide_eq_true (hz' p hp)]
      simpa using this
    rw [this] at ha
    cases ha
  · rw [beq_iff_eq]
    congr 1
    rw [List.map_map]
    refine List.map_congr_left fun p hp => ?_
    have := List.all_eq_true.1 ha p hp
    unfold okH at this
    simp only [Bool.and_eq_true, beq_iff_eq] at this
    exact this.2

end Go.Proofs.YticggbmmeefelaaDoor
