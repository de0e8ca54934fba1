/-
Decimal texts: what the reference makes of an integer.
-/
import Derived.Test.YticggbmmeefelaaDoorProg
import Derived.WalkKit
import Derived.LoopTactic
import Derived.Maps.AppendAt
import Derived.Laws.IdiomStrings
import Derived.Lib.ItoaNum
import Derived.OneCell
import Derived.IntWalk
set_option linter.unusedVariables false
set_option linter.unusedSimpArgs false
namespace Go.Proofs.YticggbmmeefelaaDoor
open Go Go.RowKit

theorem hide_ {p : Prop} (h : p) : Hid p := h
def byteV (b : UInt8) : Value := .int .u8 (b.toNat : Int)
theorem infoB : (Tryd.prog.info? 5).map (fun i => (i.zero, i.size, i.bytes)) = some (some (.int .u8 0), 1, 1) := by kernel_rfl

theorem news_at (w : World) (x : Value) (t : TypeId) {s : Nat} (hs : w.heap.size = s) (j : Nat) (u : Value) (hj : [x][j]? = some u) : (w.alloc (.cells #[x] t)).cell? ((⟨s, 0, none⟩ : Addr).add j) = some u := by
  subst hs
  match j, hj with
  | 0, hj => simp at hj; subst hj; simp [Addr.add]

/-- a new row of one cell is owned -/
theorem own_one (w : World) (x : Value) (t : TypeId) {base : Nat} (hb : base ≤ w.heap.size) : (w.alloc (.cells #[x] t)).ownsRow base t 1 (.slice (some ⟨w.heap.size, 0, none⟩) 1 1) 1 [x] :=
  ⟨by simp, .inr ⟨w.heap.size, 1, #[x], rfl, hb, heap_alloc_new w _, Nat.le_refl _, by unfold maxLen; omega, rfl, rfl⟩⟩

def lenOf : Value → Nat | .slice _ n _ => n | _ => 0

/-- the digits that are still to come -/
def dpre (l : List UInt8) (r : Nat) : List UInt8 := if l ≠ [] ∧ r = 0 then [] else Lib.decDigits r
theorem dpre_step (l : List UInt8) (r : Nat) (h : l = [] ∨ r ≠ 0) : dpre l r ++ l = dpre (UInt8.ofNat (48 + r % 10) :: l) (r / 10) ++ (UInt8.ofNat (48 + r % 10) :: l) := by
  have e1 : dpre l r = Lib.decDigits r := by
    unfold dpre
    rw [if_neg]
    rintro ⟨h1, h2⟩
    rcases h with h | h
    · exact h1 h
    · exact h h2
  rw [e1, Lib.decDigits]
  unfold dpre
  by_cases h10 : r < 10
  · rw [dif_pos h10, if_pos ⟨by simp, by omega⟩, show r % 10 = r by omega]; rfl
  · rw [dif_neg h10, if_neg (by rintro ⟨_, h⟩; omega)]
    simp
theorem dpre_end {l : List UInt8} (h : l ≠ []) : dpre l 0 ++ l = l := by unfold dpre; rw [if_pos ⟨h, rfl⟩]; rfl
theorem dpre_nil (r : Nat) : dpre [] r = Lib.decDigits r := by unfold dpre; rw [if_neg]; rintro ⟨h, _⟩; exact h rfl

theorem dig_len : ∀ (k u : Nat), u < 10 ^ (k + 1) → (Lib.decDigits u).length ≤ k + 1 := by
  intro k
  induction k with
  | zero => intro u hu; rw [Lib.decDigits, dif_pos (by simpa using hu)]; simp
  | succ k ih =>
    intro u hu
    rw [Lib.decDigits]
    split
    · simp
    · have := ih (u / 10) (by rw [Nat.pow_succ] at hu; omega)
      simp; omega
theorem byteV_ofNat {n : Nat} (h : n < 256) : byteV (UInt8.ofNat n) = .int .u8 (n : Int) := by
  unfold byteV
  rw [UInt8.toNat_ofNat_of_lt' (by simpa using h)]
theorem byteV_one (u : Value) {l : List UInt8} (hu : u ∈ l.map byteV) : u.oneCell' = true := by
  simp at hu
  obtain ⟨c, _, rfl⟩ := hu
  rfl

structure DS (w : World) (M : List UInt8) (l : List UInt8) (r : Nat) (g cap : Nat) (wr : World) : Prop where
  own : wr.ownsRow w.heap.size 5 1 (.slice (some ⟨g, 0, none⟩) l.length cap) l.length (l.map byteV)
  bel : Below w.heap.size w wr
  dig : M = dpre l r ++ l

theorem DS.step {w : World} {M : List UInt8} {l : List UInt8} {r g cap : Nat} {wr w1 : World} {v' : Value} {c : UInt8} {t : TypeId} (h : DS w M l r g cap wr) (hr : l = [] ∨ r ≠ 0) (hc : c = UInt8.ofNat (48 + r % 10))
    (ho : w1.ownsRow w.heap.size 5 1 v' (1 + l.length) ([byteV c] ++ l.map byteV)) (hg : (wr.alloc (.cells #[byteV c] t)).grownBy w1 (some wr.heap.size)) :
    ∃ g' cap', v' = .slice (some ⟨g', 0, none⟩) (l.length + 1) cap' ∧ DS w M (c :: l) (r / 10) g' cap' w1 := by
  have e : 1 + l.length = l.length + 1 := by omega
  rw [e] at ho
  obtain ⟨g', cap', rfl⟩ : ∃ g' cap', v' = .slice (some ⟨g', 0, none⟩) (l.length + 1) cap' := by
    rcases ho.2 with ⟨_, h0⟩ | ⟨g', cap', cur, hv, _⟩
    · omega
    · exact ⟨g', cap', hv⟩
  refine ⟨g', cap', rfl, ho, ?_, ?_⟩
  · exact (h.bel.alloc h.bel.size _).grown hg (by have := h.bel.size; simp; omega) (fun k hk => by have := Option.some.inj hk; have := h.bel.size; omega)
  · rw [h.dig, dpre_step l r hr, hc]
theorem DS.short {w : World} {M : List UInt8} {l : List UInt8} {r g cap : Nat} {wr : World} (h : DS w M l r g cap wr) (hM : M.length ≤ 20) : l.length ≤ 20 := by
  have := congrArg List.length h.dig
  simp at this
  omega

set_option maxRecDepth 100000 in
theorem c_l01Dec_pos (m : Nat) (hm : m ≤ 9223372036854775807) (w : World) :
    Calls Tryd.prog 35 #[.int .i64 m] w fun e w' => e = .returned (.string ⟨(Lib.decDigits m).toArray⟩) ∧ Below w.heap.size w w' := by
  obtain ⟨i0, hi, hz0, hz1, hz2⟩ := info_parts infoB
  have hM := dig_len 19 m (Nat.lt_of_le_of_lt hm (by decide))
  have HM := hide_ hm
  clear hm
  go_enter Tryd.func35, Tryd.ntmps35
  go_wp2_with fail
  go_loopw [3, 4, 5] (fun out rest d wr => ∃ l r g cap, out = .slice (some ⟨g, 0, none⟩) (l : List UInt8).length cap ∧ rest = .int .i64 (r : Nat) ∧ r ≤ m ∧ DS w (Lib.decDigits m) l r g cap wr) (fun out rest d wr => (intOf rest).toNat + (if lenOf out = 0 then 1 else 0))
  case atStart =>
    refine ⟨[], m, w.heap.size, 0, rfl, rfl, Nat.le_refl _, ⟨rfl, .inr ⟨w.heap.size, 0, #[], rfl, Nat.le_refl _, heap_alloc_new w _, Nat.le_refl _, by unfold maxLen; omega, rfl, rfl⟩⟩, (Below.refl _ _).alloc (Nat.le_refl _) _, ?_⟩
    rw [dpre_nil]; simp
  case round =>
    obtain ⟨l, r, g, cap, rfl, rfl, hrm, R⟩ := hrel
    have hl20 := R.short hM
    have HR := hide_ R
    have hsz := R.bel.size
    clear R
    by_cases hr : l = [] ∨ r ≠ 0
    · have HC := hide_ hr
      have hd : 0 ≤ (r : Int) % 10 ∧ (r : Int) % 10 < 10 := by omega
      obtain ⟨hd0, hd1⟩ := hd
      have hw : wrap64 ((r : Int) / 10) = ((r / 10 : Nat) : Int) := by
        have := HM.out
        rw [show (r : Int) / 10 = ((r / 10 : Nat) : Int) by omega]
        exact IntWalk.wrap64_in ((r / 10 : Nat) : Int) (by omega)
      have HW := hide_ hw
      clear hw
      have hbv : Value.int .u8 (48 + (r : Int) % 10) = byteV (UInt8.ofNat (48 + r % 10)) := by rw [byteV_ofNat (by omega)]; congr 1
      have HBV := hide_ hbv
      clear hbv hr
      have hcase : (((l.length : Int) == 0) = true) ∨ (((l.length : Int) == 0) = false ∧ ((r : Int) != 0) = true) := by
        rcases HC.out with h | h
        · left; subst h; rfl
        · by_cases h0 : l.length = 0
          · left; simp [h0]
          · right; exact ⟨beq_eq_false_iff_ne.2 (by omega), by simp; exact h⟩
      rcases hcase with h1 | ⟨h1, h2⟩
      all_goals
        go_wp2_with (at_builtin; refine wpList_append_own_at _ rfl (.tmp 24) (.tmp 25) 68 rfl w.heap.size 5 i0 (.int .u8 0) 1 1 Tryd.underlying68 hi hz0 hz1 hz2 rfl (by decide) _ 1 _ rfl (own_one wr _ _ hsz) ⟨g, 0, none⟩ l.length cap (l.map byteV) rfl (by simp) (World.ownsRow.cells (World.ownsRow.alloc HR.out.own _) rfl) (fun u hu => byteV_one u hu) (by unfold maxLen; omega) (by omega) (by simp; omega) ?_; intro v' w1 hown hgrow _ _)
        rw [HBV.out] at hown hgrow
        obtain ⟨g', cap', rfl, R'⟩ := DS.step HR.out HC.out rfl hown hgrow
        have HR' := hide_ R'
        clear hown hgrow R'
        go_roundw
        case rel => exact ⟨_, r / 10, g', cap', rfl, by rw [HW.out], by omega, HR'.out⟩
        case measure =>
          rw [HW.out]
          rcases HC.out with h | h
          · subst h; simp [intOf, lenOf]; omega
          · simp [intOf, lenOf]; split <;> omega
    · have hr1 : l ≠ [] := fun h => hr (.inl h)
      have hr0 : r = 0 := by
        by_cases h : r = 0
        · exact h
        · exact absurd (.inr h) hr
      have h1 : ((l.length : Int) == 0) = false := beq_eq_false_iff_ne.2 (fun h => hr1 (List.eq_nil_of_length_eq_zero (by omega)))
      have h2 : ((r : Int) != 0) = false := by simp; exact hr0
      have hdg : Lib.decDigits m = l := by rw [HR.out.dig, hr0]; exact dpre_end hr1
      have hcv := run_convert_bytes_back (P := Tryd.prog) wr 68 9 5 ⟨g, 0, none⟩ cap l Tryd.underlying68 Tryd.underlying5 Tryd.underlying9 (fun j hj => World.ownsRow.cells HR.out.own rfl j _ (by simp [byteV, hj]))
      have HD := hide_ hdg
      have HN : Hid (l ≠ []) := hr1
      clear hdg hr hr1 hr0
      have hm0 : 0 ≤ (m : Int) := by omega
      go_wp2_with fail
      go_ret
      exact ⟨by rw [HD.out]; rfl, HR.out.bel⟩

theorem dec_end {w : World} {M : List UInt8} {l : List UInt8} {r g cap : Nat} {wr w1 : World} {v' : Value} (h : DS w M l r g cap wr)
    (ho : w1.ownsRow w.heap.size 5 1 v' (1 + l.length) ([Value.int .u8 45] ++ l.map byteV)) (hg : (wr.alloc (.cells #[Value.int .u8 45] 5)).grownBy w1 (some wr.heap.size)) :
    ∃ g' cap', v' = .slice (some ⟨g', 0, none⟩) (1 + l.length) cap' ∧ (convert 68 9 (.slice (some ⟨g', 0, none⟩) (1 + l.length) cap')).run Tryd.prog w1 = .ok (.string ⟨(45 :: l).toArray⟩) w1 ∧ Below w.heap.size w w1 := by
  obtain ⟨g', cap', rfl⟩ : ∃ g' cap', v' = .slice (some ⟨g', 0, none⟩) (1 + l.length) cap' := by
    rcases ho.2 with ⟨_, h0⟩ | ⟨g', cap', cur, hv, _⟩
    · omega
    · exact ⟨g', cap', hv⟩
  refine ⟨g', cap', rfl, ?_, (h.bel.alloc h.bel.size _).grown hg (by have := h.bel.size; simp; omega) (fun k hk => by have := Option.some.inj hk; have := h.bel.size; omega)⟩
  have e : 1 + l.length = (45 :: l).length := by simp; omega
  have e2 : [Value.int .u8 45] ++ l.map byteV = (45 :: l).map byteV := rfl
  rw [e, e2] at ho
  rw [e]
  exact run_convert_bytes_back (P := Tryd.prog) w1 68 9 5 ⟨g', 0, none⟩ cap' (45 :: l) Tryd.underlying68 Tryd.underlying5 Tryd.underlying9 (fun j hj => World.ownsRow.cells ho rfl j _ (by simp only [List.getElem?_map, List.getElem?_eq_getElem hj]; rfl))

set_option maxRecDepth 100000 in
theorem c_l01Dec_neg (m : Nat) (hp : 0 < m) (hm : m ≤ 9223372036854775808) (w : World) :
    Calls Tryd.prog 35 #[.int .i64 (-(m : Int))] w fun e w' => e = .returned (.string ⟨(45 :: Lib.decDigits m).toArray⟩) ∧ Below w.heap.size w w' := by
  obtain ⟨i0, hi, hz0, hz1, hz2⟩ := info_parts infoB
  have hM := dig_len 19 m (Nat.lt_of_le_of_lt hm (by decide))
  have HM := hide_ hm
  clear hm
  go_enter Tryd.func35, Tryd.ntmps35
  go_wp2_with fail
  go_loopw [3, 4, 5] (fun out rest d wr => ∃ l r g cap, out = .slice (some ⟨g, 0, none⟩) (l : List UInt8).length cap ∧ rest = .int .i64 (-((r : Nat) : Int)) ∧ r ≤ m ∧ DS w (Lib.decDigits m) l r g cap wr) (fun out rest d wr => (intOf rest).natAbs + (if lenOf out = 0 then 1 else 0))
  case atStart =>
    refine ⟨[], m, w.heap.size, 0, rfl, rfl, Nat.le_refl _, ⟨rfl, .inr ⟨w.heap.size, 0, #[], rfl, Nat.le_refl _, heap_alloc_new w _, Nat.le_refl _, by unfold maxLen; omega, rfl, rfl⟩⟩, (Below.refl _ _).alloc (Nat.le_refl _) _, ?_⟩
    rw [dpre_nil]; simp
  case round =>
    obtain ⟨l, r, g, cap, rfl, rfl, hrm, R⟩ := hrel
    have hl20 := R.short hM
    have HR := hide_ R
    have hsz := R.bel.size
    clear R
    by_cases hr : l = [] ∨ r ≠ 0
    · have HC := hide_ hr
      have e1 : (-(r : Int)).tmod 10 = -((r % 10 : Nat) : Int) := by rw [Int.neg_tmod]; rfl
      have e2 : (-(r : Int)).tdiv 10 = -((r / 10 : Nat) : Int) := by rw [Int.neg_tdiv]; rfl
      have HW : Hid (wrap64 (-((r : Int) / 10)) = -((r / 10 : Nat) : Int)) := by
        have := HM.out
        rw [show (r : Int) / 10 = ((r / 10 : Nat) : Int) by omega]
        exact IntWalk.wrap64_in (-((r / 10 : Nat) : Int)) (by omega)
      have HB1 : Hid (Value.int .u8 (48 + (r : Int) % 10) = byteV (UInt8.ofNat (48 + r % 10))) := by rw [byteV_ofNat (by omega)]; congr 1
      have HB0 : r % 10 = 0 → Hid (Value.int .u8 48 = byteV (UInt8.ofNat (48 + r % 10))) := fun h => by rw [byteV_ofNat (by omega), h]; rfl
      have hd1 : r % 10 < 10 := by omega
      have E1 := hide_ e1
      have E2 := hide_ e2
      clear e1 e2
      clear hr
      have hcase : (((l.length : Int) == 0) = true) ∨ (((l.length : Int) == 0) = false ∧ ((-(r : Int)) != 0) = true) := by
        rcases HC.out with h | h
        · left; subst h; rfl
        · by_cases h0 : l.length = 0
          · left; simp [h0]
          · right; exact ⟨beq_eq_false_iff_ne.2 (by omega), by simp; exact h⟩
      have e1 := E1.out
      have e2 := E2.out
      by_cases hz : r % 10 = 0
      · have HBX := HB0 hz
        rcases hcase with h1 | ⟨h1, h2⟩
        all_goals
          go_wp2_with (at_builtin; refine wpList_append_own_at _ rfl (.tmp 24) (.tmp 25) 68 rfl w.heap.size 5 i0 (.int .u8 0) 1 1 Tryd.underlying68 hi hz0 hz1 hz2 rfl (by decide) _ 1 _ rfl (own_one wr _ _ hsz) ⟨g, 0, none⟩ l.length cap (l.map byteV) rfl (by simp) (World.ownsRow.cells (World.ownsRow.alloc HR.out.own _) rfl) (fun u hu => byteV_one u hu) (by unfold maxLen; omega) (by omega) (by simp; omega) ?_; intro v' w1 hown hgrow _ _)
          rw [HBX.out] at hown hgrow
          obtain ⟨g', cap', rfl, R'⟩ := DS.step HR.out HC.out rfl hown hgrow
          have HR' := hide_ R'
          clear hown hgrow R'
          go_roundw
          case rel => exact ⟨_, r / 10, g', cap', rfl, by rw [HW.out], by omega, HR'.out⟩
          case measure =>
            rw [HW.out]
            rcases HC.out with h | h
            · subst h; simp [intOf, lenOf]; omega
            · simp [intOf, lenOf]; split <;> omega
      · have hz1' : ¬ ((r % 10 : Nat) : Int) = 0 := by omega
        have hz2' : -((r % 10 : Nat) : Int) < 0 := by omega
        have hz3' : 0 ≤ ((r % 10 : Nat) : Int) := by omega
        have hz4' : ((r % 10 : Nat) : Int) < 10 := by omega
        have HBX := HB1
        rcases hcase with h1 | ⟨h1, h2⟩
        all_goals
          go_wp2_with (at_builtin; refine wpList_append_own_at _ rfl (.tmp 24) (.tmp 25) 68 rfl w.heap.size 5 i0 (.int .u8 0) 1 1 Tryd.underlying68 hi hz0 hz1 hz2 rfl (by decide) _ 1 _ rfl (own_one wr _ _ hsz) ⟨g, 0, none⟩ l.length cap (l.map byteV) rfl (by simp) (World.ownsRow.cells (World.ownsRow.alloc HR.out.own _) rfl) (fun u hu => byteV_one u hu) (by unfold maxLen; omega) (by omega) (by simp; omega) ?_; intro v' w1 hown hgrow _ _)
          rw [HBX.out] at hown hgrow
          obtain ⟨g', cap', rfl, R'⟩ := DS.step HR.out HC.out rfl hown hgrow
          have HR' := hide_ R'
          clear hown hgrow R'
          go_roundw
          case rel => exact ⟨_, r / 10, g', cap', rfl, by rw [HW.out], by omega, HR'.out⟩
          case measure =>
            rw [HW.out]
            rcases HC.out with h | h
            · subst h; simp [intOf, lenOf]; omega
            · simp [intOf, lenOf]; split <;> omega
    · have hr1 : l ≠ [] := fun h => hr (.inl h)
      have hr0 : r = 0 := by
        by_cases h : r = 0
        · exact h
        · exact absurd (.inr h) hr
      have h1 : ((l.length : Int) == 0) = false := beq_eq_false_iff_ne.2 (fun h => hr1 (List.eq_nil_of_length_eq_zero (by omega)))
      have h2 : ((-(r : Int)) != 0) = false := by simp; exact hr0
      have hdg : Lib.decDigits m = l := by rw [HR.out.dig, hr0]; exact dpre_end hr1
      have HD := hide_ hdg
      have HN : Hid (l ≠ []) := hr1
      clear hdg hr hr1 hr0
      have hm0 : (-(m : Int)) < 0 := by omega
      have HV45 : Hid (Value.int .u8 45 = byteV 45) := rfl
      go_wp2_with (at_builtin; refine wpList_append_own_at _ rfl (.tmp 31) (.tmp 32) 68 rfl w.heap.size 5 i0 (.int .u8 0) 1 1 Tryd.underlying68 hi hz0 hz1 hz2 rfl (by decide) _ 1 _ rfl (own_one wr _ _ hsz) ⟨g, 0, none⟩ l.length cap (l.map byteV) rfl (by simp) (World.ownsRow.cells (World.ownsRow.alloc HR.out.own _) rfl) (fun u hu => byteV_one u hu) (by unfold maxLen; omega) (by omega) (by simp; omega) ?_; intro v' w1 hown hgrow _ _; obtain ⟨g', cap', rfl, hcv, hbel⟩ := dec_end HR.out hown hgrow; clear hown hgrow; have HB := hide_ hbel; clear hbel)
      go_ret
      exact ⟨by rw [HD.out]; rfl, HB.out⟩

end Go.Proofs.YticggbmmeefelaaDoor
