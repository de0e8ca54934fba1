/-
Marking a list that a law owns, and looking whether the marks still stand.
-/
import Derived.Test.YticggbmmeefelaaDoorHq
import Derived.Carry
set_option linter.unusedVariables false
set_option linter.unusedSimpArgs false
namespace Go.Proofs.YticggbmmeefelaaDoor
open Fl Go Go.RowKit

theorem OwnF.fl {base : Nat} {xs : List Nat} {v : Value} {w : World} (h : OwnF base xs v w) : ∃ A cap, v = .slice A xs.length cap ∧ Fl32 w A xs := by
  obtain ⟨A, cap, rfl, h1, h2⟩ := h
  refine ⟨A, cap, rfl, ?_⟩
  rcases h2 with ⟨hv, hn⟩ | ⟨g, cp, cur, hv, hb, hh, hr⟩
  · exact .inl (List.eq_nil_of_length_eq_zero hn)
  · simp only [Value.slice.injEq] at hv
    obtain ⟨rfl, _, rfl⟩ := hv
    refine .inr ⟨g, 0, rfl, (Array.getElem?_eq_some_iff.1 hh).1, fun j hj => ?_⟩
    have ho : w.ownsRow base 52 1 (.slice (some ⟨g, 0, none⟩) xs.length cap) xs.length (xs.map (Value.float .f32)) := ⟨h1, .inr ⟨g, cap, cur, rfl, hb, hh, hr⟩⟩
    rw [Nat.zero_add, ho.cellAt j (by omega), List.getElem?_map, List.getElem?_eq_getElem hj]
    simp [List.getD_eq_getElem?_getD, hj]

/-- what new memory leaves, and the writing of another block -/
theorem OwnF.grown {base : Nat} {xs : List Nat} {v : Value} {w w' : World} {row : Option Nat} (h : OwnF base xs v w) (hg : w.grownBy w' row) (hne : v.ownBlock = none ∨ v.ownBlock ≠ row) : OwnF base xs v w' := by
  obtain ⟨A, cap, rfl, h1⟩ := h
  exact ⟨A, cap, rfl, h1.kept hg hne⟩
def cvt (k : Nat) : Nat := floatOfInt .f32 (k : Int)
def marks (k n : Nat) : List Nat := (List.range n).map fun i => cvt (k + i)
theorem marks_len (k n : Nat) : (marks k n).length = n := by simp [marks]
theorem marks_get (k n : Nat) {i : Nat} (h : i < n) : (marks k n).getD i 0 = cvt (k + i) := by
  simp [marks, List.getD_eq_getElem?_getD, h]

theorem mark_step {w : World} {base n : Nat} {v : Value} {ys : List Value} (h : w.ownsRow base 52 1 v n ys) {k j : Nat} {g : Nat} {cap : Nat} (hv : v = .slice (some ⟨g, 0, none⟩) n cap) (hy : ∀ i, i < j → ys[i]? = some (.float .f32 (cvt (k + i)))) (hj : j < n) :
    ∃ zs, (w.setCell ⟨g, j, none⟩ (.float .f32 (cvt (k + j)))).ownsRow base 52 1 v n zs ∧ ∀ i, i < j + 1 → zs[i]? = some (.float .f32 (cvt (k + i))) := by
  subst hv
  have hl : ys.length = n * 1 := h.1
  refine ⟨_, (h.stored j (.float .f32 (cvt (k + j)))).1, fun i hi => ?_⟩
  rw [List.getElem?_set]
  by_cases h1 : j = i
  · subst h1
    rw [if_pos rfl, if_pos (by omega)]
  · rw [if_neg h1]; exact hy i (by omega)
theorem mark_end {w : World} {base n : Nat} {A : Option Addr} {cap : Nat} {ys : List Value} (h : w.ownsRow base 52 1 (.slice A n cap) n ys) {k : Nat} (hy : ∀ i, i < n → ys[i]? = some (.float .f32 (cvt (k + i)))) : OwnF base (marks k n) (.slice A n cap) w := by
  have hl : ys.length = n * 1 := h.1
  have e : ys = (marks k n).map (Value.float .f32) := by
    apply List.ext_getElem?
    intro i
    by_cases hi : i < n
    · rw [hy i hi]; simp [marks, hi]
    · rw [List.getElem?_eq_none (by omega), List.getElem?_eq_none (by simp [marks]; omega)]
  subst e
  exact ⟨A, cap, by rw [marks_len], by rw [marks_len]; exact h⟩
theorem setCell_grown (w : World) (a : Addr) (u : Value) : w.grownBy (w.setCell a u) (some a.block) :=
  ⟨rfl, rfl, rfl, by simp [World.setCell], fun k hk hne => Below.heap_setCell w a u k (fun e => hne (by rw [e]))⟩
theorem grown_trans {a b c : World} {row : Option Nat} (h : a.grownBy b row) (k : b.grownBy c row) : a.grownBy c row :=
  ⟨k.os.trans h.os, k.tape.trans h.tape, k.output.trans h.output, Nat.le_trans h.size k.size, fun i hi hne => (k.block i (Nat.lt_of_lt_of_le hi h.size) hne).trans (h.block i hi hne)⟩

theorem c_markFloat32S (base : Nat) (v : Value) (xs : List Nat) (k : Nat) (w : World) (h : OwnF base xs v w) (hk : k + xs.length ≤ 2000000) :
    Calls Tryd.prog 28 #[v, .int .i64 k] w fun e w' => e = .returned (.int .i64 (k + xs.length : Nat)) ∧ OwnF base (marks k xs.length) v w' ∧ w.grownBy w' v.ownBlock ∧ w'.heap.size = w.heap.size := by
  obtain ⟨A, cap, rfl, ho⟩ := h
  generalize xs.map (Value.float .f32) = ys at ho
  generalize xs.length = n at *
  by_cases hp : 0 < n
  · obtain ⟨g, rfl, hb⟩ : ∃ g, A = some ⟨g, 0, none⟩ ∧ base ≤ g := by
      rcases ho.2 with ⟨_, hn⟩ | ⟨g, cp, cur, hv, hb, _⟩
      · omega
      · simp only [Value.slice.injEq] at hv
        exact ⟨g, hv.1, hb⟩
    go_enter Tryd.func28, Tryd.ntmps28
    go_wp2_with fail
    go_loopw [1, 5] (fun q i wr => ∃ j : Nat, j ≤ n ∧ i = .int .i64 j ∧ q = .int .i64 (k + j : Nat) ∧ (∃ zs, wr.ownsRow base 52 1 (.slice (some ⟨g, 0, none⟩) n cap) n zs ∧ ∀ i, i < j → zs[i]? = some (.float .f32 (cvt (k + i)))) ∧ w.grownBy wr (some g) ∧ wr.heap.size = w.heap.size) (fun q i _ => n - (intOf i).toNat)
    case atStart => exact ⟨0, Nat.zero_le _, rfl, rfl, ⟨_, ho, fun i hi => absurd hi (Nat.not_lt_zero _)⟩, ⟨rfl, rfl, rfl, Nat.le_refl _, fun _ _ _ => rfl⟩, rfl⟩
    case round =>
      obtain ⟨j, hj, rfl, rfl, ⟨zs, hz, hy⟩, hg, hs⟩ := hrel
      clear ho
      by_cases hlt : j < n
      · have hl : zs.length = n * 1 := hz.1
        obtain ⟨u, hcell⟩ : ∃ u, wr.cell? ⟨g, j, none⟩ = some u := ⟨zs[j]'(by omega), by rw [hz.cellAt j (by omega)]; exact List.getElem?_eq_getElem (by omega)⟩
        have hfz := hz.frozenAt j
        obtain ⟨zs', hz', hy'⟩ := mark_step hz rfl hy hlt
        have h1 : k + (j + 1) ≤ 2000000 := by omega
        have HZ : Hid ((wr.setCell ⟨g, j, none⟩ (.float .f32 (cvt (k + j)))).ownsRow base 52 1 (.slice (some ⟨g, 0, none⟩) n cap) n zs') := hz'
        have HY : Hid _ := hy'
        have HS : Hid _ := hs
        have HG : Hid _ := grown_trans hg (setCell_grown wr ⟨g, j, none⟩ (.float .f32 (cvt (k + j))))
        clear hz hy hz' hy' hs hg hl
        unfold cvt at HZ HG
        go_wp2_with fail
        go_roundw
        case rel => exact ⟨j + 1, by omega, by go_num, by go_num, ⟨zs', HZ.out, HY.out⟩, HG.out, by simpa using HS.out⟩
        case measure => simp [intOf]; omega
      · obtain rfl : j = n := by omega
        have R := mark_end hz hy
        have HR : Hid _ := R
        have HG : Hid _ := hg
        have HS : Hid _ := hs
        clear hz hy R hg hs
        go_wp2_with fail
        go_ret
        exact ⟨rfl, HR.out, HG.out, HS.out⟩
  · obtain rfl : n = 0 := by omega
    have R : OwnF base (marks k 0) (.slice A 0 cap) w := mark_end ho (fun i hi => absurd hi (Nat.not_lt_zero _))
    have HR : Hid _ := R
    clear R ho
    go_enter Tryd.func28, Tryd.ntmps28
    go_wp2_with fail
    go_loop [1, 5] (fun q i => i = .int .i64 0 ∧ q = .int .i64 k) (fun _ _ => 0)
    case atStart => exact ⟨rfl, rfl⟩
    case round =>
      obtain ⟨rfl, rfl⟩ := hrel
      go_wp2_with fail
      go_ret
      exact ⟨rfl, HR.out, ⟨rfl, rfl, rfl, Nat.le_refl _, fun _ _ _ => rfl⟩, rfl⟩

theorem cvt_self : (List.range 2000).all (fun k => FloatKind.f32.format.order (cvt k) (cvt k) == some .eq) = true := by kernel_rfl

theorem c_heldFloat32S (A : Option Addr) (cap n : Nat) (k : Nat) (w : World) (h : Fl32 w A (marks k n)) (hk : k + n < 2000) :
    Calls Tryd.prog 29 #[.slice A n cap, .int .i64 k] w fun e w' => e = .returned (.int .i64 (k + n : Nat)) ∧ w = w' := by
  by_cases hp : 0 < n
  · obtain ⟨b, off, rfl, hb, hc⟩ := h.of_pos (by rw [marks_len]; exact hp)
    rw [marks_len] at hc
    have HC : Hid _ := hc
    clear hc h
    go_enter Tryd.func29, Tryd.ntmps29
    go_wp2_with fail
    go_loop [1, 5] (fun q i => ∃ j : Nat, j ≤ n ∧ i = .int .i64 j ∧ q = .int .i64 (k + j : Nat)) (fun q i => n - (intOf i).toNat)
    case atStart => exact ⟨0, Nat.zero_le _, rfl, rfl⟩
    case round =>
      obtain ⟨j, hj, rfl, rfl⟩ := hrel
      by_cases hlt : j < n
      · have hcell := HC.out j hlt
        rw [marks_get k n hlt] at hcell
        have hs : (FloatKind.f32.format.order (cvt (k + j)) (cvt (k + j)) == some .eq) = true := List.all_eq_true.1 cvt_self (k + j) (List.mem_range.2 (by omega))
        unfold cvt at hcell hs
        rw [Int.natCast_add] at hcell hs
        have hs2 : (FloatKind.f32.format.order (floatOfInt FloatKind.f32 ((k : Int) + j)) (floatOfInt FloatKind.f32 ((k : Int) + j)) != some .eq) = false := by rw [bne, hs]; rfl
        clear hs
        have h1 : k + (j + 1) ≤ 2000000 := by omega
        go_wp2_with fail
        go_round
        case rel => exact ⟨j + 1, by omega, by go_num, by go_num⟩
        case measure => simp [intOf]; omega
      · obtain rfl : j = n := by omega
        go_wp2_with fail
        go_ret
        exact ⟨rfl, rfl⟩
  · obtain rfl : n = 0 := by omega
    go_enter Tryd.func29, Tryd.ntmps29
    go_wp2_with fail
    go_loop [1, 5] (fun q i => i = .int .i64 0 ∧ q = .int .i64 k) (fun _ _ => 0)
    case atStart => exact ⟨rfl, rfl⟩
    case round =>
      obtain ⟨rfl, rfl⟩ := hrel
      go_wp2_with fail
      go_ret
      exact ⟨rfl, rfl⟩

end Go.Proofs.YticggbmmeefelaaDoor
