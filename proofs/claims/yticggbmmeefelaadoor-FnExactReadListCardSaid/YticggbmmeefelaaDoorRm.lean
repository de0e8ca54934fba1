/-
Lists of int64 that a law owns: compared, marked, looked over again.
-/
import Derived.Test.YticggbmmeefelaaDoorRa
import Derived.Deep.QuietTactic
import Derived.BigQuiet
set_option linter.unusedVariables false
set_option linter.unusedSimpArgs false
namespace Go.Proofs.YticggbmmeefelaaDoor
open Go Go.RowKit

theorem c_eqInts (A B : Option Addr) (c d : Nat) (xs : List Int) (w : World) (hA : Fi w A xs) (hB : Fi w B xs) (hx : xs.length ≤ 1048576) :
    Calls Tryd.prog 15 #[.slice A xs.length c, .slice B xs.length d] w fun e w' => e = .returned (.bool true) ∧ ∃ n, w' = w.drewN n := by
  by_cases hp : 0 < xs.length
  · obtain ⟨b, off, rfl, hb, hc⟩ := hA.of_pos hp
    obtain ⟨b', off', rfl, hb', hc'⟩ := hB.of_pos hp
    have HC := hide_ hc
    have HC' := hide_ hc'
    clear hc hc' hA hB
    go_enter Tryd.func15, Tryd.ntmps15
    go_wp2_with fail
    go_loopw [5] (fun i wr => ∃ k m : Nat, k ≤ xs.length ∧ i = .int .i64 k ∧ wr = w.drewN m) (fun i _ => xs.length - (intOf i).toNat)
    case atStart => exact ⟨0, 0, Nat.zero_le _, rfl, rfl⟩
    case round =>
      obtain ⟨k, m, hk, rfl, rfl⟩ := hrel
      by_cases hlt : k < xs.length
      · have h1 := HC.out k hlt
        have h2 := HC'.out k hlt
        generalize xs.getD k 0 = v at h1 h2
        have hltI : (k : Int) < xs.length := by omega
        go_wp2_with fail
        go_quiet (fail)
        go_wp2_with fail
        go_roundw
        case rel => exact ⟨k + 1, _, by omega, by go_num, rfl⟩
        case measure => simp [intOf]; omega
      · obtain rfl : k = xs.length := by omega
        go_wp2_with fail
        go_ret
        exact ⟨rfl, m, rfl⟩
  · obtain rfl : xs = [] := List.eq_nil_of_length_eq_zero (by omega)
    go_enter Tryd.func15, Tryd.ntmps15
    go_wp2_with fail
    go_loop [5] (fun i => i = .int .i64 0) (fun _ => 0)
    case atStart => rfl
    case round =>
      obtain rfl := hrel
      go_wp2_with fail
      go_ret
      exact ⟨rfl, 0, rfl⟩

def marksI (k n : Nat) : List Int := (List.range n).map fun i => ((k + i : Nat) : Int)
theorem marksI_len (k n : Nat) : (marksI k n).length = n := by simp [marksI]
theorem marksI_get (k n : Nat) {i : Nat} (h : i < n) : (marksI k n).getD i 0 = ((k + i : Nat) : Int) := by
  simp [marksI, List.getD_eq_getElem?_getD, h]
theorem markI_step {w : World} {base n : Nat} {v : Value} {ys : List Value} (h : w.ownsRow base 2 1 v n ys) {k j : Nat} {g : Nat} {cap : Nat} (hv : v = .slice (some ⟨g, 0, none⟩) n cap) (hy : ∀ i, i < j → ys[i]? = some (.int .i64 (k + i : Nat))) (hj : j < n) :
    ∃ zs, (w.setCell ⟨g, j, none⟩ (.int .i64 (k + j : Nat))).ownsRow base 2 1 v n zs ∧ ∀ i, i < j + 1 → zs[i]? = some (.int .i64 (k + i : Nat)) := by
  subst hv
  have hl : ys.length = n * 1 := h.1
  refine ⟨_, (h.stored j (.int .i64 (k + j : Nat))).1, fun i hi => ?_⟩
  rw [List.getElem?_set]
  by_cases h1 : j = i
  · subst h1
    rw [if_pos rfl, if_pos (by omega)]
  · rw [if_neg h1]; exact hy i (by omega)
theorem markI_end {w : World} {base n : Nat} {A : Option Addr} {cap : Nat} {ys : List Value} (h : w.ownsRow base 2 1 (.slice A n cap) n ys) {k : Nat} (hy : ∀ i, i < n → ys[i]? = some (.int .i64 (k + i : Nat))) : OwnI base (marksI k n) (.slice A n cap) w := by
  have hl : ys.length = n * 1 := h.1
  have e : ys = (marksI k n).map (Value.int .i64) := by
    apply List.ext_getElem?
    intro i
    by_cases hi : i < n
    · rw [hy i hi]; simp [marksI, hi]
    · rw [List.getElem?_eq_none (by omega), List.getElem?_eq_none (by simp [marksI]; omega)]
  subst e
  exact ⟨A, cap, by rw [marksI_len], by rw [marksI_len]; exact h⟩
theorem setI_grown (w : World) (a : Addr) (u : Value) : w.grownBy (w.setCell a u) (some a.block) :=
  ⟨rfl, rfl, rfl, by simp [World.setCell], fun k hk hne => Below.heap_setCell w a u k (fun e => hne (by rw [e]))⟩
theorem grownI_trans {a b c : World} {row : Option Nat} (h : a.grownBy b row) (k : b.grownBy c row) : a.grownBy c row :=
  ⟨k.os.trans h.os, k.tape.trans h.tape, k.output.trans h.output, Nat.le_trans h.size k.size, fun i hi hne => (k.block i (Nat.lt_of_lt_of_le hi h.size) hne).trans (h.block i hi hne)⟩

theorem c_markInt64S (base : Nat) (v : Value) (xs : List Int) (k : Nat) (w : World) (h : OwnI base xs v w) (hk : k + xs.length ≤ 2000000) :
    Calls Tryd.prog 24 #[v, .int .i64 k] w fun e w' => e = .returned (.int .i64 (k + xs.length : Nat)) ∧ OwnI base (marksI k xs.length) v w' ∧ w.grownBy w' v.ownBlock ∧ w'.heap.size = w.heap.size := by
  obtain ⟨A, cap, rfl, ho⟩ := h
  generalize xs.map (Value.int .i64) = ys at ho
  generalize xs.length = n at *
  by_cases hp : 0 < n
  · obtain ⟨g, rfl, hb⟩ : ∃ g, A = some ⟨g, 0, none⟩ ∧ base ≤ g := by
      rcases ho.2 with ⟨_, hn⟩ | ⟨g, cp, cur, hv, hb, _⟩
      · omega
      · simp only [Value.slice.injEq] at hv
        exact ⟨g, hv.1, hb⟩
    go_enter Tryd.func24, Tryd.ntmps24
    go_wp2_with fail
    go_loopw [1, 5] (fun q i wr => ∃ j : Nat, j ≤ n ∧ i = .int .i64 j ∧ q = .int .i64 (k + j : Nat) ∧ (∃ zs, wr.ownsRow base 2 1 (.slice (some ⟨g, 0, none⟩) n cap) n zs ∧ ∀ i, i < j → zs[i]? = some (.int .i64 (k + i : Nat))) ∧ w.grownBy wr (some g) ∧ wr.heap.size = w.heap.size) (fun q i _ => n - (intOf i).toNat)
    case atStart => exact ⟨0, Nat.zero_le _, rfl, rfl, ⟨_, ho, fun i hi => absurd hi (Nat.not_lt_zero _)⟩, ⟨rfl, rfl, rfl, Nat.le_refl _, fun _ _ _ => rfl⟩, rfl⟩
    case round =>
      obtain ⟨j, hj, rfl, rfl, ⟨zs, hz, hy⟩, hg, hs⟩ := hrel
      clear ho
      by_cases hlt : j < n
      · have hl : zs.length = n * 1 := hz.1
        obtain ⟨u, hcell⟩ : ∃ u, wr.cell? ⟨g, j, none⟩ = some u := ⟨zs[j]'(by omega), by rw [hz.cellAt j (by omega)]; exact List.getElem?_eq_getElem (by omega)⟩
        have hfz := hz.frozenAt j
        obtain ⟨zs', hz', hy'⟩ := markI_step hz rfl hy hlt
        have h1 : k + (j + 1) ≤ 2000000 := by omega
        have HZ := hide_ hz'
        have HY := hide_ hy'
        have HS := hide_ hs
        have HG := hide_ (grownI_trans hg (setI_grown wr ⟨g, j, none⟩ (.int .i64 (k + j : Nat))))
        clear hz hy hz' hy' hs hg hl
        go_wp2_with fail
        go_roundw
        case rel => exact ⟨j + 1, by omega, by go_num, by go_num, ⟨zs', HZ.out, HY.out⟩, HG.out, by simpa using HS.out⟩
        case measure => simp [intOf]; omega
      · obtain rfl : j = n := by omega
        have HR := hide_ (markI_end hz hy)
        have HG := hide_ hg
        have HS := hide_ hs
        clear hz hy hg hs
        go_wp2_with fail
        go_ret
        exact ⟨rfl, HR.out, HG.out, HS.out⟩
  · obtain rfl : n = 0 := by omega
    have HR := hide_ (show OwnI base (marksI k 0) (.slice A 0 cap) w from markI_end ho (fun i hi => absurd hi (Nat.not_lt_zero _)))
    clear ho
    go_enter Tryd.func24, Tryd.ntmps24
    go_wp2_with fail
    go_loop [1, 5] (fun q i => i = .int .i64 0 ∧ q = .int .i64 k) (fun _ _ => 0)
    case atStart => exact ⟨rfl, rfl⟩
    case round =>
      obtain ⟨rfl, rfl⟩ := hrel
      go_wp2_with fail
      go_ret
      exact ⟨rfl, HR.out, ⟨rfl, rfl, rfl, Nat.le_refl _, fun _ _ _ => rfl⟩, rfl⟩

theorem c_heldInt64S (A : Option Addr) (cap n : Nat) (k : Nat) (w : World) (h : Fi w A (marksI k n)) (hk : k + n < 2000) :
    Calls Tryd.prog 25 #[.slice A n cap, .int .i64 k] w fun e w' => e = .returned (.int .i64 (k + n : Nat)) ∧ w = w' := by
  by_cases hp : 0 < n
  · obtain ⟨b, off, rfl, hb, hc⟩ := h.of_pos (by rw [marksI_len]; exact hp)
    rw [marksI_len] at hc
    have HC := hide_ hc
    clear hc h
    go_enter Tryd.func25, Tryd.ntmps25
    go_wp2_with fail
    go_loop [1, 5] (fun q i => ∃ j : Nat, j ≤ n ∧ i = .int .i64 j ∧ q = .int .i64 (k + j : Nat)) (fun q i => n - (intOf i).toNat)
    case atStart => exact ⟨0, Nat.zero_le _, rfl, rfl⟩
    case round =>
      obtain ⟨j, hj, rfl, rfl⟩ := hrel
      by_cases hlt : j < n
      · have hcell := HC.out j hlt
        rw [marksI_get k n hlt] at hcell
        have h1 : k + (j + 1) ≤ 2000000 := by omega
        go_wp2_with fail
        go_round
        case rel => exact ⟨j + 1, by omega, by go_num, by go_num⟩
        case measure => simp [intOf]; omega
      · obtain rfl : j = n := by omega
        go_wp2_with fail
        go_ret
        exact ⟨rfl, rfl⟩
  · obtain rfl : n = 0 := by omega
    go_enter Tryd.func25, Tryd.ntmps25
    go_wp2_with fail
    go_loop [1, 5] (fun q i => i = .int .i64 0 ∧ q = .int .i64 k) (fun _ _ => 0)
    case atStart => exact ⟨rfl, rfl⟩
    case round =>
      obtain ⟨rfl, rfl⟩ := hrel
      go_wp2_with fail
      go_ret
      exact ⟨rfl, rfl⟩

end Go.Proofs.YticggbmmeefelaaDoor
