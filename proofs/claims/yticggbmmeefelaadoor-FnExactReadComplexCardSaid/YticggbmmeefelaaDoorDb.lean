/-
Decimal texts: both packages; the law on Decimal.
-/
import Derived.Test.YticggbmmeefelaaDoorDa
import Derived.Test.YticggbmmeefelaaDoorSd
import Derived.Lib.AppendIntMem
import Derived.OpenShut
set_option linter.unusedVariables false
set_option linter.unusedSimpArgs false
namespace Go.Proofs.YticggbmmeefelaaDoor
open Go Go.RowKit

def LawD (w : World) (e : Ending) (w' : World) : Prop := e = .returned (.bool true) ∧ Below w.heap.size w w'
/-- the table of powers of ten -/
def Tab10 (w : World) : Prop := Lib.TabIs Tryd.prog w "internal/strconv.uint64pow10" .u64 Lib.pow10Tab
theorem gTab : Tryd.prog.globalNamed "internal/strconv.uint64pow10" = some 1 := by kernel_rfl
theorem Tab10.keep {w w' : World} (h : Tab10 w) (hb : Below w.heap.size w w') : Tab10 w' := by
  unfold Tab10 Lib.TabIs at *
  unfold World.var? at *
  rw [gTab] at *
  simp only [Option.bind_eq_bind, Option.bind_some] at *
  have hlt : 1 < w.heap.size := by
    cases hh : w.heap[1]? with
    | none => rw [hh] at h; cases h
    | some o => exact (Array.getElem?_eq_some_iff.1 hh).1
  rw [hb.block _ hlt]
  exact h

def DecText (n : Int) (w : World) (e : Ending) (w' : World) : Prop := e = .returned (.string ⟨(Lib.itoa n).toArray⟩) ∧ Below w.heap.size w w'

theorem c_l01Dec (n : Int) (h0 : -9223372036854775808 ≤ n) (h1 : n ≤ 9223372036854775807) (w : World) : Calls Tryd.prog 35 #[.int .i64 n] w (DecText n w) := by
  unfold DecText Lib.itoa
  by_cases hn : n < 0
  · obtain ⟨m, rfl⟩ : ∃ m : Nat, n = -(m : Int) := ⟨n.natAbs, by omega⟩
    rw [if_pos hn]
    have e : (-(m : Int)).natAbs = m := by omega
    rw [e]
    exact c_l01Dec_neg m (by omega) (by omega) w
  · obtain ⟨m, rfl⟩ : ∃ m : Nat, n = (m : Int) := ⟨n.toNat, by omega⟩
    rw [if_neg hn]
    exact c_l01Dec_pos m (by omega) w

theorem c_specDecimal (n : Int) (h0 : -9223372036854775808 ≤ n) (h1 : n ≤ 9223372036854775807) (w : World) : Calls Tryd.prog 10 #[.int .i64 n] w (DecText n w) := by
  have H := hide_ (c_l01Dec n h0 h1 w)
  clear h0 h1
  go_enter Tryd.func10, Tryd.ntmps10
  go_wp2_with fail
  go_at_call 35
  refine Calls.mono H.out ?_
  rintro e w1 ⟨rfl, hB⟩
  go_wp2_with fail
  go_ret
  exact ⟨rfl, hB⟩
theorem c_implDecimal (n : Int) (h0 : -9223372036854775808 ≤ n) (h1 : n ≤ 9223372036854775807) (w : World) (ht : Tab10 w) : Calls Tryd.prog 11 #[.int .i64 n] w (DecText n w) := by
  have H := hide_ (Tryd.strconv_FormatInt_10 n h0 h1 w ht)
  clear h0 h1 ht
  go_enter Tryd.func11, Tryd.ntmps11
  go_wp2_with fail
  go_at_call 36
  refine Calls.mono H.out ?_
  rintro e w1 ⟨rfl, k, os, hw⟩
  have hB : Below w.heap.size w w1 := by rw [hw]; exact Lib.below_grow _ w (Nat.le_refl _) k os
  clear hw
  go_wp2_with fail
  go_ret
  exact ⟨rfl, hB⟩

theorem walk_FnExactDecimal (n : Int) (hn : (Lit.int .i64 n).wf = true) (w : World) (ht : Tab10 w) : Calls Tryd.prog 3 #[.int .i64 n] w (LawD w) := by
  have hb : -9223372036854775808 ≤ n ∧ n ≤ 9223372036854775807 := bounds_i64 hn
  have H1 := hide_ (c_specDecimal n hb.1 hb.2 w)
  have H2 := hide_ (fun W (h : Tab10 W) => c_implDecimal n hb.1 hb.2 W h)
  have HT := hide_ ht
  clear hb hn ht
  go_enter Tryd.func3, Tryd.ntmps3
  go_wp2_with fail
  go_at_call 10
  refine Calls.mono H1.out ?_
  rintro e w1 ⟨rfl, hB1⟩
  go_wp2_with fail
  go_at_call 11
  refine (H2.out _ (HT.out.keep hB1)).mono ?_
  rintro e w2 ⟨rfl, hB2⟩
  have HB := hide_ (hB1.trans (hB2.mono hB1.size))
  clear hB1 hB2
  go_wp2_with fail
  go_ret
  exact ⟨rfl, HB.out⟩

end Go.Proofs.YticggbmmeefelaaDoor
