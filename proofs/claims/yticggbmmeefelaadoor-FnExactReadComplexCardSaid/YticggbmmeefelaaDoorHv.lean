/-
A piece of 8 bytes read as a number: the program.
-/
import Derived.Test.YticggbmmeefelaaDoorHp
import Derived.Test.YticggbmmeefelaaDoorNv
set_option linter.unusedVariables false
set_option linter.unusedSimpArgs false
namespace Go.Proofs.YticggbmmeefelaaDoor
open Fl Go Go.RowKit

set_option maxRecDepth 100000 in
theorem c_parseUint (p : ByteArray) (hs : p.size = 8) (w : World) (he : Errs w) : Calls Tryd.prog 70 #[.string p, .int .i64 16, .int .i64 32] w fun e w' => ∃ r, e = .returned (.tuple #[.int .u64 (vH p : Int), r]) ∧ Below w.heap.size w w' := by
  have H := c_innerParse p hs w
  have hB := Lib.bytesWorld_below w 5 p
  have HE := hide_ (he.keep hB)
  generalize Lib.bytesWorld w 5 p = W1 at H hB HE
  have hv1 : vH p = (pz 0 p.data.toList).getD 0 := rfl
  cases hp : pz 0 p.data.toList with
  | some v =>
    rw [hp] at H hv1
    have H1 : Hid (Calls Tryd.prog 84 #[.string p, .int .i64 16, .int .i64 32] w fun e w' => e = .returned (.tuple #[.int .u64 (v : Int), .nilIface]) ∧ w' = W1) := H
    have HV : Hid (vH p = v) := hv1
    have HB := hide_ hB
    clear H hv1 hB hp he
    go_enter Tryd.func70, Tryd.ntmps70
    go_wp2_with fail
    go_at_call 84
    refine Calls.mono H1.out ?_
    rintro e w' ⟨rfl, rfl⟩
    go_wp2_with fail
    go_ret2
    exact ⟨_, by rw [HV.out]; rfl, HB.out⟩
  | none =>
    rw [hp] at H hv1
    have H1 : Hid (Calls Tryd.prog 84 #[.string p, .int .i64 16, .int .i64 32] w fun e w' => e = .returned (.tuple #[.int .u64 0, .iface 103 (.int .i64 2)]) ∧ w' = W1) := H
    have HV : Hid (vH p = 0) := hv1
    have HB := hide_ hB
    obtain ⟨⟨t1, p1, h1⟩, _⟩ := HE.out
    have HT := hide_ (Tryd.strconv_toError_syntax ⟨#[80, 97, 114, 115, 101, 85, 105, 110, 116]⟩ p 16 32 _ W1 (by omega) h1 (.inr ⟨_, _, rfl⟩))
    clear H hv1 hB hp he h1
    go_enter Tryd.func70, Tryd.ntmps70
    go_wp2_with fail
    go_at_call 84
    refine Calls.mono H1.out ?_
    rintro e w' ⟨rfl, rfl⟩
    go_wp2_with fail
    go_at_call 64
    refine Calls.mono HT.out ?_
    rintro e w2 ⟨N, rfl, _, _, hB2⟩
    have HB2 := hide_ (HB.out.trans (hB2.mono HB.out.size))
    clear hB2
    go_wp2_with fail
    go_ret2
    exact ⟨_, by rw [HV.out]; rfl, HB2.out⟩
theorem c_readHex (p : ByteArray) (hs : p.size = 8) (w : World) (he : Errs w) : Calls Tryd.prog 53 #[.string p] w fun e w' => e = .returned (.float .f32 (vH p)) ∧ Below w.heap.size w w' := by
  have H := hide_ (c_parseUint p hs w he)
  have hl := vH_lt hs
  generalize vH p = v at *
  have hvI : (v : Int) < 4294967296 := by omega
  clear he
  go_enter Tryd.func53, Tryd.ntmps53
  go_wp2_with fail
  go_at_call 70
  refine Calls.mono H.out ?_
  rintro e w1 ⟨r, rfl, hB⟩
  have HB := hide_ hB
  clear hB
  go_wp2_with fail
  go_ret
  exact ⟨rfl, HB.out⟩

end Go.Proofs.YticggbmmeefelaaDoor
