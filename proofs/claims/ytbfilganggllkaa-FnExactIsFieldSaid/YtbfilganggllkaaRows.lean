/-
  No cell of these rows narrows 'for every input' (looked for: loops, veiled, ifaces, maps, wideKeys, modest, calm, conditions, laid).
  DERIVED. THE GIVEN ROWS OF THIS SEAT. 6 by the template 'for every input the law returns true; each argument reads behind the call as it read before'; 0 by the template 'total and deterministic' (their statements: YtbfilganggllkaaTotals.lean).
  GIVEN WITH THE SEED: the statements are not yours to turn. If you find one false, say at which input.
  Laid BY PROGRAM, IN A SANDBOX (cutbox-rows.mjs): the forced cells as the released guide's own fill.sh prints them over the translation e7887b3689d7f305… (all of the seat's roots in one cut). By AI agents, Wed Nov 11 2026. No macro, syntax, notation, axiom, sorry.
-/
import Derived.Test.YtbfilganggllkaaChecked
import GoSem.Claim
import GoSem.ClaimJoined
import GoSem.ClaimMapViews
import Derived.JoinedTies
import Derived.KernelRfl
namespace Go.Proofs.Ytbfilganggllkaa
/- THE CELL 'sum', in the pinned program and in every row, IS THE sha256 OF THE DUMP (.gsa) THAT YtbfilganggllkaaProg.lean LOADS. Nothing in Lean hashes anything: it is a label: what it is worth is what the hold of that sum in a sandbox is worth. -/
noncomputable def Try.pinned : Pinned := { name := "ytbfilganggllkaa", sum := "e7887b3689d7f3052831025a3fc41bf8b0aeacb83db67928e518d6ba6fa752a1", checked := Try.checked }
namespace Rows
def none {H : Type} : Left H := { results := [], args := [] }

/-- 'laws.FnExactValidSheet': WHATEVER THE INPUT: true; the input reads as it did. -/
def fnExactValidSheetSpec : ChangeSpec := { name := "fnExactValidSheet", fn := fun _ => fun
  | [d] => { results := [.lit (.bool true)], args := [d] }
  | _ => none }
def fnExactValidSheetRow : OpenClaim := { program := "ytbfilganggllkaa", sum := "e7887b3689d7f3052831025a3fc41bf8b0aeacb83db67928e518d6ba6fa752a1", func := "loop.example/g01201/laws.FnExactValidSheet", spec := "fnExactValidSheet", apart := false }
def FnExactValidSheetSaid : Prop := fnExactValidSheetRow.holds Try.pinned (OpenSpec.ofChange fnExactValidSheetSpec)

/-- ITS FALSE NEIGHBOUR: 'it returns false'. Refute it at one input. -/
def fnExactValidSheetWrong : ChangeSpec := { name := "fnExactValidSheet", fn := fun _ => fun
  | [d] => { results := [.lit (.bool false)], args := [d] }
  | _ => none }
def FnExactValidSheetWrongFalsely : Prop := fnExactValidSheetRow.holds Try.pinned (OpenSpec.ofChange fnExactValidSheetWrong)

/-- 'laws.FnExactSameField': WHATEVER THE INPUT: true; the input reads as it did. -/
def fnExactSameFieldSpec : ChangeSpec := { name := "fnExactSameField", fn := fun _ => fun
  | [d1, d2] => { results := [.lit (.bool true)], args := [d1, d2] }
  | _ => none }
def fnExactSameFieldRow : OpenClaim := { program := "ytbfilganggllkaa", sum := "e7887b3689d7f3052831025a3fc41bf8b0aeacb83db67928e518d6ba6fa752a1", func := "loop.example/g01201/laws.FnExactSameField", spec := "fnExactSameField", inPlace := ["math.Float32bits", "math.Float64bits"], apart := false }
def FnExactSameFieldSaid : Prop := fnExactSameFieldRow.holds Try.pinned (OpenSpec.ofChange fnExactSameFieldSpec)

/-- ITS FALSE NEIGHBOUR: 'it returns false'. Refute it at one input. -/
def fnExactSameFieldWrong : ChangeSpec := { name := "fnExactSameField", fn := fun _ => fun
  | [d1, d2] => { results := [.lit (.bool false)], args := [d1, d2] }
  | _ => none }
def FnExactSameFieldWrongFalsely : Prop := fnExactSameFieldRow.holds Try.pinned (OpenSpec.ofChange fnExactSameFieldWrong)

/-- 'laws.FnExactPlainSheet': WHATEVER THE INPUT: true; the input reads as it did. -/
def fnExactPlainSheetSpec : ChangeSpec := { name := "fnExactPlainSheet", fn := fun _ => fun
  | [d1, d2, d3, d4] => { results := [.lit (.bool true)], args := [d1, d2, d3, d4] }
  | _ => none }
def fnExactPlainSheetRow : OpenClaim := { program := "ytbfilganggllkaa", sum := "e7887b3689d7f3052831025a3fc41bf8b0aeacb83db67928e518d6ba6fa752a1", func := "loop.example/g01201/laws.FnExactPlainSheet", spec := "fnExactPlainSheet", apart := false }
def FnExactPlainSheetSaid : Prop := fnExactPlainSheetRow.holds Try.pinned (OpenSpec.ofChange fnExactPlainSheetSpec)

/-- ITS FALSE NEIGHBOUR: 'it returns false'. Refute it at one input. -/
def fnExactPlainSheetWrong : ChangeSpec := { name := "fnExactPlainSheet", fn := fun _ => fun
  | [d1, d2, d3, d4] => { results := [.lit (.bool false)], args := [d1, d2, d3, d4] }
  | _ => none }
def FnExactPlainSheetWrongFalsely : Prop := fnExactPlainSheetRow.holds Try.pinned (OpenSpec.ofChange fnExactPlainSheetWrong)

/-- 'laws.FnExactSameSheet': WHATEVER THE INPUT: true; the input reads as it did. -/
def fnExactSameSheetSpec : ChangeSpec := { name := "fnExactSameSheet", fn := fun _ => fun
  | [d1, d2] => { results := [.lit (.bool true)], args := [d1, d2] }
  | _ => none }
def fnExactSameSheetRow : OpenClaim := { program := "ytbfilganggllkaa", sum := "e7887b3689d7f3052831025a3fc41bf8b0aeacb83db67928e518d6ba6fa752a1", func := "loop.example/g01201/laws.FnExactSameSheet", spec := "fnExactSameSheet", inPlace := ["math.Float32bits", "math.Float64bits"], apart := false }
def FnExactSameSheetSaid : Prop := fnExactSameSheetRow.holds Try.pinned (OpenSpec.ofChange fnExactSameSheetSpec)

/-- ITS FALSE NEIGHBOUR: 'it returns false'. Refute it at one input. -/
def fnExactSameSheetWrong : ChangeSpec := { name := "fnExactSameSheet", fn := fun _ => fun
  | [d1, d2] => { results := [.lit (.bool false)], args := [d1, d2] }
  | _ => none }
def FnExactSameSheetWrongFalsely : Prop := fnExactSameSheetRow.holds Try.pinned (OpenSpec.ofChange fnExactSameSheetWrong)

/-- 'laws.FnExactIsField': WHATEVER THE INPUT: true; the input reads as it did. -/
def fnExactIsFieldSpec : ChangeSpec := { name := "fnExactIsField", fn := fun _ => fun
  | [d1, d2] => { results := [.lit (.bool true)], args := [d1, d2] }
  | _ => none }
def fnExactIsFieldRow : OpenClaim := { program := "ytbfilganggllkaa", sum := "e7887b3689d7f3052831025a3fc41bf8b0aeacb83db67928e518d6ba6fa752a1", func := "loop.example/g01201/laws.FnExactIsField", spec := "fnExactIsField", apart := false }
def FnExactIsFieldSaid : Prop := fnExactIsFieldRow.holds Try.pinned (OpenSpec.ofChange fnExactIsFieldSpec)

/-- ITS FALSE NEIGHBOUR: 'it returns false'. Refute it at one input. -/
def fnExactIsFieldWrong : ChangeSpec := { name := "fnExactIsField", fn := fun _ => fun
  | [d1, d2] => { results := [.lit (.bool false)], args := [d1, d2] }
  | _ => none }
def FnExactIsFieldWrongFalsely : Prop := fnExactIsFieldRow.holds Try.pinned (OpenSpec.ofChange fnExactIsFieldWrong)

/-- 'laws.FnExactZeroField': WHATEVER THE INPUT: true; the input reads as it did. -/
def fnExactZeroFieldSpec : ChangeSpec := { name := "fnExactZeroField", fn := fun _ => fun
  | [d] => { results := [.lit (.bool true)], args := [d] }
  | _ => none }
def fnExactZeroFieldRow : OpenClaim := { program := "ytbfilganggllkaa", sum := "e7887b3689d7f3052831025a3fc41bf8b0aeacb83db67928e518d6ba6fa752a1", func := "loop.example/g01201/laws.FnExactZeroField", spec := "fnExactZeroField", apart := false }
def FnExactZeroFieldSaid : Prop := fnExactZeroFieldRow.holds Try.pinned (OpenSpec.ofChange fnExactZeroFieldSpec)

/-- ITS FALSE NEIGHBOUR: 'it returns false'. Refute it at one input. -/
def fnExactZeroFieldWrong : ChangeSpec := { name := "fnExactZeroField", fn := fun _ => fun
  | [d] => { results := [.lit (.bool false)], args := [d] }
  | _ => none }
def FnExactZeroFieldWrongFalsely : Prop := fnExactZeroFieldRow.holds Try.pinned (OpenSpec.ofChange fnExactZeroFieldWrong)

/- THE SECOND FORM. 'bulk': how many values and letters a reading holds, each counted each time it is reached (what is shared counts as often as it is met; a slice's spare places count too). A statement '..UptoSaid' is the law's where the arguments, and the package variables that the reading takes, are together of bulk at most 1048576: NARROWER than '..Said'. Prove '..Said' where nothing that the law and all that it calls make is longer than what came in: it says more and counts as full. Else prove '..UptoSaid'. A law counts once. -/
mutual
def uptoBulk {H : Type} : DataW H → Nat
  | .lit (.string bytes) => bytes.length + 1
  | .lit _ => 1
  | .nil => 1
  | .ptr d => uptoBulk d + 1
  | .slice elems spare => uptoBulkAll elems + uptoBulkAll spare + 1
  | .agg parts => uptoBulkAll parts + 1
  | .iface _ d => uptoBulk d + 1
  | .map entries => uptoBulkEntries entries + 1
  | .held _ => 1
def uptoBulkAll {H : Type} : List (DataW H) → Nat
  | [] => 0
  | d :: r => uptoBulk d + uptoBulkAll r
def uptoBulkEntries {H : Type} : List (Lit × DataW H) → Nat
  | [] => 0
  | x :: r => uptoBulkEntry x + uptoBulkEntries r
def uptoBulkEntry {H : Type} : Lit × DataW H → Nat
  | (.string bytes, d) => bytes.length + uptoBulk d + 1
  | (_, d) => uptoBulk d + 1
 end
def uptoSmall : (H : Type) → List (DataW H) → Bool := fun _ ds => decide (uptoBulkAll ds ≤ 1048576)
def OpenSpec.upto (s : _root_.Go.ChangeSpec) : _root_.Go.OpenSpec := { _root_.Go.OpenSpec.ofChange s with cond := some uptoSmall }

/-- 'laws.FnExactValidSheet', WHERE WHAT IT READS IS OF BULK AT MOST 1048576: true; the input reads as it did. -/
def fnExactValidSheetUptoRow : OpenClaim := { program := "ytbfilganggllkaa", sum := "e7887b3689d7f3052831025a3fc41bf8b0aeacb83db67928e518d6ba6fa752a1", func := "loop.example/g01201/laws.FnExactValidSheet", spec := "fnExactValidSheet", apart := false, narrowed := true }
def FnExactValidSheetUptoSaid : Prop := fnExactValidSheetUptoRow.holds Try.pinned (OpenSpec.upto fnExactValidSheetSpec)

/-- 'laws.FnExactSameField', WHERE WHAT IT READS IS OF BULK AT MOST 1048576: true; the input reads as it did. -/
def fnExactSameFieldUptoRow : OpenClaim := { program := "ytbfilganggllkaa", sum := "e7887b3689d7f3052831025a3fc41bf8b0aeacb83db67928e518d6ba6fa752a1", func := "loop.example/g01201/laws.FnExactSameField", spec := "fnExactSameField", inPlace := ["math.Float32bits", "math.Float64bits"], apart := false, narrowed := true }
def FnExactSameFieldUptoSaid : Prop := fnExactSameFieldUptoRow.holds Try.pinned (OpenSpec.upto fnExactSameFieldSpec)

/-- 'laws.FnExactPlainSheet', WHERE WHAT IT READS IS OF BULK AT MOST 1048576: true; the input reads as it did. -/
def fnExactPlainSheetUptoRow : OpenClaim := { program := "ytbfilganggllkaa", sum := "e7887b3689d7f3052831025a3fc41bf8b0aeacb83db67928e518d6ba6fa752a1", func := "loop.example/g01201/laws.FnExactPlainSheet", spec := "fnExactPlainSheet", apart := false, narrowed := true }
def FnExactPlainSheetUptoSaid : Prop := fnExactPlainSheetUptoRow.holds Try.pinned (OpenSpec.upto fnExactPlainSheetSpec)

/-- 'laws.FnExactSameSheet', WHERE WHAT IT READS IS OF BULK AT MOST 1048576: true; the input reads as it did. -/
def fnExactSameSheetUptoRow : OpenClaim := { program := "ytbfilganggllkaa", sum := "e7887b3689d7f3052831025a3fc41bf8b0aeacb83db67928e518d6ba6fa752a1", func := "loop.example/g01201/laws.FnExactSameSheet", spec := "fnExactSameSheet", inPlace := ["math.Float32bits", "math.Float64bits"], apart := false, narrowed := true }
def FnExactSameSheetUptoSaid : Prop := fnExactSameSheetUptoRow.holds Try.pinned (OpenSpec.upto fnExactSameSheetSpec)

/-- 'laws.FnExactIsField', WHERE WHAT IT READS IS OF BULK AT MOST 1048576: true; the input reads as it did. -/
def fnExactIsFieldUptoRow : OpenClaim := { program := "ytbfilganggllkaa", sum := "e7887b3689d7f3052831025a3fc41bf8b0aeacb83db67928e518d6ba6fa752a1", func := "loop.example/g01201/laws.FnExactIsField", spec := "fnExactIsField", apart := false, narrowed := true }
def FnExactIsFieldUptoSaid : Prop := fnExactIsFieldUptoRow.holds Try.pinned (OpenSpec.upto fnExactIsFieldSpec)

/-- 'laws.FnExactZeroField', WHERE WHAT IT READS IS OF BULK AT MOST 1048576: true; the input reads as it did. -/
def fnExactZeroFieldUptoRow : OpenClaim := { program := "ytbfilganggllkaa", sum := "e7887b3689d7f3052831025a3fc41bf8b0aeacb83db67928e518d6ba6fa752a1", func := "loop.example/g01201/laws.FnExactZeroField", spec := "fnExactZeroField", apart := false, narrowed := true }
def FnExactZeroFieldUptoSaid : Prop := fnExactZeroFieldUptoRow.holds Try.pinned (OpenSpec.upto fnExactZeroFieldSpec)

end Rows
end Go.Proofs.Ytbfilganggllkaa
