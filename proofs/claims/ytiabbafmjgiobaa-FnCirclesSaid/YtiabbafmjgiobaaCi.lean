/-
The table of phasors is the program's: by computation.
-/
import Derived.Test.YtiabbafmjgiobaaCh
namespace Go.Proofs.Ytiabbafmjgiobaa
open Fl Go Go.RowKit
theorem tab_ph : (List.range 64).all chkPh = true := by kernel_rfl
theorem tab_x : (List.range 512).all (fun k => chkX ((k : Int) - 256)) = true := by kernel_rfl
end Go.Proofs.Ytiabbafmjgiobaa
