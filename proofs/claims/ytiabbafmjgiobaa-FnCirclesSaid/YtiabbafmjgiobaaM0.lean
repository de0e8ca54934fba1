/-
The products of the table's phasors, rows 0 to 7: by computation.
-/
import Derived.Test.YtiabbafmjgiobaaCh
namespace Go.Proofs.Ytiabbafmjgiobaa
open Fl Go Go.RowKit
theorem rowsM0 : (List.range 8).all (fun j => mulRow (0 + j)) = true := by kernel_rfl
end Go.Proofs.Ytiabbafmjgiobaa
