/-
The products of the table's phasors, rows 56 to 63: by computation.
-/
import Derived.Test.YtiabbafmjgiobaaCh
namespace Go.Proofs.Ytiabbafmjgiobaa
open Fl Go Go.RowKit
theorem rowsM7 : (List.range 8).all (fun j => mulRow (56 + j)) = true := by kernel_rfl
end Go.Proofs.Ytiabbafmjgiobaa
