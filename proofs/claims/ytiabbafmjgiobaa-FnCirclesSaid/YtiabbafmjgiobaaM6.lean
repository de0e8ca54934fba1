/-
The products of the table's phasors, rows 48 to 55: by computation.
-/
import Derived.Test.YtiabbafmjgiobaaCh
namespace Go.Proofs.Ytiabbafmjgiobaa
open Fl Go Go.RowKit
theorem rowsM6 : (List.range 8).all (fun j => mulRow (48 + j)) = true := by kernel_rfl
end Go.Proofs.Ytiabbafmjgiobaa
