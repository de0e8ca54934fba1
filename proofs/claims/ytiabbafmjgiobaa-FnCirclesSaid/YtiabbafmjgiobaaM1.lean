/-
The products of the table's phasors, rows 8 to 15: by computation.
-/
import Derived.Test.YtiabbafmjgiobaaCh
namespace Go.Proofs.Ytiabbafmjgiobaa
open Fl Go Go.RowKit
theorem rowsM1 : (List.range 8).all (fun j => mulRow (8 + j)) = true := by kernel_rfl
end Go.Proofs.Ytiabbafmjgiobaa
