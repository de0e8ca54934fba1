/-
The products of the table's phasors, rows 16 to 23: by computation.
-/
import Derived.Test.YtiabbafmjgiobaaCh
namespace Go.Proofs.Ytiabbafmjgiobaa
open Fl Go Go.RowKit
theorem rowsM2 : (List.range 8).all (fun j => mulRow (16 + j)) = true := by kernel_rfl
end Go.Proofs.Ytiabbafmjgiobaa
