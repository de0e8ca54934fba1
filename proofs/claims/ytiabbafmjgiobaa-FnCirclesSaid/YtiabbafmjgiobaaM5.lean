/-
The products of the table's phasors, rows 40 to 47: by computation.
-/
import Derived.Test.YtiabbafmjgiobaaCh
namespace Go.Proofs.Ytiabbafmjgiobaa
open Fl Go Go.RowKit
theorem rowsM5 : (List.range 8).all (fun j => mulRow (40 + j)) = true := by kernel_rfl
end Go.Proofs.Ytiabbafmjgiobaa
