/-
The products of the table's phasors, rows 24 to 31: by computation.
-/
import Derived.Test.YtiabbafmjgiobaaCh
namespace Go.Proofs.Ytiabbafmjgiobaa
open Fl Go Go.RowKit
theorem rowsM3 : (List.range 8).all (fun j => mulRow (24 + j)) = true := by kernel_rfl
end Go.Proofs.Ytiabbafmjgiobaa
