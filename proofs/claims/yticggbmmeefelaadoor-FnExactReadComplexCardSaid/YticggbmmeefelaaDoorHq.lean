/-
Texts of lists of numbers read back: the reference.
-/
import Derived.Test.YticggbmmeefelaaDoorHp
import Derived.Test.YticggbmmeefelaaDoorRs
import Derived.Test.YticggbmmeefelaaDoorSl
set_option linter.unusedVariables false
set_option linter.unusedSimpArgs false
namespace Go.Proofs.YticggbmmeefelaaDoor
open Fl Go Go.RowKit

/-- a list of float32 that was made from block 'base' on -/
def OwnF (base : Nat) (xs : List Nat) (v : Value) (w : World) : Prop :=
  ∃ A cap, v = .slice A xs.length cap ∧ w.ownsRow base 52 1 v xs.length (xs.map (Value.float .f32))
theorem OwnF.keep {base : Nat} {xs : List Nat} {v : Value} {w w' : World} (h : OwnF base xs v w) (hb : Below w.heap.size w w') : OwnF base xs v w' := by
  obtain ⟨A, cap, rfl, h1⟩ := h
  exact ⟨A, cap, rfl, own_keep h1 hb⟩
theorem OwnF.nil (base : Nat) (w : World) : OwnF base [] (.slice none 0 0) w := ⟨none, 0, rfl, rfl, .inl ⟨rfl, rfl⟩⟩
/-- what reading a list of numbers gives -/
def NReadGives (s : ByteArray) (w : World) (e : Ending) (w' : World) : Prop :=
  ∃ v, e = .returned (.tuple #[v, .bool (accN s)]) ∧ OwnF w.heap.size (lstN s) v w' ∧ Below w.heap.size w w'
theorem mapF_snoc (s : ByteArray) {k : Nat} (hk : k < (sp s).length) : ((sp s).take k).map vH ++ [vH ((sp s).getD k default)] = ((sp s).take (k + 1)).map vH := by
  have e : (sp s).getD k default = (sp s)[k] := by simp [List.getD_eq_getElem?_getD, hk]
  rw [List.take_succ_eq_append_getElem hk, List.map_append, e]
  rfl
theorem c_from (n : Nat) (h1 : n < 4294967296) (w : World) : Calls Tryd.prog 67 #[.int .i64 n] w fun e w' => e = .returned (.float .f32 n) ∧ w = w' := by
  have hI : (n : Int) < 4294967296 := by omega
  go_enter Tryd.func67, Tryd.ntmps67
  go_wp2_with fail
  go_ret
  exact ⟨rfl, rfl⟩

/-- where the reading of a piece stands: j bytes are read, their value is n -/
def PZ (p : ByteArray) (j n : Nat) : Prop := n < 16 ^ j ∧ sv 0 p.data.toList = sv n (p.data.toList.drop j)
theorem PZ.zero (p : ByteArray) : PZ p 0 0 := ⟨by decide, rfl⟩
theorem PZ.next {p : ByteArray} {j n d : Nat} (h : PZ p j n) (hj : j < p.size) (hd : lv (p[j]'hj).toNat = some d) : PZ p (j + 1) (16 * n + d) := by
  have hl : j < p.data.toList.length := by rw [len_data]; exact hj
  refine ⟨?_, ?_⟩
  · have := lv_lt hd
    have := h.1
    rw [Nat.pow_succ]; omega
  · rw [h.2, List.drop_eq_getElem_cons hl, sv]
    have : lv (p.data.toList[j]).toNat = some d := hd
    rw [this]
theorem PZ.bad {p : ByteArray} {j n : Nat} (h : PZ p j n) (hj : j < p.size) (hd : lv (p[j]'hj).toNat = none) : sv 0 p.data.toList = none := by
  have hl : j < p.data.toList.length := by rw [len_data]; exact hj
  rw [h.2, List.drop_eq_getElem_cons hl, sv]
  have : lv (p.data.toList[j]).toNat = none := hd
  rw [this]
theorem PZ.fin {p : ByteArray} {n : Nat} (h : PZ p 8 n) (hs : p.size = 8) : sv 0 p.data.toList = some n := by
  rw [h.2, List.drop_eq_nil_of_le (by rw [len_data, hs]; exact Nat.le_refl _)]
  rfl

end Go.Proofs.YticggbmmeefelaaDoor
