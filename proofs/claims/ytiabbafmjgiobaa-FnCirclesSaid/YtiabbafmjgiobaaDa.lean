/-
Decimal texts: what the reference makes of an integer.
-/
import Derived.Test.YtiabbafmjgiobaaProg
import Derived.WalkKit
import Derived.LoopTactic
import Derived.Maps.AppendAt
import Derived.Laws.IdiomStrings
import Derived.Lib.ItoaNum
import Derived.OneCell
import Derived.IntWalk
set_option linter.unusedVariables false
set_option linter.unusedSimpArgs false
namespace Go.Proofs.Ytiabbafmjgiobaa
open Go Go.RowKit

theorem hide_ {p : Prop} (h : p) : Hid p := h
def byteV (b : UInt8) : Value := .int .u8 (b.toNat : Int)
theorem infoB : (Try.prog.info? 5).map (fun i => (i.zero, i.size, i.bytes)) = some (some (.int .u8 0), 1, 1) := by kernel_rfl

theorem news_at (w : World) (x : Value) (t : TypeId) {s : Nat} (hs : w.heap.size = s) (j : Nat) (u : Value) (hj : [x][j]? = some u) : (w.alloc (.cells #[x] t)).cell? ((⟨s, 0, none⟩ : Addr).add j) = some u := by
  subst hs
  match j, hj with
  | 0, hj => simp at hj; subst hj; simp [Addr.add]

/-- a new row of one cell is owned -/
theorem own_one (w : World) (x : Value) (t : TypeId) {base : Nat} (hb : base ≤ w.heap.size) : (w.alloc (.cells #[x] t)).ownsRow base t 1 (.slice (some ⟨w.heap.size, 0, none⟩) 1 1) 1 [x] :=
  ⟨by simp, .inr ⟨w.heap.size, 1, #[x], rfl, hb, heap_alloc_new w _, Nat.le_refl _, by unfold maxLen; omega, rfl, rfl⟩⟩

def lenOf : Value → Nat | .slice _ n _ => n | _ => 0

/-- the digits that are still to come -/
def dpre (l : List UInt8) (r : Nat) : List UInt8 := if l ≠ [] ∧ r = 0 then [] else Lib.decDigits r
theorem dpre_step (l : List UInt8) (r : Nat) (h : l = [] ∨ r ≠ 0) : dpre l r ++ l = dpre (UInt8.ofNat (48 + r % 10) :: l) (r / 10) ++ (UInt8.ofNat (48 + r % 10) :: l) := by
  have e1 : dpre l r = Lib.decDigits r := by
    unfold dpre
    rw [if_neg]
    rintro ⟨h1, h2⟩
    rcases h with h | h
    · exact h1 h
    · exact h h2
  rw [e1, Lib.decDigits]
  unfold dpre
  by_cases h10 : r < 10
  · rw [dif_pos h10, if_pos ⟨by simp, by omega⟩, show r % 10 = r by omega]; rfl
  · rw [dif_neg h10, if_neg (by rintro ⟨_, h⟩; omega)]
    simp
theorem dpre_end {l : List UInt8} (h : l ≠ []) : dpre l 0 ++ l = l := by unfold dpre; rw [if_pos ⟨h, rfl⟩]; rfl
theorem dpre_nil (r : Nat) : dpre [] r = Lib.decDigits r := by unfold dpre; rw [if_neg]; rintro ⟨h, _⟩; exact h rfl

theorem dig_len : ∀ (k u : Nat), u < 10 ^ (k + 1) → (Lib.decDigits u).length ≤ k + 1 := by
  intro k
  induction k with
  | zero => intro u hu; rw [Lib.decDigits, dif_pos (by simpa using hu)]; simp
  | succ k ih =>
    intro u hu
    rw [Lib.decDigits]
    split
    · simp
    · have := ih (u / 10) (by rw [Nat.pow_succ] at hu; omega)
      simp; omega
theorem byteV_ofNat {n : Nat} (h : n < 256) : byteV (UInt8.ofNat n) = .int .u8 (n : Int) := by
  unfold byteV
  rw [UInt8.toNat_ofNat_of_lt' (by simpa using h)]
theorem byteV_one (u : Value) {l : List UInt8} (hu : u ∈ l.map byteV) : u.oneCell' = true := by
  simp at hu
  obtain ⟨c, _, rfl⟩ := hu
  rfl

structure DS (w : World) (M : List UInt8) (l : List UInt8) (r : Nat) (g cap : Nat) (wr : World) : Prop where
  own : wr.ownsRow w.heap.size 5 1 (.slice (some ⟨g, 0, none⟩) l.length cap) l.length (l.map byteV)
  bel : Below w.heap.size w wr
  dig : M = dpre l r ++ l

theorem DS.step {w : World} {M : List UInt8} {l : List UInt8} {r g cap : Nat} {wr w1 : World} {v' : Value} {c : UInt8} {t : TypeId} (h : DS w M l r g cap wr) (hr : l = [] ∨ r ≠ 0) (hc : c = UInt8.ofNat (48 + r % 10))
    (ho : w1.ownsRow w.heap.size 5 1 v' (1 + l.length) ([byteV c] ++ l.map byteV)) (hg : (wr.alloc (.cells #[byteV c] t)).grownBy w1 (some wr.heap.size)) :
    ∃ g' cap', v' = .slice (some ⟨g', 0, none⟩) (l.length + 1) cap' ∧ DS w M (c :: l) (r / 10) g' cap' w1 := by
  have e : 1 + l.length = l.length + 1 := by omega
  rw [e] at ho
  obtain ⟨g', cap', rfl⟩ : ∃ g' cap', v' = .slice (some ⟨g', 0, none⟩) (l.length + 1) cap' := by
    rcases ho.2 with ⟨_, h0⟩ | ⟨g', cap', cur, hv, _⟩
    · omega
    · exact ⟨g', cap', hv⟩
  refine ⟨g', cap', rfl, ho, ?_, ?_⟩
  · exact (h.bel.alloc h.bel.size _).grown hg (by have := h.bel.size; simp; omega) (fun k hk => by have := Option.some.inj hk; have := h.bel.size; omega)
  · rw [h.dig, dpre_step l r hr, hc]
theorem DS.short {w : World} {M : List UInt8} {l : List UInt8} {r g cap : Nat} {wr : World} (h : DS w M l r g cap wr) (hM : M.length ≤ 20) : l.length ≤ 20 := by
  have := congrArg List.length h.dig
  simp at this
  omega

theorem dec_end {w : World} {M : List UInt8} {l : List UInt8} {r g cap : Nat} {wr w1 : World} {v' : Value} (h : DS w M l r g cap wr)
    (ho : w1.ownsRow w.heap.size 5 1 v' (1 + l.length) ([Value.int .u8 45] ++ l.map byteV)) (hg : (wr.alloc (.cells #[Value.int .u8 45] 5)).grownBy w1 (some wr.heap.size)) :
    ∃ g' cap', v' = .slice (some ⟨g', 0, none⟩) (1 + l.length) cap' ∧ (convert 22 9 (.slice (some ⟨g', 0, none⟩) (1 + l.length) cap')).run Try.prog w1 = .ok (.string ⟨(45 :: l).toArray⟩) w1 ∧ Below w.heap.size w w1 := by
  obtain ⟨g', cap', rfl⟩ : ∃ g' cap', v' = .slice (some ⟨g', 0, none⟩) (1 + l.length) cap' := by
    rcases ho.2 with ⟨_, h0⟩ | ⟨g', cap', cur, hv, _⟩
    · omega
    · exact ⟨g', cap', hv⟩
  refine ⟨g', cap', rfl, ?_, (h.bel.alloc h.bel.size _).grown hg (by have := h.bel.size; simp; omega) (fun k hk => by have := Option.some.inj hk; have := h.bel.size; omega)⟩
  have e : 1 + l.length = (45 :: l).length := by simp; omega
  have e2 : [Value.int .u8 45] ++ l.map byteV = (45 :: l).map byteV := rfl
  rw [e, e2] at ho
  rw [e]
  exact run_convert_bytes_back (P := Try.prog) w1 22 9 5 ⟨g', 0, none⟩ cap' (45 :: l) Try.underlying22 Try.underlying5 Try.underlying9 (fun j hj => World.ownsRow.cells ho rfl j _ (by simp only [List.getElem?_map, List.getElem?_eq_getElem hj]; rfl))

end Go.Proofs.Ytiabbafmjgiobaa
