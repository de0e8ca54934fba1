/-
Parts of the proof, put together: Da Dr Fl Cx Nu Fd Nv Wc Hx Sd Db Dc Pd Df Sp Dg. No condition.
-/
import Derived.Test.YtiabbafmjgiobaaGreatDoorProg
import Derived.WalkKit
import Derived.LoopTactic
import Derived.Maps.AppendAt
import Derived.Laws.IdiomStrings
import Derived.Lib.ItoaNum
import Derived.OneCell
import Derived.IntWalk
import Derived.ProofKit
import Derived.Carry
import Derived.Below
import Derived.Deep.QuietTactic
import Derived.BigQuiet
import Derived.Laws.FloatArith
import Derived.Laws.ComplexArith
import Derived.WalkLawsBesides
import Derived.Deep.Draws
import Derived.Test.YtiabbafmjgiobaaGreatDoorChecked
import Derived.Shelf.LaysM
import Derived.Shelf.Strconv.Itoa4
import Derived.Lib.AppendIntMem
import Derived.OpenShut
import Derived.Lib.Join
import Derived.Lib.ParseIntB
import Derived.Lib.AtoiErrMem

/-
Decimal texts: what the reference makes of an integer.
-/
set_option linter.unusedVariables false
set_option linter.unusedSimpArgs false
namespace Go.Proofs.YtiabbafmjgiobaaGreatDoor
open Go Go.RowKit

theorem hide_ {p : Prop} (h : p) : Hid p := h
def byteV (b : UInt8) : Value := .int .u8 (b.toNat : Int)
theorem infoB : (Tryz.prog.info? 5).map (fun i => (i.zero, i.size, i.bytes)) = some (some (.int .u8 0), 1, 1) := by kernel_rfl

theorem news_at (w : World) (x : Value) (t : TypeId) {s : Nat} (hs : w.heap.size = s) (j : Nat) (u : Value) (hj : [x][j]? = some u) : (w.alloc (.cells #[x] t)).cell? ((⟨s, 0, none⟩ : Addr).add j) = some u := by
  subst hs
  match j, hj with
  | 0, hj => simp at hj; subst hj; simp [Addr.add]

/-- a new row of one cell is owned -/
theorem own_one (w : World) (x : Value) (t : TypeId) {base : Nat} (hb : base ≤ w.heap.size) : (w.alloc (.cells #[x] t)).ownsRow base t 1 (.slice (some ⟨w.heap.size, 0, none⟩) 1 1) 1 [x] :=
  ⟨by simp, .inr ⟨w.heap.size, 1, #[x], rfl, hb, heap_alloc_new w _, Nat.le_refl _, by unfold maxLen; omega, rfl, rfl⟩⟩

def lenOf : Value → Nat | .slice _ n _ => n | _ => 0

/-- the digits that are still to come -/
def dpre (l : List UInt8) (r : Nat) : List UInt8 := if l ≠ [] ∧ r = 0 then [] else Lib.decDigits r
theorem dpre_step (l : List UInt8) (r : Nat) (h : l = [] ∨ r ≠ 0) : dpre l r ++ l = dpre (UInt8.ofNat (48 + r % 10) :: l) (r / 10) ++ (UInt8.ofNat (48 + r % 10) :: l) := by
  have e1 : dpre l r = Lib.decDigits r := by
    unfold dpre
    rw [if_neg]
    rintro ⟨h1, h2⟩
    rcases h with h | h
    · exact h1 h
    · exact h h2
  rw [e1, Lib.decDigits]
  unfold dpre
  by_cases h10 : r < 10
  · rw [dif_pos h10, if_pos ⟨by simp, by omega⟩, show r % 10 = r by omega]; rfl
  · rw [dif_neg h10, if_neg (by rintro ⟨_, h⟩; omega)]
    simp
theorem dpre_end {l : List UInt8} (h : l ≠ []) : dpre l 0 ++ l = l := by unfold dpre; rw [if_pos ⟨h, rfl⟩]; rfl
theorem dpre_nil (r : Nat) : dpre [] r = Lib.decDigits r := by unfold dpre; rw [if_neg]; rintro ⟨h, _⟩; exact h rfl

theorem dig_len : ∀ (k u : Nat), u < 10 ^ (k + 1) → (Lib.decDigits u).length ≤ k + 1 := by
  intro k
  induction k with
  | zero => intro u hu; rw [Lib.decDigits, dif_pos (by simpa using hu)]; simp
  | succ k ih =>
    intro u hu
    rw [Lib.decDigits]
    split
    · simp
    · have := ih (u / 10) (by rw [Nat.pow_succ] at hu; omega)
      simp; omega
theorem byteV_ofNat {n : Nat} (h : n < 256) : byteV (UInt8.ofNat n) = .int .u8 (n : Int) := by
  unfold byteV
  rw [UInt8.toNat_ofNat_of_lt' (by simpa using h)]
theorem byteV_one (u : Value) {l : List UInt8} (hu : u ∈ l.map byteV) : u.oneCell' = true := by
  simp at hu
  obtain ⟨c, _, rfl⟩ := hu
  rfl

structure DS (w : World) (M : List UInt8) (l : List UInt8) (r : Nat) (g cap : Nat) (wr : World) : Prop where
  own : wr.ownsRow w.heap.size 5 1 (.slice (some ⟨g, 0, none⟩) l.length cap) l.length (l.map byteV)
  bel : Below w.heap.size w wr
  dig : M = dpre l r ++ l

theorem DS.step {w : World} {M : List UInt8} {l : List UInt8} {r g cap : Nat} {wr w1 : World} {v' : Value} {c : UInt8} {t : TypeId} (h : DS w M l r g cap wr) (hr : l = [] ∨ r ≠ 0) (hc : c = UInt8.ofNat (48 + r % 10))
    (ho : w1.ownsRow w.heap.size 5 1 v' (1 + l.length) ([byteV c] ++ l.map byteV)) (hg : (wr.alloc (.cells #[byteV c] t)).grownBy w1 (some wr.heap.size)) :
    ∃ g' cap', v' = .slice (some ⟨g', 0, none⟩) (l.length + 1) cap' ∧ DS w M (c :: l) (r / 10) g' cap' w1 := by
  have e : 1 + l.length = l.length + 1 := by omega
  rw [e] at ho
  obtain ⟨g', cap', rfl⟩ : ∃ g' cap', v' = .slice (some ⟨g', 0, none⟩) (l.length + 1) cap' := by
    rcases ho.2 with ⟨_, h0⟩ | ⟨g', cap', cur, hv, _⟩
    · omega
    · exact ⟨g', cap', hv⟩
  refine ⟨g', cap', rfl, ho, ?_, ?_⟩
  · exact (h.bel.alloc h.bel.size _).grown hg (by have := h.bel.size; simp; omega) (fun k hk => by have := Option.some.inj hk; have := h.bel.size; omega)
  · rw [h.dig, dpre_step l r hr, hc]
theorem DS.short {w : World} {M : List UInt8} {l : List UInt8} {r g cap : Nat} {wr : World} (h : DS w M l r g cap wr) (hM : M.length ≤ 20) : l.length ≤ 20 := by
  have := congrArg List.length h.dig
  simp at this
  omega

theorem dec_end {w : World} {M : List UInt8} {l : List UInt8} {r g cap : Nat} {wr w1 : World} {v' : Value} (h : DS w M l r g cap wr)
    (ho : w1.ownsRow w.heap.size 5 1 v' (1 + l.length) ([Value.int .u8 45] ++ l.map byteV)) (hg : (wr.alloc (.cells #[Value.int .u8 45] 5)).grownBy w1 (some wr.heap.size)) :
    ∃ g' cap', v' = .slice (some ⟨g', 0, none⟩) (1 + l.length) cap' ∧ (convert 22 9 (.slice (some ⟨g', 0, none⟩) (1 + l.length) cap')).run Tryz.prog w1 = .ok (.string ⟨(45 :: l).toArray⟩) w1 ∧ Below w.heap.size w w1 := by
  obtain ⟨g', cap', rfl⟩ : ∃ g' cap', v' = .slice (some ⟨g', 0, none⟩) (1 + l.length) cap' := by
    rcases ho.2 with ⟨_, h0⟩ | ⟨g', cap', cur, hv, _⟩
    · omega
    · exact ⟨g', cap', hv⟩
  refine ⟨g', cap', rfl, ?_, (h.bel.alloc h.bel.size _).grown hg (by have := h.bel.size; simp; omega) (fun k hk => by have := Option.some.inj hk; have := h.bel.size; omega)⟩
  have e : 1 + l.length = (45 :: l).length := by simp; omega
  have e2 : [Value.int .u8 45] ++ l.map byteV = (45 :: l).map byteV := rfl
  rw [e, e2] at ho
  rw [e]
  exact run_convert_bytes_back (P := Tryz.prog) w1 22 9 5 ⟨g', 0, none⟩ cap' (45 :: l) Tryz.underlying22 Tryz.underlying5 Tryz.underlying9 (fun j hj => World.ownsRow.cells ho rfl j _ (by simp only [List.getElem?_map, List.getElem?_eq_getElem hj]; rfl))

end Go.Proofs.YtiabbafmjgiobaaGreatDoor

/-
The source of draws: a struct of bytes, a place and a seed, read and moved by its methods.
-/
set_option linter.unusedVariables false
set_option linter.unusedSimpArgs false
namespace Go.Proofs.YtiabbafmjgiobaaGreatDoor
open Go Go.RowKit

/-- bytes that came in -/
def By (w : World) (A : Option Addr) (L : Nat) : Prop :=
  L = 0 ∨ ∃ b off, A = some ⟨b, off, none⟩ ∧ b < w.heap.size ∧ ∀ j, j < L → ∃ x : Nat, x < 256 ∧ w.cell? ⟨b, off + j, none⟩ = some (.int .u8 x)
theorem By.keep {B : Nat} {w w' : World} {A : Option Addr} {L : Nat} (h : By w A L) (hb : Below B w w') (hB : w.heap.size ≤ B) : By w' A L := by
  rcases h with rfl | ⟨b, off, rfl, hbl, hc⟩
  · exact .inl rfl
  · refine .inr ⟨b, off, rfl, Nat.lt_of_lt_of_le hbl hb.size, fun j hj => ?_⟩
    obtain ⟨x, hx, h1⟩ := hc j hj
    exact ⟨x, hx, by rw [hb.cell (p := ⟨b, off + j, none⟩) (by show b < B; omega)]; exact h1⟩
/-- the source's block: its place is at most K -/
def Src (w0 : World) (A : Option Addr) (L c : Nat) (g K : Nat) (W : World) : Prop :=
  Below w0.heap.size w0 W ∧ w0.heap.size ≤ g ∧ ∃ (k : Nat) (seed : Int), k ≤ K ∧ W.heap[g]? = some (.cells #[.slice A L c, .int .i64 k, .int .u64 seed] 87 (0, 0))
theorem Src.mono {w0 : World} {A : Option Addr} {L c g K K' : Nat} {W : World} (h : Src w0 A L c g K W) (hK : K ≤ K') : Src w0 A L c g K' W := by
  obtain ⟨h1, h2, k, seed, h3, h4⟩ := h
  exact ⟨h1, h2, k, seed, Nat.le_trans h3 hK, h4⟩
theorem Src.lt {w0 : World} {A : Option Addr} {L c g K : Nat} {W : World} (h : Src w0 A L c g K W) : g < W.heap.size := by
  obtain ⟨_, _, k, seed, _, h4⟩ := h
  exact (Array.getElem?_eq_some_iff.1 h4).1
/-- another block grows -/
theorem Src.grown {w0 : World} {A : Option Addr} {L c g K : Nat} {W W' : World} {row : Option Nat} (h : Src w0 A L c g K W) (hg : W.grownBy W' row) (hr : ∀ q, row = some q → w0.heap.size ≤ q) (hn : row ≠ some g) : Src w0 A L c g K W' := by
  have hlt := h.lt
  obtain ⟨h1, h2, k, seed, h3, h4⟩ := h
  exact ⟨h1.grown hg h1.size hr, h2, k, seed, h3, by rw [hg.block g hlt (fun e => hn e.symm)]; exact h4⟩
theorem Src.keep {w0 : World} {A : Option Addr} {L c g K : Nat} {W W' : World} (h : Src w0 A L c g K W) (hb : Below W.heap.size W W') : Src w0 A L c g K W' := by
  have hlt := h.lt
  obtain ⟨h1, h2, k, seed, h3, h4⟩ := h
  exact ⟨h1.trans (hb.mono h1.size), h2, k, seed, h3, by rw [hb.block g hlt]; exact h4⟩
/-- what a draw leaves: the source moved on, all else as it was -/
def Drawn (w0 : World) (A : Option Addr) (L c g K : Nat) (W W' : World) : Prop := Src w0 A L c g K W' ∧ W.grownBy W' (some g)
theorem Drawn.mono {w0 : World} {A : Option Addr} {L c g K K' : Nat} {W W' : World} (h : Drawn w0 A L c g K W W') (hK : K ≤ K') : Drawn w0 A L c g K' W W' := ⟨h.1.mono hK, h.2⟩
theorem setCell_grownD (w : World) (a : Addr) (u : Value) : w.grownBy (w.setCell a u) (some a.block) :=
  ⟨rfl, rfl, rfl, by simp [World.setCell], fun k hk hne => Below.heap_setCell w a u k (fun e => hne (by rw [e]))⟩
theorem grown_transD {a b c : World} {row : Option Nat} (h : a.grownBy b row) (k : b.grownBy c row) : a.grownBy c row :=
  ⟨k.os.trans h.os, k.tape.trans h.tape, k.output.trans h.output, Nat.le_trans h.size k.size, fun i hi hne => (k.block i (Nat.lt_of_lt_of_le hi h.size) hne).trans (h.block i hi hne)⟩
theorem Drawn.trans {w0 : World} {A : Option Addr} {L c g K K' : Nat} {W W' W2 : World} (h : Drawn w0 A L c g K W W') (h' : Drawn w0 A L c g K' W' W2) : Drawn w0 A L c g K' W W2 := ⟨h'.1, grown_transD h.2 h'.2⟩
theorem box_cellD {w : World} {b : Nat} {cs : Array Value} {t : TypeId} (h : w.heap[b]? = some (.cells cs t (0, 0))) (j : Nat) (v : Value) (hv : cs[j]? = some v) : w.cell? ⟨b, j, none⟩ = some v := by
  rw [cell_of_row w b j cs t (0, 0) h]; exact hv
theorem box_freeD {w : World} {b : Nat} {cs : Array Value} {t : TypeId} (h : w.heap[b]? = some (.cells cs t (0, 0))) (j : Nat) : w.frozen? ⟨b, j, none⟩ = false := frozen_of_row w b j cs t h
theorem heap_set {w : World} {b : Nat} {cs : Array Value} {t : TypeId} (h : w.heap[b]? = some (.cells cs t (0, 0))) (j : Nat) (v : Value) : (w.setCell ⟨b, j, none⟩ v).heap[b]? = some (.cells (cs.setIfInBounds j v) t (0, 0)) := by
  simp [World.setCell, Array.getElem?_modify, h]

theorem and255 (z : Int) (h0 : 0 ≤ z) (h1 : z < 18446744073709551616) : bits .and .u64 z 255 = z % 256 := by
  have h := bits_and_u64_nat z.toNat 255 (by omega) (by omega)
  have e : ((z.toNat : Nat) : Int) = z := by omega
  rw [e] at h
  rw [show ((255 : Nat) : Int) = 255 from rfl] at h
  rw [h, Nat.and_two_pow_sub_one_eq_mod z.toNat 8]
  omega
theorem seed_byte (y : Int) : ∃ x : Nat, x < 256 ∧ wrap64 (bits .and .u64 (IntKind.u64.wrap y / 1099511627776) 255) = (x : Int) := by
  obtain ⟨h0, h1⟩ : 0 ≤ IntKind.u64.wrap y ∧ IntKind.u64.wrap y < 18446744073709551616 := by
    unfold IntKind.wrap
    simp only [IntKind.bits, IntKind.signed]
    constructor
    · exact Int.emod_nonneg _ (by decide)
    · exact Int.emod_lt_of_pos _ (by decide)
  generalize IntKind.u64.wrap y = z at *
  rw [and255 _ (by omega) (by omega)]
  refine ⟨(z / 1099511627776 % 256).toNat, by omega, ?_⟩
  unfold wrap64
  omega

/-- the two fields that a draw writes -/
theorem drawn_two {w0 W : World} {A : Option Addr} {L c g K : Nat} {v1 v2 : Value} (h : W.heap[g]? = some (.cells #[.slice A L c, v1, v2] 87 (0, 0))) (hB : Below w0.heap.size w0 W) (hg : w0.heap.size ≤ g) (n m : Nat) (k : Nat) (hk : k ≤ K) (i s : Int) (hi : i = (k : Int)) :
    Drawn w0 A L c g K W ((((W.drewN n).setCell ⟨g, 1, none⟩ (.int .i64 i)).setCell ⟨g, 2, none⟩ (.int .u64 s)).drewN m) := by
  subst hi
  have h1 := heap_set (w := W.drewN n) (b := g) h 1 (.int .i64 (k : Int))
  have h2 := heap_set h1 2 (.int .u64 s)
  have hG : W.grownBy ((((W.drewN n).setCell ⟨g, 1, none⟩ (.int .i64 (k : Int))).setCell ⟨g, 2, none⟩ (.int .u64 s)).drewN m) (some g) :=
    grown_transD (b := W.drewN n) ⟨rfl, rfl, rfl, Nat.le_refl _, fun _ _ _ => rfl⟩ (grown_transD (setCell_grownD _ ⟨g, 1, none⟩ _) (grown_transD (setCell_grownD _ ⟨g, 2, none⟩ _) ⟨rfl, rfl, rfl, Nat.le_refl _, fun _ _ _ => rfl⟩))
  exact ⟨⟨hB.grown hG hB.size (fun q hq => by cases hq; exact hg), hg, k, s, hk, h2⟩, hG⟩

set_option maxRecDepth 100000 in
theorem c_next (w0 : World) (A : Option Addr) (L c g K : Nat) (W : World) (hb : By w0 A L) (hL : L ≤ 1048576) (hK : K ≤ 1000000000) (hs : Src w0 A L c g K W) :
    Calls Tryz.prog 68 #[.pointer (some ⟨g, 0, none⟩)] W fun e w' => (∃ x : Nat, x < 256 ∧ e = .returned (.int .i64 x)) ∧ Drawn w0 A L c g (K + 1) W w' := by
  obtain ⟨h1, h2, k, seed, h3, h4⟩ := hs
  have q0 : W.cell? ⟨g, 0, none⟩ = some (.slice A L c) := box_cellD h4 0 _ rfl
  have q1 : W.cell? ⟨g, 1, none⟩ = some (.int .i64 k) := box_cellD h4 1 _ rfl
  have q2 : W.cell? ⟨g, 2, none⟩ = some (.int .u64 seed) := box_cellD h4 2 _ rfl
  have z1 := box_freeD h4 1
  have z2 := box_freeD h4 2
  have HH := hide_ h4
  have HB := hide_ h1
  clear h4 h1
  by_cases hlt : k < L
  · obtain ⟨b, off, rfl, hbl, hc⟩ : ∃ b off, A = some ⟨b, off, none⟩ ∧ b < w0.heap.size ∧ ∀ j, j < L → ∃ x : Nat, x < 256 ∧ w0.cell? ⟨b, off + j, none⟩ = some (.int .u8 x) := by
      rcases hb with h | h
      · omega
      · exact h
    obtain ⟨x, hx, hx1⟩ := hc k hlt
    have hcell : W.cell? ⟨b, off + k, none⟩ = some (.int .u8 x) := by rw [HB.out.cell (p := ⟨b, off + k, none⟩) hbl]; exact hx1
    have hne : b ≠ g := by omega
    have hltI : (k : Int) < L := by omega
    have hleI : (k : Int) + 1 ≤ L := by omega
    clear hc hx1 hb
    go_enter Tryz.func68, Tryz.ntmps68
    go_wp2_with fail
    go_quiet (fail)
    go_wp2_with fail
    go_quiet (fail)
    go_wp2_with fail
    go_quiet (fail)
    go_wp2_with fail
    go_ret
    exact ⟨⟨x, hx, rfl⟩, drawn_two HH.out HB.out h2 _ _ (k + 1) (Nat.succ_le_succ h3) _ _ (by omega)⟩
  · have hltI : ¬ (k : Int) < L := by omega
    have hleI : ¬ (k : Int) + 1 ≤ L := by omega
    clear hb
    go_enter Tryz.func68, Tryz.ntmps68
    go_wp2_with fail
    go_quiet (fail)
    go_wp2_with fail
    go_quiet (fail)
    go_wp2_with fail
    go_ret
    obtain ⟨x, hx, e⟩ := seed_byte (IntKind.u64.wrap (IntKind.u64.wrap (seed * 6364136223846793005)) + 1442695040888963407)
    refine ⟨⟨x, hx, ?_⟩, drawn_two HH.out HB.out h2 _ _ (k + 1) (Nat.succ_le_succ h3) _ _ (by omega)⟩
    rw [← e]
    rfl

set_option maxRecDepth 100000 in
theorem c_pick (w0 : World) (A : Option Addr) (L c g K n : Nat) (W : World) (hb : By w0 A L) (hL : L ≤ 1048576) (hK : K ≤ 900000000) (hn : 2 ≤ n) (hn2 : n ≤ 65536) (hs : Src w0 A L c g K W) :
    Calls Tryz.prog 39 #[.pointer (some ⟨g, 0, none⟩), .int .i64 n] W fun e w' => (∃ x : Nat, x < n ∧ e = .returned (.int .i64 x)) ∧ Drawn w0 A L c g (K + 2) W w' := by
  have N1 := hide_ (c_next w0 A L c g K W hb hL (by omega) hs)
  have N2 := hide_ (fun W' => c_next w0 A L c g (K + 1) W' hb hL (by omega))
  have hnI : ¬ (n : Int) ≤ 1 := by omega
  have hn0 : (n : Int) ≠ 0 := by omega
  clear hb hs
  by_cases h2 : 200 < n
  · have h2I : (200 : Int) < n := by omega
    go_enter Tryz.func39, Tryz.ntmps39
    go_wp2_with fail
    go_at_call 68
    refine Calls.mono N1.out ?_
    rintro e w1 ⟨⟨x, hx, rfl⟩, hD1⟩
    have D1 := hide_ hD1
    clear hD1
    go_wp2_with fail
    go_at_call 68
    refine Calls.mono (N2.out w1 D1.out.1) ?_
    rintro e w2 ⟨⟨y, hy, rfl⟩, hD2⟩
    have D2 := hide_ (D1.out.trans hD2)
    clear hD2
    have hxy : (x : Int) * 256 + y < 65536 := by omega
    have hxy0 : 0 ≤ (x : Int) * 256 + y := by omega
    go_wp2_with fail
    go_ret
    refine ⟨⟨(x * 256 + y) % n, Nat.mod_lt _ (by omega), ?_⟩, D2.out⟩
    rw [Int.natCast_emod, Int.natCast_add, Int.natCast_mul]
    rfl
  · have h2I : ¬ (200 : Int) < n := by omega
    go_enter Tryz.func39, Tryz.ntmps39
    go_wp2_with fail
    go_at_call 68
    refine Calls.mono N1.out ?_
    rintro e w1 ⟨⟨x, hx, rfl⟩, hD1⟩
    have D1 := hide_ hD1
    clear hD1
    go_wp2_with fail
    go_ret
    refine ⟨⟨x % n, Nat.mod_lt _ (by omega), ?_⟩, D1.out.mono (by omega)⟩
    rw [Int.natCast_emod]
    rfl

end Go.Proofs.YtiabbafmjgiobaaGreatDoor

/-
Plain laws of rounding and of the walk over floats (lemmas for the claim beside them): numbers, bounds, monotone and exact rounding; what the walk says of an operation whose result may be a NaN.
-/
namespace Go.Proofs.YtiabbafmjgiobaaGreatDoor.Fl
open Go Ieee

/-! rungs -/
theorem binade_pos (f : Format) : 0 < f.binade := Nat.two_pow_pos _
theorem signWeight_pos (f : Format) : 0 < f.signWeight := Nat.two_pow_pos _

theorem word_mod (f : Format) (neg : Bool) (r : Nat) (h : r < f.signWeight) : f.word neg r % f.signWeight = r := by
  unfold Format.word
  split
  · rw [Nat.add_mod_left, Nat.mod_eq_of_lt h]
  · exact Nat.mod_eq_of_lt h

theorem word_div (f : Format) (neg : Bool) (r : Nat) (h : r < f.signWeight) : (f.word neg r / f.signWeight % 2 == 1) = neg := by
  unfold Format.word
  cases neg
  · simp [Nat.div_eq_of_lt h]
  · simp [Nat.add_div_left _ (signWeight_pos f), Nat.div_eq_of_lt h]

/-- the significand and the exponent (above the least place) of a rung -/
def sig (f : Format) (r : Nat) : Nat := if r < f.binade then r else f.binade + r % f.binade
def exq (f : Format) (r : Nat) : Nat := if r < f.binade then 0 else r / f.binade - 1

theorem infRung_lt (f : Format) : f.infRung < f.signWeight := f.infRung_lt

theorem binade_le_infRung (f : Format) (h : 0 < f.exponentBits) : f.binade ≤ f.infRung := by
  unfold Format.infRung
  have : 2 ^ 1 ≤ 2 ^ f.exponentBits := Nat.pow_le_pow_right (by omega) h
  exact Nat.le_mul_of_pos_left _ (by omega)

theorem read_rung (f : Format) (x : Nat) (h : x % f.signWeight < f.infRung) :
    f.read x = .number (x / f.signWeight % 2 == 1) (sig f (x % f.signWeight)) (f.leastPlace + (exq f (x % f.signWeight) : Nat)) := by
  unfold Format.read sig exq
  dsimp only
  by_cases h1 : x % f.signWeight < f.binade
  · simp [h1]
  · simp [h1, h]

theorem read_word (f : Format) (neg : Bool) (r : Nat) (h : r < f.infRung) :
    f.read (f.word neg r) = .number neg (sig f r) (f.leastPlace + (exq f r : Nat)) := by
  have h' := Nat.lt_trans h (infRung_lt f)
  rw [read_rung f _ (by rw [word_mod f neg r h']; exact h), word_mod f neg r h', word_div f neg r h']

theorem read_inf (f : Format) (neg : Bool) (h : 0 < f.exponentBits) : f.read (f.word neg f.infRung) = .infinity neg := by
  have h' := infRung_lt f
  unfold Format.read
  dsimp only
  rw [word_mod f neg _ h', word_div f neg _ h']
  have := binade_le_infRung f h
  rw [if_neg (by omega), if_neg (by omega), if_pos rfl]

theorem read_not_nan {f : Format} {x : Nat} (he : 0 < f.exponentBits) (h : x % f.signWeight ≤ f.infRung) : (f.read x).isNaN = false := by
  rcases Nat.lt_or_eq_of_le h with h | h
  · rw [read_rung f x h]; rfl
  · unfold Format.read
    dsimp only
    have := binade_le_infRung f he
    rw [if_neg (by omega), if_neg (by omega), if_pos h]; rfl

/-- what is written of a number or an infinity is no NaN -/
theorem write_not_nan {f : Format} (he : 0 < f.exponentBits) (d : Datum) (hd : d.isNaN = false) : (f.read (f.write d)).isNaN = false := by
  have hi := infRung_lt f
  cases d with
  | number neg mag place =>
    refine read_not_nan he ?_
    unfold Format.write Format.nearest
    dsimp only
    split
    · rw [word_mod f neg 0 (by omega)]; omega
    · rw [word_mod f neg _ (by omega)]; omega
  | infinity neg =>
    refine read_not_nan he ?_
    unfold Format.write
    rw [word_mod f neg _ hi]; omega
  | nan s t => cases hd

/-- the units of a rung: a carry out of a significand is an ordinary addition of one -/
theorem units_carry (f : Format) (q c : Nat) (hc : c ≤ 2 * f.binade) (hq : q = 0 ∨ f.binade ≤ c) :
    sig f (q * f.binade + c) * 2 ^ exq f (q * f.binade + c) = c * 2 ^ q := by
  have hb := binade_pos f
  unfold sig exq
  generalize f.binade = b at *
  by_cases h1 : c < b
  · have h0 : q = 0 := by omega
    subst h0
    simp [h1]
  · have h2 : ¬ q * b + c < b := by
      have : 0 ≤ q * b := Nat.zero_le _
      omega
    rw [if_neg h2, if_neg h2]
    rcases Nat.lt_or_eq_of_le hc with h3 | h3
    · have e : q * b + c = (c - b) + b * (q + 1) := by
        rw [Nat.mul_succ, Nat.mul_comm b q]; omega
      have hlt : c - b < b := by omega
      have e1 : (q * b + c) / b = q + 1 := by
        rw [e, Nat.add_mul_div_left _ _ hb, Nat.div_eq_of_lt hlt]; omega
      have e2 : (q * b + c) % b = c - b := by
        rw [e, Nat.add_mul_mod_self_left, Nat.mod_eq_of_lt hlt]
      rw [e1, e2, show b + (c - b) = c by omega, Nat.add_sub_cancel]
    · have e : q * b + c = b * (q + 2) := by
        rw [Nat.mul_add, Nat.mul_comm b q]; omega
      have e1 : (q * b + c) / b = q + 2 := by rw [e, Nat.mul_div_cancel_left _ hb]
      have e2 : (q * b + c) % b = 0 := by rw [e, Nat.mul_mod_right]
      rw [e1, e2, h3, show q + 2 - 1 = q + 1 by omega, Nat.pow_succ, Nat.add_zero, Nat.mul_comm (2 ^ q) 2, ← Nat.mul_assoc, Nat.mul_comm b 2]

/-- rounding: what is at most a whole number of units stays so -/
theorem cut_le (neg : Bool) (n drop N : Nat) (h : n ≤ N * 2 ^ drop) : Toward.even.cut neg n drop ≤ N := by
  unfold Toward.cut
  dsimp only
  by_cases hd : drop ≤ n.log2 + 2
  · rw [Nat.min_eq_left hd, Nat.shiftLeft_eq, Nat.one_mul]
    have hg : 0 < 2 ^ drop := Nat.two_pow_pos _
    generalize 2 ^ drop = g at *
    have hdm := Nat.div_add_mod n g
    have hm := Nat.mod_lt n hg
    have hle : n / g ≤ N := by
      apply Nat.div_le_of_le_mul; rw [Nat.mul_comm]; exact h
    rcases Nat.lt_or_eq_of_le hle with hl | hl
    · have hb : ∀ b : Bool, b.toNat ≤ 1 := by decide
      have := hb (decide (g < 2 * (n % g)) || g == 2 * (n % g) && n / g % 2 == 1)
      omega
    · have hr : n % g = 0 := by
        rw [hl, Nat.mul_comm] at hdm; omega
      rw [hr, hl]
      have h1 : ¬ g < 2 * 0 := by omega
      have h2 : (g == 2 * 0) = false := by simp; omega
      simp [h2]
  · rw [Nat.min_eq_right (by omega), Nat.shiftLeft_eq, Nat.one_mul]
    have hlt : n < 2 ^ (n.log2 + 1) := Nat.lt_log2_self
    have e : 2 ^ (n.log2 + 2) = 2 * 2 ^ (n.log2 + 1) := by rw [Nat.pow_succ, Nat.mul_comm]
    have hd0 : n / 2 ^ (n.log2 + 2) = 0 := Nat.div_eq_of_lt (by omega)
    have hm0 : n % 2 ^ (n.log2 + 2) = n := Nat.mod_eq_of_lt (by omega)
    rw [hd0, hm0]
    have h1 : ¬ 2 ^ (n.log2 + 2) < 2 * n := by omega
    have h2 : (2 ^ (n.log2 + 2) == 2 * n) = false := by simp; omega
    simp [h1, h2]

/-- rounding: what is at least a whole number of units stays so -/
theorem le_cut (neg : Bool) (n drop N : Nat) (h : N * 2 ^ drop ≤ n) : N ≤ Toward.even.cut neg n drop := by
  by_cases hN : N = 0
  · omega
  have hlog : drop ≤ n.log2 := by
    have h1 : 2 ^ drop ≤ n := Nat.le_trans (Nat.le_mul_of_pos_left _ (by omega)) h
    exact (Nat.le_log2 (by have := Nat.two_pow_pos drop; omega)).2 h1
  unfold Toward.cut
  dsimp only
  rw [Nat.min_eq_left (by omega), Nat.shiftLeft_eq, Nat.one_mul]
  have : N ≤ n / 2 ^ drop := by
    rw [Nat.le_div_iff_mul_le (Nat.two_pow_pos _)]; exact h
  omega

theorem cut_exact (neg : Bool) (drop N : Nat) : Toward.even.cut neg (N * 2 ^ drop) drop = N :=
  Nat.le_antisymm (cut_le neg _ drop N (Nat.le_refl _)) (le_cut neg _ drop N (Nat.le_refl _))

/-- the parts of a rounding: 'q' binades above the least place, 'kept' units there -/
theorem nearest_form (f : Format) (neg : Bool) (mag : Nat) (place : Int) (hm : mag ≠ 0) :
    ∃ q kept up drop : Nat, f.nearest neg mag place = f.word neg (min (q * f.binade + kept) f.infRung) ∧ kept ≤ 2 * f.binade ∧ (q = 0 ∨ f.binade ≤ kept) ∧
      (up = 0 ∨ drop = 0) ∧ place + drop = f.leastPlace + q + up ∧ kept = Toward.even.cut neg (mag * 2 ^ up) drop ∧
      (q = 0 ∨ (q : Int) + f.leastPlace = place + mag.log2 - f.fractionBits) ∧ place + mag.log2 - f.fractionBits ≤ f.leastPlace + q := by
  unfold Format.nearest
  rw [if_neg hm]
  dsimp only
  generalize hl : max (place + (mag.log2 : Int) - (f.fractionBits : Int)) f.leastPlace = last
  have hlast : f.leastPlace ≤ last := by omega
  have hlast2 : place + (mag.log2 : Int) - (f.fractionBits : Int) ≤ last := by omega
  have hcase : last = f.leastPlace ∨ last = place + (mag.log2 : Int) - (f.fractionBits : Int) := by omega
  have hlo : 2 ^ mag.log2 ≤ mag := Nat.log2_self_le hm
  have hhi : mag < 2 ^ (mag.log2 + 1) := Nat.lt_log2_self
  refine ⟨(last - f.leastPlace).toNat, _, (place - last).toNat, (last - place).toNat, rfl, ?_, ?_, by omega, by omega, ?_, by omega, by omega⟩
  · rw [Nat.shiftLeft_eq]
    refine cut_le _ _ _ _ ?_
    have e : 2 * f.binade = 2 ^ (f.fractionBits + 1) := by unfold Format.binade; rw [Nat.pow_succ, Nat.mul_comm]
    rw [e, ← Nat.pow_add]
    refine Nat.le_trans (Nat.mul_le_mul_right _ (Nat.le_of_lt hhi)) ?_
    rw [← Nat.pow_add]
    exact Nat.pow_le_pow_right (by omega) (by omega)
  · by_cases hq : (last - f.leastPlace).toNat = 0
    · exact .inl hq
    · refine .inr ?_
      rw [Nat.shiftLeft_eq]
      refine le_cut _ _ _ _ ?_
      unfold Format.binade
      rw [← Nat.pow_add]
      refine Nat.le_trans ?_ (Nat.mul_le_mul_right _ hlo)
      rw [← Nat.pow_add]
      exact Nat.pow_le_pow_right (by omega) (by omega)
  · rw [Nat.shiftLeft_eq]

/-- a datum is a number of at most '2 ^ n' -/
def Le2 (d : Datum) (n : Int) : Prop := ∃ (s : Bool) (m : Nat) (e : Int) (j : Nat), d = .number s m e ∧ m ≤ 2 ^ j ∧ (j : Int) + e ≤ n
/-- a datum is a number of at least '2 ^ n' -/
def Ge2 (d : Datum) (n : Int) : Prop := ∃ (s : Bool) (m : Nat) (e : Int) (j : Nat), d = .number s m e ∧ 2 ^ j ≤ m ∧ n ≤ (j : Int) + e

theorem Le2.mono {d : Datum} {n n' : Int} (h : Le2 d n) (hn : n ≤ n') : Le2 d n' := by
  obtain ⟨s, m, e, j, rfl, hm, he⟩ := h
  exact ⟨s, m, e, j, rfl, hm, by omega⟩

theorem sig_zero (f : Format) {r : Nat} (h : sig f r = 0) : r = 0 := by
  have hb := binade_pos f
  unfold sig at h
  split at h <;> omega

/-- the rung of a number below '2 ^ (2 ^ (eb - 1))' is below that of infinity -/
theorem rung_lt_inf (f : Format) (he : 2 ≤ f.exponentBits) (r N : Nat) (h : sig f r * 2 ^ exq f r ≤ 2 ^ N) (hN : N < f.fractionBits + (2 ^ f.exponentBits - 2)) : r < f.infRung := by
  have hb := binade_pos f
  have h2 : 2 ^ 2 ≤ 2 ^ f.exponentBits := Nat.pow_le_pow_right (by omega) he
  refine Nat.lt_of_not_le fun hr => ?_
  unfold Format.infRung at hr
  have hb1 : f.binade ≤ r := Nat.le_trans (Nat.le_mul_of_pos_left _ (by omega)) hr
  have hd : 2 ^ f.exponentBits - 1 ≤ r / f.binade := (Nat.le_div_iff_mul_le hb).2 hr
  unfold sig exq at h
  rw [if_neg (by omega), if_neg (by omega)] at h
  have h3 : 2 ^ (f.fractionBits + (2 ^ f.exponentBits - 2)) ≤ (f.binade + r % f.binade) * 2 ^ (r / f.binade - 1) := by
    rw [Nat.pow_add]
    refine Nat.mul_le_mul ?_ (Nat.pow_le_pow_right (by omega) (by omega))
    unfold Format.binade; omega
  have h4 : 2 ^ N < 2 ^ (f.fractionBits + (2 ^ f.exponentBits - 2)) := Nat.pow_lt_pow_right (by omega) hN
  omega

/-- what is needed of a format -/
structure Good (f : Format) : Prop where
  eb : 2 ≤ f.exponentBits
  top : f.leastPlace + f.fractionBits + ((2 ^ f.exponentBits - 2 : Nat) : Int) = ((2 ^ (f.exponentBits - 1) : Nat) : Int)

theorem good_single : Good single := ⟨by decide, by decide⟩
theorem good_double : Good double := ⟨by decide, by decide⟩

/-- what is written of a number that is not too great is a number, of no greater bound -/
theorem nearest_le (f : Format) (hf : Good f) (neg : Bool) (mag : Nat) (place n : Int) (j : Nat) (hm : mag ≤ 2 ^ j) (hj : (j : Int) + place ≤ n) (hlp : f.leastPlace ≤ n)
    (hn : n < ((2 ^ (f.exponentBits - 1) : Nat) : Int)) : ∃ r, f.nearest neg mag place = f.word neg r ∧ r < f.infRung ∧ sig f r * 2 ^ exq f r ≤ 2 ^ (n - f.leastPlace).toNat := by
  have hb := binade_pos f
  have heb := hf.eb
  have htop := hf.top
  by_cases h0 : mag = 0
  · subst h0
    refine ⟨0, by simp [Format.nearest], ?_, ?_⟩
    · have := binade_le_infRung f (by omega); omega
    · simp [sig, hb]
  obtain ⟨q, kept, up, drop, hr, hk2, hq, hud, hpl, hkept, hqq, hlast⟩ := nearest_form f neg mag place h0
  have hlg : mag.log2 ≤ j := by
    have := Nat.log2_self_le h0
    have h1 : 2 ^ mag.log2 ≤ 2 ^ j := Nat.le_trans this hm
    exact (Nat.pow_le_pow_iff_right (by omega)).1 h1
  have hqn : (q : Int) ≤ n - f.leastPlace := by omega
  have hk : kept ≤ 2 ^ ((n - f.leastPlace).toNat - q) := by
    rw [hkept]
    refine cut_le _ _ _ _ ?_
    rw [← Nat.pow_add]
    refine Nat.le_trans (Nat.mul_le_mul_right _ hm) ?_
    rw [← Nat.pow_add]
    exact Nat.pow_le_pow_right (by omega) (by omega)
  have hu : sig f (q * f.binade + kept) * 2 ^ exq f (q * f.binade + kept) ≤ 2 ^ (n - f.leastPlace).toNat := by
    rw [units_carry f q kept hk2 hq]
    refine Nat.le_trans (Nat.mul_le_mul_right _ hk) ?_
    rw [← Nat.pow_add]
    exact Nat.pow_le_pow_right (by omega) (by omega)
  have hlt : q * f.binade + kept < f.infRung := rung_lt_inf f heb _ _ hu (by omega)
  exact ⟨_, by rw [hr, Nat.min_eq_left (Nat.le_of_lt hlt)], hlt, hu⟩

theorem le2_of_units (f : Format) (neg : Bool) (r : Nat) (n : Int) (hlp : f.leastPlace ≤ n) (hr : r < f.infRung) (hu : sig f r * 2 ^ exq f r ≤ 2 ^ (n - f.leastPlace).toNat) : Le2 (f.read (f.word neg r)) n := by
  have hb := binade_pos f
  rw [read_word f neg r hr]
  by_cases h0 : sig f r = 0
  · have := sig_zero f h0
    subst this
    refine ⟨_, _, _, 0, rfl, by omega, ?_⟩
    simp [exq, hb]; omega
  · have h1 : 2 ^ exq f r ≤ 2 ^ (n - f.leastPlace).toNat := Nat.le_trans (Nat.le_mul_of_pos_left _ (by omega)) hu
    have h2 : exq f r ≤ (n - f.leastPlace).toNat := (Nat.pow_le_pow_iff_right (by omega)).1 h1
    refine ⟨_, _, _, (n - f.leastPlace).toNat - exq f r, rfl, ?_, by omega⟩
    have e : 2 ^ (n - f.leastPlace).toNat = 2 ^ ((n - f.leastPlace).toNat - exq f r) * 2 ^ exq f r := by
      rw [← Nat.pow_add]; congr 1; omega
    rw [e] at hu
    exact Nat.le_of_mul_le_mul_right hu (Nat.two_pow_pos _)

theorem le2_write (f : Format) (hf : Good f) (d : Datum) (n : Int) (hd : Le2 d n) (hlp : f.leastPlace ≤ n) (hn : n < ((2 ^ (f.exponentBits - 1) : Nat) : Int)) : Le2 (f.read (f.write d)) n := by
  obtain ⟨s, m, e, j, rfl, hm, he⟩ := hd
  obtain ⟨r, h1, h2, h3⟩ := nearest_le f hf s m e n j hm he hlp hn
  show Le2 (f.read (f.nearest s m e)) n
  rw [h1]
  exact le2_of_units f s r n hlp h2 h3

theorem le2_product {d d' : Datum} {n n' : Int} (h : Le2 d n) (h' : Le2 d' n') : ∃ p, d.product d' = some p ∧ Le2 p (n + n') := by
  obtain ⟨s, m, e, j, rfl, hm, he⟩ := h
  obtain ⟨s', m', e', j', rfl, hm', he'⟩ := h'
  refine ⟨_, rfl, _, _, _, j + j', rfl, ?_, by omega⟩
  rw [Nat.pow_add]
  exact Nat.mul_le_mul hm hm'

theorem signed_natAbs (s : Bool) (m u : Nat) : (signed s m u).natAbs = m * 2 ^ u := by
  unfold signed
  rw [Nat.shiftLeft_eq]
  cases s
  · rw [if_neg (by decide), Int.natAbs_natCast]
  · rw [if_pos rfl, Int.natAbs_neg, Int.natAbs_natCast]

theorem le2_sum {d d' : Datum} {n : Int} (h : Le2 d n) (h' : Le2 d' n) : ∃ p, d.sum d' = some p ∧ Le2 p (n + 1) := by
  obtain ⟨s, m, e, j, rfl, hm, he⟩ := h
  obtain ⟨s', m', e', j', rfl, hm', he'⟩ := h'
  refine ⟨_, rfl, _, _, _, (n - min e e' + 1).toNat, rfl, ?_, by omega⟩
  have h1 := Int.natAbs_add_le (signed s m (e - min e e').toNat) (signed s' m' (e' - min e e').toNat)
  rw [signed_natAbs, signed_natAbs] at h1
  have h2 : m * 2 ^ (e - min e e').toNat ≤ 2 ^ (n - min e e').toNat := by
    refine Nat.le_trans (Nat.mul_le_mul_right _ hm) ?_
    rw [← Nat.pow_add]
    exact Nat.pow_le_pow_right (by omega) (by omega)
  have h3 : m' * 2 ^ (e' - min e e').toNat ≤ 2 ^ (n - min e e').toNat := by
    refine Nat.le_trans (Nat.mul_le_mul_right _ hm') ?_
    rw [← Nat.pow_add]
    exact Nat.pow_le_pow_right (by omega) (by omega)
  have e1 : (n - min e e' + 1).toNat = (n - min e e').toNat + 1 := by omega
  rw [e1, Nat.pow_succ]
  omega

theorem le2_opposite {d : Datum} {n : Int} (h : Le2 d n) : Le2 d.opposite n := by
  obtain ⟨s, m, e, j, rfl, hm, he⟩ := h
  exact ⟨_, _, _, j, rfl, hm, he⟩

/-- a positive number of at least '2 ^ n' -/
def Pos2 (d : Datum) (n : Int) : Prop := ∃ (m : Nat) (e : Int) (j : Nat), d = .number false m e ∧ 2 ^ j ≤ m ∧ n ≤ (j : Int) + e

theorem pos2_ge2 {d : Datum} {n : Int} (h : Pos2 d n) : Ge2 d n := by
  obtain ⟨m, e, j, rfl, hm, he⟩ := h
  exact ⟨_, _, _, j, rfl, hm, he⟩

theorem nearest_ge (f : Format) (neg : Bool) (mag : Nat) (place n : Int) (j r : Nat) (hm : 2 ^ j ≤ mag) (hj : n ≤ (j : Int) + place) (hlp : f.leastPlace ≤ n)
    (hr : f.nearest neg mag place = f.word neg r) (hri : r < f.infRung) : 2 ^ (n - f.leastPlace).toNat ≤ sig f r * 2 ^ exq f r := by
  have hi := infRung_lt f
  have h0 : mag ≠ 0 := by have := Nat.two_pow_pos j; omega
  obtain ⟨q, kept, up, drop, hw, hk2, hq, hud, hpl, hkept, hqq, hlast⟩ := nearest_form f neg mag place h0
  have hmin : r = min (q * f.binade + kept) f.infRung := by
    have h1 : f.word neg r % f.signWeight = f.word neg (min (q * f.binade + kept) f.infRung) % f.signWeight := by rw [← hr, hw]
    rw [word_mod f neg r (by omega), word_mod f neg _ (by omega)] at h1
    exact h1
  have hre : r = q * f.binade + kept := by omega
  rw [hre, units_carry f q kept hk2 hq]
  by_cases hc : (n - f.leastPlace).toNat ≤ q
  · rcases hq with hq | hq
    · subst hq
      have : (n - f.leastPlace).toNat = 0 := by omega
      rw [this, hkept]
      have hp : 1 * 2 ^ drop ≤ mag * 2 ^ up := by
        rcases hud with h | h
        · subst h
          have h2 : 2 ^ drop ≤ 2 ^ j := Nat.pow_le_pow_right (by omega) (by omega)
          omega
        · subst h
          have := Nat.two_pow_pos up
          have h3 : 1 * 1 ≤ mag * 2 ^ up := Nat.mul_le_mul (by omega) this
          simpa using h3
      have := le_cut neg _ _ _ hp
      omega
    · refine Nat.le_trans (Nat.pow_le_pow_right (by omega) hc) ?_
      exact Nat.le_mul_of_pos_left _ (by have := binade_pos f; omega)
  · have hk : 2 ^ ((n - f.leastPlace).toNat - q) ≤ kept := by
      rw [hkept]
      refine le_cut _ _ _ _ ?_
      rw [← Nat.pow_add]
      refine Nat.le_trans ?_ (Nat.mul_le_mul_right _ hm)
      rw [← Nat.pow_add]
      exact Nat.pow_le_pow_right (by omega) (by omega)
    refine Nat.le_trans ?_ (Nat.mul_le_mul_right _ hk)
    rw [← Nat.pow_add]
    exact Nat.pow_le_pow_right (by omega) (by omega)

/-- the sum of a number that is not negative and one of at least '2 ^ n' -/
theorem pos2_sum {d d' : Datum} {n : Int} (h : Pos2 d n) (h' : ∃ m e, d' = .number false m e) : ∃ p, d.sum d' = some p ∧ Pos2 p n := by
  obtain ⟨m, e, j, rfl, hm, he⟩ := h
  obtain ⟨m', e', rfl⟩ := h'
  refine ⟨_, rfl, ?_⟩
  have s1 : signed false m (e - min e e').toNat = ((m * 2 ^ (e - min e e').toNat : Nat) : Int) := by unfold signed; rw [Nat.shiftLeft_eq]; rfl
  have s2 : signed false m' (e' - min e e').toNat = ((m' * 2 ^ (e' - min e e').toNat : Nat) : Int) := by unfold signed; rw [Nat.shiftLeft_eq]; rfl
  rw [s1, s2]
  have hp : 2 ^ (j + (e - min e e').toNat) ≤ m * 2 ^ (e - min e e').toNat := by rw [Nat.pow_add]; exact Nat.mul_le_mul_right _ hm
  have hpp := Nat.two_pow_pos (j + (e - min e e').toNat)
  refine ⟨m * 2 ^ (e - min e e').toNat + m' * 2 ^ (e' - min e e').toNat, min e e', j + (e - min e e').toNat, ?_, ?_, ?_⟩
  · rw [if_neg (by omega)]
    have h1 : decide (((m * 2 ^ (e - min e e').toNat : Nat) : Int) + ((m' * 2 ^ (e' - min e e').toNat : Nat) : Int) < 0) = false := by
      rw [decide_eq_false_iff_not]; omega
    have h2 : (((m * 2 ^ (e - min e e').toNat : Nat) : Int) + ((m' * 2 ^ (e' - min e e').toNat : Nat) : Int)).natAbs = m * 2 ^ (e - min e e').toNat + m' * 2 ^ (e' - min e e').toNat := by omega
    rw [h1, h2]
  · omega
  · omega

/-- a quotient: the dividend at most '2 ^ n', the divisor at least '2 ^ c' -/
theorem le2_quotient (digits : Nat) {d d' : Datum} {n c : Int} (h : Le2 d n) (h' : Ge2 d' c) : ∃ p, d.quotient digits d' = some p ∧ Le2 p (n - c) := by
  obtain ⟨s, m, i, a, rfl, hm, hn⟩ := h
  obtain ⟨t, y, j, b, rfl, hy, hc⟩ := h'
  have hy0 : y ≠ 0 := by have := Nat.two_pow_pos b; omega
  have hbl : b ≤ y.log2 := (Nat.le_log2 hy0).2 hy
  unfold Datum.quotient
  simp only [if_neg hy0]
  refine ⟨_, rfl, ?_⟩
  generalize hmore : digits + y.log2 - m.log2 = more
  rw [Nat.shiftLeft_eq]
  by_cases h0 : m = 0
  · subst h0
    refine ⟨_, _, _, 0, rfl, by simp, ?_⟩
    have : Nat.log2 0 = 0 := rfl
    omega
  · have hla : m.log2 ≤ a := by
      have := Nat.log2_self_le h0
      exact (Nat.pow_le_pow_iff_right (by omega)).1 (Nat.le_trans this hm)
    have hK : m * 2 ^ more ≤ 2 ^ (a + more - b) * y := by
      refine Nat.le_trans (Nat.mul_le_mul_right _ hm) ?_
      refine Nat.le_trans ?_ (Nat.mul_le_mul_left _ hy)
      rw [← Nat.pow_add, ← Nat.pow_add]
      exact Nat.pow_le_pow_right (by omega) (by omega)
    generalize m * 2 ^ more = D at hK ⊢
    refine ⟨_, _, _, a + more - b + 1, rfl, ?_, by omega⟩
    rw [Nat.pow_succ]
    generalize 2 ^ (a + more - b) = Z at hK ⊢
    have hd := Nat.div_add_mod D y
    have hle : D / y ≤ Z := Nat.div_le_of_le_mul (by rw [Nat.mul_comm]; exact hK)
    have hb : ∀ x : Bool, x.toNat ≤ 1 := by decide
    rcases Nat.lt_or_eq_of_le hle with hl | hl
    · have := hb (D % y != 0); omega
    · have hr : D % y = 0 := by rw [hl, Nat.mul_comm] at hd; omega
      rw [hl, hr]; simp; omega

/-- a quotient of a dividend that is not above the divisor is at most 1 -/
theorem le2_quotient_one (digits : Nat) {s t : Bool} {m y : Nat} {i j B : Int} (hy0 : y ≠ 0) (hBi : B ≤ i) (hBj : B ≤ j) (hz : m = 0 → i ≤ j) (h : m * 2 ^ (i - B).toNat ≤ y * 2 ^ (j - B).toNat) :
    ∃ p, (Datum.number s m i).quotient digits (.number t y j) = some p ∧ Le2 p 0 := by
  unfold Datum.quotient
  simp only [if_neg hy0]
  refine ⟨_, rfl, ?_⟩
  generalize hmore : digits + y.log2 - m.log2 = more
  rw [Nat.shiftLeft_eq]
  by_cases h0 : m = 0
  · subst h0
    have : Nat.log2 0 = 0 := rfl
    exact ⟨_, _, _, 0, rfl, by simp, by have := hz rfl; omega⟩
  · have hlo := Nat.log2_self_le h0
    have hhi : y < 2 ^ (y.log2 + 1) := Nat.lt_log2_self
    have hP : i - j ≤ more := by
      refine Int.le_of_not_gt fun hlt => ?_
      have h1 : 2 ^ (m.log2 + (i - B).toNat) ≤ m * 2 ^ (i - B).toNat := by rw [Nat.pow_add]; exact Nat.mul_le_mul_right _ hlo
      have h2 : y * 2 ^ (j - B).toNat < 2 ^ (y.log2 + 1 + (j - B).toNat) := by rw [Nat.pow_add]; exact Nat.mul_lt_mul_of_pos_right hhi (Nat.two_pow_pos _)
      have h3 : 2 ^ (m.log2 + (i - B).toNat) < 2 ^ (y.log2 + 1 + (j - B).toNat) := by omega
      have h4 := (Nat.pow_lt_pow_iff_right (by omega : 1 < 2)).1 h3
      omega
    have hD : m * 2 ^ more ≤ 2 ^ (more + j - i).toNat * y := by
      have h5 : m * 2 ^ (i - B).toNat * 2 ^ more ≤ y * 2 ^ (j - B).toNat * 2 ^ more := Nat.mul_le_mul_right _ h
      have e1 : m * 2 ^ (i - B).toNat * 2 ^ more = m * 2 ^ more * 2 ^ (i - B).toNat := by rw [Nat.mul_assoc, Nat.mul_assoc, Nat.mul_comm (2 ^ more)]
      have e2 : y * 2 ^ (j - B).toNat * 2 ^ more = 2 ^ (more + j - i).toNat * y * 2 ^ (i - B).toNat := by
        rw [Nat.mul_comm _ y, Nat.mul_assoc, Nat.mul_assoc, ← Nat.pow_add, ← Nat.pow_add]; congr 2; omega
      rw [e1, e2] at h5
      exact Nat.le_of_mul_le_mul_right h5 (Nat.two_pow_pos _)
    generalize m * 2 ^ more = D at hD ⊢
    refine ⟨_, _, _, (more + j - i).toNat + 1, rfl, ?_, by omega⟩
    rw [Nat.pow_succ]
    generalize 2 ^ (more + j - i).toNat = Z at hD ⊢
    have hd := Nat.div_add_mod D y
    have hle : D / y ≤ Z := Nat.div_le_of_le_mul (by rw [Nat.mul_comm]; exact hD)
    have hb : ∀ x : Bool, x.toNat ≤ 1 := by decide
    rcases Nat.lt_or_eq_of_le hle with hl | hl
    · have := hb (D % y != 0); omega
    · have hr : D % y = 0 := by rw [hl, Nat.mul_comm] at hd; omega
      rw [hl, hr]; simp; omega

theorem rootFrom_sq (n : Nat) : ∀ (todo root : Nat), root * root ≤ n → Datum.rootFrom n todo root * Datum.rootFrom n todo root ≤ n := by
  intro todo
  induction todo with
  | zero => intro root h; exact h
  | succ k ih =>
    intro root h
    unfold Datum.rootFrom
    dsimp only
    refine ih _ ?_
    split
    · assumption
    · exact h

theorem le2_root (digits : Nat) {m : Nat} {i n N : Int} (h : Le2 (.number false m i) n) (hN : n + 1 ≤ 2 * N) (hz : m = 0 → i ≤ N) : ∃ p, (Datum.number false m i).root digits = some p ∧ Le2 p N ∧ ∃ m' e', p = .number false m' e' := by
  obtain ⟨s, m', i', a, he, hm, hn⟩ := h
  obtain ⟨rfl, rfl, rfl⟩ : false = s ∧ m = m' ∧ i = i' := by simpa using he
  unfold Datum.root
  by_cases h0 : m = 0
  · subst h0
    exact ⟨.number false 0 i, by simp, ⟨_, _, _, 0, rfl, by simp, by have := hz rfl; omega⟩, _, _, rfl⟩
  · simp only [if_neg h0]
    refine ⟨_, rfl, ?_, _, _, rfl⟩
    generalize hmore : 2 * digits - m.log2 + ((i - ((2 * digits - m.log2 : Nat) : Int)) % 2).toNat = more
    rw [Nat.shiftLeft_eq]
    have hev : (i - (more : Int)) % 2 = 0 := by omega
    have hw := rootFrom_sq (m * 2 ^ more) ((m * 2 ^ more).log2 / 2 + 1) 0 (by omega)
    generalize Datum.rootFrom (m * 2 ^ more) ((m * 2 ^ more).log2 / 2 + 1) 0 = w at hw ⊢
    have hK : m * 2 ^ more ≤ 2 ^ ((a + more + 1) / 2) * 2 ^ ((a + more + 1) / 2) := by
      refine Nat.le_trans (Nat.mul_le_mul_right _ hm) ?_
      rw [← Nat.pow_add, ← Nat.pow_add]
      exact Nat.pow_le_pow_right (by omega) (by omega)
    refine ⟨_, _, _, (a + more + 1) / 2 + 1, rfl, ?_, by omega⟩
    rw [Nat.pow_succ]
    generalize m * 2 ^ more = D at hK hw ⊢
    generalize 2 ^ ((a + more + 1) / 2) = Z at hK ⊢
    have hle : w ≤ Z := by
      refine Nat.le_of_not_lt fun hlt => ?_
      have : Z * Z < w * w := Nat.mul_lt_mul_of_lt_of_le hlt (Nat.le_of_lt hlt) (by omega)
      omega
    have hb : ∀ x : Bool, x.toNat ≤ 1 := by decide
    rcases Nat.lt_or_eq_of_le hle with hl | hl
    · have := hb (w * w != D); omega
    · have hr : w * w = D := by rw [hl] at hw ⊢; omega
      rw [hr, hl]; simp; omega

/-- the units of a rung: its value, in units of the least place -/
def un (f : Format) (r : Nat) : Nat := sig f r * 2 ^ exq f r

theorem un_small (f : Format) {r : Nat} (h : r < f.binade) : un f r = r := by
  unfold un sig exq; rw [if_pos h, if_pos h]; simp

theorem un_parts (f : Format) {r : Nat} (h : f.binade ≤ r) : ∃ q t, r = (q + 1) * f.binade + t ∧ t < f.binade ∧ sig f r = f.binade + t ∧ exq f r = q := by
  have hb := binade_pos f
  refine ⟨r / f.binade - 1, r % f.binade, ?_, Nat.mod_lt _ hb, ?_, ?_⟩
  · have h1 : 1 ≤ r / f.binade := (Nat.le_div_iff_mul_le hb).2 (by omega)
    rw [Nat.sub_add_cancel h1, Nat.mul_comm]
    exact (Nat.div_add_mod r f.binade).symm
  · unfold sig; rw [if_neg (by omega)]
  · unfold exq; rw [if_neg (by omega)]

theorem un_succ (f : Format) (r : Nat) : un f r < un f (r + 1) := by
  have hb := binade_pos f
  by_cases h : r < f.binade
  · rw [un_small f h]
    by_cases h1 : r + 1 < f.binade
    · rw [un_small f h1]; omega
    · have e : r + 1 = 0 * f.binade + f.binade := by omega
      unfold un
      rw [e, units_carry f 0 f.binade (by omega) (.inl rfl)]
      omega
  · obtain ⟨q, t, e, ht, hs, hq⟩ := un_parts f (Nat.le_of_not_lt h)
    have e1 : r + 1 = q * f.binade + (f.binade + t + 1) := by rw [e, Nat.succ_mul]; omega
    unfold un
    rw [hs, hq, e1, units_carry f q _ (by omega) (.inr (by omega))]
    exact Nat.mul_lt_mul_of_pos_right (by omega) (Nat.two_pow_pos _)

theorem un_lt (f : Format) {r r' : Nat} (h : r < r') : un f r < un f r' := by
  induction r' with
  | zero => omega
  | succ k ih =>
    rcases Nat.lt_or_eq_of_le (Nat.le_of_lt_succ h) with h | h
    · exact Nat.lt_trans (ih h) (un_succ f k)
    · subst h; exact un_succ f r

theorem un_le_iff (f : Format) (r r' : Nat) : un f r ≤ un f r' ↔ r ≤ r' := by
  constructor
  · intro h
    refine Nat.le_of_not_lt fun h' => ?_
    have := un_lt f h'
    omega
  · intro h
    rcases Nat.lt_or_eq_of_le h with h | h
    · exact Nat.le_of_lt (un_lt f h)
    · rw [h]; exact Nat.le_refl _

theorem un_inj (f : Format) {r r' : Nat} (h : un f r = un f r') : r = r' :=
  Nat.le_antisymm ((un_le_iff f _ _).1 (Nat.le_of_eq h)) ((un_le_iff f _ _).1 (Nat.le_of_eq h.symm))

theorem sig_lt (f : Format) (r : Nat) : sig f r < 2 * f.binade := by
  have hb := binade_pos f
  unfold sig
  split
  · omega
  · have := Nat.mod_lt r hb; omega

/-- cancelling a common power of two -/
theorem pow_cancel_le {a b u v x y : Nat} (h : a * 2 ^ u ≤ b * 2 ^ v) (hx : (u : Int) + y = v + x) : a * 2 ^ x ≤ b * 2 ^ y := by
  have h1 : a * 2 ^ u * 2 ^ y ≤ b * 2 ^ v * 2 ^ y := Nat.mul_le_mul_right _ h
  have e1 : a * 2 ^ u * 2 ^ y = a * 2 ^ x * 2 ^ v := by
    rw [Nat.mul_assoc, Nat.mul_assoc, ← Nat.pow_add, ← Nat.pow_add]; congr 2; omega
  have e2 : b * 2 ^ v * 2 ^ y = b * 2 ^ y * 2 ^ v := by
    rw [Nat.mul_assoc, Nat.mul_assoc, Nat.mul_comm (2 ^ v)]
  rw [e1, e2] at h1
  exact Nat.le_of_mul_le_mul_right h1 (Nat.two_pow_pos _)

/-- rounding is monotone: what is at most a number of the format stays so -/
theorem nearest_mono_le (f : Format) (neg : Bool) (mag : Nat) (place : Int) (r : Nat) (hr : r < f.infRung) {x y : Nat} (hxy : place + y = f.leastPlace + x)
    (h : mag * 2 ^ x ≤ un f r * 2 ^ y) : ∃ r', r' ≤ r ∧ f.nearest neg mag place = f.word neg r' := by
  have hb := binade_pos f
  by_cases h0 : mag = 0
  · subst h0; exact ⟨0, by omega, by simp [Format.nearest]⟩
  obtain ⟨q, kept, up, drop, hw, hk2, hq, hud, hpl, hkept, hqq, hlast⟩ := nearest_form f neg mag place h0
  have hle : un f (q * f.binade + kept) ≤ un f r := by
    have e : un f (q * f.binade + kept) = kept * 2 ^ q := units_carry f q kept hk2 hq
    rw [e]
    by_cases hqe : q ≤ exq f r
    · have hN : un f r = sig f r * 2 ^ (exq f r - q) * 2 ^ q := by
        unfold un; rw [Nat.mul_assoc, ← Nat.pow_add]; congr 2; omega
      rw [hN]
      refine Nat.mul_le_mul_right _ ?_
      rw [hkept]
      refine cut_le _ _ _ _ ?_
      rw [hN, Nat.mul_assoc, ← Nat.pow_add] at h
      exact pow_cancel_le h (by omega)
    · exfalso
      have hq1 : (q : Int) + f.leastPlace = place + mag.log2 - f.fractionBits := by omega
      have hlo := Nat.log2_self_le h0
      have h1 : 2 ^ (mag.log2 + x) ≤ mag * 2 ^ x := by rw [Nat.pow_add]; exact Nat.mul_le_mul_right _ hlo
      have h2 : un f r * 2 ^ y < 2 ^ (f.fractionBits + 1 + exq f r + y) := by
        unfold un
        rw [Nat.pow_add, Nat.pow_add]
        refine Nat.mul_lt_mul_of_pos_right (Nat.mul_lt_mul_of_pos_right ?_ (Nat.two_pow_pos _)) (Nat.two_pow_pos _)
        have := sig_lt f r
        have e : 2 ^ (f.fractionBits + 1) = 2 * f.binade := by unfold Format.binade; rw [Nat.pow_succ, Nat.mul_comm]
        omega
      have h3 : 2 ^ (mag.log2 + x) < 2 ^ (f.fractionBits + 1 + exq f r + y) := by omega
      have h4 := (Nat.pow_lt_pow_iff_right (by omega : 1 < 2)).1 h3
      omega
  have hle' := (un_le_iff f _ _).1 hle
  exact ⟨q * f.binade + kept, hle', by rw [hw, Nat.min_eq_left (by omega)]⟩

/-- .. what is at least a number of the format stays so -/
theorem nearest_mono_ge (f : Format) (neg : Bool) (mag : Nat) (place : Int) (r : Nat) (hr : r < f.infRung) {x y : Nat} (hxy : place + y = f.leastPlace + x)
    (h : un f r * 2 ^ y ≤ mag * 2 ^ x) : ∃ r', r ≤ r' ∧ r' ≤ f.infRung ∧ f.nearest neg mag place = f.word neg r' := by
  have hb := binade_pos f
  by_cases h0 : mag = 0
  · subst h0
    have h1 : un f r * 2 ^ y ≤ 0 * 2 ^ y := by omega
    have h2 : un f r ≤ 0 := Nat.le_of_mul_le_mul_right h1 (Nat.two_pow_pos _)
    have h3 : un f 0 = 0 := un_small f hb
    have h4 := (un_le_iff f r 0).1 (by omega)
    exact ⟨0, h4, by omega, by simp [Format.nearest]⟩
  obtain ⟨q, kept, up, drop, hw, hk2, hq, hud, hpl, hkept, hqq, hlast⟩ := nearest_form f neg mag place h0
  have hle : un f r ≤ un f (q * f.binade + kept) := by
    have e : un f (q * f.binade + kept) = kept * 2 ^ q := units_carry f q kept hk2 hq
    rw [e]
    by_cases hqe : q ≤ exq f r
    · have hN : un f r = sig f r * 2 ^ (exq f r - q) * 2 ^ q := by
        unfold un; rw [Nat.mul_assoc, ← Nat.pow_add]; congr 2; omega
      rw [hN]
      refine Nat.mul_le_mul_right _ ?_
      rw [hkept]
      refine le_cut _ _ _ _ ?_
      rw [hN, Nat.mul_assoc, ← Nat.pow_add] at h
      exact pow_cancel_le h (by omega)
    · have hk : f.binade ≤ kept := by omega
      have h1 : un f r ≤ 2 * f.binade * 2 ^ exq f r := Nat.mul_le_mul_right _ (Nat.le_of_lt (sig_lt f r))
      refine Nat.le_trans h1 ?_
      have h2 : f.binade * 2 ^ (exq f r + 1) ≤ kept * 2 ^ q := Nat.mul_le_mul hk (Nat.pow_le_pow_right (by omega) (by omega))
      have e2 : 2 * f.binade * 2 ^ exq f r = f.binade * 2 ^ (exq f r + 1) := by rw [Nat.pow_succ, Nat.mul_comm 2, Nat.mul_assoc, Nat.mul_comm 2]
      omega
  have hle' := (un_le_iff f _ _).1 hle
  exact ⟨_, Nat.le_min.2 ⟨hle', Nat.le_of_lt hr⟩, Nat.min_le_right _ _, hw⟩

theorem word_inj (f : Format) {neg : Bool} {r r' : Nat} (h : f.word neg r = f.word neg r') : r = r' := by
  unfold Format.word at h
  split at h <;> omega

/-- a number of the format is its own rounding -/
theorem nearest_exact (f : Format) (neg : Bool) (mag : Nat) (place : Int) (r : Nat) (hr : r < f.infRung) {x y : Nat} (hxy : place + y = f.leastPlace + x)
    (h : mag * 2 ^ x = un f r * 2 ^ y) : f.nearest neg mag place = f.word neg r := by
  obtain ⟨r1, h1, e1⟩ := nearest_mono_le f neg mag place r hr hxy (Nat.le_of_eq h)
  obtain ⟨r2, h2, _, e2⟩ := nearest_mono_ge f neg mag place r hr hxy (Nat.le_of_eq h.symm)
  have := word_inj f (e1.symm.trans e2)
  rw [e1]; congr 1; omega

theorem fmt_eb (k : FloatKind) : 0 < k.format.exponentBits := by cases k <;> decide
theorem fmt_good (k : FloatKind) : Good k.format := by cases k; exact good_single; exact good_double

/-- A float's value: its bits, but none for a NaN. -/
def fv (k : FloatKind) (b : Nat) : Option Nat := if (k.decode b).isNaN then none else some b

theorem fv_none {k : FloatKind} {b : Nat} : fv k b = none ↔ (k.decode b).isNaN = true := by unfold fv; split <;> simp_all
theorem fv_some {k : FloatKind} {b c : Nat} : fv k b = some c ↔ (k.decode b).isNaN = false ∧ b = c := by unfold fv; split <;> simp_all

/-- An operation on values. -/
def opf (op : BinOp) (k : FloatKind) (a b : Option Nat) : Option Nat := a.bind fun x => b.bind fun y => floatBits op k x y
def ordf (k : FloatKind) (a b : Option Nat) : Option Ordering := a.bind fun x => b.bind fun y => k.format.order x y

theorem sum_nan {d d' : Datum} (h : d.isNaN = true ∨ d'.isNaN = true) : d.sum d' = none := by
  rcases d with ⟨⟩ | ⟨⟩ | ⟨⟩ <;> rcases d' with ⟨⟩ | ⟨⟩ | ⟨⟩ <;> simp_all [Datum.isNaN, Datum.sum]
theorem product_nan {d d' : Datum} (h : d.isNaN = true ∨ d'.isNaN = true) : d.product d' = none := by
  rcases d with ⟨⟩ | ⟨⟩ | ⟨⟩ <;> rcases d' with ⟨⟩ | ⟨⟩ | ⟨⟩ <;> simp_all [Datum.isNaN, Datum.product]
theorem quotient_nan {n : Nat} {d d' : Datum} (h : d.isNaN = true ∨ d'.isNaN = true) : d.quotient n d' = none := by
  rcases d with ⟨⟩ | ⟨⟩ | ⟨⟩ <;> rcases d' with ⟨⟩ | ⟨⟩ | ⟨⟩ <;> simp_all [Datum.isNaN, Datum.quotient]
theorem order_nan {d d' : Datum} (h : d.isNaN = true ∨ d'.isNaN = true) : d.order d' = none := by
  rcases d with ⟨⟩ | ⟨⟩ | ⟨⟩ <;> rcases d' with ⟨⟩ | ⟨⟩ | ⟨⟩ <;> simp_all [Datum.isNaN, Datum.order]
theorem opposite_nan (d : Datum) : d.opposite.isNaN = d.isNaN := by cases d <;> rfl

theorem floatBits_nan {op : BinOp} {k : FloatKind} {x y : Nat} (h : (k.decode x).isNaN = true ∨ (k.decode y).isNaN = true) : floatBits op k x y = none := by
  unfold FloatKind.decode at h
  unfold floatBits
  split
  · unfold Format.add; rw [sum_nan h]; rfl
  · unfold Format.sub; rw [sum_nan (by rw [opposite_nan]; exact h)]; rfl
  · unfold Format.mul; rw [product_nan h]; rfl
  · unfold Format.div; rw [quotient_nan h]; rfl
  · rfl

theorem floatBits_fv (op : BinOp) (k : FloatKind) (x y : Nat) : floatBits op k x y = opf op k (fv k x) (fv k y) := by
  unfold opf fv
  by_cases h1 : (k.decode x).isNaN = true
  · rw [if_pos h1, floatBits_nan (.inl h1)]; rfl
  · by_cases h2 : (k.decode y).isNaN = true
    · rw [if_neg h1, if_pos h2, floatBits_nan (.inr h2)]; rfl
    · rw [if_neg h1, if_neg h2]; rfl

theorem order_fv (k : FloatKind) (x y : Nat) : k.format.order x y = ordf k (fv k x) (fv k y) := by
  unfold ordf fv
  by_cases h1 : (k.decode x).isNaN = true
  · rw [if_pos h1]; unfold Format.order; rw [order_nan (d := k.format.read x) (.inl h1)]; rfl
  · by_cases h2 : (k.decode y).isNaN = true
    · rw [if_neg h1, if_pos h2]; unfold Format.order; rw [order_nan (d' := k.format.read y) (.inr h2)]; rfl
    · rw [if_neg h1, if_neg h2]; rfl

theorem sum_not_nan {d d' p : Datum} (h : d.sum d' = some p) : p.isNaN = false := by
  rcases d with ⟨⟩ | ⟨⟩ | ⟨⟩ <;> rcases d' with ⟨⟩ | ⟨⟩ | ⟨⟩ <;> simp [Datum.sum] at h <;> (try cases h.2) <;> (try cases h) <;> rfl
theorem product_not_nan {d d' p : Datum} (h : d.product d' = some p) : p.isNaN = false := by
  rcases d with ⟨⟩ | ⟨⟩ | ⟨⟩ <;> rcases d' with ⟨⟩ | ⟨⟩ | ⟨⟩ <;> simp [Datum.product] at h <;> (try cases h.2) <;> (try cases h) <;> rfl
theorem quotient_not_nan {n : Nat} {d d' p : Datum} (h : d.quotient n d' = some p) : p.isNaN = false := by
  unfold Datum.quotient at h
  split at h
  · cases h
  · cases h
  · cases h
  · cases h; rfl
  · cases h; rfl
  · split at h
    · split at h
      · cases h
      · cases h; rfl
    · cases h; rfl
theorem root_not_nan {n : Nat} {d p : Datum} (h : d.root n = some p) : p.isNaN = false := by
  unfold Datum.root at h
  split at h
  · cases h
  · split at h
    · cases h
    · cases h; rfl
  · split at h
    · cases h; rfl
    · split at h
      · cases h
      · cases h; rfl

theorem write_fv (k : FloatKind) {d : Datum} (h : d.isNaN = false) : fv k (k.encode d) = some (k.encode d) :=
  fv_some.2 ⟨write_not_nan (fmt_eb k) d h, rfl⟩

theorem floatBits_val {op : BinOp} {k : FloatKind} {x y r : Nat} (h : floatBits op k x y = some r) : fv k r = some r := by
  unfold floatBits at h
  have key : ∀ o : Option Datum, (∀ p, o = some p → p.isNaN = false) → o.map k.format.write = some r → fv k r = some r := by
    intro o ho h
    cases o with
    | none => cases h
    | some p => cases h; exact write_fv k (ho p rfl)
  split at h
  · exact key _ (fun p => sum_not_nan) h
  · exact key _ (fun p => sum_not_nan) h
  · exact key _ (fun p => product_not_nan) h
  · exact key _ (fun p => quotient_not_nan) h
  · cases h

/-- A conversion between the kinds, on values; where it does not fit: none. -/
def cvf (s d : FloatKind) (a : Option Nat) : Option Nat := a.bind fun x => floatToFloatBits s x d

/-- a number of the narrower kind comes out -/
def FitsF (s d : FloatKind) (a : Option Nat) : Prop := ∀ x, a = some x → (floatToFloatBits s x d).isSome = true

/-- the result of an operation: its value is 'v', its bits fit -/
def RV (k : FloatKind) (v : Option Nat) (r : Nat) : Prop := fv k r = v ∧ r < 2 ^ k.format.width

/-- the square root, on values -/
def sqf (a : Option Nat) : Option Nat := a.bind fun x => FloatKind.f64.format.sqrt x

theorem sqrt_fv (x : Nat) : FloatKind.f64.format.sqrt x = sqf (fv .f64 x) := by
  unfold sqf fv
  by_cases h1 : (FloatKind.f64.decode x).isNaN = true
  · rw [if_pos h1]
    have h2 : (FloatKind.f64.format.read x).isNaN = true := h1
    unfold Format.sqrt
    cases h3 : FloatKind.f64.format.read x <;> simp [h3, Datum.isNaN] at h2
    rfl
  · rw [if_neg h1]; rfl

theorem sqrt_val {x r : Nat} (h : FloatKind.f64.format.sqrt x = some r) : fv .f64 r = some r := by
  unfold Format.sqrt at h
  cases h3 : (FloatKind.f64.format.read x).root (FloatKind.f64.format.fractionBits + 2) with
  | none => rw [h3] at h; cases h
  | some p => rw [h3] at h; cases h; exact write_fv .f64 (root_not_nan h3)

theorem nan_f32 (t : Nat) : fv .f32 ((t % 2) * 2 ^ 31 + 0x7f800000 + 1 + (t / 2) % (2 ^ 23 - 1)) = none ∧ (t % 2) * 2 ^ 31 + 0x7f800000 + 1 + (t / 2) % (2 ^ 23 - 1) < 2 ^ 32 := by
  have h1 := Nat.mod_lt (t / 2) (by decide : 2 ^ 23 - 1 > 0)
  have h2 := Nat.mod_lt t (by decide : 2 > 0)
  generalize (t / 2) % (2 ^ 23 - 1) = u at h1 ⊢
  generalize t % 2 = b at h2 ⊢
  refine ⟨fv_none.2 ?_, by omega⟩
  show (single.read _).isNaN = true
  unfold Format.read
  dsimp only
  have e1 : single.signWeight = 2147483648 := rfl
  have e2 : single.infRung = 2139095040 := rfl
  have e3 : single.binade = 8388608 := rfl
  rw [e1, e2, e3, if_neg (by omega), if_neg (by omega), if_neg (by omega)]; rfl

theorem nan_f64 (t : Nat) : fv .f64 ((t % 2) * 2 ^ 63 + 0x7ff0000000000000 + 1 + (t / 2) % (2 ^ 52 - 1)) = none ∧ (t % 2) * 2 ^ 63 + 0x7ff0000000000000 + 1 + (t / 2) % (2 ^ 52 - 1) < 2 ^ 64 := by
  have h1 := Nat.mod_lt (t / 2) (by decide : 2 ^ 52 - 1 > 0)
  have h2 := Nat.mod_lt t (by decide : 2 > 0)
  generalize (t / 2) % (2 ^ 52 - 1) = u at h1 ⊢
  generalize t % 2 = b at h2 ⊢
  refine ⟨fv_none.2 ?_, by omega⟩
  show (double.read _).isNaN = true
  unfold Format.read
  dsimp only
  have e1 : double.signWeight = 9223372036854775808 := rfl
  have e2 : double.infRung = 9218868437227405312 := rfl
  have e3 : double.binade = 4503599627370496 := rfl
  rw [e1, e2, e3, if_neg (by omega), if_neg (by omega), if_neg (by omega)]; rfl

theorem rv_nanBits (k : FloatKind) (x y t : Nat) : RV k none ((Question.nanBits k x y).cut t) := by
  cases k
  · exact nan_f32 t
  · exact nan_f64 t
theorem rv_nanConv (k : FloatKind) (x t : Nat) : RV k none ((Question.nanConv k x).cut t) := by
  cases k
  · exact nan_f32 t
  · exact nan_f64 t

theorem wf_lt {k : FloatKind} {r : Nat} (h : (Lit.float k r).wf = true) : r < 2 ^ k.format.width := by
  cases k <;> exact of_decide_eq_true h
section
variable {P : Program} {o : Oper} {a : Act} {w : World} {K : Act → World → Prop} {Q : Exit → Act → World → Prop}

/-- '+', '-', '*', '/' on floats -/
theorem run_fbin (P : Program) (w : World) (op : BinOp) (t : TypeId) (k : FloatKind) (bx c : Nat) (har : (op matches .add | .sub | .mul | .quo) = true) :
    ∃ r n, RV k (opf op k (fv k bx) (fv k c)) r ∧ (binOp op t (.float k bx) (.float k c)).run P w = .ok (.float k r) (w.drewN n) := by
  rw [← floatBits_fv]
  cases hb : floatBits op k bx c with
  | some r => exact ⟨r, 0, ⟨floatBits_val hb, wf_lt (floatBits_wf hb)⟩, run_float_arith w op t k bx c r hb⟩
  | none =>
    refine ⟨(Question.nanBits k bx c).cut (w.tape w.drawn (.nanBits k bx c)), 1, rv_nanBits k bx c _, ?_⟩
    unfold floatBits at hb
    cases op <;> simp at har <;> simp only at hb <;> simp [binOp, Op.floatArith, hb, Question.forced] <;> rfl

theorem upon_fbin {op : BinOp} {t : TypeId} {k : FloatKind} {x y : Nat} (har : (op matches .add | .sub | .mul | .quo) = true)
    (h : ∀ r n, RV k (opf op k (fv k x) (fv k y)) r → K (a.put o.dst (.float k r)) (w.drewN n)) :
    Oper.upon P o a K Q ((Sem.run P (binOp op t (.float k x) (.float k y)) w).andThen fun a w' => Result.ok (Next.value a) w') := by
  obtain ⟨r, n, hr, hrun⟩ := run_fbin P w op t k x y har
  rw [hrun]
  exact h r n hr

/-- a conversion between the kinds, where it fits -/
theorem run_fcv (P : Program) (w : World) {s t : TypeId} {k d : FloatKind} {bx : Nat}
    (hs : (P.underlying s).isSome = true) (hd : P.underlying t = some (.float d)) (hw : bx < 2 ^ k.format.width) (hf : FitsF k d (fv k bx)) :
    ∃ r n, RV d (cvf k d (fv k bx)) r ∧ (convert s t (.float k bx)).run P w = .ok (.float d r) (w.drewN n) := by
  by_cases he : k = d
  · subst he
    refine ⟨bx, 0, ⟨?_, hw⟩, run_convert_float_float w s t k k bx bx hs hd (by simp [floatToFloatBits])⟩
    unfold cvf fv
    split <;> simp [floatToFloatBits]
  · by_cases hn : (k.decode bx).isNaN = true
    · have e : fv k bx = none := fv_none.2 hn
      rw [e]
      refine ⟨(Question.nanConv d bx).cut (w.tape w.drawn (.nanConv d bx)), 1, rv_nanConv d bx _, ?_⟩
      obtain ⟨u, hs'⟩ := Option.isSome_iff_exists.1 hs
      cases hdd : k.decode bx <;> simp [hdd, Datum.isNaN] at hn
      cases u <;> simp [convert, run_underlying hs', run_underlying hd, Conv.floatToFloat, he, hdd, Question.forced] <;> rfl
    · have e : fv k bx = some bx := by unfold fv; rw [if_neg hn]
      rw [e] at hf ⊢
      obtain ⟨r, hr⟩ := Option.isSome_iff_exists.1 (hf bx rfl)
      refine ⟨r, 0, ⟨?_, ?_⟩, run_convert_float_float w s t k d bx r hs hd hr⟩
      · show fv d r = floatToFloatBits k bx d
        rw [hr]
        unfold floatToFloatBits at hr
        rw [if_neg he] at hr
        split at hr
        · cases hr
        · cases hr; exact write_fv d rfl
        · split at hr
          · cases hr
          · cases hr; exact write_fv d rfl
      · have hw' : (Lit.float k bx).wf = true := wf_of_lt k bx hw
        exact wf_lt (floatToFloatBits_wf hw' hr)

theorem upon_fcv {s t : TypeId} {k d : FloatKind} {bx : Nat} (hs : (P.underlying s).isSome = true) (hd : P.underlying t = some (.float d)) (hw : bx < 2 ^ k.format.width) (hf : FitsF k d (fv k bx))
    (h : ∀ r n, RV d (cvf k d (fv k bx)) r → K (a.put o.dst (.float d r)) (w.drewN n)) :
    Oper.upon P o a K Q ((Sem.run P (convert s t (.float k bx)) w).andThen fun a w' => Result.ok (Next.value a) w') := by
  obtain ⟨r, n, hr, hrun⟩ := run_fcv P w hs hd hw hf
  rw [hrun]
  exact h r n hr
end

/-- every finite float32 is below 2 ^ 128 -/
theorem le2_single {x : Nat} {s : Bool} {m : Nat} {e : Int} (h : FloatKind.f32.decode x = .number s m e) : Le2 (.number s m e) 128 := by
  have h' : single.read x = .number s m e := h
  by_cases hr : x % single.signWeight < single.infRung
  · rw [read_rung single x hr] at h'
    obtain ⟨_, rfl, rfl⟩ : _ ∧ _ ∧ _ := by simpa using h'
    refine ⟨_, _, _, 24, rfl, ?_, ?_⟩
    · have := sig_lt single (x % single.signWeight)
      have e3 : single.binade = 8388608 := rfl
      omega
    · have e2 : single.infRung = 2139095040 := rfl
      rw [e2] at hr
      have e3 : single.binade = 8388608 := rfl
      have e4 : single.leastPlace = -149 := rfl
      unfold exq
      rw [e3]
      split <;> omega
  · unfold Format.read at h'
    dsimp only at h'
    have := binade_le_infRung single (by decide)
    rw [if_neg (by omega), if_neg hr] at h'
    split at h' <;> cases h'

theorem le2_number {d : Datum} {n : Int} (h : Le2 d n) : d.isInfinity = false ∧ d.isNaN = false := by
  obtain ⟨s, m, e, j, rfl, _, _⟩ := h
  exact ⟨rfl, rfl⟩

/-- a float32 always fits a float64 -/
theorem fits_widen (b : Nat) : FitsF .f32 .f64 (fv .f32 b) := by
  intro x hx
  obtain ⟨hn, rfl⟩ := fv_some.1 hx
  unfold floatToFloatBits
  rw [if_neg (by decide)]
  cases hd : FloatKind.f32.decode b with
  | nan s t => rw [hd] at hn; cases hn
  | infinity s => rfl
  | number s m e =>
    have h1 := le2_write double good_double _ 128 (le2_single hd) (by decide) (by decide)
    have h2 : (FloatKind.f64.decode (FloatKind.f64.encode (.number s m e))).isInfinity = false := (le2_number h1).1
    simp only [h2]; rfl

theorem word_of (f : Format) (x : Nat) (h : x < 2 ^ f.width) : x = f.word (x / f.signWeight % 2 == 1) (x % f.signWeight) := by
  have two : 2 ^ f.width = 2 * f.signWeight := by
    unfold Format.width Format.signWeight
    rw [Nat.add_assoc, Nat.add_comm 1, Nat.pow_succ, Nat.mul_comm]
  have hp := signWeight_pos f
  rw [two] at h
  have hd := Nat.div_add_mod x f.signWeight
  have hm := Nat.mod_lt x hp
  unfold Format.word
  rcases Nat.lt_or_ge x f.signWeight with h1 | h1
  · rw [Nat.div_eq_of_lt h1, Nat.mod_eq_of_lt h1]; simp
  · have e : x / f.signWeight = 1 := by
      have a1 : 1 ≤ x / f.signWeight := (Nat.le_div_iff_mul_le hp).2 (by omega)
      have a2 : x / f.signWeight < 2 := (Nat.div_lt_iff_lt_mul hp).2 (by omega)
      omega
    rw [e] at hd ⊢
    simp; omega

theorem rung_le_of_not_nan (f : Format) (he : 0 < f.exponentBits) (x : Nat) (h : (f.read x).isNaN = false) : x % f.signWeight ≤ f.infRung := by
  refine Nat.le_of_not_lt fun hlt => ?_
  have hb := binade_le_infRung f he
  unfold Format.read at h
  dsimp only at h
  rw [if_neg (by omega), if_neg (by omega), if_neg (by omega)] at h
  cases h

theorem signed_word (f : Format) (s : Bool) (r base : Nat) :
    signed s (sig f r) (exq f r - base) = (if s then -((sig f r * 2 ^ (exq f r - base) : Nat) : Int) else ((sig f r * 2 ^ (exq f r - base) : Nat) : Int)) := by
  unfold signed; rw [Nat.shiftLeft_eq]

theorem compare_nat_int (a b : Nat) : compare (a : Int) (b : Int) = compare a b := by
  simp only [compare, compareOfLessAndEq]
  by_cases h : a < b
  · rw [if_pos h, if_pos (by omega)]
  · rw [if_neg h, if_neg (by omega)]
    by_cases h2 : a = b
    · rw [if_pos h2, if_pos (by omega)]
    · rw [if_neg h2, if_neg (by omega)]
theorem compare_neg_nat_int (a b : Nat) : compare (-(a : Int)) (-(b : Int)) = compare b a := by
  simp only [compare, compareOfLessAndEq]
  by_cases h : b < a
  · rw [if_pos h, if_pos (by omega)]
  · rw [if_neg h, if_neg (by omega)]
    by_cases h2 : b = a
    · rw [if_pos h2, if_pos (by omega)]
    · rw [if_neg h2, if_neg (by omega)]

theorem compare_scaled {a b u v : Nat} (h : ∃ c : Nat, 0 < c ∧ a * c = u ∧ b * c = v) : compare a b = compare u v := by
  obtain ⟨c, hc, rfl, rfl⟩ := h
  simp only [compare, compareOfLessAndEq]
  have k1 : a * c < b * c ↔ a < b := ⟨fun h => Nat.lt_of_mul_lt_mul_right h, fun h => Nat.mul_lt_mul_of_pos_right h hc⟩
  have k2 : a * c = b * c ↔ a = b := ⟨fun h => Nat.eq_of_mul_eq_mul_right hc h, fun h => by rw [h]⟩
  simp only [k1, k2]

theorem compare_un (f : Format) (r r' : Nat) : compare (un f r) (un f r') = compare r r' := by
  simp only [compare, compareOfLessAndEq]
  by_cases h : r < r'
  · rw [if_pos h, if_pos (un_lt f h)]
  · have h1 := (un_le_iff f r' r).2 (by omega)
    rw [if_neg h, if_neg (by omega)]
    by_cases h2 : r = r'
    · rw [if_pos h2, if_pos (by rw [h2])]
    · rw [if_neg h2, if_neg (by intro h'; exact h2 (un_inj f h'))]

theorem order_number (f : Format) (s t : Bool) (r r' : Nat) :
    Datum.order (.number s (sig f r) (f.leastPlace + (exq f r : Nat))) (.number t (sig f r') (f.leastPlace + (exq f r' : Nat))) =
      some (compare (if s then -(un f r : Int) else (un f r : Int)) (if t then -(un f r' : Int) else (un f r' : Int))) := by
  unfold Datum.order
  simp only []
  congr 1
  generalize hb : min (exq f r) (exq f r') = b
  have e1 : (f.leastPlace + (exq f r : Nat) - min (f.leastPlace + (exq f r : Nat)) (f.leastPlace + (exq f r' : Nat))).toNat = exq f r - b := by omega
  have e2 : (f.leastPlace + (exq f r' : Nat) - min (f.leastPlace + (exq f r : Nat)) (f.leastPlace + (exq f r' : Nat))).toNat = exq f r' - b := by omega
  rw [e1, e2]
  have u1 : un f r = sig f r * 2 ^ (exq f r - b) * 2 ^ b := by unfold un; rw [Nat.mul_assoc, ← Nat.pow_add]; congr 2; omega
  have u2 : un f r' = sig f r' * 2 ^ (exq f r' - b) * 2 ^ b := by unfold un; rw [Nat.mul_assoc, ← Nat.pow_add]; congr 2; omega
  have hp := Nat.two_pow_pos b
  unfold signed
  rw [Nat.shiftLeft_eq, Nat.shiftLeft_eq]
  generalize sig f r * 2 ^ (exq f r - b) = x at u1 ⊢
  generalize sig f r' * 2 ^ (exq f r' - b) = y at u2 ⊢
  rw [u1, u2]
  have key : ∀ a c : Int, compare a c = compare (a * (2 ^ b : Nat)) (c * (2 ^ b : Nat)) := by
    intro a c
    have hp' : (0 : Int) < (2 ^ b : Nat) := by omega
    simp only [compare, compareOfLessAndEq]
    have k1 : a * (2 ^ b : Nat) < c * (2 ^ b : Nat) ↔ a < c := ⟨fun h => Int.lt_of_mul_lt_mul_right h (Int.le_of_lt hp'), fun h => Int.mul_lt_mul_of_pos_right h hp'⟩
    have k2 : a * (2 ^ b : Nat) = c * (2 ^ b : Nat) ↔ a = c := ⟨fun h => Int.eq_of_mul_eq_mul_right (by omega) h, fun h => by rw [h]⟩
    simp only [k1, k2]
  rw [key]
  congr 1
  · cases s <;> simp [Int.natCast_mul, Int.neg_mul]
  · cases t <;> simp [Int.natCast_mul, Int.neg_mul]

/-- two words of one sign -/
theorem order_pos (f : Format) (he : 0 < f.exponentBits) (r r' : Nat) (h : r ≤ f.infRung) (h' : r' ≤ f.infRung) : f.order (f.word false r) (f.word false r') = some (compare r r') := by
  unfold Format.order
  rcases Nat.lt_or_eq_of_le h with h1 | h1
  · rw [read_word f false r h1]
    rcases Nat.lt_or_eq_of_le h' with h2 | h2
    · rw [read_word f false r' h2, order_number]
      simp only [Bool.false_eq_true, if_false]
      rw [compare_nat_int, compare_un]
    · subst h2
      rw [read_inf f false he]
      have : compare r f.infRung = .lt := by simp only [compare, compareOfLessAndEq]; rw [if_pos h1]
      rw [this]; rfl
  · subst h1
    rw [read_inf f false he]
    rcases Nat.lt_or_eq_of_le h' with h2 | h2
    · rw [read_word f false r' h2]
      have : compare f.infRung r' = .gt := by simp only [compare, compareOfLessAndEq]; rw [if_neg (by omega), if_neg (by omega)]
      rw [this]; rfl
    · subst h2
      rw [read_inf f false he]
      have : compare f.infRung f.infRung = .eq := by simp only [compare, compareOfLessAndEq]; simp
      rw [this]; rfl

theorem order_neg (f : Format) (he : 0 < f.exponentBits) (r r' : Nat) (h : r ≤ f.infRung) (h' : r' ≤ f.infRung) : f.order (f.word true r) (f.word true r') = some (compare r' r) := by
  unfold Format.order
  rcases Nat.lt_or_eq_of_le h with h1 | h1
  · rw [read_word f true r h1]
    rcases Nat.lt_or_eq_of_le h' with h2 | h2
    · rw [read_word f true r' h2, order_number]
      simp only [if_true]
      rw [compare_neg_nat_int, compare_un]
    · subst h2
      rw [read_inf f true he]
      have : compare f.infRung r = .gt := by simp only [compare, compareOfLessAndEq]; rw [if_neg (by omega), if_neg (by omega)]
      rw [this]; rfl
  · subst h1
    rw [read_inf f true he]
    rcases Nat.lt_or_eq_of_le h' with h2 | h2
    · rw [read_word f true r' h2]
      have : compare r' f.infRung = .lt := by simp only [compare, compareOfLessAndEq]; rw [if_pos h2]
      rw [this]; rfl
    · subst h2
      rw [read_inf f true he]
      have : compare f.infRung f.infRung = .eq := by simp only [compare, compareOfLessAndEq]; simp
      rw [this]; rfl

theorem compare_self (r : Nat) : compare r r = .eq := by simp only [compare, compareOfLessAndEq]; simp
theorem compare_eq {r r' : Nat} (h : compare r r' = .eq) : r = r' := by
  simp only [compare, compareOfLessAndEq] at h
  split at h
  · cases h
  · split at h
    · assumption
    · cases h

/-- what is no NaN is equal to itself -/
theorem order_self (k : FloatKind) (x : Nat) (h : (k.decode x).isNaN = false) : k.format.order x x = some .eq := by
  unfold Format.order
  unfold FloatKind.decode at h
  cases hd : k.format.read x with
  | nan s t => rw [hd] at h; cases h
  | infinity s => cases s <;> rfl
  | number s m e =>
    unfold Datum.order
    simp only []
    congr 1
    simp only [compare, compareOfLessAndEq]
    simp

theorem ordf_self (k : FloatKind) (a : Option Nat) (h : ∃ x, fv k x = a) : (ordf k a a == some .eq) = a.isSome := by
  obtain ⟨x, rfl⟩ := h
  rw [← order_fv]
  cases hn : (k.decode x).isNaN with
  | true => rw [fv_none.2 hn, order_fv, fv_none.2 hn]; rfl
  | false => rw [order_self k x hn, fv_some.2 ⟨hn, rfl⟩]; rfl

/-- every significand of the format, at every place from the least on, is a rung's value -/
theorem exists_rung (f : Format) : ∀ (t K : Nat), K < 2 * f.binade → ∃ r, un f r = K * 2 ^ t := by
  intro t
  induction t with
  | zero =>
    intro K hK
    refine ⟨0 * f.binade + K, ?_⟩
    exact units_carry f 0 K (by omega) (.inl rfl)
  | succ t ih =>
    intro K hK
    by_cases h : f.binade ≤ K
    · exact ⟨(t + 1) * f.binade + K, units_carry f (t + 1) K (by omega) (.inr h)⟩
    · obtain ⟨r, hr⟩ := ih (2 * K) (by omega)
      exact ⟨r, by rw [hr, Nat.pow_succ, Nat.mul_comm (2 ^ t) 2, ← Nat.mul_assoc, Nat.mul_comm K 2]⟩

theorem exq_single {r : Nat} (h : r < single.infRung) : exq single r ≤ 253 := by
  have e2 : single.infRung = 2139095040 := rfl
  have e3 : single.binade = 8388608 := rfl
  rw [e2] at h
  unfold exq
  rw [e3]
  split <;> omega

/-- the rung that a float32's rung comes to as a float64 -/
theorem widen_rung {r : Nat} (h : r < single.infRung) : ∃ r', r' < double.infRung ∧ un double r' = un single r * 2 ^ 925 := by
  have hs := sig_lt single r
  have he := exq_single h
  have e3 : single.binade = 8388608 := rfl
  have e4 : double.binade = 4503599627370496 := rfl
  obtain ⟨r', hr'⟩ := exists_rung double (exq single r + 925) (sig single r) (by omega)
  have hu : un double r' = un single r * 2 ^ 925 := by rw [hr', Nat.pow_add, ← Nat.mul_assoc]; rfl
  have e5 : double.fractionBits + (2 ^ double.exponentBits - 2) = 2098 := rfl
  refine ⟨r', rung_lt_inf double (by decide) r' (24 + (exq single r + 925)) ?_ (by omega), hu⟩
  show un double r' ≤ _
  rw [hr', Nat.pow_add 2 24]
  exact Nat.mul_le_mul_right _ (by omega)

/-- a finite float32 as a float64: its sign, its value -/
theorem widen_exact {b : Nat} (h : b % single.signWeight < single.infRung) : ∃ r', r' < double.infRung ∧ un double r' = un single (b % single.signWeight) * 2 ^ 925 ∧
    floatToFloatBits .f32 b .f64 = some (double.word (b / single.signWeight % 2 == 1) r') := by
  obtain ⟨r', h1, h2⟩ := widen_rung h
  refine ⟨r', h1, h2, ?_⟩
  have hd : FloatKind.f32.decode b = .number (b / single.signWeight % 2 == 1) (sig single (b % single.signWeight)) (single.leastPlace + (exq single (b % single.signWeight) : Nat)) := read_rung single b h
  have hw : double.nearest (b / single.signWeight % 2 == 1) (sig single (b % single.signWeight)) (single.leastPlace + (exq single (b % single.signWeight) : Nat)) = double.word (b / single.signWeight % 2 == 1) r' := by
    refine nearest_exact double _ _ _ r' h1 (x := exq single (b % single.signWeight) + 925) (y := 0) ?_ ?_
    · have a1 : single.leastPlace = -149 := rfl
      have a2 : double.leastPlace = -1074 := rfl
      omega
    · rw [h2, Nat.pow_add, ← Nat.mul_assoc, Nat.pow_zero, Nat.mul_one]; rfl
  unfold floatToFloatBits
  rw [if_neg (by decide), hd]
  simp only []
  have he : FloatKind.f64.encode (.number (b / single.signWeight % 2 == 1) (sig single (b % single.signWeight)) (single.leastPlace + (exq single (b % single.signWeight) : Nat))) = double.word (b / single.signWeight % 2 == 1) r' := hw
  rw [he]
  have hi : (FloatKind.f64.decode (double.word (b / single.signWeight % 2 == 1) r')).isInfinity = false := by
    show (double.read _).isInfinity = false
    rw [read_word double _ r' h1]; rfl
  rw [hi]; rfl

/-- and back again -/
theorem narrow_back {b : Nat} (hb : b < 2 ^ 32) {r' : Nat} (h : b % single.signWeight < single.infRung) (h1 : r' < double.infRung) (h2 : un double r' = un single (b % single.signWeight) * 2 ^ 925) :
    floatToFloatBits .f64 (double.word (b / single.signWeight % 2 == 1) r') .f32 = some b := by
  have hd : FloatKind.f64.decode (double.word (b / single.signWeight % 2 == 1) r') = .number (b / single.signWeight % 2 == 1) (sig double r') (double.leastPlace + (exq double r' : Nat)) := read_word double _ r' h1
  have hw : single.nearest (b / single.signWeight % 2 == 1) (sig double r') (double.leastPlace + (exq double r' : Nat)) = single.word (b / single.signWeight % 2 == 1) (b % single.signWeight) := by
    refine nearest_exact single _ _ _ _ h (x := exq double r') (y := 925) ?_ ?_
    · have a1 : single.leastPlace = -149 := rfl
      have a2 : double.leastPlace = -1074 := rfl
      omega
    · rw [← h2]; rfl
  unfold floatToFloatBits
  rw [if_neg (by decide), hd]
  simp only []
  have he : FloatKind.f32.encode (.number (b / single.signWeight % 2 == 1) (sig double r') (double.leastPlace + (exq double r' : Nat))) = b := by
    show single.nearest _ _ _ = b
    rw [hw]; exact (word_of single b hb).symm
  rw [he]
  have hi : (FloatKind.f32.decode b).isInfinity = false := by
    show (single.read _).isInfinity = false
    rw [read_rung single b h]; rfl
  rw [hi]; rfl

theorem widen_inf {b : Nat} (h : b % single.signWeight = single.infRung) : floatToFloatBits .f32 b .f64 = some (double.word (b / single.signWeight % 2 == 1) double.infRung) := by
  have hd : FloatKind.f32.decode b = .infinity (b / single.signWeight % 2 == 1) := by
    show single.read b = _
    unfold Format.read
    dsimp only
    have := binade_le_infRung single (by decide)
    rw [if_neg (by omega), if_neg (by omega), if_pos h]
  unfold floatToFloatBits
  rw [if_neg (by decide), hd]; rfl

/-! signs, equality, the least normal number -/

theorem sign_single {b : Nat} (h : b < 4294967296) : (b / single.signWeight % 2 == 1) = decide (2147483648 ≤ b) := by
  have e : single.signWeight = 2147483648 := rfl
  rw [e, Bool.eq_iff_iff]
  simp only [beq_iff_eq, decide_eq_true_eq]
  omega

theorem word_sign (s : Bool) {r : Nat} (h : r ≤ double.infRung) : (9223372036854775808 ≤ double.word s r) ↔ s = true := by
  have e : double.signWeight = 9223372036854775808 := rfl
  have e2 : double.infRung = 9218868437227405312 := rfl
  unfold Format.word
  rw [e]
  cases s <;> simp <;> omega

theorem word_abs (s : Bool) {r : Nat} (h : r ≤ double.infRung) : double.word s r % 9223372036854775808 = r := by
  have e : double.signWeight = 9223372036854775808 := rfl
  have := infRung_lt double
  rw [← e]; exact word_mod double s r (by omega)

/-- a float32 that is no NaN, as a float64: its sign and a rung -/
theorem widen_word {b : Nat} (hb : b < 4294967296) (hn : (FloatKind.f32.decode b).isNaN = false) : ∃ r', r' ≤ double.infRung ∧ cvf .f32 .f64 (fv .f32 b) = some (double.word (decide (2147483648 ≤ b)) r') ∧
    (b % 2147483648 < single.infRung → r' < double.infRung ∧ un double r' = un single (b % 2147483648) * 2 ^ 925) ∧ (b % 2147483648 = single.infRung → r' = double.infRung) := by
  have e : single.signWeight = 2147483648 := rfl
  have hle := rung_le_of_not_nan single (by decide) b hn
  have hfv : fv .f32 b = some b := fv_some.2 ⟨hn, rfl⟩
  rw [hfv, ← sign_single hb]
  rcases Nat.lt_or_eq_of_le hle with h | h
  · obtain ⟨r', h1, h2, h3⟩ := widen_exact h
    exact ⟨r', by omega, h3, fun _ => ⟨h1, h2⟩, fun h' => by rw [e] at h; omega⟩
  · exact ⟨_, Nat.le_refl _, widen_inf h, fun h' => by rw [e] at h; omega, fun _ => rfl⟩

theorem order_pos_lt (f : Format) (he : 0 < f.exponentBits) {r r' : Nat} (h : r ≤ f.infRung) (h' : r' ≤ f.infRung) : (f.order r r' == some .lt) = decide (r < r') := by
  have e := order_pos f he r r' h h'
  unfold Format.word at e
  simp only [Bool.false_eq_true, if_false] at e
  rw [e]
  simp only [compare, compareOfLessAndEq]
  by_cases h : r < r'
  · simp [h]
  · rw [if_neg h]
    by_cases h2 : r = r'
    · simp [h2]
    · simp [h2]; omega

theorem shift_lt (a b n : Nat) : a * 2 ^ n < b * 2 ^ n ↔ a < b := ⟨fun h => Nat.lt_of_mul_lt_mul_right h, fun h => Nat.mul_lt_mul_of_pos_right h (Nat.two_pow_pos _)⟩

theorem pow_shift (a b c d : Nat) (h : a + b = c + d) : 2 ^ a * 2 ^ b = 2 ^ c * 2 ^ d := by rw [← Nat.pow_add, ← Nat.pow_add, h]

/-- nearer to 0 than 2 ^ -126: told by the bits -/
theorem subnormal_bits {b r : Nat} (hb : b < 4294967296) (hr : RV .f64 (cvf .f32 .f64 (fv .f32 b)) r) (hn : (FloatKind.f32.decode b).isNaN = false) :
    (FloatKind.f64.format.order (r % 9223372036854775808) 4039728865751334912 == some .lt) = decide (b % 2147483648 < 8388608) := by
  obtain ⟨r', h1, h2, h3, h4⟩ := widen_word hb hn
  have hr1 : r = double.word (decide (2147483648 ≤ b)) r' := by
    have := hr.1
    rw [h2] at this
    exact (fv_some.1 this).2
  rw [hr1, word_abs _ h1]
  have e2 : double.infRung = 9218868437227405312 := rfl
  have e5 : single.infRung = 2139095040 := rfl
  have e6 : single.signWeight = 2147483648 := rfl
  have hc : (4039728865751334912 : Nat) ≤ double.infRung := by omega
  have ho : (FloatKind.f64.format.order r' 4039728865751334912 == some .lt) = decide (r' < 4039728865751334912) := order_pos_lt double (by decide) h1 hc
  rw [ho, decide_eq_decide]
  have hle := rung_le_of_not_nan single (by decide) b hn
  rw [e6] at hle
  rcases Nat.lt_or_eq_of_le hle with h | h
  · obtain ⟨h5, h6⟩ := h3 h
    have s1 : sig double 4039728865751334912 = 2 ^ 52 := rfl
    have s2 : exq double 4039728865751334912 = 896 := rfl
    have u1 : un double 4039728865751334912 = 2 ^ 23 * 2 ^ 925 := by unfold un; rw [s1, s2]; exact pow_shift 52 896 23 925 rfl
    have s3 : sig single 8388608 = 2 ^ 23 := rfl
    have s4 : exq single 8388608 = 0 := rfl
    have u2 : un single 8388608 = 2 ^ 23 := by unfold un; rw [s3, s4, Nat.pow_zero, Nat.mul_one]
    have k1 : r' < 4039728865751334912 ↔ un double r' < un double 4039728865751334912 := by
      constructor
      · exact un_lt double
      · intro h; refine Nat.lt_of_not_le fun h' => ?_
        have := (un_le_iff double _ _).2 h'; omega
    have k2 : b % 2147483648 < 8388608 ↔ un single (b % 2147483648) < un single 8388608 := by
      constructor
      · exact un_lt single
      · intro h; refine Nat.lt_of_not_le fun h' => ?_
        have := (un_le_iff single _ _).2 h'; omega
    generalize (925 : Nat) = n at h6 u1
    rw [k1, k2, u1, u2, h6]
    exact shift_lt _ _ _
  · rw [h4 h]
    omega

theorem order_eq_same {f : Format} (he : 0 < f.exponentBits) {x y : Nat} (hx : x < 2 ^ f.width) (hy : y < 2 ^ f.width) (nx : (f.read x).isNaN = false) (ny : (f.read y).isNaN = false)
    (hs : (x / f.signWeight % 2 == 1) = (y / f.signWeight % 2 == 1)) : (f.order x y == some .eq) = (x == y) := by
  have hx1 := word_of f x hx
  have hy1 := word_of f y hy
  have rx := rung_le_of_not_nan f he x nx
  have ry := rung_le_of_not_nan f he y ny
  rw [Bool.eq_iff_iff, beq_iff_eq, beq_iff_eq]
  constructor
  · intro h
    rw [hx1, hy1, hs] at h
    have : x % f.signWeight = y % f.signWeight := by
      cases hb : (y / f.signWeight % 2 == 1)
      · rw [hb, order_pos f he _ _ rx ry] at h; exact compare_eq (Option.some.inj h)
      · rw [hb, order_neg f he _ _ rx ry] at h; exact (compare_eq (Option.some.inj h)).symm
    rw [hx1, hy1, hs, this]
  · intro h
    subst h
    have : ∀ k : FloatKind, k.format = f → f.order x x = some .eq := by
      intro k hk; subst hk; exact order_self k x nx
    unfold Format.order
    cases hd : f.read x with
    | nan s t => rw [hd] at nx; cases nx
    | infinity s => cases s <;> rfl
    | number s m e =>
      unfold Datum.order
      simp only []
      congr 1
      simp only [compare, compareOfLessAndEq]
      simp

theorem u64_abs (r : Nat) (h : r < 18446744073709551616) : bits .andNot .u64 (r : Int) 9223372036854775808 = ((r % 9223372036854775808 : Nat) : Int) := by
  have := u64_andNot_nat r 9223372036854775808 h (by decide)
  rw [show ((9223372036854775808 : Nat) : Int) = 9223372036854775808 from rfl] at this
  rw [this]
  have e : 18446744073709551615 - 9223372036854775808 = 2 ^ 63 - 1 := by decide
  rw [e, Nat.and_two_pow_sub_one_eq_mod]

theorem i64_and_nat (a b : Nat) (ha : a < 9223372036854775808) (hb : b < 9223372036854775808) : bits .and .i64 (a : Int) (b : Int) = ((a &&& b : Nat) : Int) := by
  have hab : a &&& b ≤ a := Nat.and_le_left
  have key : (BitVec.ofInt 64 (a : Int) &&& BitVec.ofInt 64 (b : Int)).toNat = a &&& b := by
    rw [BitVec.toNat_and, BitVec.toNat_ofInt, BitVec.toNat_ofInt]
    congr 1 <;> omega
  show IntKind.i64.wrap ((BitVec.ofInt 64 (a : Int) &&& BitVec.ofInt 64 (b : Int)).toNat : Nat) = _
  rw [key, IntKind.wrap_i64]
  omega

/-- the exponent's bits of a float32 -/
theorem and_exponent (a : Nat) (ha : a < 4294967296) : (bits .and .i64 (a : Int) 2139095040 == 0) = decide (a % 2147483648 < 8388608) := by
  have h := i64_and_nat a 2139095040 (by omega) (by decide)
  rw [show ((2139095040 : Nat) : Int) = 2139095040 from rfl] at h
  have e : a &&& 2139095040 = (a / 8388608 % 256) * 8388608 := by
    have e1 : (2139095040 : Nat) = (2 ^ 8 - 1) * 2 ^ 23 := by decide
    have e2 : a &&& 2139095040 = (a / 2 ^ 23 &&& (2 ^ 8 - 1)) * 2 ^ 23 := by
      apply Nat.eq_of_testBit_eq
      intro i
      rw [Nat.testBit_and, e1, Nat.testBit_mul_two_pow, Nat.testBit_mul_two_pow, Nat.testBit_and, Nat.testBit_div_two_pow]
      by_cases hi : 23 ≤ i
      · simp [hi]
      · simp [hi]
    rw [e2, Nat.and_two_pow_sub_one_eq_mod]
  rw [h, e, Bool.eq_iff_iff]
  simp only [beq_iff_eq, decide_eq_true_eq]
  omega

section
variable {P : Program} {o : Oper} {a : Act} {w : World} {K : Act → World → Prop} {Q : Exit → Act → World → Prop}
/-- float64(x) of a float32 -/
theorem upon_widen {s t : TypeId} {b : Nat} (hs : P.underlying s = some (.float .f32)) (hd : P.underlying t = some (.float .f64)) (hw : b < 4294967296)
    (h : ∀ r n, RV .f64 (cvf .f32 .f64 (fv .f32 b)) r → K (a.put o.dst (.float .f64 r)) (w.drewN n)) :
    Oper.upon P o a K Q ((Sem.run P (convert s t (.float .f32 b)) w).andThen fun a w' => Result.ok (Next.value a) w') :=
  upon_fcv (by rw [hs]; rfl) hd hw (fits_widen b) h
/-- float32(x) of a float64, where it fits -/
theorem upon_narrow {s t : TypeId} {b : Nat} (hs : P.underlying s = some (.float .f64)) (hd : P.underlying t = some (.float .f32)) (hw : b < 18446744073709551616) (hf : FitsF .f64 .f32 (fv .f64 b))
    (h : ∀ r n, RV .f32 (cvf .f64 .f32 (fv .f64 b)) r → K (a.put o.dst (.float .f32 r)) (w.drewN n)) :
    Oper.upon P o a K Q ((Sem.run P (convert s t (.float .f64 b)) w).andThen fun a w' => Result.ok (Next.value a) w') :=
  upon_fcv (by rw [hs]; rfl) hd hw hf h
end

end Go.Proofs.YtiabbafmjgiobaaGreatDoor.Fl

/-
Complex numbers: conversions part by part, as laws for the walk.
-/
namespace Go.Proofs.YtiabbafmjgiobaaGreatDoor.Fl
open Go Ieee

section
variable {P : Program} {o : Oper} {a : Act} {w : World} {K : Act → World → Prop} {Q : Exit → Act → World → Prop}

theorem run_ff (P : Program) (w : World) {k d : FloatKind} {bx : Nat} (hw : bx < 2 ^ k.format.width) (hf : FitsF k d (fv k bx)) :
    ∃ r n, RV d (cvf k d (fv k bx)) r ∧ (Conv.floatToFloat k bx d).run P w = .ok (.float d r) (w.drewN n) := by
  by_cases he : k = d
  · subst he
    refine ⟨bx, 0, ⟨?_, hw⟩, run_floatToFloat w (by simp [floatToFloatBits])⟩
    unfold cvf fv
    split <;> simp [floatToFloatBits]
  · by_cases hn : (k.decode bx).isNaN = true
    · have e : fv k bx = none := fv_none.2 hn
      rw [e]
      refine ⟨(Question.nanConv d bx).cut (w.tape w.drawn (.nanConv d bx)), 1, rv_nanConv d bx _, ?_⟩
      cases hdd : k.decode bx <;> simp [hdd, Datum.isNaN] at hn
      simp [Conv.floatToFloat, he, hdd, Question.forced] <;> rfl
    · have e : fv k bx = some bx := by unfold fv; rw [if_neg hn]
      rw [e] at hf ⊢
      obtain ⟨r, hr⟩ := Option.isSome_iff_exists.1 (hf bx rfl)
      refine ⟨r, 0, ⟨?_, ?_⟩, run_floatToFloat w hr⟩
      · show fv d r = floatToFloatBits k bx d
        rw [hr]
        unfold floatToFloatBits at hr
        rw [if_neg he] at hr
        split at hr
        · cases hr
        · cases hr; exact write_fv d rfl
        · split at hr
          · cases hr
          · cases hr; exact write_fv d rfl
      · have hw' : (Lit.float k bx).wf = true := wf_of_lt k bx hw
        exact wf_lt (floatToFloatBits_wf hw' hr)

theorem run_ccv (P : Program) (w : World) {s t : TypeId} {k d : FloatKind} {x y : Nat} (hs : (P.underlying s).isSome = true) (hd : P.underlying t = some (.complex d))
    (hx : x < 2 ^ k.format.width) (hy : y < 2 ^ k.format.width) (fx : FitsF k d (fv k x)) (fy : FitsF k d (fv k y)) :
    ∃ r q n, RV d (cvf k d (fv k x)) r ∧ RV d (cvf k d (fv k y)) q ∧ (convert s t (.complex k x y)).run P w = .ok (.complex d r q) (w.drewN n) := by
  obtain ⟨r, n, hr, h1⟩ := run_ff P w hx fx
  obtain ⟨q, m, hq, h2⟩ := run_ff P (w.drewN n) hy fy
  refine ⟨r, q, n + m, hr, hq, ?_⟩
  obtain ⟨u, hs'⟩ := Option.isSome_iff_exists.1 hs
  cases u <;> simp [convert, run_underlying hs', run_underlying hd, Conv.complexToComplex, h1, h2]

theorem upon_ccv {s t : TypeId} {k d : FloatKind} {x y : Nat} (hs : (P.underlying s).isSome = true) (hd : P.underlying t = some (.complex d))
    (hx : x < 2 ^ k.format.width) (hy : y < 2 ^ k.format.width) (fx : FitsF k d (fv k x)) (fy : FitsF k d (fv k y))
    (h : ∀ r q n, RV d (cvf k d (fv k x)) r → RV d (cvf k d (fv k y)) q → K (a.put o.dst (.complex d r q)) (w.drewN n)) :
    Oper.upon P o a K Q ((Sem.run P (convert s t (.complex k x y)) w).andThen fun a w' => Result.ok (Next.value a) w') := by
  obtain ⟨r, q, n, hr, hq, hrun⟩ := run_ccv P w hs hd hx hy fx fy
  rw [hrun]
  exact h r q n hr hq

/-- a conversion whose two parts are known -/
theorem upon_cto {s t : TypeId} {k d : FloatKind} {x y r q : Nat} (hs : (P.underlying s).isSome = true) (hd : P.underlying t = some (.complex d))
    (h1 : floatToFloatBits k x d = some r) (h2 : floatToFloatBits k y d = some q)
    (h : K (a.put o.dst (.complex d r q)) w) :
    Oper.upon P o a K Q ((Sem.run P (convert s t (.complex k x y)) w).andThen fun a w' => Result.ok (Next.value a) w') := by
  rw [run_convert_complex w s t k d x y r q hs hd (by unfold cConvBits; rw [h1]; simp only [Option.bind_some]; rw [h2]; rfl)]
  exact h
end

end Go.Proofs.YtiabbafmjgiobaaGreatDoor.Fl

/-
Contracts of the small functions on floats: what each gives, as a function of the value of its arguments.
-/
namespace Go.Proofs.YtiabbafmjgiobaaGreatDoor
open Fl

/-- a bool; the world is as it was but for draws -/
def RB (b : Bool) (w : World) (e : Ending) (w' : World) : Prop := e = .returned (.bool b) ∧ ∃ n, w' = w.drewN n
/-- an integer; the world is as it was but for draws -/
def RI (i : Int) (w : World) (e : Ending) (w' : World) : Prop := e = .returned (.int .i64 i) ∧ ∃ n, w' = w.drewN n
/-- a float of a value -/
def RF (k : FloatKind) (v : Option Nat) (w : World) (e : Ending) (w' : World) : Prop := ∃ r, RV k v r ∧ e = .returned (.float k r) ∧ ∃ n, w' = w.drewN n

@[go_sem] theorem x_f32bits (b : Nat) (w : World) : (callFunc 56 #[.float .f32 b]).run Tryz.prog w = .ok (.value (.int .u32 b)) w := by
  rw [run_callFunc_extern Tryz.func56 (by kernel_rfl) (by kernel_rfl) (by kernel_rfl) (e := Extern.MathFloatBits.float32bits) (by kernel_rfl)]; rfl
@[go_sem] theorem x_f64bits (b : Nat) (w : World) : (callFunc 82 #[.float .f64 b]).run Tryz.prog w = .ok (.value (.int .u64 b)) w := by
  rw [run_callFunc_extern Tryz.func82 (by kernel_rfl) (by kernel_rfl) (by kernel_rfl) (e := Extern.MathFloatBits.float64bits) (by kernel_rfl)]; rfl
@[go_sem] theorem x_f64from (b : Int) (w : World) : (callFunc 81 #[.int .u64 b]).run Tryz.prog w = .ok (.value (.float .f64 b.toNat)) w := by
  rw [run_callFunc_extern Tryz.func81 (by kernel_rfl) (by kernel_rfl) (by kernel_rfl) (e := Extern.MathFloatBits.float64frombits) (by kernel_rfl)]; rfl

def isFin (a : Option Nat) : Bool := ordf .f32 (opf .sub .f32 a a) (some 0) == some .eq

theorem c_l01Finite (x : Nat) (w : World) : Calls Tryz.prog 62 #[.float .f32 x] w (RB (isFin (fv .f32 x)) w) := by
  go_enter Tryz.func62, Tryz.ntmps62
  go_wp2_with ((with_reducible refine upon_fbin ?_ ?_); exact rfl; intro r n hr)
  go_ret
  exact ⟨by rw [order_fv, hr.1]; rfl, _, rfl⟩
theorem c_specIsFinite (x : Nat) (w : World) : Calls Tryz.prog 27 #[.float .f32 x] w (RB (isFin (fv .f32 x)) w) := by
  go_enter Tryz.func27, Tryz.ntmps27
  go_wp2_with (go_at_call 62; refine (c_l01Finite _ _).mono ?_; rintro e w' ⟨rfl, n, rfl⟩)
  go_ret
  exact ⟨rfl, _, rfl⟩
theorem c_implIsFinite (x : Nat) (w : World) : Calls Tryz.prog 61 #[.float .f32 x] w (RB (isFin (fv .f32 x)) w) := by
  go_enter Tryz.func61, Tryz.ntmps61
  go_wp2_with ((with_reducible refine upon_fbin ?_ ?_); exact rfl; intro r n hr)
  go_ret
  exact ⟨by rw [order_fv, hr.1]; rfl, _, rfl⟩

theorem ret_bool {a b : Bool} (h : a = b) : Ending.returned (.bool a) = .returned (.bool b) := by rw [h]
theorem ret_int {k : IntKind} {a b : Int} (h : a = b) : Ending.returned (.int k a) = .returned (.int k b) := by rw [h]

/-- the bits that are told of a float32 -/
def bitsOf (x : Nat) : Int := if (fv .f32 x).isSome then (x : Int) else 2143289344

theorem ne_self (k : FloatKind) (x : Nat) : (k.format.order x x != some .eq) = !(fv k x).isSome := by
  unfold bne
  rw [order_fv, ordf_self k _ ⟨x, rfl⟩]
theorem rv64 {v : Option Nat} {r : Nat} (h : RV .f64 v r) : r < 18446744073709551616 := h.2
theorem rv32 {v : Option Nat} {r : Nat} (h : RV .f32 v r) : r < 4294967296 := h.2
theorem wf32 {x : Nat} (h : (Lit.float .f32 x).wf = true) : x < 4294967296 := wf_lt h
theorem wf64 {x : Nat} (h : (Lit.float .f64 x).wf = true) : x < 18446744073709551616 := wf_lt h

theorem c_l01Bits (x : Nat) (hx : x < 4294967296) (w : World) : Calls Tryz.prog 69 #[.float .f32 x] w fun e w' => e = .returned (.int .i64 (bitsOf x)) ∧ w = w' := by
  have hn := ne_self .f32 x
  unfold bitsOf
  cases h : (fv .f32 x).isSome
  · rw [h] at hn
    clear h
    go_enter Tryz.func69, Tryz.ntmps69
    go_wp2
    go_ret
    exact ⟨rfl, rfl⟩
  · rw [h] at hn
    clear h
    go_enter Tryz.func69, Tryz.ntmps69
    go_wp2
    go_ret
    exact ⟨rfl, rfl⟩
theorem c_implBitsOf (x : Nat) (hx : x < 4294967296) (w : World) : Calls Tryz.prog 21 #[.float .f32 x] w fun e w' => e = .returned (.int .i64 (bitsOf x)) ∧ w = w' := by
  have hn := ne_self .f32 x
  unfold bitsOf
  cases h : (fv .f32 x).isSome
  · rw [h] at hn
    clear h
    go_enter Tryz.func21, Tryz.ntmps21
    go_wp2
    go_ret
    exact ⟨rfl, rfl⟩
  · rw [h] at hn
    clear h
    go_enter Tryz.func21, Tryz.ntmps21
    go_wp2
    go_ret
    exact ⟨rfl, rfl⟩

/-- two float32 are the same number -/
def sameV (x y : Nat) : Bool := bitsOf x == bitsOf y
theorem c_l01Same (x y : Nat) (hx : x < 4294967296) (hy : y < 4294967296) (w : World) : Calls Tryz.prog 43 #[.float .f32 x, .float .f32 y] w fun e w' => e = .returned (.bool (sameV x y)) ∧ w = w' := by
  go_enter Tryz.func43, Tryz.ntmps43
  go_wp2_with (go_at_call 69; refine (c_l01Bits _ (by first | exact hx | exact hy) _).mono ?_; rintro e w' ⟨rfl, rfl⟩)
  go_ret
  exact ⟨rfl, rfl⟩
theorem c_specSameNumber (x y : Nat) (hx : x < 4294967296) (hy : y < 4294967296) (w : World) : Calls Tryz.prog 10 #[.float .f32 x, .float .f32 y] w fun e w' => e = .returned (.bool (sameV x y)) ∧ w = w' := by
  go_enter Tryz.func10, Tryz.ntmps10
  go_wp2_with (go_at_call 43; refine (c_l01Same _ _ hx hy _).mono ?_; rintro e w' ⟨rfl, rfl⟩)
  go_ret
  exact ⟨rfl, rfl⟩
theorem c_signbit (r : Nat) (hr : r < 18446744073709551616) (w : World) : Calls Tryz.prog 80 #[.float .f64 r] w fun e w' => e = .returned (.bool (decide (9223372036854775808 ≤ r))) ∧ w = w' := by
  go_enter Tryz.func80, Tryz.ntmps80
  go_wp2
  go_ret
  refine ⟨ret_bool ?_, rfl⟩
  rw [decide_eq_decide]
  unfold RowKit.wrap64
  omega
theorem c_abs (r : Nat) (hr : r < 18446744073709551616) (w : World) : Calls Tryz.prog 65 #[.float .f64 r] w fun e w' => e = .returned (.float .f64 (r % 9223372036854775808)) ∧ w = w' := by
  have ha := u64_abs r hr
  go_enter Tryz.func65, Tryz.ntmps65
  go_wp2
  go_ret
  exact ⟨rfl, rfl⟩

/-- spec's test on the exponent's bits -/
def subV (x : Nat) : Bool := (fv .f32 x).isSome && decide (0 < x % 2147483648) && decide (x % 2147483648 < 8388608)

theorem neq_zero (x : Nat) (hx : x < 4294967296) : (FloatKind.f32.format.order x 0 != some .eq) = !((fv .f32 x).isSome && decide (x % 2147483648 = 0)) := by
  by_cases hn : (FloatKind.f32.decode x).isNaN = true
  · rw [order_fv, fv_none.2 hn]; rfl
  · have hn' : (FloatKind.f32.decode x).isNaN = false := by simpa using hn
    rw [fv_some.2 ⟨hn', rfl⟩]
    have e : Ieee.single.signWeight = 2147483648 := rfl
    have hle := rung_le_of_not_nan Ieee.single (by decide) x hn'
    have hw := word_of Ieee.single x hx
    rw [e] at hle hw
    unfold bne
    simp only [Option.isSome_some, Bool.true_and]
    congr 1
    have ho : FloatKind.f32.format.order x 0 = some (compare (if (x / 2147483648 % 2 == 1) then -(un Ieee.single (x % 2147483648) : Int) else (un Ieee.single (x % 2147483648) : Int)) 0) ∨ x % 2147483648 = Ieee.single.infRung := by
      rcases Nat.lt_or_eq_of_le hle with h | h
      · refine .inl ?_
        have hr := read_rung Ieee.single x (by rw [e]; exact h)
        rw [e] at hr
        have h0 : Ieee.single.read 0 = .number false (sig Ieee.single 0) (Ieee.single.leastPlace + (exq Ieee.single 0 : Nat)) := rfl
        show (Ieee.single.read x).order (Ieee.single.read 0) = _
        rw [hr, h0, order_number]
        rfl
      · exact .inr h
    rcases ho with ho | ho
    · rw [ho]
      have hu : un Ieee.single (x % 2147483648) = 0 ↔ x % 2147483648 = 0 := by
        constructor
        · intro h; exact un_inj Ieee.single (h.trans (un_small Ieee.single (by decide)).symm)
        · intro h; rw [h]; rfl
      rw [Bool.eq_iff_iff]
      simp only [beq_iff_eq, decide_eq_true_eq, Option.some.injEq]
      rw [← hu]
      generalize un Ieee.single (x % 2147483648) = u
      simp only [compare, compareOfLessAndEq]
      split <;> split <;> simp <;> omega
    · have hd : (decide (x % 2147483648 = 0)) = false := by rw [ho]; rfl
      rw [hd]
      show ((Ieee.single.read x).order (Ieee.single.read 0) == some .eq) = false
      rw [hw, ho, read_inf Ieee.single _ (by decide)]
      cases (x / 2147483648 % 2 == 1) <;> rfl


theorem abs_nan (r : Nat) (c : Nat) (h : fv .f64 r = none) : (FloatKind.f64.format.order (r % 9223372036854775808) c == some .lt) = false := by
  have h1 := fv_none.1 h
  have h2 : (FloatKind.f64.decode (r % 9223372036854775808)).isNaN = true := by
    have e : Ieee.double.signWeight = 9223372036854775808 := rfl
    show (Ieee.double.read _).isNaN = true
    have h3 : (Ieee.double.read r).isNaN = true := h1
    unfold Ieee.Format.read at h3 ⊢
    dsimp only at h3 ⊢
    rw [e] at h3 ⊢
    rw [Nat.mod_mod]
    split at h3
    · cases h3
    · rw [if_neg (by assumption)]
      split at h3
      · cases h3
      · rw [if_neg (by assumption)]
        split at h3
        · cases h3
        · rw [if_neg (by assumption)]; rfl
  rw [order_fv, fv_none.2 h2]; rfl

theorem c_implIsSubnormal (x : Nat) (hx : x < 4294967296) (w : World) : Calls Tryz.prog 33 #[.float .f32 x] w (RB (subV x) w) := by
  have hz := neq_zero x hx
  have key : ∀ r, RV .f64 (cvf .f32 .f64 (fv .f32 x)) r → (FloatKind.f64.format.order (r % 9223372036854775808) 4039728865751334912 == some .lt) = ((fv .f32 x).isSome && decide (x % 2147483648 < 8388608)) := by
    intro r hr
    by_cases hn : (FloatKind.f32.decode x).isNaN = true
    · rw [fv_none.2 hn] at hr ⊢
      exact abs_nan r _ hr.1
    · have hn' : (FloatKind.f32.decode x).isNaN = false := by simpa using hn
      rw [subnormal_bits hx hr hn', fv_some.2 ⟨hn', rfl⟩]; rfl
  unfold subV
  cases h : (fv .f32 x).isSome <;> rw [h] at hz key
  · have KEY : RowKit.Hid _ := key
    clear key
    clear h
    go_enter Tryz.func33, Tryz.ntmps33
    go_wp2_with (first | ((with_reducible refine upon_widen Tryz.underlying28 Tryz.underlying46 hx ?_); intro r n hr) | (go_at_call 65; refine (c_abs _ (rv64 hr) _).mono ?_; rintro e w' ⟨rfl, rfl⟩))
    go_ret
    exact ⟨ret_bool (KEY.out _ (by assumption)), _, rfl⟩
  · have KEY : RowKit.Hid _ := key
    clear key h
    by_cases h0 : x % 2147483648 = 0
    · rw [decide_eq_true h0] at hz
      have e : (true && decide (0 < x % 2147483648) && decide (x % 2147483648 < 8388608)) = false := by rw [h0]; rfl
      rw [e]
      clear h0 e
      go_enter Tryz.func33, Tryz.ntmps33
      go_wp2_with (first | ((with_reducible refine upon_widen Tryz.underlying28 Tryz.underlying46 hx ?_); intro r n hr) | (go_at_call 65; refine (c_abs _ (rv64 hr) _).mono ?_; rintro e w' ⟨rfl, rfl⟩))
      go_ret
      exact ⟨rfl, 0, rfl⟩
    · rw [decide_eq_false h0] at hz
      have e : (true && decide (0 < x % 2147483648) && decide (x % 2147483648 < 8388608)) = (true && decide (x % 2147483648 < 8388608)) := by rw [decide_eq_true (by omega)]; rfl
      rw [e]
      clear h0 e
      go_enter Tryz.func33, Tryz.ntmps33
      go_wp2_with (first | ((with_reducible refine upon_widen Tryz.underlying28 Tryz.underlying46 hx ?_); intro r n hr) | (go_at_call 65; refine (c_abs _ (rv64 hr) _).mono ?_; rintro e w' ⟨rfl, rfl⟩))
      go_ret
      exact ⟨ret_bool (KEY.out _ (by assumption)), _, rfl⟩

theorem word_sign_b (s : Bool) {r : Nat} (h : r ≤ Ieee.double.infRung) : decide (9223372036854775808 ≤ Ieee.double.word s r) = s := by
  have := word_sign s h
  cases s <;> simp_all

theorem bits_ne_nan {x : Nat} (h : (FloatKind.f32.decode x).isNaN = false) : ((2143289344 : Int) == (x : Int)) = false ∧ ((x : Int) == (2143289344 : Int)) = false := by
  have hne : x ≠ 2143289344 := by intro e; subst e; revert h; decide
  constructor
  · rw [beq_eq_false_iff_ne]; omega
  · rw [beq_eq_false_iff_ne]; omega

theorem c_implSameNumber (x y : Nat) (hx : x < 4294967296) (hy : y < 4294967296) (w : World) : Calls Tryz.prog 60 #[.float .f32 x, .float .f32 y] w (RB (sameV x y) w) := by
  have hnx := ne_self .f32 x
  have hny := ne_self .f32 y
  unfold sameV bitsOf
  by_cases nx : (FloatKind.f32.decode x).isNaN = true
  · rw [fv_none.2 nx] at hnx ⊢
    by_cases ny : (FloatKind.f32.decode y).isNaN = true
    · rw [fv_none.2 ny] at hny ⊢
      clear nx ny
      go_enter Tryz.func60, Tryz.ntmps60
      go_wp2_with fail
      go_ret
      exact ⟨rfl, 0, rfl⟩
    · have ny' : (FloatKind.f32.decode y).isNaN = false := by simpa using ny
      have hb := (bits_ne_nan ny').1
      rw [fv_some.2 ⟨ny', rfl⟩] at hny ⊢
      clear nx ny ny'
      go_enter Tryz.func60, Tryz.ntmps60
      go_wp2_with fail
      go_ret
      exact ⟨ret_bool (by first | rfl | (simp; done) | (simp [hb]; done)), 0, rfl⟩
  · have nx' : (FloatKind.f32.decode x).isNaN = false := by simpa using nx
    rw [fv_some.2 ⟨nx', rfl⟩] at hnx ⊢
    by_cases ny : (FloatKind.f32.decode y).isNaN = true
    · rw [fv_none.2 ny] at hny ⊢
      have hb := (bits_ne_nan nx').2
      clear nx ny nx'
      go_enter Tryz.func60, Tryz.ntmps60
      go_wp2_with fail
      go_ret
      exact ⟨ret_bool (by first | rfl | (simp; done) | (simp [hb]; done)), 0, rfl⟩
    · have ny' : (FloatKind.f32.decode y).isNaN = false := by simpa using ny
      rw [fv_some.2 ⟨ny', rfl⟩] at hny ⊢
      have key : ∀ r r', RV .f64 (cvf .f32 .f64 (fv .f32 x)) r → RV .f64 (cvf .f32 .f64 (fv .f32 y)) r' → (FloatKind.f32.format.order x y == some .eq) = true → (decide (9223372036854775808 ≤ r) == decide (9223372036854775808 ≤ r')) = ((x : Int) == (y : Int)) := by
        intro r r' hr hr' ho
        obtain ⟨a, a1, a2, _, _⟩ := widen_word hx nx'
        obtain ⟨b, b1, b2, _, _⟩ := widen_word hy ny'
        have e1 : r = _ := (fv_some.1 (hr.1.trans a2)).2
        have e2 : r' = _ := (fv_some.1 (hr'.1.trans b2)).2
        rw [e1, e2, word_sign_b _ a1, word_sign_b _ b1]
        rw [Bool.eq_iff_iff]
        simp only [beq_iff_eq]
        constructor
        · intro hs
          have h2 := order_eq_same (f := Ieee.single) (by decide) hx hy nx' ny' (by rw [sign_single hx, sign_single hy]; exact hs)
          have h3 : (x == y) = true := h2.symm.trans ho
          have : x = y := by simpa using h3
          omega
        · intro hs
          have : x = y := by omega
          rw [this]
      have KEY : RowKit.Hid _ := key
      clear key
      cases ho : (FloatKind.f32.format.order x y == some .eq)
      · have hb : ((x : Int) == (y : Int)) = false := by
          rw [beq_eq_false_iff_ne]
          intro e
          have e' : x = y := by omega
          subst e'
          rw [order_self .f32 x nx'] at ho
          cases ho
        clear nx ny nx' ny' KEY
        go_enter Tryz.func60, Tryz.ntmps60
        go_wp2_with fail
        go_ret
        exact ⟨ret_bool (by first | rfl | (simp; done) | (simp [hb]; done)), 0, rfl⟩
      · clear nx ny nx' ny'
        go_enter Tryz.func60, Tryz.ntmps60
        go_wp2_with (first | ((with_reducible refine upon_widen Tryz.underlying28 Tryz.underlying46 hx ?_); intro r n hr) | ((with_reducible refine upon_widen Tryz.underlying28 Tryz.underlying46 hy ?_); intro r' n hr') | (go_at_call 80; refine (c_signbit _ (by first | exact rv64 (by assumption)) _).mono ?_; rintro e w' ⟨rfl, rfl⟩))
        go_ret
        exact ⟨ret_bool (KEY.out _ _ (by assumption) (by assumption) ho), _, rfl⟩

end Go.Proofs.YtiabbafmjgiobaaGreatDoor

/-
Doubles that are finite: their operations give one result, without a draw; bounds.
-/
namespace Go.Proofs.YtiabbafmjgiobaaGreatDoor.Fl
open Go Ieee

/-- a finite double -/
def Fnt (x : Nat) : Prop := ∃ s m e, double.read x = .number s m e
/-- a finite double that is not zero -/
def NZ (x : Nat) : Prop := ∃ s m e, double.read x = .number s m e ∧ m ≠ 0
/-- a double of at most '2 ^ n' -/
def Bd (x : Nat) (n : Int) : Prop := x < 18446744073709551616 ∧ Le2 (double.read x) n

theorem Bd.fin {x : Nat} {n : Int} (h : Bd x n) : Fnt x := by
  obtain ⟨_, s, m, e, j, hd, _, _⟩ := h
  exact ⟨s, m, e, hd⟩
theorem Bd.mono {x : Nat} {n n' : Int} (h : Bd x n) (hn : n ≤ n') : Bd x n' := ⟨h.1, h.2.mono hn⟩
theorem NZ.fin {x : Nat} (h : NZ x) : Fnt x := by obtain ⟨s, m, e, h, _⟩ := h; exact ⟨s, m, e, h⟩
theorem Fnt.fv {x : Nat} (h : Fnt x) : fv .f64 x = some x := by
  obtain ⟨s, m, e, h⟩ := h
  refine fv_some.2 ⟨?_, rfl⟩
  show (double.read x).isNaN = false
  rw [h]; rfl

def fadd (x y : Nat) : Nat := (floatBits .add .f64 x y).getD 0
def fsub (x y : Nat) : Nat := (floatBits .sub .f64 x y).getD 0
def fmul (x y : Nat) : Nat := (floatBits .mul .f64 x y).getD 0
def fdiv (x y : Nat) : Nat := (floatBits .quo .f64 x y).getD 0

theorem add_ok {x y : Nat} (hx : Fnt x) (hy : Fnt y) : floatBits .add .f64 x y = some (fadd x y) := by
  obtain ⟨s, m, e, hx⟩ := hx
  obtain ⟨t, n, i, hy⟩ := hy
  unfold fadd
  have : (floatBits .add .f64 x y).isSome = true := by
    show (((double.read x).sum (double.read y)).map _).isSome = true
    rw [hx, hy]; rfl
  obtain ⟨r, hr⟩ := Option.isSome_iff_exists.1 this
  rw [hr]; rfl
theorem sub_ok {x y : Nat} (hx : Fnt x) (hy : Fnt y) : floatBits .sub .f64 x y = some (fsub x y) := by
  obtain ⟨s, m, e, hx⟩ := hx
  obtain ⟨t, n, i, hy⟩ := hy
  unfold fsub
  have : (floatBits .sub .f64 x y).isSome = true := by
    show (((double.read x).sum (double.read y).opposite).map _).isSome = true
    rw [hx, hy]; rfl
  obtain ⟨r, hr⟩ := Option.isSome_iff_exists.1 this
  rw [hr]; rfl
theorem mul_ok {x y : Nat} (hx : Fnt x) (hy : Fnt y) : floatBits .mul .f64 x y = some (fmul x y) := by
  obtain ⟨s, m, e, hx⟩ := hx
  obtain ⟨t, n, i, hy⟩ := hy
  unfold fmul
  have : (floatBits .mul .f64 x y).isSome = true := by
    show (((double.read x).product (double.read y)).map _).isSome = true
    rw [hx, hy]; rfl
  obtain ⟨r, hr⟩ := Option.isSome_iff_exists.1 this
  rw [hr]; rfl
theorem div_ok {x y : Nat} (hx : Fnt x) (hy : NZ y) : floatBits .quo .f64 x y = some (fdiv x y) := by
  obtain ⟨s, m, e, hx⟩ := hx
  obtain ⟨t, n, i, hy, hn⟩ := hy
  unfold fdiv
  have : (floatBits .quo .f64 x y).isSome = true := by
    show (((double.read x).quotient _ (double.read y)).map _).isSome = true
    rw [hx, hy]
    unfold Datum.quotient
    simp only [if_neg hn]
    rfl
  obtain ⟨r, hr⟩ := Option.isSome_iff_exists.1 this
  rw [hr]; rfl

section
variable {P : Program} (w : World) (t : TypeId)
@[go_sem] theorem run_fadd {x y : Nat} (hx : Fnt x) (hy : Fnt y) : (binOp .add t (.float .f64 x) (.float .f64 y)).run P w = .ok (.float .f64 (fadd x y)) w := run_float_arith w _ t _ _ _ _ (add_ok hx hy)
@[go_sem] theorem run_fsub {x y : Nat} (hx : Fnt x) (hy : Fnt y) : (binOp .sub t (.float .f64 x) (.float .f64 y)).run P w = .ok (.float .f64 (fsub x y)) w := run_float_arith w _ t _ _ _ _ (sub_ok hx hy)
@[go_sem] theorem run_fmul {x y : Nat} (hx : Fnt x) (hy : Fnt y) : (binOp .mul t (.float .f64 x) (.float .f64 y)).run P w = .ok (.float .f64 (fmul x y)) w := run_float_arith w _ t _ _ _ _ (mul_ok hx hy)
@[go_sem] theorem run_fdiv {x y : Nat} (hx : Fnt x) (hy : NZ y) : (binOp .quo t (.float .f64 x) (.float .f64 y)).run P w = .ok (.float .f64 (fdiv x y)) w := run_float_arith w _ t _ _ _ _ (div_ok hx hy)
end

@[go_sem] theorem unary_neg_float (k : FloatKind) (b : Nat) : Op.unary .neg (.float k b) = pure (.float k (Op.negFloat k b)) := rfl

theorem write_bd {d : Datum} {n : Int} (h : Le2 d n) (h1 : -1074 ≤ n) (h2 : n < 1024) : Bd (double.write d) n :=
  ⟨double.write_lt d, le2_write double good_double d n h (by exact h1) (by exact h2)⟩

theorem bd_add {x y : Nat} {n : Int} (hx : Bd x n) (hy : Bd y n) (h1 : -1074 ≤ n + 1 := by omega) (h2 : n + 1 < 1024 := by omega) : Bd (fadd x y) (n + 1) := by
  obtain ⟨p, hp, hb⟩ := le2_sum hx.2 hy.2
  have : fadd x y = double.write p := by
    show ((((double.read x).sum (double.read y)).map double.write).getD 0) = _
    rw [hp]; rfl
  rw [this]; exact write_bd hb h1 h2
theorem bd_sub {x y : Nat} {n : Int} (hx : Bd x n) (hy : Bd y n) (h1 : -1074 ≤ n + 1 := by omega) (h2 : n + 1 < 1024 := by omega) : Bd (fsub x y) (n + 1) := by
  obtain ⟨p, hp, hb⟩ := le2_sum hx.2 (le2_opposite hy.2)
  have : fsub x y = double.write p := by
    show ((((double.read x).sum (double.read y).opposite).map double.write).getD 0) = _
    rw [hp]; rfl
  rw [this]; exact write_bd hb h1 h2
theorem bd_mul {x y : Nat} {n m : Int} (hx : Bd x n) (hy : Bd y m) (h1 : -1074 ≤ n + m := by omega) (h2 : n + m < 1024 := by omega) : Bd (fmul x y) (n + m) := by
  obtain ⟨p, hp, hb⟩ := le2_product hx.2 hy.2
  have : fmul x y = double.write p := by
    show ((((double.read x).product (double.read y)).map double.write).getD 0) = _
    rw [hp]; rfl
  rw [this]; exact write_bd hb h1 h2
theorem ge2_nz {y : Nat} {c : Int} (h : Ge2 (double.read y) c) : NZ y := by
  obtain ⟨s, m, e, j, hd, hm, _⟩ := h
  exact ⟨s, m, e, hd, by have := Nat.two_pow_pos j; omega⟩
theorem bd_div {x y : Nat} {n c : Int} (hx : Bd x n) (hy : Ge2 (double.read y) c) (h1 : -1074 ≤ n - c := by omega) (h2 : n - c < 1024 := by omega) : Bd (fdiv x y) (n - c) := by
  obtain ⟨p, hp, hb⟩ := le2_quotient (double.fractionBits + 2) hx.2 hy
  have : fdiv x y = double.write p := by
    show ((((double.read x).quotient (double.fractionBits + 2) (double.read y)).map double.write).getD 0) = _
    rw [hp]; rfl
  rw [this]; exact write_bd hb h1 h2

/-- a double that is not too great fits a float32 -/
theorem fits_bd {x : Nat} (h : Bd x 127) : FitsF .f64 .f32 (fv .f64 x) := by
  intro y hy
  obtain ⟨hn, rfl⟩ := fv_some.1 hy
  have hd : Le2 (FloatKind.f64.decode x) 127 := h.2
  have hw := le2_write single good_single _ 127 hd (by decide) (by decide)
  obtain ⟨s, m, e, j, hd', _, _⟩ := hd
  unfold floatToFloatBits
  rw [if_neg (by decide)]
  rw [hd'] at hw ⊢
  have h2 : (FloatKind.f32.decode (FloatKind.f32.encode (.number s m e))).isInfinity = false := (le2_number hw).1
  simp only [h2]; rfl

theorem neg_read {x : Nat} (hx : x < 18446744073709551616) {s : Bool} {m : Nat} {e : Int} (h : double.read x = .number s m e) : double.read (Op.negFloat .f64 x) = .number (!s) m e ∧ Op.negFloat .f64 x < 18446744073709551616 := by
  have e1 : double.signWeight = 9223372036854775808 := rfl
  have hx2 : x < 2 ^ 64 := hx
  have hlt : x ^^^ 2 ^ 63 < 2 ^ 64 := Nat.xor_lt_two_pow hx2 (by decide)
  have hneg : Op.negFloat .f64 x = x ^^^ 2 ^ 63 := rfl
  have hmod : (x ^^^ 2 ^ 63) % 9223372036854775808 = x % 9223372036854775808 := by
    have : (x ^^^ 2 ^ 63) % 2 ^ 63 = x % 2 ^ 63 ^^^ 2 ^ 63 % 2 ^ 63 := Nat.xor_mod_two_pow
    rw [Nat.mod_self, Nat.xor_zero] at this
    exact this
  have hdiv : (x ^^^ 2 ^ 63) / 9223372036854775808 % 2 = 1 - x / 9223372036854775808 % 2 := by
    have h1 : (x ^^^ 2 ^ 63) / 2 ^ 63 = x / 2 ^ 63 ^^^ 2 ^ 63 / 2 ^ 63 := Nat.xor_div_two_pow
    have h2 : x / 2 ^ 63 < 2 := by omega
    have h3 : (2 : Nat) ^ 63 / 2 ^ 63 = 1 := by decide
    rw [h3] at h1
    have h4 : x / 9223372036854775808 = x / 2 ^ 63 := rfl
    have h5 : (x ^^^ 2 ^ 63) / 9223372036854775808 = x / 2 ^ 63 ^^^ 1 := h1
    rw [h4, h5]
    have : x / 2 ^ 63 = 0 ∨ x / 2 ^ 63 = 1 := by omega
    rcases this with h | h <;> rw [h] <;> decide
  refine ⟨?_, by rw [hneg]; exact hlt⟩
  rw [hneg]
  unfold Format.read at h ⊢
  dsimp only at h ⊢
  rw [e1] at h ⊢
  rw [hmod, hdiv]
  have hb : ((1 - x / 9223372036854775808 % 2 == 1) : Bool) = !(x / 9223372036854775808 % 2 == 1) := by
    have : x / 9223372036854775808 % 2 = 0 ∨ x / 9223372036854775808 % 2 = 1 := by omega
    rcases this with h | h <;> rw [h] <;> rfl
  split at h
  · rename_i c
    rw [if_pos c]
    injection h with h1 h2 h3
    rw [hb, h1, h2, h3]
  · rename_i c
    rw [if_neg c]
    split at h
    · rename_i c'
      rw [if_pos c']
      injection h with h1 h2 h3
      rw [hb, h1, h2, h3]
    · split at h <;> cases h

theorem bd_neg {x : Nat} {n : Int} (h : Bd x n) : Bd (Op.negFloat .f64 x) n := by
  obtain ⟨hx, s, m, e, j, hd, hm, hn⟩ := h
  obtain ⟨h1, h2⟩ := neg_read hx hd
  exact ⟨h2, _, _, _, j, h1, hm, hn⟩

theorem fits_inf {x : Nat} {s : Bool} (h : double.read x = .infinity s) : FitsF .f64 .f32 (some x) := by
  intro y hy
  obtain rfl := Option.some.inj hy
  have hd : FloatKind.f64.decode x = .infinity s := h
  unfold floatToFloatBits
  rw [if_neg (by decide), hd]; rfl

theorem root_true (n m : Nat) (i : Int) : Datum.root n (.number true m i) = if m = 0 then some (.number true m i) else none := by
  unfold Datum.root
  simp

/-- a finite float32 as a float64 is below 2 ^ 128 -/
theorem widen_bd {x y : Nat} (h : cvf .f32 .f64 (fv .f32 x) = some y) (hy : Fnt y) : Bd y 128 := by
  unfold cvf at h
  cases hf : fv .f32 x with
  | none => rw [hf] at h; cases h
  | some z =>
    obtain ⟨hn, rfl⟩ := fv_some.1 hf
    rw [hf] at h
    have h' : floatToFloatBits .f32 x .f64 = some y := h
    unfold floatToFloatBits at h'
    rw [if_neg (by decide)] at h'
    cases hd : FloatKind.f32.decode x with
    | nan s t => rw [hd] at hn; cases hn
    | infinity s =>
      rw [hd] at h'
      have e : y = double.write (.infinity s) := (Option.some.inj h').symm
      obtain ⟨a, b, c, hr⟩ := hy
      rw [e] at hr
      have := read_inf double s (by decide)
      have h3 : double.read (double.write (.infinity s)) = .infinity s := this
      rw [h3] at hr; cases hr
    | number s m e =>
      rw [hd] at h'
      simp only [] at h'
      split at h'
      · cases h'
      · have e2 : y = double.write (.number s m e) := (Option.some.inj h').symm
        rw [e2]
        exact write_bd (le2_single hd) (by decide) (by decide)

/-- the root of a float32 fits a float32 -/
theorem fits_root {x : Nat} (hx : x < 4294967296) : FitsF .f64 .f32 (sqf (cvf .f32 .f64 (fv .f32 x))) := by
  by_cases hn : (FloatKind.f32.decode x).isNaN = true
  · rw [fv_none.2 hn]
    intro y hy; cases hy
  have hn' : (FloatKind.f32.decode x).isNaN = false := by simpa using hn
  obtain ⟨r', h1, h2, h3, h4⟩ := widen_word hx hn'
  rw [h2]
  show FitsF .f64 .f32 (((double.read (double.word _ r')).root (double.fractionBits + 2)).map double.write)
  have e6 : single.signWeight = 2147483648 := rfl
  have hle := rung_le_of_not_nan single (by decide) x hn'
  rw [e6] at hle
  rcases Nat.lt_or_eq_of_le hle with h | h
  · obtain ⟨h5, h6⟩ := h3 h
    rw [read_word double _ r' h5]
    cases hs : decide (2147483648 ≤ x)
    · have hle2 : Le2 (.number false (sig double r') (double.leastPlace + (exq double r' : Nat))) 128 := by
        have := (widen_bd h2 ⟨_, _, _, read_word double _ r' h5⟩).2
        rw [read_word double _ r' h5, hs] at this
        exact this
      obtain ⟨p, hp, hb, m', e', rfl⟩ := le2_root (double.fractionBits + 2) hle2 (N := 65) (by omega) (by
        intro h0
        have h00 := sig_zero double h0
        rw [h00]
        show double.leastPlace + ((exq double 0 : Nat) : Int) ≤ 65
        decide)
      rw [hp]
      have hb2 : Bd (double.write (.number false m' e')) 65 := write_bd hb (by decide) (by decide)
      have hf := fits_bd (hb2.mono (by decide : (65 : Int) ≤ 127))
      rw [hb2.fin.fv] at hf
      exact hf
    · rw [root_true]
      by_cases h0 : sig double r' = 0
      · have h00 := sig_zero double h0
        subst h00
        have hz : sig double 0 = 0 := rfl
        rw [if_pos hz]
        have hb2 : Bd (double.write (.number true (sig double 0) (double.leastPlace + (exq double 0 : Nat)))) 0 := write_bd ⟨_, _, _, 0, rfl, by decide, by decide⟩ (by decide) (by decide)
        have hf := fits_bd (hb2.mono (by decide : (0 : Int) ≤ 127))
        rw [hb2.fin.fv] at hf
        exact hf
      · rw [if_neg h0]
        intro y hy; cases hy
  · rw [h4 h, read_inf double _ (by decide)]
    cases hs : decide (2147483648 ≤ x)
    · show FitsF .f64 .f32 (some (double.write (.infinity false)))
      exact fits_inf (read_inf double false (by decide))
    · intro y hy; cases hy

end Go.Proofs.YtiabbafmjgiobaaGreatDoor.Fl

/-
Contracts: sameFloat on two floats of one value; conversions from bits; the root.
-/
namespace Go.Proofs.YtiabbafmjgiobaaGreatDoor
open Fl Go.RowKit

theorem below_n {B : Nat} {a w : World} (h : Below B a w) (n : Nat) : Below B a (w.drewN n) := h.trans ⟨rfl, rfl, rfl, Nat.le_refl _, fun _ _ => rfl⟩
/-- what a law's walk ends in -/
def Law (w : World) (e : Ending) (w' : World) : Prop := e = .returned (.bool true) ∧ Below w.heap.size w w'

@[go_sem] theorem cv64 (b : Nat) (w : World) : (convert 46 46 (.float .f64 b)).run Tryz.prog w = .ok (.float .f64 b) w :=
  run_convert_float_float w _ _ _ _ b b (by rw [Tryz.underlying46]; rfl) Tryz.underlying46 (by simp [floatToFloatBits])
@[go_sem] theorem cv32 (b : Nat) (w : World) : (convert 28 28 (.float .f32 b)).run Tryz.prog w = .ok (.float .f32 b) w :=
  run_convert_float_float w _ _ _ _ b b (by rw [Tryz.underlying28]; rfl) Tryz.underlying28 (by simp [floatToFloatBits])

theorem Fl.RV.same {k : FloatKind} {v : Option Nat} {r r' : Nat} (h : RV k v r) (h' : RV k v r') : fv k r = fv k r' := h.1.trans h'.1.symm
theorem cmp_same {k : FloatKind} {v : Option Nat} {r r' : Nat} (h : RV k v r) (h' : RV k v r') (c : Nat) (o : Option Ordering) : (k.format.order r c == o) = (k.format.order r' c == o) := by
  rw [order_fv, order_fv k r', h.1, h'.1]


set_option maxRecDepth 100000 in
@[go_sem] theorem x_f32from (b : Int) (w : World) : (callFunc 55 #[.int .u32 b]).run Tryz.prog w = .ok (.value (.float .f32 b.toNat)) w := by
  rw [run_callFunc_extern Tryz.func55 (by kernel_rfl) (by kernel_rfl) (by kernel_rfl) (e := Extern.MathFloatBits.float32frombits) (by kernel_rfl)]; rfl
set_option maxRecDepth 100000 in
theorem x_sqrt (x : Nat) (w : World) : (callFunc 70 #[.float .f64 x]).run Tryz.prog w = ((Extern.MathSqrt.sqrt #[.float .f64 x]).run Tryz.prog w).andThen fun v w' => .ok (.value v) w' := by
  rw [run_callFunc_extern Tryz.func70 (by kernel_rfl) (by kernel_rfl) (by kernel_rfl) (e := Extern.MathSqrt.sqrt) (by kernel_rfl)]
set_option maxRecDepth 100000 in
theorem x_sqrt_any (x : Nat) (w : World) : ∃ r n, RV .f64 (sqf (fv .f64 x)) r ∧ (callFunc 70 #[.float .f64 x]).run Tryz.prog w = .ok (.value (.float .f64 r)) (w.drewN n) := by
  rw [x_sqrt, ← sqrt_fv]
  have e : Extern.MathSqrt.sqrt #[.float .f64 x] = (match FloatKind.f64.format.sqrt x with | some r => pure (.float .f64 r) | none => do pure (.float .f64 (← choose (.nanBits .f64 x x)))) := rfl
  rw [e]
  cases h : FloatKind.f64.format.sqrt x with
  | some r =>
    refine ⟨r, 0, ⟨sqrt_val h, FloatKind.f64.format.sqrt_lt h⟩, ?_⟩
    rfl
  | none =>
    refine ⟨(Question.nanBits .f64 x x).cut (w.tape w.drawn (.nanBits .f64 x x)), 1, rv_nanBits .f64 x x _, ?_⟩
    simp [Question.forced]
    rfl
set_option maxRecDepth 100000 in
theorem upon_sqrt {o : Oper} {a : Act} {w : World} {K : Act → World → Prop} {Q : Exit → Act → World → Prop} {x : Nat}
    (h : ∀ r n, RV .f64 (sqf (fv .f64 x)) r → K (a.put o.dst (.float .f64 r)) (w.drewN n)) : Oper.upon Tryz.prog o a K Q ((callFunc 70 #[.float .f64 x]).run Tryz.prog w) := by
  obtain ⟨r, n, hr, hrun⟩ := x_sqrt_any x w
  rw [hrun]
  exact h r n hr
set_option maxRecDepth 100000 in
theorem c_sqrt (x : Nat) (w : World) : Calls Tryz.prog 44 #[.float .f64 x] w (RF .f64 (sqf (fv .f64 x)) w) := by
  go_enter Tryz.func44, Tryz.ntmps44
  go_wp2_with ((with_reducible refine upon_sqrt ?_); intro r n hr)
  go_ret
  exact ⟨r, hr, rfl, n, rfl⟩

end Go.Proofs.YtiabbafmjgiobaaGreatDoor

/-
Contracts and walks of the laws on FromBits, RootNumber and FlushNumber.
-/
namespace Go.Proofs.YtiabbafmjgiobaaGreatDoor
open Fl Go.RowKit

/-- a number within bounds -/
def inV (n a b : Int) : Bool := decide (a ≤ n) && decide (n ≤ b)
theorem c_within (n a b : Int) (w : World) : Calls Tryz.prog 54 #[.int .i64 n, .int .i64 a, .int .i64 b] w fun e w' => e = .returned (.bool (inV n a b)) ∧ w = w' := by
  unfold inV
  by_cases h1 : a ≤ n
  · go_enter Tryz.func54, Tryz.ntmps54
    go_wp2
    go_ret
    exact ⟨by first | rfl | exact ret_bool (by rw [decide_eq_true h1]; rfl) | exact ret_bool (by rw [decide_eq_false (by omega)]; rfl), rfl⟩
  · go_enter Tryz.func54, Tryz.ntmps54
    go_wp2
    go_ret
    exact ⟨by first | rfl | exact ret_bool (by rw [decide_eq_true h1]; rfl) | exact ret_bool (by rw [decide_eq_false (by omega)]; rfl), rfl⟩

theorem c_l01From (n : Int) (h0 : 0 ≤ n) (h1 : n ≤ 4294967295) (w : World) : Calls Tryz.prog 52 #[.int .i64 n] w fun e w' => e = .returned (.float .f32 n.toNat) ∧ w = w' := by
  go_enter Tryz.func52, Tryz.ntmps52
  go_wp2
  go_ret
  exact ⟨rfl, rfl⟩

def fromV (n : Int) : Array Value := if inV n 0 4294967295 then #[.float .f32 n.toNat, .bool true] else #[.float .f32 0, .bool false]

theorem c_implFromBits (n : Int) (w : World) : Calls Tryz.prog 20 #[.int .i64 n] w fun e w' => e = .returned (.tuple (fromV n)) ∧ w = w' := by
  unfold fromV
  cases hi : inV n 0 4294967295
  · go_enter Tryz.func20, Tryz.ntmps20
    go_wp2_with (go_at_call 54; refine (c_within _ _ _ _).mono ?_; rw [hi]; rintro e w' ⟨rfl, rfl⟩)
    go_ret2
    exact ⟨rfl, rfl⟩
  · obtain ⟨h0, h1⟩ : 0 ≤ n ∧ n ≤ 4294967295 := by unfold inV at hi; simpa using hi
    go_enter Tryz.func20, Tryz.ntmps20
    go_wp2_with (go_at_call 54; refine (c_within _ _ _ _).mono ?_; rw [hi]; rintro e w' ⟨rfl, rfl⟩)
    go_ret2
    exact ⟨rfl, rfl⟩

theorem lt_f32 {n : Int} (h0 : 0 ≤ n) (h1 : n ≤ 4294967295) : n.toNat < 4294967296 := by omega


end Go.Proofs.YtiabbafmjgiobaaGreatDoor

/-
Hexadecimal digits: plain part; the digits of a number in the reference.
-/
set_option linter.unusedVariables false
set_option linter.unusedSimpArgs false
namespace Go.Proofs.YtiabbafmjgiobaaGreatDoor
open Fl Go Go.RowKit

/-- a hexadecimal digit -/
def hd (d : Nat) : UInt8 := if d < 10 then UInt8.ofNat (48 + d) else UInt8.ofNat (87 + d)
/-- the lowest hexadecimal digits of a number -/
def hxL : Nat → Nat → List UInt8
  | _, 0 => []
  | n, k + 1 => hxL (n / 16) k ++ [hd (n % 16)]
theorem hxL_len (n k : Nat) : (hxL n k).length = k := by
  induction k generalizing n with
  | zero => rfl
  | succ k ih => simp [hxL, ih]
theorem hxL_top (n k : Nat) : hxL n (k + 1) = hd (n / 16 ^ k % 16) :: hxL n k := by
  induction k generalizing n with
  | zero => simp [hxL]
  | succ k ih =>
    rw [hxL, ih (n / 16), hxL, Nat.div_div_eq_div_mul, Nat.pow_succ, Nat.mul_comm 16]
    rfl
theorem hxL_zero (n k : Nat) (h : n < 16 ^ k) (j : Nat) : hxL n (j + k) = List.replicate j 48 ++ hxL n k := by
  induction j with
  | zero => simp
  | succ j ih =>
    rw [show j + 1 + k = (j + k) + 1 by omega, hxL_top, ih, Nat.div_eq_of_lt (Nat.lt_of_lt_of_le h (Nat.pow_le_pow_right (by decide) (by omega)))]
    rfl
/-- the bits of a number, as a natural number -/
def nb (x : Nat) : Nat := (bitsOf x).toNat
theorem nb_eq {x : Nat} : bitsOf x = (nb x : Int) := by
  unfold nb bitsOf
  split
  · rfl
  · rfl
theorem nb_lt {x : Nat} (h : x < 4294967296) : nb x < 4294967296 := by
  unfold nb bitsOf
  split
  · simpa using h
  · decide
/-- the 8 digits of a number -/
def hex8 (x : Nat) : List UInt8 := hxL (nb x) 8

def hxS : ByteArray := ⟨#[48, 49, 50, 51, 52, 53, 54, 55, 56, 57, 97, 98, 99, 100, 101, 102]⟩
theorem hxS_at : ∀ d : Fin 16, hxS.data.toList[d.val]? = some (hd d.val) := by decide +kernel

theorem hxS_get (d : Nat) (h : d < 16) : hxS.data.toList[d]? = some (hd d) := hxS_at ⟨d, h⟩
theorem hx_byte (d : Nat) (h : d < 16) : (⟨#[48, 49, 50, 51, 52, 53, 54, 55, 56, 57, 97, 98, 99, 100, 101, 102]⟩ : ByteArray)[d]'h = hd d := by
  have := hxS_get d h
  rw [List.getElem?_eq_getElem (by exact h)] at this
  exact Option.some.inj this
theorem own_pos {w : World} {base : Nat} {t : TypeId} {n : Nat} {v : Value} {xs : List Value} (h : w.ownsRow base t 1 v n xs) (hp : 0 < n) : ∃ g c, v = .slice (some ⟨g, 0, none⟩) n c := by
  rcases h.2 with ⟨_, h0⟩ | ⟨g, cap, cur, hv, _⟩
  · omega
  · exact ⟨g, cap, hv⟩
theorem and15_i64 (m : Nat) (hm : m < 4294967296) : bits .and .i64 (m : Int) 15 = ((m % 16 : Nat) : Int) := by
  have h := i64_and_nat m 15 (by omega) (by decide)
  rw [show ((15 : Nat) : Int) = 15 from rfl] at h
  rw [h, show (15 : Nat) = 2 ^ 4 - 1 from rfl, Nat.and_two_pow_sub_one_eq_mod]
theorem hxL_up (n : Nat) {i : Nat} (h : i < 8) : hxL (n / 2 ^ (28 - 4 * i)) (i + 1) = hxL (n / 2 ^ (32 - 4 * i)) i ++ [hd (n / 2 ^ (28 - 4 * i) % 16)] := by
  rw [hxL, Nat.div_div_eq_div_mul, show (16 : Nat) = 2 ^ 4 from rfl, ← Nat.pow_add, show 28 - 4 * i + 4 = 32 - 4 * i by omega]
/-- the reference's list of digits under way -/
structure HS (w : World) (n : Nat) (i : Nat) (g cap : Nat) (wr : World) : Prop where
  own : wr.ownsRow w.heap.size 5 1 (.slice (some ⟨g, 0, none⟩) i cap) i ((hxL (n / 2 ^ (32 - 4 * i)) i).map byteV)
  bel : Below w.heap.size w wr


end Go.Proofs.YtiabbafmjgiobaaGreatDoor

/-
Contracts of Go's library at this program, in plain words (written by the kit's lay-shelf and lay-plain, the parts that are used here). No condition.
-/
namespace Go.Proofs
open Go.Shelf
def Tryz.laysM173_ren : Go.Shelf.Ren := ⟨fun | 173 => 72 | 246 => 84 | 283 => 94 | 284 => 95 | 285 => 96 | 286 => 97 | 129 => 113 | 317 => 112 | 318 => 114 | 319 => 115 | 320 => 116 | 337 => 126 | 338 => 127 | n => n, fun | 2 => 2 | 3 => 3 | 9 => 9 | 4 => 4 | 171 => 117 | 0 => 0 | 53 => 85 | 37 => 22 | 5 => 5 | 173 => 120 | 212 => 137 | 51 => 79 | 20 => 20 | 213 => 138 | 46 => 102 | 232 => 156 | 233 => 157 | n => n, fun | 17 => 1 | 18 => 5 | 19 => 6 | n => n⟩
theorem Tryz.laysM173 : Go.Proofs.LaysM.n173 Tryz.prog Tryz.laysM173_ren := {
  mixed := by kernel_rfl
  f129 := Tryz.func113.trans (congrArg some (by kernel_rfl))
  f173 := Tryz.func72.trans (congrArg some (by kernel_rfl))
  f246 := Tryz.func84.trans (congrArg some (by kernel_rfl))
  f283 := Tryz.func94.trans (congrArg some (by kernel_rfl))
  f284 := Tryz.func95.trans (congrArg some (by kernel_rfl))
  f285 := Tryz.func96.trans (congrArg some (by kernel_rfl))
  f286 := Tryz.func97.trans (congrArg some (by kernel_rfl))
  f317 := Tryz.func112.trans (congrArg some (by kernel_rfl))
  f318 := Tryz.func114.trans (congrArg some (by kernel_rfl))
  f319 := Tryz.func115.trans (congrArg some (by kernel_rfl))
  f320 := Tryz.func116.trans (congrArg some (by kernel_rfl))
  f337 := Tryz.func126.trans (congrArg some (by kernel_rfl))
  f338 := Tryz.func127.trans (congrArg some (by kernel_rfl))
  t0 := Tryz.underlying0
  a0 := Tryz.isAgg0
  z0 := Tryz.sizeOf0
  v0 := Tryz.zeroValue0
  t2 := Tryz.underlying2
  a2 := Tryz.isAgg2
  z2 := Tryz.sizeOf2
  v2 := Tryz.zeroValue2
  t3 := Tryz.underlying3
  a3 := Tryz.isAgg3
  z3 := Tryz.sizeOf3
  v3 := Tryz.zeroValue3
  t4 := Tryz.underlying4
  a4 := Tryz.isAgg4
  z4 := Tryz.sizeOf4
  v4 := Tryz.zeroValue4
  t5 := Tryz.underlying5
  a5 := Tryz.isAgg5
  z5 := Tryz.sizeOf5
  v5 := Tryz.zeroValue5
  t9 := Tryz.underlying9
  a9 := Tryz.isAgg9
  z9 := Tryz.sizeOf9
  v9 := Tryz.zeroValue9
  t20 := Tryz.underlying20
  a20 := Tryz.isAgg20
  z20 := Tryz.sizeOf20
  v20 := Tryz.zeroValue20
  t37 := Tryz.underlying22
  a37 := Tryz.isAgg22
  z37 := Tryz.sizeOf22
  v37 := Tryz.zeroValue22
  t46 := Tryz.underlying102
  a46 := Tryz.isAgg102
  z46 := Tryz.sizeOf102
  v46 := Tryz.zeroValue102
  t51 := Tryz.underlying79
  a51 := Tryz.isAgg79
  z51 := Tryz.sizeOf79
  v51 := Tryz.zeroValue79
  t53 := Tryz.underlying85
  a53 := Tryz.isAgg85
  z53 := Tryz.sizeOf85
  v53 := Tryz.zeroValue85
  t171 := Tryz.underlying117
  a171 := Tryz.isAgg117
  z171 := Tryz.sizeOf117
  v171 := Tryz.zeroValue117
  t173 := Tryz.underlying120
  a173 := Tryz.isAgg120
  z173 := Tryz.sizeOf120
  v173 := Tryz.zeroValue120
  t212 := Tryz.underlying137
  a212 := Tryz.isAgg137
  z212 := Tryz.sizeOf137
  v212 := Tryz.zeroValue137
  t213 := Tryz.underlying138
  a213 := Tryz.isAgg138
  z213 := Tryz.sizeOf138
  t232 := Tryz.underlying156
  a232 := Tryz.isAgg156
  z232 := Tryz.sizeOf156
  v232 := Tryz.zeroValue156
  t233 := Tryz.underlying157
  a233 := Tryz.isAgg157
  z233 := Tryz.sizeOf157
  v233 := Tryz.zeroValue157
  g17 := by kernel_rfl
  g18 := by kernel_rfl
  g19 := by kernel_rfl
  i0 := by kernel_rfl
  i2 := by kernel_rfl
  i3 := by kernel_rfl
  i4 := by kernel_rfl
  i5 := by kernel_rfl
  i9 := by kernel_rfl
  i20 := by kernel_rfl
  i37 := by kernel_rfl
  i46 := by kernel_rfl
  i51 := by kernel_rfl
  i53 := by kernel_rfl
  i171 := by kernel_rfl
  i173 := by kernel_rfl
  i212 := by kernel_rfl
  i232 := by kernel_rfl
  i233 := by kernel_rfl
  m17 := by kernel_rfl
  m18 := by kernel_rfl
  m19 := by kernel_rfl }
open Go.RowKit Go.Sort Go.Lib in
theorem Tryz.strconv_FormatInt_10 (n : Int) (h0 : -9223372036854775808 ≤ n) (h1 : n ≤ 9223372036854775807) (w : World) (htab : Lib.TabIs Tryz.prog w "internal/strconv.uint64pow10" .u64 Lib.pow10Tab) :
    Calls Tryz.prog 72 #[.int .i64 n, .int .i64 10] w fun e w' => e = .returned (.string ⟨(Lib.itoa n).toArray⟩) ∧ ∃ k os, w' = grow (w.drewN k) os := Any.strconv_FormatInt_10 Tryz.laysM173 n h0 h1 w htab
end Go.Proofs

/-
Decimal texts: both packages; the law on Decimal.
-/
set_option linter.unusedVariables false
set_option linter.unusedSimpArgs false
namespace Go.Proofs.YtiabbafmjgiobaaGreatDoor
open Go Go.RowKit

def LawD (w : World) (e : Ending) (w' : World) : Prop := e = .returned (.bool true) ∧ Below w.heap.size w w'
/-- the table of powers of ten -/
def Tab10 (w : World) : Prop := Lib.TabIs Tryz.prog w "internal/strconv.uint64pow10" .u64 Lib.pow10Tab
theorem gTab : Tryz.prog.globalNamed "internal/strconv.uint64pow10" = some 1 := by kernel_rfl
theorem Tab10.keep {w w' : World} (h : Tab10 w) (hb : Below w.heap.size w w') : Tab10 w' := by
  unfold Tab10 Lib.TabIs at *
  unfold World.var? at *
  rw [gTab] at *
  simp only [Option.bind_eq_bind, Option.bind_some] at *
  have hlt : 1 < w.heap.size := by
    cases hh : w.heap[1]? with
    | none => rw [hh] at h; cases h
    | some o => exact (Array.getElem?_eq_some_iff.1 hh).1
  rw [hb.block _ hlt]
  exact h

def DecText (n : Int) (w : World) (e : Ending) (w' : World) : Prop := e = .returned (.string ⟨(Lib.itoa n).toArray⟩) ∧ Below w.heap.size w w'

end Go.Proofs.YtiabbafmjgiobaaGreatDoor

/-
Lists of integers in memory; bounds; the text of a list in the reference.
-/
set_option linter.unusedVariables false
set_option linter.unusedSimpArgs false
namespace Go.Proofs.YtiabbafmjgiobaaGreatDoor
open Go Go.RowKit

def inR (n a b : Int) : Bool := decide (a ≤ n) && decide (n ≤ b)
theorem ret_b {a b : Bool} (h : a = b) : Ending.returned (.bool a) = .returned (.bool b) := by rw [h]
theorem d_within (n a b : Int) (w : World) : Calls Tryz.prog 54 #[.int .i64 n, .int .i64 a, .int .i64 b] w fun e w' => e = .returned (.bool (inR n a b)) ∧ w = w' := by
  unfold inR
  by_cases h1 : a ≤ n
  · go_enter Tryz.func54, Tryz.ntmps54
    go_wp2
    go_ret
    exact ⟨by first | rfl | exact ret_b (by rw [decide_eq_true h1]; rfl) | exact ret_b (by rw [decide_eq_false (by omega)]; rfl), rfl⟩
  · go_enter Tryz.func54, Tryz.ntmps54
    go_wp2
    go_ret
    exact ⟨by first | rfl | exact ret_b (by rw [decide_eq_true h1]; rfl) | exact ret_b (by rw [decide_eq_false (by omega)]; rfl), rfl⟩
/-- a value: from -MaxValue to MaxValue -/
def isV (n : Int) : Bool := inR n (-1000000000000000) 1000000000000000
/-- the cells behind an address hold the list's numbers -/
def Fi (w : World) (A : Option Addr) (xs : List Int) : Prop :=
  xs = [] ∨ ∃ b off, A = some ⟨b, off, none⟩ ∧ b < w.heap.size ∧ ∀ j, j < xs.length → w.cell? ⟨b, off + j, none⟩ = some (.int .i64 (xs.getD j 0))
theorem Fi.keep {B : Nat} {w w' : World} {A : Option Addr} {xs : List Int} (h : Fi w A xs) (hb : Below B w w') (hB : w.heap.size ≤ B) : Fi w' A xs := by
  rcases h with rfl | ⟨b, off, rfl, hbl, hc⟩
  · exact .inl rfl
  · exact .inr ⟨b, off, rfl, Nat.lt_of_lt_of_le hbl hb.size, fun j hj => by rw [hb.cell (p := ⟨b, off + j, none⟩) (by show b < B; omega)]; exact hc j hj⟩
theorem Fi.of_pos {w : World} {A : Option Addr} {xs : List Int} (h : Fi w A xs) (hp : 0 < xs.length) : ∃ b off, A = some ⟨b, off, none⟩ ∧ b < w.heap.size ∧ ∀ j, j < xs.length → w.cell? ⟨b, off + j, none⟩ = some (.int .i64 (xs.getD j 0)) := by
  rcases h with rfl | h
  · cases hp
  · exact h
/-- each is an int64 -/
def AllI (xs : List Int) : Prop := ∀ j, j < xs.length → -9223372036854775808 ≤ xs.getD j 0 ∧ xs.getD j 0 ≤ 9223372036854775807

def allR (xs : List Int) : Bool := xs.all isV
theorem allR_false {xs : List Int} {k : Nat} (hk : k < xs.length) (h : isV (xs.getD k 0) = false) : allR xs = false := by
  unfold allR
  rw [List.all_eq_false]
  refine ⟨xs[k], List.getElem_mem hk, ?_⟩
  have e : xs.getD k 0 = xs[k] := by simp [List.getD_eq_getElem?_getD, hk]
  rw [e] at h
  rw [h]; decide
theorem allR_true {xs : List Int} (h : ∀ k, k < xs.length → isV (xs.getD k 0) = true) : allR xs = true := by
  unfold allR
  rw [List.all_eq_true]
  intro x hx
  obtain ⟨k, hk, rfl⟩ := List.getElem_of_mem hx
  have e : xs.getD k 0 = xs[k] := by simp [List.getD_eq_getElem?_getD, hk]
  rw [← e]; exact h k hk
def listV (xs : List Int) : Bool := allR xs && decide (xs.length ≤ 64)



end Go.Proofs.YtiabbafmjgiobaaGreatDoor

/-
Decimal texts read back: plain lists of bytes.
-/
namespace Go.Proofs.YtiabbafmjgiobaaGreatDoor
open Go

def isDig (c : UInt8) : Prop := 48 ≤ c.toNat ∧ c.toNat ≤ 57
instance (c : UInt8) : Decidable (isDig c) := inferInstanceAs (Decidable (_ ∧ _))
/-- the digits of a text as a number; other bytes are passed over -/
def dgv (acc : Nat) (l : List UInt8) : Nat := l.foldl (fun a c => if isDig c then 10 * a + (c.toNat - 48) else a) acc
theorem dgv_snoc (acc : Nat) (l : List UInt8) (c : UInt8) : dgv acc (l ++ [c]) = if isDig c then 10 * dgv acc l + (c.toNat - 48) else dgv acc l := by
  unfold dgv; rw [List.foldl_append]; rfl
theorem dgv_lt : ∀ (l : List UInt8), dgv 0 l < 10 ^ l.length := by
  have key : ∀ (n : Nat) (l : List UInt8), l.length = n → dgv 0 l < 10 ^ n := by
    intro n
    induction n with
    | zero => intro l h; rw [List.eq_nil_of_length_eq_zero h]; simp [dgv]
    | succ n ih =>
      intro l h
      have hne : l ≠ [] := fun e => by subst e; cases h
      obtain ⟨m, c, rfl⟩ : ∃ m c, l = m ++ [c] := ⟨l.dropLast, l.getLast hne, (List.dropLast_concat_getLast hne).symm⟩
      have := ih m (by simpa using h)
      rw [dgv_snoc, Nat.pow_succ]
      split
      · rename_i hd; unfold isDig at hd; omega
      · omega
  exact fun l => key l.length l rfl
theorem dec_all (u : Nat) : ∀ c ∈ Lib.decDigits u, isDig c := by
  induction u using Nat.strongRecOn with
  | ind u ih =>
    intro c hc
    rw [Lib.decDigits] at hc
    split at hc
    · rename_i h
      simp only [List.mem_singleton] at hc
      subst hc
      unfold isDig
      rw [UInt8.toNat_ofNat_of_lt' (by show 48 + u < 256; omega)]; omega
    · rename_i h
      rcases List.mem_append.1 hc with hc | hc
      · exact ih (u / 10) (by omega) c hc
      · simp only [List.mem_singleton] at hc
        subst hc
        unfold isDig
        rw [UInt8.toNat_ofNat_of_lt' (by show 48 + u % 10 < 256; omega)]; omega
theorem dec_val (u : Nat) : dgv 0 (Lib.decDigits u) = u := by
  induction u using Nat.strongRecOn with
  | ind u ih =>
    rw [Lib.decDigits]
    split
    · rename_i h
      have e := dgv_snoc 0 [] (UInt8.ofNat (48 + u))
      simp only [List.nil_append] at e
      rw [e, UInt8.toNat_ofNat_of_lt' (by show 48 + u < 256; omega), if_pos (by unfold isDig; rw [UInt8.toNat_ofNat_of_lt' (by show 48 + u < 256; omega)]; omega)]
      simp [dgv]
    · rename_i h
      rw [dgv_snoc, ih (u / 10) (by omega), UInt8.toNat_ofNat_of_lt' (by show 48 + u % 10 < 256; omega), if_pos (by unfold isDig; rw [UInt8.toNat_ofNat_of_lt' (by show 48 + u % 10 < 256; omega)]; omega)]
      omega
theorem dec_ne (u : Nat) : Lib.decDigits u ≠ [] := by rw [Lib.decDigits]; split <;> simp
theorem dgv_mono (l : List UInt8) : ∀ acc, acc ≤ dgv acc l := by
  induction l with
  | nil => intro acc; exact Nat.le_refl _
  | cons c l ih =>
    intro acc
    have := ih (if isDig c then 10 * acc + (c.toNat - 48) else acc)
    show acc ≤ dgv (if isDig c then 10 * acc + (c.toNat - 48) else acc) l
    split at this <;> rename_i h
    · rw [if_pos h]; omega
    · rw [if_neg h]; omega
theorem parse_digits (M : Nat) (hM : 1000000000000000 ≤ M) : ∀ (l : List UInt8) (acc : Nat), (∀ c ∈ l, isDig c) → dgv acc l ≤ 1000000000000000 → Lib.parseUintM M acc l = .ok (dgv acc l) := by
  intro l
  induction l with
  | nil => intro acc _ _; rfl
  | cons c l ih =>
    intro acc hall hv
    have hc := hall c (by simp)
    have e : dgv acc (c :: l) = dgv (acc * 10 + (c.toNat - 48)) l := by
      show dgv (if isDig c then 10 * acc + (c.toNat - 48) else acc) l = _
      rw [if_pos hc, Nat.mul_comm]
    rw [e] at hv ⊢
    have hm := dgv_mono l (acc * 10 + (c.toNat - 48))
    unfold Lib.parseUintM
    rw [if_pos (show 48 ≤ c.toNat ∧ c.toNat ≤ 57 from hc), if_neg (by omega), if_neg (by omega)]
    exact ih _ (fun d hd => hall d (by simp [hd])) hv

/-- the number that the reference reads -/
def specN (l : List UInt8) : Int := if l.head? = some 45 then -(dgv 0 l : Int) else (dgv 0 l : Int)
theorem head_dig {u : Nat} {c : UInt8} (h : (Lib.decDigits u).head? = some c) : isDig c := dec_all u c (List.mem_of_mem_head? h)
theorem specN_itoa (n : Int) : specN (Lib.itoa n) = n := by
  unfold Lib.itoa
  split
  · rename_i h
    unfold specN
    rw [if_pos (show (45 :: Lib.decDigits n.natAbs).head? = some 45 from rfl)]
    have e : dgv 0 (45 :: Lib.decDigits n.natAbs) = dgv 0 (Lib.decDigits n.natAbs) := rfl
    rw [e, dec_val]
    omega
  · rename_i h
    unfold specN
    rw [if_neg (fun h => by have := head_dig h; unfold isDig at this; have e : (45 : UInt8).toNat = 45 := rfl; omega), dec_val]
    omega
theorem pow63 : (2 : Nat) ^ (64 - 1) = 9223372036854775808 := by decide
theorem parse_dec (u : Nat) (h : u ≤ 1000000000000000) : Lib.parseUintB 64 (Lib.decDigits u) = .ok u := by
  unfold Lib.parseUintB
  rw [if_neg (dec_ne _), parse_digits _ (by decide) _ 0 (dec_all _) (by rw [dec_val]; exact h), dec_val]
theorem parse_itoa {n : Int} (h0 : -1000000000000000 ≤ n) (h1 : n ≤ 1000000000000000) : Lib.parseIntB 64 (Lib.itoa n) = .ok n := by
  unfold Lib.itoa
  split
  · rename_i h
    have hp := parse_dec n.natAbs (by omega)
    have e : (if (45 : UInt8).toNat = 43 ∨ (45 : UInt8).toNat = 45 then Lib.decDigits n.natAbs else 45 :: Lib.decDigits n.natAbs) = Lib.decDigits n.natAbs := if_pos (Or.inr rfl)
    have e45 : (45 : UInt8).toNat = 45 := rfl
    unfold Lib.parseIntB
    simp only [e, hp]
    rw [if_neg (fun hh => hh.1 e45), if_neg (fun hh => by have := hh.2; rw [pow63] at this; omega), if_pos e45]
    congr 1
    omega
  · rename_i h
    have hp := parse_dec n.toNat (by omega)
    cases hd : Lib.decDigits n.toNat with
    | nil => exact absurd hd (dec_ne n.toNat)
    | cons c r =>
      have hc : isDig c := head_dig (u := n.toNat) (by rw [hd]; rfl)
      unfold isDig at hc
      rw [hd] at hp
      have e : (if c.toNat = 43 ∨ c.toNat = 45 then r else c :: r) = c :: r := if_neg (by omega)
      unfold Lib.parseIntB
      simp only [e, hp]
      rw [if_neg (fun hh => by have := hh.2; rw [pow63] at this; omega), if_neg (fun hh => by have := hh.1; omega), if_neg (by omega)]
      congr 1
      omega
theorem dig_short : ∀ (k u : Nat), u < 10 ^ (k + 1) → (Lib.decDigits u).length ≤ k + 1 := by
  intro k
  induction k with
  | zero => intro u hu; rw [Lib.decDigits, dif_pos (by simpa using hu)]; simp
  | succ k ih =>
    intro u hu
    rw [Lib.decDigits]
    split
    · simp
    · have := ih (u / 10) (by rw [Nat.pow_succ] at hu; omega)
      simp; omega
theorem itoa_short {n : Int} (h0 : -1000000000000000 ≤ n) (h1 : n ≤ 1000000000000000) : 1 ≤ (Lib.itoa n).length ∧ (Lib.itoa n).length ≤ 17 := by
  unfold Lib.itoa
  split
  · have := dig_short 15 n.natAbs (Nat.lt_of_le_of_lt (show n.natAbs ≤ 1000000000000000 by omega) (by decide))
    simp; omega
  · have := dig_short 15 n.toNat (Nat.lt_of_le_of_lt (show n.toNat ≤ 1000000000000000 by omega) (by decide))
    have h2 := List.length_pos_iff.2 (dec_ne n.toNat)
    omega

end Go.Proofs.YtiabbafmjgiobaaGreatDoor

/-
Decimal texts read back: the reference.
-/
set_option linter.unusedVariables false
set_option linter.unusedSimpArgs false
namespace Go.Proofs.YtiabbafmjgiobaaGreatDoor
open Go Go.RowKit

/-- is a text the decimal text of a value -/
def readP (l : List UInt8) : Bool := decide (1 ≤ l.length ∧ l.length ≤ 17) && (isV (specN l) && (Lib.itoa (specN l) == l))
def readN (l : List UInt8) : Int := if readP l then specN l else 0
theorem readN_no {l : List UInt8} (h : readP l = false) : readN l = 0 := by unfold readN; rw [h]; rfl
theorem readN_yes {l : List UInt8} (h : readP l = true) : readN l = specN l := by unfold readN; rw [h]; rfl
def ReadGives (l : List UInt8) (w : World) (e : Ending) (w' : World) : Prop := e = .returned (.tuple #[.int .i64 (readN l), .bool (readP l)]) ∧ Below w.heap.size w w'
theorem take_snoc (s : ByteArray) (k : Nat) (h : k < s.size) : s.data.toList.take (k + 1) = s.data.toList.take k ++ [s[k]] := by
  rw [List.take_succ_eq_append_getElem (by simpa using h)]; rfl
theorem len_data (s : ByteArray) : s.data.toList.length = s.size := Array.length_toList
theorem toList_eq (s : ByteArray) : s.toList = s.data.toList := ByteArray.toList_eq s
theorem pow17 {k : Nat} (h : k ≤ 17) : 10 ^ k ≤ 100000000000000000 := Nat.le_trans (Nat.pow_le_pow_right (by decide) h) (by decide)

theorem head_at (s : ByteArray) (h : 0 < s.size) : s.data.toList.head? = some s[0] := by
  have hl : 0 < s.data.toList.length := by rw [len_data]; exact h
  cases hd : s.data.toList with
  | nil => rw [hd] at hl; cases hl
  | cons c r =>
    have : s[0] = s.data.toList[0] := rfl
    rw [this]
    simp [hd]
theorem specN_neg (s : ByteArray) (h : 0 < s.size) (h45 : s[0].toNat = 45) : specN s.data.toList = -(dgv 0 s.data.toList : Int) := by
  unfold specN
  rw [head_at s h, if_pos]
  congr 1
  exact UInt8.toNat.inj h45
theorem specN_pos (s : ByteArray) (h : 0 < s.size) (h45 : ¬ s[0].toNat = 45) : specN s.data.toList = (dgv 0 s.data.toList : Int) := by
  unfold specN
  rw [head_at s h, if_neg]
  intro e
  have := Option.some.inj e
  rw [this] at h45
  exact h45 rfl
theorem str_eq (l : List UInt8) (s : ByteArray) : (l == s.toList) = (l == s.data.toList) := by
  rw [toList_eq]


end Go.Proofs.YtiabbafmjgiobaaGreatDoor

/-
No contract is taken here at this seat. No condition.
-/

/-
Decimal texts read back: the program; the law on ReadDecimal.
-/
set_option linter.unusedVariables false
set_option linter.unusedSimpArgs false
namespace Go.Proofs.YtiabbafmjgiobaaGreatDoor
open Go Go.RowKit

/-- both of strconv's errors are there -/
def Errs (w : World) : Prop := (∃ te pe, w.cell? ⟨2, 0, none⟩ = some (.iface te pe)) ∧ (∃ te pe, w.cell? ⟨3, 0, none⟩ = some (.iface te pe))
theorem Errs.keep {w w' : World} (h : Errs w) (hb : Below w.heap.size w w') : Errs w' := by
  obtain ⟨⟨t1, p1, h1⟩, ⟨t2, p2, h2⟩⟩ := h
  have l1 := World.block_lt_of_cell? _ _ h1
  have l2 := World.block_lt_of_cell? _ _ h2
  exact ⟨⟨t1, p1, (hb.cell (p := ⟨2, 0, none⟩) l1).trans h1⟩, ⟨t2, p2, (hb.cell (p := ⟨3, 0, none⟩) l2).trans h2⟩⟩
def Vars (w : World) : Prop := Tab10 w ∧ Errs w
theorem Vars.keep {w w' : World} (h : Vars w) (hb : Below w.heap.size w w') : Vars w' := ⟨h.1.keep hb, h.2.keep hb⟩

theorem isV_bd {n : Int} (h : isV n = true) : -1000000000000000 ≤ n ∧ n ≤ 1000000000000000 := by
  unfold isV inR at h
  simpa using h
theorem readP_parse {l : List UInt8} (h : readP l = true) : Lib.parseIntB 64 l = .ok (specN l) ∧ isV (specN l) = true ∧ Lib.itoa (specN l) = l := by
  unfold readP at h
  simp only [Bool.and_eq_true, beq_iff_eq] at h
  obtain ⟨_, h2, h3⟩ := h
  have b := isV_bd h2
  have := parse_itoa b.1 b.2
  rw [h3] at this
  exact ⟨this, h2, h3⟩
theorem readP_mk {l : List UInt8} {v : Int} (hv : isV v = true) (hi : Lib.itoa v = l) : readP l = true ∧ readN l = v := by
  have b := isV_bd hv
  have e : specN l = v := by rw [← hi]; exact specN_itoa v
  have hl := itoa_short b.1 b.2
  rw [hi] at hl
  have hp : readP l = true := by
    unfold readP
    rw [e, hv, hi, decide_eq_true hl]
    simp
  exact ⟨hp, (readN_yes hp).trans e⟩
theorem readP_not {l : List UInt8} (h : ∀ v, Lib.parseIntB 64 l = .ok v → isV v = true → Lib.itoa v = l → False) : readP l = false := by
  cases hr : readP l
  · rfl
  · obtain ⟨h1, h2, h3⟩ := readP_parse hr
    exact (h _ h1 h2 h3).elim
theorem parse_bd {l : List UInt8} {v : Int} (h : Lib.parseIntB 64 l = .ok v) (hv : isV v = true) : -9223372036854775808 ≤ v ∧ v ≤ 9223372036854775807 := by
  have := isV_bd hv; omega



end Go.Proofs.YtiabbafmjgiobaaGreatDoor
