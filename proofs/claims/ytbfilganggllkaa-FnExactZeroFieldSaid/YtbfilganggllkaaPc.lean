/-
The law on PlainSheet, walked.
-/
import Derived.Test.YtbfilganggllkaaPb
set_option linter.unusedVariables false
set_option linter.unusedSimpArgs false
namespace Go.Proofs.Ytbfilganggllkaa
open Fl Go.RowKit

/-- a fact laid behind 'Hid', its statement as it stands -/
theorem hide_ {p : Prop} (h : p) : Hid p := h
/-- what a marking changes: the blocks of two lists alone -/
structure Marked (vs vl : Value) (w w' : World) : Prop where
  os : w'.os = w.os
  tape : w'.tape = w.tape
  output : w'.output = w.output
  size : w.heap.size ≤ w'.heap.size
  block : ∀ k, k < w.heap.size → some k ≠ vs.ownBlock → some k ≠ vl.ownBlock → w'.heap[k]? = w.heap[k]?
theorem Marked.below {vs vl : Value} {w w' : World} (h : Marked vs vl w w') {B : Nat} (hB : B ≤ w.heap.size) (h1 : ∀ k, vs.ownBlock = some k → B ≤ k) (h2 : ∀ k, vl.ownBlock = some k → B ≤ k) : Below B w w' :=
  ⟨h.os, h.tape, h.output, h.size, fun k hk => h.block k (by omega) (fun e => by have := h1 k e.symm; omega) (fun e => by have := h2 k e.symm; omega)⟩

theorem OwnL.mono {base base' : Nat} {xs : List Nat} {v : Value} {w : World} (h : OwnL base xs v w) (hb : base' ≤ base) : OwnL base' xs v w := by
  obtain ⟨A, cap, rfl, h1, h2⟩ := h
  refine ⟨A, cap, rfl, h1, ?_⟩
  rcases h2 with h2 | ⟨g, cp, cur, hv, hg, hr⟩
  · exact .inl h2
  · exact .inr ⟨g, cp, cur, hv, Nat.le_trans hb hg, hr⟩
theorem OwnL.low {base : Nat} {xs : List Nat} {v : Value} {w : World} (h : OwnL base xs v w) : ∀ k, v.ownBlock = some k → base ≤ k ∧ k < w.heap.size := by
  obtain ⟨A, cap, rfl, h1⟩ := h
  exact h1.lt
theorem OwnL.form {base : Nat} {xs : List Nat} {v : Value} {w : World} (h : OwnL base xs v w) : ∃ A cap, v = .slice A xs.length cap := by
  obtain ⟨A, cap, rfl, h1⟩ := h
  exact ⟨A, cap, rfl⟩

theorem c_markSheet (wide high : Int) (wrap : Bool) (base : Nat) (vs vl : Value) (xs ys : List Nat) (k : Nat) (w : World) (hs : OwnL base xs vs w) (hl : OwnL base ys vl w) (hap : vs.ownBlock = none ∨ vs.ownBlock ≠ vl.ownBlock) (hk : k + xs.length + ys.length ≤ 2000000) :
    Calls Try.prog 21 #[.agg #[.int .i64 wide, .int .i64 high, .bool wrap, vs, vl], .int .i64 k] w fun e w' => e = .returned (.int .i64 (k + xs.length + ys.length : Nat)) ∧ OwnL base (marks k xs.length) vs w' ∧ OwnL base (marks (k + xs.length) ys.length) vl w' ∧ Marked vs vl w w' := by
  have hB0 : Below w.heap.size w (w.alloc (Obj.cells #[.int .i64 wide, .int .i64 high, .bool wrap, vs, vl] 27)) := (Below.refl _ _).alloc (Nat.le_refl _) _
  have hs1 := OwnL.keep _ _ _ hs hB0
  have hl1 := OwnL.keep _ _ _ hl hB0
  obtain ⟨A, a, rfl⟩ := hs.form
  obtain ⟨B, b, rfl⟩ := hl.form
  have H1 := hide_ (c_markFloat32S base (.slice A xs.length a) xs k _ hs1 (by omega))
  have HS := hide_ (hs)
  have HL := hide_ (hl)
  have HL1 := hide_ (hl1)
  have HAP := hide_ (hap)
  clear hs hl hs1 hl1 hB0 hap
  have hbox := heap_alloc_new w (Obj.cells #[.int .i64 wide, .int .i64 high, .bool wrap, .slice A xs.length a, .slice B ys.length b] 27)
  have HBX := hide_ (hbox)
  clear hbox
  go_enter Try.func21, Try.ntmps21
  go_wp2_with fail
  go_at_call 41
  refine Calls.mono H1.out ?_
  rintro e w1 ⟨rfl, o1, hg1, hz1⟩
  have hbox1 : w1.heap[w.heap.size]? = some (Obj.cells #[.int .i64 wide, .int .i64 high, .bool wrap, .slice A xs.length a, .slice B ys.length b] 27 (0, 0)) := by
    rw [hg1.block _ (by simp) (fun e => by have := HS.out.low _ e.symm; omega)]; exact HBX.out
  have y1 : w1.cell? ⟨w.heap.size, 4, none⟩ = some (.slice B ys.length b) := box_cell hbox1 4 _ rfl
  have ol1 : OwnL base ys (.slice B ys.length b) w1 := HL1.out.grown hg1 (by
    rcases HAP.out with e | e
    · rw [e]; cases (Value.slice B ys.length b).ownBlock <;> simp
    · exact .inr fun e' => e e'.symm)
  have hsz : w.heap.size < w1.heap.size := by rw [hz1]; simp
  have H2 := hide_ (c_markFloat32S base (.slice B ys.length b) ys (k + xs.length) w1 ol1 hk)
  have O1 : Hid (OwnL base (marks k xs.length) (.slice A xs.length a) w1) := o1
  have G1 := hide_ (hg1)
  have Z1 := hide_ (hz1)
  clear o1 ol1 hg1 hbox1 hz1
  go_wp2_with fail
  go_at_call 41
  refine Calls.mono H2.out ?_
  rintro e w2 ⟨rfl, o2, hg2, hz2⟩
  have O1' : Hid (OwnL base (marks k xs.length) (.slice A xs.length a) w2) := O1.out.grown hg2 HAP.out
  have O2' : Hid (OwnL base (marks (k + xs.length) ys.length) (.slice B ys.length b) w2) := o2
  have hM : Marked (.slice A xs.length a) (.slice B ys.length b) w w2 := by
    have a1 := G1.out
    refine ⟨hg2.os.trans a1.os, hg2.tape.trans a1.tape, hg2.output.trans a1.output, by rw [hz2, Z1.out]; simp, fun q hq n1 n2 => ?_⟩
    rw [hg2.block q (by omega) n2, a1.block q (by simp; omega) n1]
    exact Below.heap_alloc w _ q hq
  have HM := hide_ (hM)
  clear o2 hg2 hz2 hM
  go_wp2_with fail
  go_ret
  exact ⟨rfl, O1'.out, O2'.out, HM.out⟩

theorem c_heldSheet (wide high : Int) (wrap : Bool) (k n m : Nat) (v : Value) (w : World) (h : SheetAt wide high wrap (marks k n) (marks (k + n) m) v w) (hk : k + n + m < 2000) :
    Calls Try.prog 22 #[v, .int .i64 k] w fun e w' => e = .returned (.int .i64 (k + n + m : Nat)) ∧ Below w.heap.size w w' := by
  obtain ⟨A, a, B, b, rfl, fA, fB⟩ := h
  rw [marks_len, marks_len]
  have hB0 : Below w.heap.size w (w.alloc (Obj.cells #[.int .i64 wide, .int .i64 high, .bool wrap, .slice A n a, .slice B m b] 27)) := (Below.refl _ _).alloc (Nat.le_refl _) _
  have H1 := hide_ (c_heldFloat32S A a n k _ (fA.keep hB0 (Nat.le_refl _)) (by omega))
  have H2 := hide_ (c_heldFloat32S B b m (k + n) _ (fB.keep hB0 (Nat.le_refl _)) (by omega))
  have HB := hide_ (hB0)
  clear hB0 fA fB
  go_enter Try.func22, Try.ntmps22
  go_wp2_with fail
  go_at_call 42
  refine Calls.mono H1.out ?_
  rintro e w1 ⟨rfl, rfl⟩
  go_wp2_with fail
  go_at_call 42
  refine Calls.mono H2.out ?_
  rintro e w1 ⟨rfl, rfl⟩
  go_wp2_with fail
  go_ret
  exact ⟨rfl, HB.out⟩

def PlainGives (b : Bool) (wide high : Int) (wrap : Bool) (xs ys : List Nat) (w : World) (e : Ending) (w' : World) : Prop :=
  Below w.heap.size w w' ∧ ∃ v, e = .returned (.tuple #[v, .bool b]) ∧ OwnSheet (w.heap.size + 1) wide high wrap xs ys v w'

set_option maxHeartbeats 1000000 in
theorem law_plain (args : Array Value) (wide high : Int) (wrap : Bool) (sp : Nat) (b : Bool) (W H : Int) (R : Bool) (xs ys : List Nat) (w : World)
    (HS : ∀ w, Calls Try.prog 19 #[.int .i64 wide, .int .i64 high, .bool wrap, .float .f32 sp] w (PlainGives b W H R xs ys w))
    (HI : ∀ w, Calls Try.prog 20 #[.int .i64 wide, .int .i64 high, .bool wrap, .float .f32 sp] w (PlainGives b W H R xs ys w))
    (ax : All32 xs) (ay : All32 ys) (hx : xs.length ≤ 256) (hy : ys.length ≤ 256) :
    Calls Try.prog 5 #[.int .i64 wide, .int .i64 high, .bool wrap, .float .f32 sp] w (Law w) := by
  have KS := hide_ (HS)
  have KI := hide_ (HI)
  have AX := hide_ (ax)
  have AY := hide_ (ay)
  clear HS HI ax ay
  go_enter Try.func5, Try.ntmps5
  go_wp2_with fail
  go_at_call 19
  refine (KS.out _).mono ?_
  rintro e w1 ⟨hB1, v, rfl, vs, vl, rfl, o1, o2, hap⟩
  obtain ⟨A, a, rfl⟩ := o1.form
  obtain ⟨B, c, rfl⟩ := o2.form
  have HB1 := hide_ (hB1)
  have S1 : Hid (SheetAt W H R xs ys (.agg #[.int .i64 W, .int .i64 H, .bool R, .slice A xs.length a, .slice B ys.length c]) w1) := OwnSheet.sheet ⟨_, _, rfl, o1, o2, hap⟩
  clear hB1 o1 o2 hap
  go_wp2_with fail
  have HX1 := hide_ (heap_alloc_new w1 (Obj.cells #[.int .i64 W, .int .i64 H, .bool R, .slice A xs.length a, .slice B ys.length c] 27))
  have hW1 : Below w1.heap.size w1 (w1.alloc (Obj.cells #[.int .i64 W, .int .i64 H, .bool R, .slice A xs.length a, .slice B ys.length c] 27)) := (Below.refl _ _).alloc (Nat.le_refl _) _
  have HW1 := hide_ (hW1)
  clear hW1
  go_at_call 20
  refine (KI.out _).mono ?_
  rintro e w2 ⟨hB2, v, rfl, vs, vl, rfl, o1, o2, hap⟩
  obtain ⟨A', a', rfl⟩ := o1.form
  obtain ⟨B', c', rfl⟩ := o2.form
  have b2 := hB2.size
  simp at b2
  have X1 : w2.heap[w1.heap.size]? = some (Obj.cells #[.int .i64 W, .int .i64 H, .bool R, .slice A xs.length a, .slice B ys.length c] 27 (0, 0)) := (hB2.block _ (by simp)).trans HX1.out
  have S2 := SheetAt.keep _ _ _ (SheetAt.keep _ _ _ S1.out HW1.out) hB2
  have B2 := HB1.out.trans ((HW1.out.trans (hB2.mono (by simp))).mono HB1.out.size)
  have P1 : w.heap.size ≤ w1.heap.size := HB1.out.size
  have P2 : ∀ k, (Value.slice A' xs.length a').ownBlock = some k → w1.heap.size < k ∧ k < w2.heap.size := fun k hk => by have := o1.low k hk; simp at this; omega
  have P3 : ∀ k, (Value.slice B' ys.length c').ownBlock = some k → w1.heap.size < k ∧ k < w2.heap.size := fun k hk => by have := o2.low k hk; simp at this; omega
  have hle0 : w1.heap.size < w2.heap.size := by omega
  have HO1 := hide_ o1
  have HO2 := hide_ o2
  have HAP := hide_ hap
  have HX := hide_ X1
  have HC2 := hide_ (HW1.out.trans (hB2.mono (by simp)))
  have HS1 := hide_ S1.out
  have HS2 := hide_ S2
  have HBW := hide_ B2
  have Q2 := hide_ P2
  have Q3 := hide_ P3
  clear o1 o2 hap S2 B2 P2 P3 hB2 HX1 HW1 S1 HB1 b2
  have y0 : w2.cell? ⟨w1.heap.size, 0, none⟩ = some (.int .i64 W) := box_cell X1 0 _ rfl
  have y1 : w2.cell? ⟨w1.heap.size, 1, none⟩ = some (.int .i64 H) := box_cell X1 1 _ rfl
  have y2 : w2.cell? ⟨w1.heap.size, 2, none⟩ = some (.bool R) := box_cell X1 2 _ rfl
  have y3 : w2.cell? ⟨w1.heap.size, 3, none⟩ = some (.slice A xs.length a) := box_cell X1 3 _ rfl
  have y4 : w2.cell? ⟨w1.heap.size, 4, none⟩ = some (.slice B ys.length c) := box_cell X1 4 _ rfl
  clear X1
  go_wp2_with fail
  clear y0 y1 y2 y3 y4
  have W3 : Below w2.heap.size w2 (w2.alloc (Obj.cells #[.int .i64 W, .int .i64 H, .bool R, .slice A' xs.length a', .slice B' ys.length c'] 27)) := (Below.refl _ _).alloc (Nat.le_refl _) _
  have S3 := SheetAt.keep _ _ _ HS2.out W3
  have T3 : SheetAt W H R xs ys (.agg #[.int .i64 W, .int .i64 H, .bool R, .slice A' xs.length a', .slice B' ys.length c']) (w2.alloc (Obj.cells #[.int .i64 W, .int .i64 H, .bool R, .slice A' xs.length a', .slice B' ys.length c'] 27)) := OwnSheet.sheet ⟨_, _, rfl, OwnL.keep _ _ _ HO1.out W3, OwnL.keep _ _ _ HO2.out W3, HAP.out⟩
  have E3 := hide_ (g_eqSheet T3 S3 AX.out AY.out (by omega) (by omega))
  have HW3 := hide_ W3
  have HT3 := hide_ T3
  clear W3 T3 S3
  go_at_call 13
  refine Calls.mono E3.out ?_
  rintro e w3 ⟨hB3, v, rfl, rfl⟩
  have hle3 : w2.heap.size < w3.heap.size := by have := hB3.size; simp at this; omega
  have X0 : w3.heap[w1.heap.size]? = some (Obj.cells #[.int .i64 W, .int .i64 H, .bool R, .slice A xs.length a, .slice B ys.length c] 27 (0, 0)) := by rw [hB3.block _ (by simp; omega), HW3.out.block _ hle0]; exact HX.out
  have X1 : w3.heap[w2.heap.size]? = some (Obj.cells #[.int .i64 W, .int .i64 H, .bool R, .slice A' xs.length a', .slice B' ys.length c'] 27 (0, 0)) := (hB3.block _ (by simp)).trans (heap_alloc_new w2 _)
  have O1 := OwnL.keep _ _ _ (OwnL.keep _ _ _ HO1.out HW3.out) hB3
  have O2 := OwnL.keep _ _ _ (OwnL.keep _ _ _ HO2.out HW3.out) hB3
  have B3 := HBW.out.trans ((HW3.out.mono HBW.out.size).trans (hB3.mono (Nat.le_trans HBW.out.size (by simp))))
  have HC3 := hide_ (HC2.out.trans ((HW3.out.mono (Nat.le_of_lt hle0)).trans (hB3.mono (by simp; omega))))
  have M3 := hide_ (c_markSheet W H R (w1.heap.size + 1) _ _ xs ys 1 w3 (OwnL.mono O1 (by simp)) (OwnL.mono O2 (by simp)) HAP.out (by omega))
  have HX0 := hide_ X0
  have HX1 := hide_ X1
  have HB3 := hide_ B3
  clear HC2 HX HS2 HBW HO1 HO2 HW3 HT3 E3 hB3 X0 O1 O2 B3
  have x0 : w3.cell? ⟨w2.heap.size, 0, none⟩ = some (.int .i64 W) := box_cell X1 0 _ rfl
  have x1 : w3.cell? ⟨w2.heap.size, 1, none⟩ = some (.int .i64 H) := box_cell X1 1 _ rfl
  have x2 : w3.cell? ⟨w2.heap.size, 2, none⟩ = some (.bool R) := box_cell X1 2 _ rfl
  have x3 : w3.cell? ⟨w2.heap.size, 3, none⟩ = some (.slice A' xs.length a') := box_cell X1 3 _ rfl
  have x4 : w3.cell? ⟨w2.heap.size, 4, none⟩ = some (.slice B' ys.length c') := box_cell X1 4 _ rfl
  clear X1
  go_wp2_with fail
  clear x0 x1 x2 x3 x4
  go_at_call 21
  refine Calls.mono M3.out ?_
  rintro e w4 ⟨rfl, o1, o2, hM⟩
  have hBM := hM.below (B := w1.heap.size + 1) (by omega) (fun k hk => by have := (Q2.out k hk).1; omega) (fun k hk => by have := (Q3.out k hk).1; omega)
  have hle4 : w2.heap.size < w4.heap.size := Nat.lt_of_lt_of_le hle3 hM.size
  have X0 : w4.heap[w1.heap.size]? = some (Obj.cells #[.int .i64 W, .int .i64 H, .bool R, .slice A xs.length a, .slice B ys.length c] 27 (0, 0)) := (hBM.block _ (by omega)).trans HX0.out
  have X1 : w4.heap[w2.heap.size]? = some (Obj.cells #[.int .i64 W, .int .i64 H, .bool R, .slice A' xs.length a', .slice B' ys.length c'] 27 (0, 0)) := by
    rw [hM.block _ hle3 (fun e => by have := (Q2.out _ e.symm).2; omega) (fun e => by have := (Q3.out _ e.symm).2; omega)]
    exact HX1.out
  have B4 := HB3.out.trans (hBM.mono (by omega))
  have C4 := HC3.out.trans (hBM.mono (by omega))
  have T4 : SheetAt W H R (marks 1 xs.length) (marks (1 + xs.length) ys.length) (.agg #[.int .i64 W, .int .i64 H, .bool R, .slice A' xs.length a', .slice B' ys.length c']) w4 := OwnSheet.sheet ⟨_, _, rfl, o1, o2, HAP.out⟩
  have E4 := hide_ (c_heldSheet W H R 1 xs.length ys.length _ w4 T4 (by omega))
  have HX0' := hide_ X0
  have HX1' := hide_ X1
  have HB4 := hide_ B4
  have HC4 := hide_ C4
  have HT4 := hide_ T4
  clear o1 o2 hM hBM X0 B4 C4 T4 HX0 HX1 HB3 HC3 M3 Q2 Q3 hle3
  have x0 : w4.cell? ⟨w2.heap.size, 0, none⟩ = some (.int .i64 W) := box_cell X1 0 _ rfl
  have x1 : w4.cell? ⟨w2.heap.size, 1, none⟩ = some (.int .i64 H) := box_cell X1 1 _ rfl
  have x2 : w4.cell? ⟨w2.heap.size, 2, none⟩ = some (.bool R) := box_cell X1 2 _ rfl
  have x3 : w4.cell? ⟨w2.heap.size, 3, none⟩ = some (.slice A' xs.length a') := box_cell X1 3 _ rfl
  have x4 : w4.cell? ⟨w2.heap.size, 4, none⟩ = some (.slice B' ys.length c') := box_cell X1 4 _ rfl
  clear X1
  go_wp2_with fail
  clear x0 x1 x2 x3 x4
  go_at_call 22
  refine Calls.mono E4.out ?_
  rintro e w5 ⟨rfl, hB5⟩
  have hle5 : w2.heap.size < w5.heap.size := Nat.lt_of_lt_of_le hle4 hB5.size
  have HX0 := hide_ ((hB5.block _ (by omega)).trans HX0'.out)
  have HX1 := hide_ ((hB5.block _ hle4).trans HX1'.out)
  have HB5 := hide_ (HB4.out.trans (hB5.mono HB4.out.size))
  have HC5 := hide_ (HC4.out.trans (hB5.mono HC4.out.size))
  have HT5 := hide_ (SheetAt.keep _ _ _ HT4.out hB5)
  clear hB5 HX0' HX1' HB4 HC4 HT4 E4 hle4
  go_wp2_with fail
  go_at_call 20
  refine (KI.out _).mono ?_
  rintro e w6 ⟨hB6, v, rfl, vs, vl, rfl, o1, o2, hap⟩
  obtain ⟨A6, a6, rfl⟩ := o1.form
  obtain ⟨B6, c6, rfl⟩ := o2.form
  have hle6 : w2.heap.size < w6.heap.size := Nat.lt_of_lt_of_le hle5 hB6.size
  have X0 : w6.heap[w1.heap.size]? = some (Obj.cells #[.int .i64 W, .int .i64 H, .bool R, .slice A xs.length a, .slice B ys.length c] 27 (0, 0)) := (hB6.block _ (by omega)).trans HX0.out
  have HX0' := hide_ X0
  have HX1' : Hid (w6.heap[w2.heap.size]? = some (Obj.cells #[.int .i64 W, .int .i64 H, .bool R, .slice A' xs.length a', .slice B' ys.length c'] 27 (0, 0))) := (hB6.block _ hle5).trans HX1.out
  have HB6 := hide_ (HB5.out.trans (hB6.mono HB5.out.size))
  have HC6 := hide_ (HC5.out.trans (hB6.mono HC5.out.size))
  have HT6 := hide_ (SheetAt.keep _ _ _ HT5.out hB6)
  have W7 : Below w6.heap.size w6 (w6.alloc (Obj.cells #[.int .i64 W, .int .i64 H, .bool R, .slice A6 xs.length a6, .slice B6 ys.length c6] 27)) := (Below.refl _ _).alloc (Nat.le_refl _) _
  have T7 : SheetAt W H R xs ys (.agg #[.int .i64 W, .int .i64 H, .bool R, .slice A6 xs.length a6, .slice B6 ys.length c6]) (w6.alloc (Obj.cells #[.int .i64 W, .int .i64 H, .bool R, .slice A6 xs.length a6, .slice B6 ys.length c6] 27)) := OwnSheet.sheet ⟨_, _, rfl, OwnL.keep _ _ _ o1 W7, OwnL.keep _ _ _ o2 W7, hap⟩
  have S7 := SheetAt.keep _ _ _ HS1.out (HC6.out.trans (W7.mono HC6.out.size))
  have E7 := hide_ (g_eqSheet T7 S7 AX.out AY.out (by omega) (by omega))
  have HW7 := hide_ W7
  clear hB6 o1 o2 hap W7 T7 S7 HX0 HX1 HB5 HC5 HT5
  have y0 : w6.cell? ⟨w1.heap.size, 0, none⟩ = some (.int .i64 W) := box_cell X0 0 _ rfl
  have y1 : w6.cell? ⟨w1.heap.size, 1, none⟩ = some (.int .i64 H) := box_cell X0 1 _ rfl
  have y2 : w6.cell? ⟨w1.heap.size, 2, none⟩ = some (.bool R) := box_cell X0 2 _ rfl
  have y3 : w6.cell? ⟨w1.heap.size, 3, none⟩ = some (.slice A xs.length a) := box_cell X0 3 _ rfl
  have y4 : w6.cell? ⟨w1.heap.size, 4, none⟩ = some (.slice B ys.length c) := box_cell X0 4 _ rfl
  clear X0
  have hle60 : w1.heap.size < w6.heap.size := by omega
  go_wp2_with fail
  clear y0 y1 y2 y3 y4
  go_at_call 13
  refine Calls.mono E7.out ?_
  rintro e w8 ⟨hB8, v, rfl, rfl⟩
  have hle8 : w2.heap.size < w8.heap.size := by have := hB8.size; simp at this; omega
  have X1 : w8.heap[w2.heap.size]? = some (Obj.cells #[.int .i64 W, .int .i64 H, .bool R, .slice A' xs.length a', .slice B' ys.length c'] 27 (0, 0)) := by rw [hB8.block _ (by simp; omega), HW7.out.block _ hle6]; exact HX1'.out
  have HB8 := hide_ (HB6.out.trans ((HW7.out.mono HB6.out.size).trans (hB8.mono (Nat.le_trans HB6.out.size (by simp)))))
  have E8 := hide_ (c_heldSheet W H R 1 xs.length ys.length _ w8 (SheetAt.keep _ _ _ (SheetAt.keep _ _ _ HT6.out HW7.out) hB8) (by omega))
  clear hB8 HX0' HX1' HB6 HC6 HT6 HW7 E7
  have x0 : w8.cell? ⟨w2.heap.size, 0, none⟩ = some (.int .i64 W) := box_cell X1 0 _ rfl
  have x1 : w8.cell? ⟨w2.heap.size, 1, none⟩ = some (.int .i64 H) := box_cell X1 1 _ rfl
  have x2 : w8.cell? ⟨w2.heap.size, 2, none⟩ = some (.bool R) := box_cell X1 2 _ rfl
  have x3 : w8.cell? ⟨w2.heap.size, 3, none⟩ = some (.slice A' xs.length a') := box_cell X1 3 _ rfl
  have x4 : w8.cell? ⟨w2.heap.size, 4, none⟩ = some (.slice B' ys.length c') := box_cell X1 4 _ rfl
  clear X1
  go_wp2_with fail
  clear x0 x1 x2 x3 x4
  go_at_call 22
  refine Calls.mono E8.out ?_
  rintro e w9 ⟨rfl, hB9⟩
  have HB9 := hide_ (HB8.out.trans (hB9.mono HB8.out.size))
  clear hB9
  go_wp2_with fail
  go_ret
  exact ⟨rfl, HB9.out⟩

theorem all32_rep {n x : Nat} (h : x < 4294967296) : All32 (List.replicate n x) := by
  intro j
  rw [List.getD_eq_getElem?_getD]
  by_cases hj : j < n
  · simp [hj, h]
  · simp [List.getElem?_eq_none (show (List.replicate n x).length ≤ j by simp; omega)]

theorem walk_FnExactPlainSheet (wide : Int) (hw : (Lit.int .i64 wide).wf = true) (high : Int) (hh : (Lit.int .i64 high).wf = true) (wrap : Bool) (sp : Nat) (h32 : (Lit.float .f32 sp).wf = true) (w : World) :
    Calls Try.prog 5 #[.int .i64 wide, .int .i64 high, .bool wrap, .float .f32 sp] w (Law w) := by
  have hsp : sp < 4294967296 := by simpa [Lit.wf] using h32
  cases hs : sidesV wide high
  · exact law_plain #[] wide high wrap sp false 0 0 false [] [] w (fun w => c_specPlain_no wide high wrap sp w (by rw [hs]; rfl)) (fun w => c_implPlain_bad wide high wrap sp w hs) (fun j => by simp) (fun j => by simp) (by simp) (by simp)
  · obtain ⟨a1, a2, a3, a4⟩ := sides_iff.1 hs
    obtain ⟨m1, m2⟩ := mul_bound a1 a2 a3 a4
    cases hok : okV sp 1056964608
    · exact law_plain #[] wide high wrap sp false 0 0 false [] [] w (fun w => c_specPlain_no wide high wrap sp w (by rw [hs, hok]; rfl)) (fun w => (c_implPlain_sides wide high wrap sp w hs).mono fun e w' h => by rw [hok] at h; exact h) (fun j => by simp) (fun j => by simp) (by simp) (by simp)
    · exact law_plain #[] wide high wrap sp true wide high wrap (List.replicate (wide * high).toNat sp) (List.replicate (wide * high).toNat 0) w (fun w => c_specPlain_yes wide high wrap sp w hs hok) (fun w => (c_implPlain_sides wide high wrap sp w hs).mono fun e w' h => by rw [hok] at h; exact h) (all32_rep hsp) (all32_rep (by decide)) (by simp; omega) (by simp; omega)

end Go.Proofs.Ytbfilganggllkaa
