/-
The law on ZeroField, walked.
-/
import Derived.Test.YtbfilganggllkaaZs
set_option linter.unusedVariables false
set_option linter.unusedSimpArgs false
namespace Go.Proofs.Ytbfilganggllkaa
open Fl Go.RowKit

set_option maxRecDepth 100000 in
set_option maxHeartbeats 2000000 in
theorem zero_core (wide high : Int) (wrap : Bool) (A : Option Addr) (c : Nat) (B : Option Addr) (d : Nat) (xs ys : List Nat) (b : Bool) (zs : List Nat) (w : World) (fA : Fl32 w A xs) (fB : Fl32 w B ys) (ax : All32 xs) (ay : All32 ys) (az : All32 zs) (hsz : 0 ≤ szL (szL 1048576 xs.length) ys.length) (hxy : xs.length + ys.length ≤ 1048576) (hz : zs.length ≤ 256)
    (HS : ∀ v W, SheetAt wide high wrap xs ys v W → Calls Try.prog 27 #[v] W (ZeroGives b zs W))
    (HI : ∀ v W, SheetAt wide high wrap xs ys v W → Calls Try.prog 28 #[v] W (ZeroGives b zs W)) :
    Calls Try.prog 8 #[.agg #[.int .i64 wide, .int .i64 high, .bool wrap, .slice A xs.length c, .slice B ys.length d]] w (Law w) := by
  have hB0 : Below w.heap.size w (w.alloc (Obj.cells #[.int .i64 wide, .int .i64 high, .bool wrap, .slice A xs.length c, .slice B ys.length d] 24)) := (Below.refl _ _).alloc (Nat.le_refl _) _
  have A0 : Hid (AB w wide high wrap A c B d xs ys (w.alloc (Obj.cells #[.int .i64 wide, .int .i64 high, .bool wrap, .slice A xs.length c, .slice B ys.length d] 24))) := ⟨heap_alloc_new _ _, fA, fB, hB0⟩
  have KS := hide_ HS
  have KI := hide_ HI
  have AX := hide_ ax
  have AY := hide_ ay
  have AZ := hide_ az
  have hx2 : xs.length ≤ 1048576 := by omega
  have hy2 : ys.length ≤ 1048576 := by omega
  have KZ := hide_ (c_szSheet wide high wrap A c B d xs.length ys.length 1048576 (by omega) (by omega) (by decide) (by decide))
  clear HS HI ax ay az fA fB hB0
  generalize szL (szL 1048576 xs.length) ys.length = left at *
  go_enter Try.func8, Try.ntmps8
  go_wp2_with fail
  go_at_call 9
  refine (KZ.out _).mono ?_
  rintro e w1 ⟨rfl, hB1⟩
  have A1 := hide_ (A0.out.keep hB1)
  clear hB1 A0 KZ
  have a0 : w1.cell? ⟨w.heap.size, 0, none⟩ = some (.int .i64 wide) := box_cell A1.out.box 0 _ rfl
  have a1 : w1.cell? ⟨w.heap.size, 1, none⟩ = some (.int .i64 high) := box_cell A1.out.box 1 _ rfl
  have a2 : w1.cell? ⟨w.heap.size, 2, none⟩ = some (.bool wrap) := box_cell A1.out.box 2 _ rfl
  have a3 : w1.cell? ⟨w.heap.size, 3, none⟩ = some (.slice A xs.length c) := box_cell A1.out.box 3 _ rfl
  have a4 : w1.cell? ⟨w.heap.size, 4, none⟩ = some (.slice B ys.length d) := box_cell A1.out.box 4 _ rfl
  go_wp2_with fail
  go_at_call 11
  refine (g_toSheet A1.out.at hx2 hy2).mono ?_
  rintro e w2 ⟨hB2, v, rfl, hv⟩
  have A2 := hide_ (A1.out.keep hB2)
  have S2 := hide_ hv
  obtain ⟨S1, s1, S2', s2, rfl, _, _⟩ := hv
  clear hB2 A1
  clear a0 a1 a2 a3 a4
  go_wp2_with fail
  go_at_call 27
  refine (KS.out _ _ S2.out).mono ?_
  rintro e w3 ⟨hB3, v, rfl, v1, v2, v3, rfl, o1, o2, o3, p12, p13, p23⟩
  obtain ⟨F1w, f1w, rfl⟩ := o1.form
  obtain ⟨F2w, f2w, rfl⟩ := o2.form
  obtain ⟨F3w, f3w, rfl⟩ := o3.form
  have W3 := hide_ (FB.make o1 o2 o3 p12 p13 p23)
  have hb3 : Below w3.heap.size w3 (w3.alloc (Obj.cells #[.slice F1w zs.length f1w, .slice F2w zs.length f2w, .slice F3w zs.length f3w] 35)) := (Below.refl _ _).alloc (Nat.le_refl _) _
  have A3' := hide_ (A2.out.keep hB3)
  have A3 := hide_ (A3'.out.keep hb3)
  have l0 : w.heap.size < w2.heap.size := A2.out.lt
  have l1 : w2.heap.size ≤ w3.heap.size := hB3.size
  have l2 : w.heap.size < w3.heap.size := by omega
  clear hB3 o1 o2 o3 p12 p13 p23 hb3 S2 A2
  have a0 : w3.cell? ⟨w.heap.size, 0, none⟩ = some (.int .i64 wide) := box_cell A3'.out.box 0 _ rfl
  have a1 : w3.cell? ⟨w.heap.size, 1, none⟩ = some (.int .i64 high) := box_cell A3'.out.box 1 _ rfl
  have a2 : w3.cell? ⟨w.heap.size, 2, none⟩ = some (.bool wrap) := box_cell A3'.out.box 2 _ rfl
  have a3 : w3.cell? ⟨w.heap.size, 3, none⟩ = some (.slice A xs.length c) := box_cell A3'.out.box 3 _ rfl
  have a4 : w3.cell? ⟨w.heap.size, 4, none⟩ = some (.slice B ys.length d) := box_cell A3'.out.box 4 _ rfl
  clear A3'
  go_wp2_with fail
  clear a0 a1 a2 a3 a4
  go_at_call 11
  refine (o_toSheet wide high wrap A c B d xs ys _ A3.out.fa A3.out.fb hx2 hy2).mono ?_
  rintro e w4 ⟨hB4, v, rfl, vs, vl, rfl, o1, o2, ap⟩
  obtain ⟨S1x, s1x, rfl⟩ := o1.form
  obtain ⟨S2x, s2x, rfl⟩ := o2.form
  have hn3 : (w3.alloc (Obj.cells #[.slice F1w zs.length f1w, .slice F2w zs.length f2w, .slice F3w zs.length f3w] 35)).heap.size = w3.heap.size + 1 := by simp
  rw [hn3] at o1 o2
  have X4 := hide_ (SB.make (wide := wide) (high := high) (wrap := wrap) o1 o2 ap)
  have hb4 : Below w4.heap.size w4 (w4.alloc (Obj.cells #[.int .i64 wide, .int .i64 high, .bool wrap, .slice S1x xs.length s1x, .slice S2x ys.length s2x] 27)) := (Below.refl _ _).alloc (Nat.le_refl _) _
  have A4 := hide_ ((A3.out.keep hB4).keep hb4)
  have W4 := hide_ ((W3.out.keep hB4).keep hb4)
  have l3 : w3.heap.size + 1 ≤ w4.heap.size := by have := hB4.size; rw [hn3] at this; exact this
  clear hB4 hb4 o1 o2 ap hn3 A3 W3
  go_wp2_with fail
  go_at_call 28
  refine (KI.out _ _ X4.out.at).mono ?_
  rintro e w5 ⟨hB5, v, rfl, v1, v2, v3, rfl, o1, o2, o3, p12, p13, p23⟩
  obtain ⟨F1g, f1g, rfl⟩ := o1.form
  obtain ⟨F2g, f2g, rfl⟩ := o2.form
  obtain ⟨F3g, f3g, rfl⟩ := o3.form
  have hn4 : (w4.alloc (Obj.cells #[.int .i64 wide, .int .i64 high, .bool wrap, .slice S1x xs.length s1x, .slice S2x ys.length s2x] 27)).heap.size = w4.heap.size + 1 := by simp
  rw [hn4] at o1 o2 o3
  have G5 := hide_ (FB.make o1 o2 o3 p12 p13 p23)
  have hb5 : Below w5.heap.size w5 (w5.alloc (Obj.cells #[.slice F1g zs.length f1g, .slice F2g zs.length f2g, .slice F3g zs.length f3g] 35)) := (Below.refl _ _).alloc (Nat.le_refl _) _
  have W5' := hide_ (W4.out.keep hB5)
  have A5 := hide_ ((A4.out.keep hB5).keep hb5)
  have W5 := hide_ (W5'.out.keep hb5)
  have X5 := hide_ ((X4.out.keep hB5).keep hb5)
  have l4 : w4.heap.size + 1 ≤ w5.heap.size := by have := hB5.size; rw [hn4] at this; exact this
  have l5 : w3.heap.size < w5.heap.size := by omega
  clear hB5 hb5 o1 o2 o3 p12 p13 p23 hn4 A4 W4 X4
  have y0 : w5.cell? ⟨w3.heap.size, 0, none⟩ = some (.slice F1w zs.length f1w) := box_cell W5'.out.box 0 _ rfl
  have y1 : w5.cell? ⟨w3.heap.size, 1, none⟩ = some (.slice F2w zs.length f2w) := box_cell W5'.out.box 1 _ rfl
  have y2 : w5.cell? ⟨w3.heap.size, 2, none⟩ = some (.slice F3w zs.length f3w) := box_cell W5'.out.box 2 _ rfl
  clear W5'
  have E5 := hide_ (g_eqField G5.out.at W5.out.at AZ.out AZ.out AZ.out (by omega) (by omega) (by omega))
  go_wp2_with fail
  clear y0 y1 y2
  go_at_call 18
  refine Calls.mono E5.out ?_
  rintro e w6 ⟨hB6, v, rfl, rfl⟩
  have A6 := hide_ (A5.out.keep hB6)
  have W6 := hide_ (W5.out.keep hB6)
  have X6 := hide_ (X5.out.keep hB6)
  have G6 := hide_ (G5.out.keep hB6)
  clear hB6 A5 W5 X5 G5 E5
  go_wp2_with fail
  have h6 : (AB w wide high wrap A c B d xs ys w6 ∧ FB w2.heap.size w3.heap.size zs zs zs (.slice F1w zs.length f1w) (.slice F2w zs.length f2w) (.slice F3w zs.length f3w) w6) ∧ SB (w3.heap.size + 1) w4.heap.size wide high wrap xs ys (.slice S1x xs.length s1x) (.slice S2x ys.length s2x) w6 ∧ FB (w4.heap.size + 1) w5.heap.size zs zs zs (.slice F1g zs.length f1g) (.slice F2g zs.length f2g) (.slice F3g zs.length f3g) w6 := ⟨⟨A6.out, W6.out⟩, X6.out, G6.out⟩
  clear A6 W6 X6 G6
  have H6 := hide_ h6
  clear h6
  refine wp_region_grow (fun i => 41 + i) (fun W => (AB w wide high wrap A c B d xs ys W ∧ FB w2.heap.size w3.heap.size zs zs zs (.slice F1w zs.length f1w) (.slice F2w zs.length f2w) (.slice F3w zs.length f3w) W) ∧ SB (w3.heap.size + 1) w4.heap.size wide high wrap xs ys (.slice S1x xs.length s1x) (.slice S2x ys.length s2x) W ∧ FB (w4.heap.size + 1) w5.heap.size zs zs zs (.slice F1g zs.length f1g) (.slice F2g zs.length f2g) (.slice F3g zs.length f3g) W) (fun i => ([fun v _ => v = (.agg #[.int .i64 wide, .int .i64 high, .bool wrap, .slice S1x xs.length s1x, .slice S2x ys.length s2x]), fun v _ => v = (.agg #[.int .i64 wide, .int .i64 high, .bool wrap, .slice A xs.length c, .slice B ys.length d]), SheetAt wide high wrap xs ys, fun v _ => v = .bool true, fun v _ => v = .bool false] : List (Value → World → Prop)).getD i (fun _ _ => True)) (by kernel_rfl) (guards_none (by kernel_rfl)) (edges_back (by kernel_rfl)) (fun i j _ _ h => by omega) (fun i hi => by simp at hi ⊢; omega) (fun W W' h hB => ⟨⟨h.1.1.keep hB, h.1.2.keep hB⟩, h.2.1.keep hB, h.2.2.keep hB⟩) (fun i v W W' hi _ hv hB => keeps_list (by simp only [List.forall_mem_cons, List.not_mem_nil, false_imp_iff, implies_true, and_true]; refine ⟨?_, ?_, ?_, ?_, ?_⟩ <;> first | exact keeps_pure _ | exact SheetAt.keep) i v W W' (by simpa using hi) hv hB) H6.out (fun i o ho a wq hC hF hV => ?_) (fun a wq hC hF hV => ?_)
  · clear H6
    obtain ⟨⟨hA, hW⟩, hX, hG⟩ := hC
    have f1 : a.tmps.getD 1 undef = .pointer (some ⟨w.heap.size, 0, none⟩) := hF.rest 1 (fun i hi => by omega)
    have f6 : a.tmps.getD 6 undef = .pointer (some ⟨w4.heap.size, 0, none⟩) := hF.rest 6 (fun i hi => by omega)
    have HA := hide_ hA
    have HX := hide_ hX
    clear hA hW hX hG
    match i, ho with
    | 0, ho =>
      obtain rfl := Option.some.inj ho
      have x0 : wq.cell? ⟨w4.heap.size, 0, none⟩ = some (.int .i64 wide) := box_cell HX.out.box 0 _ rfl
      have x1 : wq.cell? ⟨w4.heap.size, 1, none⟩ = some (.int .i64 high) := box_cell HX.out.box 1 _ rfl
      have x2 : wq.cell? ⟨w4.heap.size, 2, none⟩ = some (.bool wrap) := box_cell HX.out.box 2 _ rfl
      have x3 : wq.cell? ⟨w4.heap.size, 3, none⟩ = some (.slice S1x xs.length s1x) := box_cell HX.out.box 3 _ rfl
      have x4 : wq.cell? ⟨w4.heap.size, 4, none⟩ = some (.slice S2x ys.length s2x) := box_cell HX.out.box 4 _ rfl
      refine stepG_value (.agg #[.int .i64 wide, .int .i64 high, .bool wrap, .slice S1x xs.length s1x, .slice S2x ys.length s2x]) ?_ rfl rfl
      clear hV hF
      go_simp
    | 1, ho =>
      obtain rfl := Option.some.inj ho
      have a0 : wq.cell? ⟨w.heap.size, 0, none⟩ = some (.int .i64 wide) := box_cell HA.out.box 0 _ rfl
      have a1 : wq.cell? ⟨w.heap.size, 1, none⟩ = some (.int .i64 high) := box_cell HA.out.box 1 _ rfl
      have a2 : wq.cell? ⟨w.heap.size, 2, none⟩ = some (.bool wrap) := box_cell HA.out.box 2 _ rfl
      have a3 : wq.cell? ⟨w.heap.size, 3, none⟩ = some (.slice A xs.length c) := box_cell HA.out.box 3 _ rfl
      have a4 : wq.cell? ⟨w.heap.size, 4, none⟩ = some (.slice B ys.length d) := box_cell HA.out.box 4 _ rfl
      refine stepG_value (.agg #[.int .i64 wide, .int .i64 high, .bool wrap, .slice A xs.length c, .slice B ys.length d]) ?_ rfl rfl
      clear hV hF
      go_simp
    | 2, ho =>
      obtain rfl := Option.some.inj ho
      have e1 : a.tmps.getD 42 undef = (.agg #[.int .i64 wide, .int .i64 high, .bool wrap, .slice A xs.length c, .slice B ys.length d]) := hV ⟨1, .data⟩ (by simp) rfl
      refine stepG_call 11 #[(.agg #[.int .i64 wide, .int .i64 high, .bool wrap, .slice A xs.length c, .slice B ys.length d])] ?_ rfl (g_toSheet HA.out.at hx2 hy2)
      clear hV hF
      go_simp
    | 3, ho =>
      obtain rfl := Option.some.inj ho
      have e0 : a.tmps.getD 41 undef = (.agg #[.int .i64 wide, .int .i64 high, .bool wrap, .slice S1x xs.length s1x, .slice S2x ys.length s2x]) := hV ⟨0, .data⟩ (by simp) rfl
      have k2 : SheetAt wide high wrap xs ys (a.tmps.getD 43 undef) wq := hV ⟨2, .data⟩ (by simp) rfl
      have K2 := hide_ k2
      obtain ⟨Ak, ak, Bk, bk, qk, _, _⟩ := k2
      rw [qk] at K2
      refine stepG_call 13 #[(.agg #[.int .i64 wide, .int .i64 high, .bool wrap, .slice S1x xs.length s1x, .slice S2x ys.length s2x]), .agg #[.int .i64 wide, .int .i64 high, .bool wrap, .slice Ak xs.length ak, .slice Bk ys.length bk]] ?_ rfl (g_eqSheet HX.out.at K2.out AX.out AY.out hx2 hy2)
      clear hV hF
      go_simp
    | 4, ho =>
      obtain rfl := Option.some.inj ho
      have e3 : a.tmps.getD 44 undef = .bool true := hV ⟨3, .data⟩ (by simp) rfl
      refine stepG_value (.bool false) ?_ rfl rfl
      clear hV hF
      go_simp
    | n + 5, ho => cases ho
  · have hf := hF.form (fun s => 41 ≤ s ∧ s < 46) (fun s hs i hi => by simp at hi; omega)
    have eR : a.tmps.getD 45 undef = .bool false := hV 4 (by simp)
    simp only [List.size_toArray, List.length_cons, List.length_nil, Nat.reduceAdd, List.range_succ, List.range_zero, List.nil_append, List.cons_append, List.map_cons, List.map_nil, Nat.reduceLeDiff, Nat.reduceLT, Nat.reduceEqDiff, Nat.le_refl, or_false, false_or, or_true, true_or, and_false, and_true, if_true, if_false, Array.getD_eq_getD_getElem?, List.getElem?_toArray, List.getElem?_cons_zero, List.getElem?_cons_succ, Option.getD_some] at hf eR
    rw [eR] at hf
    simp only [← Array.getD_eq_getD_getElem?] at hf
    clear hV hF eR H6
    generalize a.tmps.getD 41 undef = g41 at hf
    generalize a.tmps.getD 42 undef = g42 at hf
    generalize a.tmps.getD 43 undef = g43 at hf
    generalize a.tmps.getD 44 undef = g44 at hf
    subst hf
    obtain ⟨⟨hA, hW⟩, hX, hG⟩ := hC
    have A7 := hide_ hA
    have W7 := hide_ hW
    have X7 := hide_ hX
    have G7 := hide_ hG
    clear hA hW hX hG
    have x0 : wq.cell? ⟨w4.heap.size, 0, none⟩ = some (.int .i64 wide) := box_cell X7.out.box 0 _ rfl
    have x1 : wq.cell? ⟨w4.heap.size, 1, none⟩ = some (.int .i64 high) := box_cell X7.out.box 1 _ rfl
    have x2 : wq.cell? ⟨w4.heap.size, 2, none⟩ = some (.bool wrap) := box_cell X7.out.box 2 _ rfl
    have x3 : wq.cell? ⟨w4.heap.size, 3, none⟩ = some (.slice S1x xs.length s1x) := box_cell X7.out.box 3 _ rfl
    have x4 : wq.cell? ⟨w4.heap.size, 4, none⟩ = some (.slice S2x ys.length s2x) := box_cell X7.out.box 4 _ rfl
    have M7 := hide_ (c_markSheet wide high wrap (w3.heap.size + 1) _ _ xs ys 1 wq X7.out.o1 X7.out.o2 X7.out.ap (by omega))
    go_wp2_with fail
    clear x0 x1 x2 x3 x4
    go_at_call 21
    refine Calls.mono M7.out ?_
    rintro e w8 ⟨rfl, o1, o2, hM⟩
    have hch := X7.out.marked hM
    have A8 := hide_ (A7.out.chg hch (by omega))
    have W8 := hide_ (W7.out.chg hch (.inl (by omega)))
    have G8 := hide_ (G7.out.chg hch (.inr ⟨by omega, by omega⟩))
    have E8 := hide_ (g_eqField G8.out.at W8.out.at AZ.out AZ.out AZ.out (by omega) (by omega) (by omega))
    clear hch o1 o2 hM A7 W7 X7 G7 M7
    have y0 : w8.cell? ⟨w3.heap.size, 0, none⟩ = some (.slice F1w zs.length f1w) := box_cell W8.out.box 0 _ rfl
    have y1 : w8.cell? ⟨w3.heap.size, 1, none⟩ = some (.slice F2w zs.length f2w) := box_cell W8.out.box 1 _ rfl
    have y2 : w8.cell? ⟨w3.heap.size, 2, none⟩ = some (.slice F3w zs.length f3w) := box_cell W8.out.box 2 _ rfl
    have g0 : w8.cell? ⟨w5.heap.size, 0, none⟩ = some (.slice F1g zs.length f1g) := box_cell G8.out.box 0 _ rfl
    have g1 : w8.cell? ⟨w5.heap.size, 1, none⟩ = some (.slice F2g zs.length f2g) := box_cell G8.out.box 1 _ rfl
    have g2 : w8.cell? ⟨w5.heap.size, 2, none⟩ = some (.slice F3g zs.length f3g) := box_cell G8.out.box 2 _ rfl
    go_wp2_with fail
    clear y0 y1 y2
    clear g0 g1 g2
    go_at_call 18
    refine Calls.mono E8.out ?_
    rintro e w9 ⟨hB9, v, rfl, rfl⟩
    have A9 := hide_ (A8.out.keep hB9)
    have W9 := hide_ (W8.out.keep hB9)
    have G9 := hide_ (G8.out.keep hB9)
    have M9 := hide_ (c_markField (w4.heap.size + 1) _ _ _ zs zs zs 1 w9 G9.out.o1 G9.out.o2 G9.out.o3 G9.out.p12 G9.out.p13 G9.out.p23 (by omega))
    clear hB9 A8 W8 G8 E8
    have g0 : w9.cell? ⟨w5.heap.size, 0, none⟩ = some (.slice F1g zs.length f1g) := box_cell G9.out.box 0 _ rfl
    have g1 : w9.cell? ⟨w5.heap.size, 1, none⟩ = some (.slice F2g zs.length f2g) := box_cell G9.out.box 1 _ rfl
    have g2 : w9.cell? ⟨w5.heap.size, 2, none⟩ = some (.slice F3g zs.length f3g) := box_cell G9.out.box 2 _ rfl
    go_wp2_with fail
    clear g0 g1 g2
    go_at_call 29
    refine Calls.mono M9.out ?_
    rintro e w10 ⟨rfl, o1, o2, o3, hM⟩
    have hch := G9.out.marked hM
    have A10 := hide_ (A9.out.chg hch (by omega))
    have W10 := hide_ (W9.out.chg hch (.inl (by omega)))
    have G10 := hide_ (G9.out.remark hM o1 o2 o3)
    have E10 := hide_ (c_heldField 1 zs.length zs.length zs.length _ w10 G10.out.at (by omega))
    clear hch o1 o2 o3 hM A9 W9 G9 M9
    have g0 : w10.cell? ⟨w5.heap.size, 0, none⟩ = some (.slice F1g zs.length f1g) := box_cell G10.out.box 0 _ rfl
    have g1 : w10.cell? ⟨w5.heap.size, 1, none⟩ = some (.slice F2g zs.length f2g) := box_cell G10.out.box 1 _ rfl
    have g2 : w10.cell? ⟨w5.heap.size, 2, none⟩ = some (.slice F3g zs.length f3g) := box_cell G10.out.box 2 _ rfl
    go_wp2_with fail
    clear g0 g1 g2
    go_at_call 30
    refine Calls.mono E10.out ?_
    rintro e w11 ⟨rfl, hB11⟩
    have A11 := hide_ (A10.out.keep hB11)
    have W11 := hide_ (W10.out.keep hB11)
    have G11 := hide_ (G10.out.keep hB11)
    clear hB11 A10 W10 G10 E10
    have a0 : w11.cell? ⟨w.heap.size, 0, none⟩ = some (.int .i64 wide) := box_cell A11.out.box 0 _ rfl
    have a1 : w11.cell? ⟨w.heap.size, 1, none⟩ = some (.int .i64 high) := box_cell A11.out.box 1 _ rfl
    have a2 : w11.cell? ⟨w.heap.size, 2, none⟩ = some (.bool wrap) := box_cell A11.out.box 2 _ rfl
    have a3 : w11.cell? ⟨w.heap.size, 3, none⟩ = some (.slice A xs.length c) := box_cell A11.out.box 3 _ rfl
    have a4 : w11.cell? ⟨w.heap.size, 4, none⟩ = some (.slice B ys.length d) := box_cell A11.out.box 4 _ rfl
    go_wp2_with fail
    clear a0 a1 a2 a3 a4
    go_at_call 11
    refine (g_toSheet A11.out.at hx2 hy2).mono ?_
    rintro e w12 ⟨hB12, v, rfl, hv⟩
    have A12 := hide_ (A11.out.keep hB12)
    have W12 := hide_ (W11.out.keep hB12)
    have G12 := hide_ (G11.out.keep hB12)
    have S12 := hide_ hv
    obtain ⟨Sa, sa, Sb, sb, rfl, _, _⟩ := hv
    clear hB12 A11 W11 G11
    go_wp2_with fail
    go_at_call 28
    refine (KI.out _ _ S12.out).mono ?_
    rintro e w13 ⟨hB13, v, rfl, v1, v2, v3, rfl, o1, o2, o3, p12, p13, p23⟩
    obtain ⟨F1h, f1h, rfl⟩ := o1.form
    obtain ⟨F2h, f2h, rfl⟩ := o2.form
    obtain ⟨F3h, f3h, rfl⟩ := o3.form
    have H13 := hide_ (FB.make o1 o2 o3 p12 p13 p23)
    have hb13 : Below w13.heap.size w13 (w13.alloc (Obj.cells #[.slice F1h zs.length f1h, .slice F2h zs.length f2h, .slice F3h zs.length f3h] 35)) := (Below.refl _ _).alloc (Nat.le_refl _) _
    have W13' := hide_ (W12.out.keep hB13)
    have A13 := hide_ ((A12.out.keep hB13).keep hb13)
    have W13 := hide_ (W13'.out.keep hb13)
    have G13 := hide_ ((G12.out.keep hB13).keep hb13)
    have l13 : w3.heap.size < w13.heap.size := W13'.out.lt
    have E13 := hide_ (g_eqField H13.out.at W13.out.at AZ.out AZ.out AZ.out (by omega) (by omega) (by omega))
    clear hB13 hb13 o1 o2 o3 p12 p13 p23 A12 W12 G12 S12
    have y0 : w13.cell? ⟨w3.heap.size, 0, none⟩ = some (.slice F1w zs.length f1w) := box_cell W13'.out.box 0 _ rfl
    have y1 : w13.cell? ⟨w3.heap.size, 1, none⟩ = some (.slice F2w zs.length f2w) := box_cell W13'.out.box 1 _ rfl
    have y2 : w13.cell? ⟨w3.heap.size, 2, none⟩ = some (.slice F3w zs.length f3w) := box_cell W13'.out.box 2 _ rfl
    clear W13'
    go_wp2_with fail
    clear y0 y1 y2
    go_at_call 18
    refine Calls.mono E13.out ?_
    rintro e w14 ⟨hB14, v, rfl, rfl⟩
    have A14 := hide_ (A13.out.keep hB14)
    have G14 := hide_ (G13.out.keep hB14)
    have E14 := hide_ (c_heldField 1 zs.length zs.length zs.length _ w14 G14.out.at (by omega))
    clear hB14 A13 W13 G13 E13 H13
    have g0 : w14.cell? ⟨w5.heap.size, 0, none⟩ = some (.slice F1g zs.length f1g) := box_cell G14.out.box 0 _ rfl
    have g1 : w14.cell? ⟨w5.heap.size, 1, none⟩ = some (.slice F2g zs.length f2g) := box_cell G14.out.box 1 _ rfl
    have g2 : w14.cell? ⟨w5.heap.size, 2, none⟩ = some (.slice F3g zs.length f3g) := box_cell G14.out.box 2 _ rfl
    go_wp2_with fail
    clear g0 g1 g2
    go_at_call 30
    refine Calls.mono E14.out ?_
    rintro e w15 ⟨rfl, hB15⟩
    have A15 := hide_ (A14.out.keep hB15)
    clear hB15 A14 G14 E14
    go_wp2_with fail
    go_ret
    exact ⟨rfl, A15.out.bel⟩

theorem walk_FnExactZeroField (wide high : Int) (wrap : Bool) (A : Option Addr) (c : Nat) (B : Option Addr) (d : Nat) (xs ys : List Nat) (w : World) (fA : Fl32 w A xs) (fB : Fl32 w B ys) (ax : All32 xs) (ay : All32 ys) (hx : xs.length ≤ maxLen) (hy : ys.length ≤ maxLen) :
    Calls Try.prog 8 #[.agg #[.int .i64 wide, .int .i64 high, .bool wrap, .slice A xs.length c, .slice B ys.length d]] w (Law w) := by
  unfold maxLen at hx hy
  by_cases hneg : szL (szL 1048576 xs.length) ys.length < 0
  · have HZ := hide_ (c_szSheet wide high wrap A c B d xs.length ys.length 1048576 (by omega) (by omega) (by decide) (by decide))
    have HB0 := hide_ (show Below w.heap.size w (w.alloc (Obj.cells #[.int .i64 wide, .int .i64 high, .bool wrap, .slice A xs.length c, .slice B ys.length d] 24)) from (Below.refl _ _).alloc (Nat.le_refl _) _)
    go_enter Try.func8, Try.ntmps8
    go_wp2_with fail
    go_at_call 9
    refine (HZ.out _).mono ?_
    rintro e w1 ⟨rfl, hB1⟩
    have HB1 := hide_ (HB0.out.trans (hB1.mono HB0.out.size))
    clear hB1
    go_wp2_with fail
    go_ret
    exact ⟨rfl, HB1.out⟩
  · have h0 : 0 ≤ szL (szL 1048576 xs.length) ys.length := by omega
    have hxy : xs.length + ys.length ≤ 1048576 := by
      unfold szL at h0
      split at h0 <;> split at h0 <;> omega
    cases hv : sheetV wide high xs ys
    · exact zero_core wide high wrap A c B d xs ys false [] w fA fB ax ay (fun j => by simp) h0 hxy (by simp)
        (fun v W ⟨A, a, B, b, e, f1, f2⟩ => by subst e; exact c_specZero_no wide high wrap A a B b xs ys W f1 f2 (by omega) (by omega) hv)
        (fun v W ⟨A, a, B, b, e, f1, f2⟩ => by subst e; exact c_implZero_no wide high wrap A a B b xs ys W f1 f2 (by omega) (by omega) hv)
    · have hlen : xs.length ≤ 256 := by
        have hv' := hv
        unfold sheetV at hv'
        simp only [Bool.and_eq_true, decide_eq_true_eq] at hv'
        obtain ⟨a1, a2, a3, a4⟩ := sides_iff.1 hv'.1
        have := mul_bound a1 a2 a3 a4
        omega
      exact zero_core wide high wrap A c B d xs ys true (List.replicate xs.length 0) w fA fB ax ay (all32_rep (by decide)) h0 hxy (by simpa using hlen)
        (fun v W ⟨A, a, B, b, e, f1, f2⟩ => by subst e; exact c_specZero_yes wide high wrap A a B b xs ys W f1 f2 (by omega) (by omega) hv)
        (fun v W ⟨A, a, B, b, e, f1, f2⟩ => by subst e; exact c_implZero_yes wide high wrap A a B b xs ys W f1 f2 (by omega) (by omega) hv)

end Go.Proofs.Ytbfilganggllkaa
