/-
The law on IsField, walked.
-/
import Derived.Test.YtbfilganggllkaaFd2
set_option linter.unusedVariables false
set_option linter.unusedSimpArgs false
namespace Go.Proofs.Ytbfilganggllkaa
open Fl Go.RowKit

set_option maxRecDepth 100000 in
set_option maxHeartbeats 4000000 in
theorem law_FnExactIsField (wide0 high0 : Int) (wrap0 : Bool) (A0 B0 : Option Addr) (a0 b0 : Nat) (xs0 ys0 : List Nat) (A1 B1 C1 : Option Addr) (a1 b1 c1 : Nat) (xs1 ys1 zs1 : List Nat) (w : World) (fA0 : Fl32 w A0 xs0) (fB0 : Fl32 w B0 ys0) (fA1 : Fl32 w A1 xs1) (fB1 : Fl32 w B1 ys1) (fC1 : Fl32 w C1 zs1) (axxs0 : All32 xs0) (axys0 : All32 ys0) (axxs1 : All32 xs1) (axys1 : All32 ys1) (axzs1 : All32 zs1) (hxs0 : xs0.length ≤ 9223372036854775807) (hys0 : ys0.length ≤ 9223372036854775807) (hxs1 : xs1.length ≤ 9223372036854775807) (hys1 : ys1.length ≤ 9223372036854775807) (hzs1 : zs1.length ≤ 9223372036854775807) :
    Calls Try.prog 7 #[.agg #[.int .i64 wide0, .int .i64 high0, .bool wrap0, .slice A0 xs0.length a0, .slice B0 ys0.length b0], .agg #[.slice A1 xs1.length a1, .slice B1 ys1.length b1, .slice C1 zs1.length c1]] w (Law w) := by
  have hB0 : Below w.heap.size w ((w.alloc (Obj.cells #[.int .i64 wide0, .int .i64 high0, .bool wrap0, .slice A0 xs0.length a0, .slice B0 ys0.length b0] 24)).alloc (Obj.cells #[.slice A1 xs1.length a1, .slice B1 ys1.length b1, .slice C1 zs1.length c1] 32)) := ((Below.refl _ _).alloc (Nat.le_refl _) _).alloc (by simp) _
  have HZ0 : Hid _ := c_szSheet wide0 high0 wrap0 A0 a0 B0 b0 xs0.length ys0.length 1048576 hxs0 hys0 (by decide) (by decide)
  by_cases hneg : (szL (szL 1048576 xs0.length) ys0.length) < 0
  · go_enter Try.func7, Try.ntmps7
    go_wp2_with fail
    go_at_call 9
    refine (HZ0.out _).mono ?_
    rintro e v0 ⟨rfl, hB1⟩
    go_wp2_with fail
    go_ret
    exact ⟨rfl, (hB0).trans (hB1.mono (hB0).size)⟩
  · have q0 : 0 ≤ (szL (szL 1048576 xs0.length) ys0.length) := by omega
    obtain ⟨r0_1, mys0⟩ := szL_nonneg (left := (szL 1048576 xs0.length)) (n := ys0.length) q0
    obtain ⟨r0_0, mxs0⟩ := szL_nonneg (left := 1048576) (n := xs0.length) r0_1
    have s0_0 : (szL 1048576 xs0.length) ≤ 1048576 := szL_le (by decide)
    have u0 : (szL (szL 1048576 xs0.length) ys0.length) ≤ 1048576 := szL_le s0_0
    have kxs0 : xs0.length ≤ 1048576 := by omega
    have kys0 : ys0.length ≤ 1048576 := by omega
    clear mxs0 mys0 r0_0 r0_1 s0_0 hneg
    generalize (szL (szL 1048576 xs0.length) ys0.length) = left0 at *
    have HZ1 : Hid _ := c_szField A1 a1 B1 b1 C1 c1 xs1.length ys1.length zs1.length left0 hxs1 hys1 hzs1 q0 u0
    by_cases hneg : (szL (szL (szL left0 xs1.length) ys1.length) zs1.length) < 0
    · go_enter Try.func7, Try.ntmps7
      go_wp2_with fail
      go_at_call 9
      refine (HZ0.out _).mono ?_
      rintro e v0 ⟨rfl, hB1⟩
      obtain ⟨hc0, hf0⟩ := bcell hB1
      go_wp2_with fail
      go_at_call 14
      refine (HZ1.out _).mono ?_
      rintro e v1 ⟨rfl, hB2⟩
      go_wp2_with fail
      go_ret
      exact ⟨rfl, ((hB0).trans (hB1.mono (hB0).size)).trans (hB2.mono ((hB0).trans (hB1.mono (hB0).size)).size)⟩
    · have q1 : 0 ≤ (szL (szL (szL left0 xs1.length) ys1.length) zs1.length) := by omega
      obtain ⟨r1_2, mzs1⟩ := szL_nonneg (left := (szL (szL left0 xs1.length) ys1.length)) (n := zs1.length) q1
      obtain ⟨r1_1, mys1⟩ := szL_nonneg (left := (szL left0 xs1.length)) (n := ys1.length) r1_2
      obtain ⟨r1_0, mxs1⟩ := szL_nonneg (left := left0) (n := xs1.length) r1_1
      have s1_0 : (szL left0 xs1.length) ≤ 1048576 := szL_le u0
      have s1_1 : (szL (szL left0 xs1.length) ys1.length) ≤ 1048576 := szL_le s1_0
      have u1 : (szL (szL (szL left0 xs1.length) ys1.length) zs1.length) ≤ 1048576 := szL_le s1_1
      have kxs1 : xs1.length ≤ 1048576 := by omega
      have kys1 : ys1.length ≤ 1048576 := by omega
      have kzs1 : zs1.length ≤ 1048576 := by omega
      clear mxs1 mys1 mzs1 r1_0 r1_1 r1_2 s1_0 s1_1 hneg
      generalize (szL (szL (szL left0 xs1.length) ys1.length) zs1.length) = left1 at *
      go_enter Try.func7, Try.ntmps7
      go_wp2_with fail
      go_at_call 9
      refine (HZ0.out _).mono ?_
      rintro e v0 ⟨rfl, hB1⟩
      obtain ⟨hc0, hf0⟩ := bcell hB1
      go_wp2_with fail
      go_at_call 14
      refine (HZ1.out _).mono ?_
      rintro e v1 ⟨rfl, hB2⟩
      have hW := (hB1).trans (hB2.mono (hB1).size)
      have y0_0 : v1.cell? ⟨w.heap.size, 0, none⟩ = some (.int .i64 wide0) := keepC hW (by first | (simp; done) | (simp; omega)) (by simp [go_sem])
      have y0_1 : v1.cell? ⟨w.heap.size, 1, none⟩ = some (.int .i64 high0) := keepC hW (by first | (simp; done) | (simp; omega)) (by simp [go_sem])
      have y0_2 : v1.cell? ⟨w.heap.size, 2, none⟩ = some (.bool wrap0) := keepC hW (by first | (simp; done) | (simp; omega)) (by simp [go_sem])
      have y0_3 : v1.cell? ⟨w.heap.size, 3, none⟩ = some (.slice A0 xs0.length a0) := keepC hW (by first | (simp; done) | (simp; omega)) (by simp [go_sem])
      have y0_4 : v1.cell? ⟨w.heap.size, 4, none⟩ = some (.slice B0 ys0.length b0) := keepC hW (by first | (simp; done) | (simp; omega)) (by simp [go_sem])
      have z0 : w.heap.size < v1.heap.size := by have := hW.size; simp at this; omega
      have y1_0 : v1.cell? ⟨w.heap.size + 1, 0, none⟩ = some (.slice A1 xs1.length a1) := keepC hW (by first | (simp; done) | (simp; omega)) (by simp [go_sem])
      have y1_1 : v1.cell? ⟨w.heap.size + 1, 1, none⟩ = some (.slice B1 ys1.length b1) := keepC hW (by first | (simp; done) | (simp; omega)) (by simp [go_sem])
      have y1_2 : v1.cell? ⟨w.heap.size + 1, 2, none⟩ = some (.slice C1 zs1.length c1) := keepC hW (by first | (simp; done) | (simp; omega)) (by simp [go_sem])
      have z1 : w.heap.size + 1 < v1.heap.size := by have := hW.size; simp at this; omega
      have sH : Held w [(w.heap.size, [.int .i64 wide0, .int .i64 high0, .bool wrap0, .slice A0 xs0.length a0, .slice B0 ys0.length b0]), (w.heap.size + 1, [.slice A1 xs1.length a1, .slice B1 ys1.length b1, .slice C1 zs1.length c1])] [(A0, xs0), (B0, ys0), (A1, xs1), (B1, ys1), (C1, zs1)] v1 := by
        refine ⟨?_, ?_, Nat.le_of_lt z0, hB0.trans (hW.mono hB0.size)⟩
        · intro p hp
          simp only [List.mem_cons, List.not_mem_nil, or_false] at hp
          rcases hp with rfl | rfl
          · exact ⟨z0, fun j v hv => by rcases j with _ | _ | _ | _ | _ | j <;> simp at hv <;> subst hv <;> assumption⟩
          · exact ⟨z1, fun j v hv => by rcases j with _ | _ | _ | j <;> simp at hv <;> subst hv <;> assumption⟩
        · intro p hp
          simp only [List.mem_cons, List.not_mem_nil, or_false] at hp
          rcases hp with rfl | rfl | rfl | rfl | rfl
          · exact Fl32.keep (Fl32.keep fA0 hB0 (Nat.le_refl _)) hW (Nat.le_refl _)
          · exact Fl32.keep (Fl32.keep fB0 hB0 (Nat.le_refl _)) hW (Nat.le_refl _)
          · exact Fl32.keep (Fl32.keep fA1 hB0 (Nat.le_refl _)) hW (Nat.le_refl _)
          · exact Fl32.keep (Fl32.keep fB1 hB0 (Nat.le_refl _)) hW (Nat.le_refl _)
          · exact Fl32.keep (Fl32.keep fC1 hB0 (Nat.le_refl _)) hW (Nat.le_refl _)
      clear y0_0 z0 y0_1 y0_2 y0_3 y0_4 y1_0 z1 y1_1 y1_2 hc0 hf0 hB1 hB2 hW hB0 HZ0 HZ1 fA0 fB0 fA1 fB1 fC1 u0 u1 hxs0 hys0 hxs1 hys1 hzs1
      go_wp2_with fail
      clear q0 q1
      refine wp_region_grow (fun i => if i = 0 then 20 else if i = 1 then 21 else if i = 2 then 22 else if i = 3 then 23 else if i = 4 then 24 else 6) (Held w [(w.heap.size, [.int .i64 wide0, .int .i64 high0, .bool wrap0, .slice A0 xs0.length a0, .slice B0 ys0.length b0]), (w.heap.size + 1, [.slice A1 xs1.length a1, .slice B1 ys1.length b1, .slice C1 zs1.length c1])] [(A0, xs0), (B0, ys0), (A1, xs1), (B1, ys1), (C1, zs1)]) (fun i => ([fun v _ => v = (.agg #[.int .i64 wide0, .int .i64 high0, .bool wrap0, .slice A0 xs0.length a0, .slice B0 ys0.length b0]), SheetAt wide0 high0 wrap0 xs0 ys0, fun v _ => v = (.agg #[.slice A1 xs1.length a1, .slice B1 ys1.length b1, .slice C1 zs1.length c1]), FieldAt xs1 ys1 zs1, fun v _ => v = .bool (isFieldV wide0 high0 wrap0 xs0 ys0 xs1 ys1 zs1), fun v _ => v = .bool (isFieldV wide0 high0 wrap0 xs0 ys0 xs1 ys1 zs1)] : List (Value → World → Prop)).getD i (fun _ _ => True)) (by kernel_rfl) (guards_none (by kernel_rfl)) (edges_back (by kernel_rfl)) (dst_inj (by decide)) (fun i hi => ?_) (fun w w' h hB => h.keep hB) (fun i v w w' hi _ hv hB => keeps_list (by simp only [List.forall_mem_cons, List.not_mem_nil, false_imp_iff, implies_true, and_true]; refine ⟨?_, ?_, ?_, ?_, ?_, ?_⟩ <;> first | exact keeps_pure _ | exact FieldAt.keep | exact SheetAt.keep) i v w w' (by simpa using hi) hv hB) sH (fun i o ho a wq hC hF hV => ?_) (fun a wq hC hF hV => ?_)
      · rcases i with _ | _ | _ | _ | _ | _ | i <;> simp at hi ⊢
      · clear sH
        have y0_0 : wq.cell? ⟨w.heap.size, 0, none⟩ = some (.int .i64 wide0) := (hC.box _ (List.mem_cons_self)).2 0 _ rfl
        have y0_1 : wq.cell? ⟨w.heap.size, 1, none⟩ = some (.int .i64 high0) := (hC.box _ (List.mem_cons_self)).2 1 _ rfl
        have y0_2 : wq.cell? ⟨w.heap.size, 2, none⟩ = some (.bool wrap0) := (hC.box _ (List.mem_cons_self)).2 2 _ rfl
        have y0_3 : wq.cell? ⟨w.heap.size, 3, none⟩ = some (.slice A0 xs0.length a0) := (hC.box _ (List.mem_cons_self)).2 3 _ rfl
        have y0_4 : wq.cell? ⟨w.heap.size, 4, none⟩ = some (.slice B0 ys0.length b0) := (hC.box _ (List.mem_cons_self)).2 4 _ rfl
        have y1_0 : wq.cell? ⟨w.heap.size + 1, 0, none⟩ = some (.slice A1 xs1.length a1) := (hC.box _ (List.mem_cons_of_mem _ (List.mem_cons_self))).2 0 _ rfl
        have y1_1 : wq.cell? ⟨w.heap.size + 1, 1, none⟩ = some (.slice B1 ys1.length b1) := (hC.box _ (List.mem_cons_of_mem _ (List.mem_cons_self))).2 1 _ rfl
        have y1_2 : wq.cell? ⟨w.heap.size + 1, 2, none⟩ = some (.slice C1 zs1.length c1) := (hC.box _ (List.mem_cons_of_mem _ (List.mem_cons_self))).2 2 _ rfl
        have f2 : a.tmps.getD 2 undef = .pointer (some ⟨w.heap.size, 0, none⟩) := hF.rest 2 (fun i hi => by rcases i with _ | _ | _ | _ | _ | _ | i <;> simp at hi ⊢)
        have f3 : a.tmps.getD 3 undef = .pointer (some ⟨w.heap.size + 1, 0, none⟩) := hF.rest 3 (fun i hi => by rcases i with _ | _ | _ | _ | _ | _ | i <;> simp at hi ⊢)
        match i, ho with
        | 0, ho =>
          obtain rfl := Option.some.inj ho
          refine stepG_value (.agg #[.int .i64 wide0, .int .i64 high0, .bool wrap0, .slice A0 xs0.length a0, .slice B0 ys0.length b0]) ?_ rfl rfl
          clear hV hF hC
          go_simp
        | 1, ho =>
          obtain rfl := Option.some.inj ho
          have e0 : a.tmps.getD 20 undef = (.agg #[.int .i64 wide0, .int .i64 high0, .bool wrap0, .slice A0 xs0.length a0, .slice B0 ys0.length b0]) := hV ⟨0, .data⟩ (by simp) rfl
          refine stepG_call 11 #[(.agg #[.int .i64 wide0, .int .i64 high0, .bool wrap0, .slice A0 xs0.length a0, .slice B0 ys0.length b0])] ?_ rfl (g_toSheet ⟨A0, a0, B0, b0, rfl, hC.list (A0, xs0) (List.mem_cons_self), hC.list (B0, ys0) (List.mem_cons_of_mem _ (List.mem_cons_self))⟩ kxs0 kys0)
          clear hV hF hC
          go_simp
        | 2, ho =>
          obtain rfl := Option.some.inj ho
          refine stepG_value (.agg #[.slice A1 xs1.length a1, .slice B1 ys1.length b1, .slice C1 zs1.length c1]) ?_ rfl rfl
          clear hV hF hC
          go_simp
        | 3, ho =>
          obtain rfl := Option.some.inj ho
          have e2 : a.tmps.getD 22 undef = (.agg #[.slice A1 xs1.length a1, .slice B1 ys1.length b1, .slice C1 zs1.length c1]) := hV ⟨2, .data⟩ (by simp) rfl
          refine stepG_call 16 #[(.agg #[.slice A1 xs1.length a1, .slice B1 ys1.length b1, .slice C1 zs1.length c1])] ?_ rfl (g_toField ⟨A1, a1, B1, b1, C1, c1, rfl, hC.list (A1, xs1) (List.mem_cons_of_mem _ (List.mem_cons_of_mem _ (List.mem_cons_self))), hC.list (B1, ys1) (List.mem_cons_of_mem _ (List.mem_cons_of_mem _ (List.mem_cons_of_mem _ (List.mem_cons_self)))), hC.list (C1, zs1) (List.mem_cons_of_mem _ (List.mem_cons_of_mem _ (List.mem_cons_of_mem _ (List.mem_cons_of_mem _ (List.mem_cons_self)))))⟩ kxs1 kys1 kzs1)
          clear hV hF hC
          go_simp
        | 4, ho =>
          obtain rfl := Option.some.inj ho
          obtain ⟨Ak1, ak1, Bk1, bk1, qk1, fAk1, fBk1⟩ : SheetAt wide0 high0 wrap0 xs0 ys0 (a.tmps.getD 21 undef) wq := hV ⟨1, .data⟩ (by simp) rfl
          obtain ⟨Ak3, ak3, Bk3, bk3, Ck3, ck3, qk3, fAk3, fBk3, fCk3⟩ : FieldAt xs1 ys1 zs1 (a.tmps.getD 23 undef) wq := hV ⟨3, .data⟩ (by simp) rfl
          refine stepG_call 25 #[(.agg #[.int .i64 wide0, .int .i64 high0, .bool wrap0, .slice Ak1 xs0.length ak1, .slice Bk1 ys0.length bk1]), (.agg #[.slice Ak3 xs1.length ak3, .slice Bk3 ys1.length bk3, .slice Ck3 zs1.length ck3])] ?_ rfl (g_spec_IsField ⟨Ak1, ak1, Bk1, bk1, rfl, fAk1, fBk1⟩ ⟨Ak3, ak3, Bk3, bk3, Ck3, ck3, rfl, fAk3, fBk3, fCk3⟩ axxs0 axys0 axxs1 axys1 axzs1 kxs0 kys0 kxs1 kys1 kzs1)
          clear hV hF hC
          go_simp
        | 5, ho =>
          obtain rfl := Option.some.inj ho
          have e4 : a.tmps.getD 24 undef = .bool (isFieldV wide0 high0 wrap0 xs0 ys0 xs1 ys1 zs1) := hV ⟨4, .data⟩ (by simp) rfl
          refine stepG_value (.bool (isFieldV wide0 high0 wrap0 xs0 ys0 xs1 ys1 zs1)) ?_ rfl rfl
          clear hV hF hC
          go_simp
        | n + 6, ho => cases ho
      · have hf := hF.form (fun s => s = 6 ∨ (20 ≤ s ∧ s < 25)) (fun s hs i hi => by rcases i with _ | _ | _ | _ | _ | _ | i <;> simp at hi ⊢ <;> omega)
        have eR : a.tmps.getD 6 undef = .bool (isFieldV wide0 high0 wrap0 xs0 ys0 xs1 ys1 zs1) := hV 5 (by simp)
        simp only [List.size_toArray, List.length_cons, List.length_nil, Nat.reduceAdd, List.range_succ, List.range_zero, List.nil_append, List.cons_append, List.map_cons, List.map_nil, Nat.reduceLeDiff, Nat.reduceLT, Nat.reduceEqDiff, Nat.le_refl, or_false, false_or, or_true, true_or, and_false, and_true, if_true, if_false, Array.getD_eq_getD_getElem?, List.getElem?_toArray, List.getElem?_cons_zero, List.getElem?_cons_succ, Option.getD_some] at hf eR
        rw [eR] at hf
        simp only [← Array.getD_eq_getD_getElem?] at hf
        clear hV hF eR
        generalize a.tmps.getD 20 undef = g20 at hf
        generalize a.tmps.getD 21 undef = g21 at hf
        generalize a.tmps.getD 22 undef = g22 at hf
        generalize a.tmps.getD 23 undef = g23 at hf
        generalize a.tmps.getD 24 undef = g24 at hf
        subst hf
        have y0_0 : wq.cell? ⟨w.heap.size, 0, none⟩ = some (.int .i64 wide0) := (hC.box _ (List.mem_cons_self)).2 0 _ rfl
        have y0_1 : wq.cell? ⟨w.heap.size, 1, none⟩ = some (.int .i64 high0) := (hC.box _ (List.mem_cons_self)).2 1 _ rfl
        have y0_2 : wq.cell? ⟨w.heap.size, 2, none⟩ = some (.bool wrap0) := (hC.box _ (List.mem_cons_self)).2 2 _ rfl
        have y0_3 : wq.cell? ⟨w.heap.size, 3, none⟩ = some (.slice A0 xs0.length a0) := (hC.box _ (List.mem_cons_self)).2 3 _ rfl
        have y0_4 : wq.cell? ⟨w.heap.size, 4, none⟩ = some (.slice B0 ys0.length b0) := (hC.box _ (List.mem_cons_self)).2 4 _ rfl
        have y1_0 : wq.cell? ⟨w.heap.size + 1, 0, none⟩ = some (.slice A1 xs1.length a1) := (hC.box _ (List.mem_cons_of_mem _ (List.mem_cons_self))).2 0 _ rfl
        have y1_1 : wq.cell? ⟨w.heap.size + 1, 1, none⟩ = some (.slice B1 ys1.length b1) := (hC.box _ (List.mem_cons_of_mem _ (List.mem_cons_self))).2 1 _ rfl
        have y1_2 : wq.cell? ⟨w.heap.size + 1, 2, none⟩ = some (.slice C1 zs1.length c1) := (hC.box _ (List.mem_cons_of_mem _ (List.mem_cons_self))).2 2 _ rfl
        have z0 : w.heap.size < wq.heap.size := (hC.box _ (List.mem_cons_self)).1
        have z1 : w.heap.size + 1 < wq.heap.size := (hC.box _ (List.mem_cons_of_mem _ (List.mem_cons_self))).1
        go_wp2_with fail
        go_at_call 11
        refine (g_toSheet (w := wq) ⟨A0, a0, B0, b0, rfl, hC.list (A0, xs0) (List.mem_cons_self), hC.list (B0, ys0) (List.mem_cons_of_mem _ (List.mem_cons_self))⟩ kxs0 kys0).mono ?_
        rintro e w0 ⟨hB, v, rfl, ⟨An0, an0, Bn0, bn0, rfl, fAn0, fBn0⟩⟩
        have sH0 := (((hC.keep hB).also fAn0).also fBn0)
        clear fAn0 fBn0
        clear hC y0_0 y0_1 y0_2 y0_3 y0_4 y1_0 y1_1 y1_2 z0 z1 hB
        have hW : Below w0.heap.size w0 (w0.alloc (Obj.cells #[.int .i64 wide0, .int .i64 high0, .bool wrap0, .slice An0 xs0.length an0, .slice Bn0 ys0.length bn0] 27)) := (Below.refl _ _).alloc (Nat.le_refl _) _
        have sG0 : Held w [(w0.heap.size, [.int .i64 wide0, .int .i64 high0, .bool wrap0, .slice An0 xs0.length an0, .slice Bn0 ys0.length bn0]), (w.heap.size, [.int .i64 wide0, .int .i64 high0, .bool wrap0, .slice A0 xs0.length a0, .slice B0 ys0.length b0]), (w.heap.size + 1, [.slice A1 xs1.length a1, .slice B1 ys1.length b1, .slice C1 zs1.length c1])] [(Bn0, ys0), (An0, xs0), (A0, xs0), (B0, ys0), (A1, xs1), (B1, ys1), (C1, zs1)] (w0.alloc (Obj.cells #[.int .i64 wide0, .int .i64 high0, .bool wrap0, .slice An0 xs0.length an0, .slice Bn0 ys0.length bn0] 27)) := Held.more (sH0.keep hW) (by simp) (fun j v hv => by rcases j with _ | _ | _ | _ | _ | j <;> simp at hv <;> subst hv <;> simp [go_sem])
        have y0_0 : w0.cell? ⟨w.heap.size, 0, none⟩ = some (.int .i64 wide0) := (sH0.box _ (List.mem_cons_self)).2 0 _ rfl
        have y0_1 : w0.cell? ⟨w.heap.size, 1, none⟩ = some (.int .i64 high0) := (sH0.box _ (List.mem_cons_self)).2 1 _ rfl
        have y0_2 : w0.cell? ⟨w.heap.size, 2, none⟩ = some (.bool wrap0) := (sH0.box _ (List.mem_cons_self)).2 2 _ rfl
        have y0_3 : w0.cell? ⟨w.heap.size, 3, none⟩ = some (.slice A0 xs0.length a0) := (sH0.box _ (List.mem_cons_self)).2 3 _ rfl
        have y0_4 : w0.cell? ⟨w.heap.size, 4, none⟩ = some (.slice B0 ys0.length b0) := (sH0.box _ (List.mem_cons_self)).2 4 _ rfl
        have y1_0 : w0.cell? ⟨w.heap.size + 1, 0, none⟩ = some (.slice A1 xs1.length a1) := (sH0.box _ (List.mem_cons_of_mem _ (List.mem_cons_self))).2 0 _ rfl
        have y1_1 : w0.cell? ⟨w.heap.size + 1, 1, none⟩ = some (.slice B1 ys1.length b1) := (sH0.box _ (List.mem_cons_of_mem _ (List.mem_cons_self))).2 1 _ rfl
        have y1_2 : w0.cell? ⟨w.heap.size + 1, 2, none⟩ = some (.slice C1 zs1.length c1) := (sH0.box _ (List.mem_cons_of_mem _ (List.mem_cons_self))).2 2 _ rfl
        have z0 : w.heap.size < w0.heap.size := (sH0.box _ (List.mem_cons_self)).1
        have z1 : w.heap.size + 1 < w0.heap.size := (sH0.box _ (List.mem_cons_of_mem _ (List.mem_cons_self))).1
        clear hW
        go_wp2_with fail
        clear sH0 y0_0 y0_1 y0_2 y0_3 y0_4 y1_0 y1_1 y1_2 z0 z1
        generalize hgw : w0.alloc (Obj.cells #[.int .i64 wide0, .int .i64 high0, .bool wrap0, .slice An0 xs0.length an0, .slice Bn0 ys0.length bn0] 27) = V0 at sG0 ⊢
        generalize w0.heap.size = p0 at sG0 ⊢
        clear hgw
        have y0_0 : V0.cell? ⟨p0, 0, none⟩ = some (.int .i64 wide0) := (sG0.box _ (List.mem_cons_self)).2 0 _ rfl
        have y0_1 : V0.cell? ⟨p0, 1, none⟩ = some (.int .i64 high0) := (sG0.box _ (List.mem_cons_self)).2 1 _ rfl
        have y0_2 : V0.cell? ⟨p0, 2, none⟩ = some (.bool wrap0) := (sG0.box _ (List.mem_cons_self)).2 2 _ rfl
        have y0_3 : V0.cell? ⟨p0, 3, none⟩ = some (.slice An0 xs0.length an0) := (sG0.box _ (List.mem_cons_self)).2 3 _ rfl
        have y0_4 : V0.cell? ⟨p0, 4, none⟩ = some (.slice Bn0 ys0.length bn0) := (sG0.box _ (List.mem_cons_self)).2 4 _ rfl
        have y1_0 : V0.cell? ⟨w.heap.size, 0, none⟩ = some (.int .i64 wide0) := (sG0.box _ (List.mem_cons_of_mem _ (List.mem_cons_self))).2 0 _ rfl
        have y1_1 : V0.cell? ⟨w.heap.size, 1, none⟩ = some (.int .i64 high0) := (sG0.box _ (List.mem_cons_of_mem _ (List.mem_cons_self))).2 1 _ rfl
        have y1_2 : V0.cell? ⟨w.heap.size, 2, none⟩ = some (.bool wrap0) := (sG0.box _ (List.mem_cons_of_mem _ (List.mem_cons_self))).2 2 _ rfl
        have y1_3 : V0.cell? ⟨w.heap.size, 3, none⟩ = some (.slice A0 xs0.length a0) := (sG0.box _ (List.mem_cons_of_mem _ (List.mem_cons_self))).2 3 _ rfl
        have y1_4 : V0.cell? ⟨w.heap.size, 4, none⟩ = some (.slice B0 ys0.length b0) := (sG0.box _ (List.mem_cons_of_mem _ (List.mem_cons_self))).2 4 _ rfl
        have y2_0 : V0.cell? ⟨w.heap.size + 1, 0, none⟩ = some (.slice A1 xs1.length a1) := (sG0.box _ (List.mem_cons_of_mem _ (List.mem_cons_of_mem _ (List.mem_cons_self)))).2 0 _ rfl
        have y2_1 : V0.cell? ⟨w.heap.size + 1, 1, none⟩ = some (.slice B1 ys1.length b1) := (sG0.box _ (List.mem_cons_of_mem _ (List.mem_cons_of_mem _ (List.mem_cons_self)))).2 1 _ rfl
        have y2_2 : V0.cell? ⟨w.heap.size + 1, 2, none⟩ = some (.slice C1 zs1.length c1) := (sG0.box _ (List.mem_cons_of_mem _ (List.mem_cons_of_mem _ (List.mem_cons_self)))).2 2 _ rfl
        have z0 : p0 < V0.heap.size := (sG0.box _ (List.mem_cons_self)).1
        have z1 : w.heap.size < V0.heap.size := (sG0.box _ (List.mem_cons_of_mem _ (List.mem_cons_self))).1
        have z2 : w.heap.size + 1 < V0.heap.size := (sG0.box _ (List.mem_cons_of_mem _ (List.mem_cons_of_mem _ (List.mem_cons_self)))).1
        go_wp2_with fail
        go_at_call 16
        refine (g_toField (w := V0) ⟨A1, a1, B1, b1, C1, c1, rfl, sG0.list (A1, xs1) (List.mem_cons_of_mem _ (List.mem_cons_of_mem _ (List.mem_cons_of_mem _ (List.mem_cons_of_mem _ (List.mem_cons_self))))), sG0.list (B1, ys1) (List.mem_cons_of_mem _ (List.mem_cons_of_mem _ (List.mem_cons_of_mem _ (List.mem_cons_of_mem _ (List.mem_cons_of_mem _ (List.mem_cons_self)))))), sG0.list (C1, zs1) (List.mem_cons_of_mem _ (List.mem_cons_of_mem _ (List.mem_cons_of_mem _ (List.mem_cons_of_mem _ (List.mem_cons_of_mem _ (List.mem_cons_of_mem _ (List.mem_cons_self)))))))⟩ kxs1 kys1 kzs1).mono ?_
        rintro e w1 ⟨hB, v, rfl, ⟨An1, an1, Bn1, bn1, Cn1, cn1, rfl, fAn1, fBn1, fCn1⟩⟩
        have sH1 := ((((sG0.keep hB).also fAn1).also fBn1).also fCn1)
        clear fAn1 fBn1 fCn1
        clear sG0 y0_0 y0_1 y0_2 y0_3 y0_4 y1_0 y1_1 y1_2 y1_3 y1_4 y2_0 y2_1 y2_2 z0 z1 z2 hB
        have hW : Below w1.heap.size w1 (w1.alloc (Obj.cells #[.slice An1 xs1.length an1, .slice Bn1 ys1.length bn1, .slice Cn1 zs1.length cn1] 35)) := (Below.refl _ _).alloc (Nat.le_refl _) _
        have sG1 : Held w [(w1.heap.size, [.slice An1 xs1.length an1, .slice Bn1 ys1.length bn1, .slice Cn1 zs1.length cn1]), (p0, [.int .i64 wide0, .int .i64 high0, .bool wrap0, .slice An0 xs0.length an0, .slice Bn0 ys0.length bn0]), (w.heap.size, [.int .i64 wide0, .int .i64 high0, .bool wrap0, .slice A0 xs0.length a0, .slice B0 ys0.length b0]), (w.heap.size + 1, [.slice A1 xs1.length a1, .slice B1 ys1.length b1, .slice C1 zs1.length c1])] [(Cn1, zs1), (Bn1, ys1), (An1, xs1), (Bn0, ys0), (An0, xs0), (A0, xs0), (B0, ys0), (A1, xs1), (B1, ys1), (C1, zs1)] (w1.alloc (Obj.cells #[.slice An1 xs1.length an1, .slice Bn1 ys1.length bn1, .slice Cn1 zs1.length cn1] 35)) := Held.more (sH1.keep hW) (by simp) (fun j v hv => by rcases j with _ | _ | _ | j <;> simp at hv <;> subst hv <;> simp [go_sem])
        have y0_0 : w1.cell? ⟨p0, 0, none⟩ = some (.int .i64 wide0) := (sH1.box _ (List.mem_cons_self)).2 0 _ rfl
        have y0_1 : w1.cell? ⟨p0, 1, none⟩ = some (.int .i64 high0) := (sH1.box _ (List.mem_cons_self)).2 1 _ rfl
        have y0_2 : w1.cell? ⟨p0, 2, none⟩ = some (.bool wrap0) := (sH1.box _ (List.mem_cons_self)).2 2 _ rfl
        have y0_3 : w1.cell? ⟨p0, 3, none⟩ = some (.slice An0 xs0.length an0) := (sH1.box _ (List.mem_cons_self)).2 3 _ rfl
        have y0_4 : w1.cell? ⟨p0, 4, none⟩ = some (.slice Bn0 ys0.length bn0) := (sH1.box _ (List.mem_cons_self)).2 4 _ rfl
        have y1_0 : w1.cell? ⟨w.heap.size, 0, none⟩ = some (.int .i64 wide0) := (sH1.box _ (List.mem_cons_of_mem _ (List.mem_cons_self))).2 0 _ rfl
        have y1_1 : w1.cell? ⟨w.heap.size, 1, none⟩ = some (.int .i64 high0) := (sH1.box _ (List.mem_cons_of_mem _ (List.mem_cons_self))).2 1 _ rfl
        have y1_2 : w1.cell? ⟨w.heap.size, 2, none⟩ = some (.bool wrap0) := (sH1.box _ (List.mem_cons_of_mem _ (List.mem_cons_self))).2 2 _ rfl
        have y1_3 : w1.cell? ⟨w.heap.size, 3, none⟩ = some (.slice A0 xs0.length a0) := (sH1.box _ (List.mem_cons_of_mem _ (List.mem_cons_self))).2 3 _ rfl
        have y1_4 : w1.cell? ⟨w.heap.size, 4, none⟩ = some (.slice B0 ys0.length b0) := (sH1.box _ (List.mem_cons_of_mem _ (List.mem_cons_self))).2 4 _ rfl
        have y2_0 : w1.cell? ⟨w.heap.size + 1, 0, none⟩ = some (.slice A1 xs1.length a1) := (sH1.box _ (List.mem_cons_of_mem _ (List.mem_cons_of_mem _ (List.mem_cons_self)))).2 0 _ rfl
        have y2_1 : w1.cell? ⟨w.heap.size + 1, 1, none⟩ = some (.slice B1 ys1.length b1) := (sH1.box _ (List.mem_cons_of_mem _ (List.mem_cons_of_mem _ (List.mem_cons_self)))).2 1 _ rfl
        have y2_2 : w1.cell? ⟨w.heap.size + 1, 2, none⟩ = some (.slice C1 zs1.length c1) := (sH1.box _ (List.mem_cons_of_mem _ (List.mem_cons_of_mem _ (List.mem_cons_self)))).2 2 _ rfl
        have z0 : p0 < w1.heap.size := (sH1.box _ (List.mem_cons_self)).1
        have z1 : w.heap.size < w1.heap.size := (sH1.box _ (List.mem_cons_of_mem _ (List.mem_cons_self))).1
        have z2 : w.heap.size + 1 < w1.heap.size := (sH1.box _ (List.mem_cons_of_mem _ (List.mem_cons_of_mem _ (List.mem_cons_self)))).1
        clear hW
        go_wp2_with fail
        clear sH1 y0_0 y0_1 y0_2 y0_3 y0_4 y1_0 y1_1 y1_2 y1_3 y1_4 y2_0 y2_1 y2_2 z0 z1 z2
        generalize hgw : w1.alloc (Obj.cells #[.slice An1 xs1.length an1, .slice Bn1 ys1.length bn1, .slice Cn1 zs1.length cn1] 35) = V1 at sG1 ⊢
        generalize w1.heap.size = p1 at sG1 ⊢
        clear hgw
        have y0_0 : V1.cell? ⟨p1, 0, none⟩ = some (.slice An1 xs1.length an1) := (sG1.box _ (List.mem_cons_self)).2 0 _ rfl
        have y0_1 : V1.cell? ⟨p1, 1, none⟩ = some (.slice Bn1 ys1.length bn1) := (sG1.box _ (List.mem_cons_self)).2 1 _ rfl
        have y0_2 : V1.cell? ⟨p1, 2, none⟩ = some (.slice Cn1 zs1.length cn1) := (sG1.box _ (List.mem_cons_self)).2 2 _ rfl
        have y1_0 : V1.cell? ⟨p0, 0, none⟩ = some (.int .i64 wide0) := (sG1.box _ (List.mem_cons_of_mem _ (List.mem_cons_self))).2 0 _ rfl
        have y1_1 : V1.cell? ⟨p0, 1, none⟩ = some (.int .i64 high0) := (sG1.box _ (List.mem_cons_of_mem _ (List.mem_cons_self))).2 1 _ rfl
        have y1_2 : V1.cell? ⟨p0, 2, none⟩ = some (.bool wrap0) := (sG1.box _ (List.mem_cons_of_mem _ (List.mem_cons_self))).2 2 _ rfl
        have y1_3 : V1.cell? ⟨p0, 3, none⟩ = some (.slice An0 xs0.length an0) := (sG1.box _ (List.mem_cons_of_mem _ (List.mem_cons_self))).2 3 _ rfl
        have y1_4 : V1.cell? ⟨p0, 4, none⟩ = some (.slice Bn0 ys0.length bn0) := (sG1.box _ (List.mem_cons_of_mem _ (List.mem_cons_self))).2 4 _ rfl
        have y2_0 : V1.cell? ⟨w.heap.size, 0, none⟩ = some (.int .i64 wide0) := (sG1.box _ (List.mem_cons_of_mem _ (List.mem_cons_of_mem _ (List.mem_cons_self)))).2 0 _ rfl
        have y2_1 : V1.cell? ⟨w.heap.size, 1, none⟩ = some (.int .i64 high0) := (sG1.box _ (List.mem_cons_of_mem _ (List.mem_cons_of_mem _ (List.mem_cons_self)))).2 1 _ rfl
        have y2_2 : V1.cell? ⟨w.heap.size, 2, none⟩ = some (.bool wrap0) := (sG1.box _ (List.mem_cons_of_mem _ (List.mem_cons_of_mem _ (List.mem_cons_self)))).2 2 _ rfl
        have y2_3 : V1.cell? ⟨w.heap.size, 3, none⟩ = some (.slice A0 xs0.length a0) := (sG1.box _ (List.mem_cons_of_mem _ (List.mem_cons_of_mem _ (List.mem_cons_self)))).2 3 _ rfl
        have y2_4 : V1.cell? ⟨w.heap.size, 4, none⟩ = some (.slice B0 ys0.length b0) := (sG1.box _ (List.mem_cons_of_mem _ (List.mem_cons_of_mem _ (List.mem_cons_self)))).2 4 _ rfl
        have y3_0 : V1.cell? ⟨w.heap.size + 1, 0, none⟩ = some (.slice A1 xs1.length a1) := (sG1.box _ (List.mem_cons_of_mem _ (List.mem_cons_of_mem _ (List.mem_cons_of_mem _ (List.mem_cons_self))))).2 0 _ rfl
        have y3_1 : V1.cell? ⟨w.heap.size + 1, 1, none⟩ = some (.slice B1 ys1.length b1) := (sG1.box _ (List.mem_cons_of_mem _ (List.mem_cons_of_mem _ (List.mem_cons_of_mem _ (List.mem_cons_self))))).2 1 _ rfl
        have y3_2 : V1.cell? ⟨w.heap.size + 1, 2, none⟩ = some (.slice C1 zs1.length c1) := (sG1.box _ (List.mem_cons_of_mem _ (List.mem_cons_of_mem _ (List.mem_cons_of_mem _ (List.mem_cons_self))))).2 2 _ rfl
        have z0 : p1 < V1.heap.size := (sG1.box _ (List.mem_cons_self)).1
        have z1 : p0 < V1.heap.size := (sG1.box _ (List.mem_cons_of_mem _ (List.mem_cons_self))).1
        have z2 : w.heap.size < V1.heap.size := (sG1.box _ (List.mem_cons_of_mem _ (List.mem_cons_of_mem _ (List.mem_cons_self)))).1
        have z3 : w.heap.size + 1 < V1.heap.size := (sG1.box _ (List.mem_cons_of_mem _ (List.mem_cons_of_mem _ (List.mem_cons_of_mem _ (List.mem_cons_self))))).1
        go_wp2_with fail
        go_at_call 26
        refine (g_impl_IsField (w := V1) ⟨An0, an0, Bn0, bn0, rfl, sG1.list (An0, xs0) (List.mem_cons_of_mem _ (List.mem_cons_of_mem _ (List.mem_cons_of_mem _ (List.mem_cons_of_mem _ (List.mem_cons_self))))), sG1.list (Bn0, ys0) (List.mem_cons_of_mem _ (List.mem_cons_of_mem _ (List.mem_cons_of_mem _ (List.mem_cons_self))))⟩ ⟨An1, an1, Bn1, bn1, Cn1, cn1, rfl, sG1.list (An1, xs1) (List.mem_cons_of_mem _ (List.mem_cons_of_mem _ (List.mem_cons_self))), sG1.list (Bn1, ys1) (List.mem_cons_of_mem _ (List.mem_cons_self)), sG1.list (Cn1, zs1) (List.mem_cons_self)⟩ axxs0 axys0 axxs1 axys1 axzs1 kxs0 kys0 kxs1 kys1 kzs1).mono ?_
        rintro e U ⟨hB, v, rfl, rfl⟩
        have sU := sG1.keep hB
        clear sG1 y0_0 y0_1 y0_2 y1_0 y1_1 y1_2 y1_3 y1_4 y2_0 y2_1 y2_2 y2_3 y2_4 y3_0 y3_1 y3_2 z0 z1 z2 z3 hB
        go_wp2_with fail
        refine wp_region_grow (fun i => if i = 0 then 35 else if i = 1 then 36 else if i = 2 then 37 else if i = 3 then 38 else 39) (Held w [(p1, [.slice An1 xs1.length an1, .slice Bn1 ys1.length bn1, .slice Cn1 zs1.length cn1]), (p0, [.int .i64 wide0, .int .i64 high0, .bool wrap0, .slice An0 xs0.length an0, .slice Bn0 ys0.length bn0]), (w.heap.size, [.int .i64 wide0, .int .i64 high0, .bool wrap0, .slice A0 xs0.length a0, .slice B0 ys0.length b0]), (w.heap.size + 1, [.slice A1 xs1.length a1, .slice B1 ys1.length b1, .slice C1 zs1.length c1])] [(Cn1, zs1), (Bn1, ys1), (An1, xs1), (Bn0, ys0), (An0, xs0), (A0, xs0), (B0, ys0), (A1, xs1), (B1, ys1), (C1, zs1)]) (fun i => ([fun v _ => v = (.agg #[.int .i64 wide0, .int .i64 high0, .bool wrap0, .slice An0 xs0.length an0, .slice Bn0 ys0.length bn0]), fun v _ => v = (.agg #[.int .i64 wide0, .int .i64 high0, .bool wrap0, .slice A0 xs0.length a0, .slice B0 ys0.length b0]), SheetAt wide0 high0 wrap0 xs0 ys0, fun v _ => v = .bool true, fun v _ => v = .bool false] : List (Value → World → Prop)).getD i (fun _ _ => True)) (by kernel_rfl) (guards_none (by kernel_rfl)) (edges_back (by kernel_rfl)) (dst_inj (by decide)) (fun i hi => ?_) (fun w w' h hB => h.keep hB) (fun i v w w' hi _ hv hB => keeps_list (by simp only [List.forall_mem_cons, List.not_mem_nil, false_imp_iff, implies_true, and_true]; refine ⟨?_, ?_, ?_, ?_, ?_⟩ <;> first | exact keeps_pure _ | exact FieldAt.keep | exact SheetAt.keep) i v w w' (by simpa using hi) hv hB) sU (fun i o ho a wq hC hF hV => ?_) (fun a wq hC hF hV => ?_)
        · rcases i with _ | _ | _ | _ | _ | i <;> simp at hi ⊢
        · clear sU
          have y0_0 : wq.cell? ⟨p1, 0, none⟩ = some (.slice An1 xs1.length an1) := (hC.box _ (List.mem_cons_self)).2 0 _ rfl
          have y0_1 : wq.cell? ⟨p1, 1, none⟩ = some (.slice Bn1 ys1.length bn1) := (hC.box _ (List.mem_cons_self)).2 1 _ rfl
          have y0_2 : wq.cell? ⟨p1, 2, none⟩ = some (.slice Cn1 zs1.length cn1) := (hC.box _ (List.mem_cons_self)).2 2 _ rfl
          have y1_0 : wq.cell? ⟨p0, 0, none⟩ = some (.int .i64 wide0) := (hC.box _ (List.mem_cons_of_mem _ (List.mem_cons_self))).2 0 _ rfl
          have y1_1 : wq.cell? ⟨p0, 1, none⟩ = some (.int .i64 high0) := (hC.box _ (List.mem_cons_of_mem _ (List.mem_cons_self))).2 1 _ rfl
          have y1_2 : wq.cell? ⟨p0, 2, none⟩ = some (.bool wrap0) := (hC.box _ (List.mem_cons_of_mem _ (List.mem_cons_self))).2 2 _ rfl
          have y1_3 : wq.cell? ⟨p0, 3, none⟩ = some (.slice An0 xs0.length an0) := (hC.box _ (List.mem_cons_of_mem _ (List.mem_cons_self))).2 3 _ rfl
          have y1_4 : wq.cell? ⟨p0, 4, none⟩ = some (.slice Bn0 ys0.length bn0) := (hC.box _ (List.mem_cons_of_mem _ (List.mem_cons_self))).2 4 _ rfl
          have y2_0 : wq.cell? ⟨w.heap.size, 0, none⟩ = some (.int .i64 wide0) := (hC.box _ (List.mem_cons_of_mem _ (List.mem_cons_of_mem _ (List.mem_cons_self)))).2 0 _ rfl
          have y2_1 : wq.cell? ⟨w.heap.size, 1, none⟩ = some (.int .i64 high0) := (hC.box _ (List.mem_cons_of_mem _ (List.mem_cons_of_mem _ (List.mem_cons_self)))).2 1 _ rfl
          have y2_2 : wq.cell? ⟨w.heap.size, 2, none⟩ = some (.bool wrap0) := (hC.box _ (List.mem_cons_of_mem _ (List.mem_cons_of_mem _ (List.mem_cons_self)))).2 2 _ rfl
          have y2_3 : wq.cell? ⟨w.heap.size, 3, none⟩ = some (.slice A0 xs0.length a0) := (hC.box _ (List.mem_cons_of_mem _ (List.mem_cons_of_mem _ (List.mem_cons_self)))).2 3 _ rfl
          have y2_4 : wq.cell? ⟨w.heap.size, 4, none⟩ = some (.slice B0 ys0.length b0) := (hC.box _ (List.mem_cons_of_mem _ (List.mem_cons_of_mem _ (List.mem_cons_self)))).2 4 _ rfl
          have y3_0 : wq.cell? ⟨w.heap.size + 1, 0, none⟩ = some (.slice A1 xs1.length a1) := (hC.box _ (List.mem_cons_of_mem _ (List.mem_cons_of_mem _ (List.mem_cons_of_mem _ (List.mem_cons_self))))).2 0 _ rfl
          have y3_1 : wq.cell? ⟨w.heap.size + 1, 1, none⟩ = some (.slice B1 ys1.length b1) := (hC.box _ (List.mem_cons_of_mem _ (List.mem_cons_of_mem _ (List.mem_cons_of_mem _ (List.mem_cons_self))))).2 1 _ rfl
          have y3_2 : wq.cell? ⟨w.heap.size + 1, 2, none⟩ = some (.slice C1 zs1.length c1) := (hC.box _ (List.mem_cons_of_mem _ (List.mem_cons_of_mem _ (List.mem_cons_of_mem _ (List.mem_cons_self))))).2 2 _ rfl
          have f2 : a.tmps.getD 2 undef = .pointer (some ⟨w.heap.size, 0, none⟩) := hF.rest 2 (fun i hi => by rcases i with _ | _ | _ | _ | _ | i <;> simp at hi ⊢)
          have f7 : a.tmps.getD 7 undef = .pointer (some ⟨p0, 0, none⟩) := hF.rest 7 (fun i hi => by rcases i with _ | _ | _ | _ | _ | i <;> simp at hi ⊢)
          match i, ho with
          | 0, ho =>
            obtain rfl := Option.some.inj ho
            refine stepG_value (.agg #[.int .i64 wide0, .int .i64 high0, .bool wrap0, .slice An0 xs0.length an0, .slice Bn0 ys0.length bn0]) ?_ rfl rfl
            clear hV hF hC
            go_simp
          | 1, ho =>
            obtain rfl := Option.some.inj ho
            refine stepG_value (.agg #[.int .i64 wide0, .int .i64 high0, .bool wrap0, .slice A0 xs0.length a0, .slice B0 ys0.length b0]) ?_ rfl rfl
            clear hV hF hC
            go_simp
          | 2, ho =>
            obtain rfl := Option.some.inj ho
            have e1 : a.tmps.getD 36 undef = (.agg #[.int .i64 wide0, .int .i64 high0, .bool wrap0, .slice A0 xs0.length a0, .slice B0 ys0.length b0]) := hV ⟨1, .data⟩ (by simp) rfl
            refine stepG_call 11 #[(.agg #[.int .i64 wide0, .int .i64 high0, .bool wrap0, .slice A0 xs0.length a0, .slice B0 ys0.length b0])] ?_ rfl (g_toSheet ⟨A0, a0, B0, b0, rfl, hC.list (A0, xs0) (List.mem_cons_of_mem _ (List.mem_cons_of_mem _ (List.mem_cons_of_mem _ (List.mem_cons_of_mem _ (List.mem_cons_of_mem _ (List.mem_cons_self)))))), hC.list (B0, ys0) (List.mem_cons_of_mem _ (List.mem_cons_of_mem _ (List.mem_cons_of_mem _ (List.mem_cons_of_mem _ (List.mem_cons_of_mem _ (List.mem_cons_of_mem _ (List.mem_cons_self)))))))⟩ kxs0 kys0)
            clear hV hF hC
            go_simp
          | 3, ho =>
            obtain rfl := Option.some.inj ho
            have e0 : a.tmps.getD 35 undef = (.agg #[.int .i64 wide0, .int .i64 high0, .bool wrap0, .slice An0 xs0.length an0, .slice Bn0 ys0.length bn0]) := hV ⟨0, .data⟩ (by simp) rfl
            obtain ⟨Ak2, ak2, Bk2, bk2, qk2, fAk2, fBk2⟩ : SheetAt wide0 high0 wrap0 xs0 ys0 (a.tmps.getD 37 undef) wq := hV ⟨2, .data⟩ (by simp) rfl
            refine stepG_call 13 #[(.agg #[.int .i64 wide0, .int .i64 high0, .bool wrap0, .slice An0 xs0.length an0, .slice Bn0 ys0.length bn0]), (.agg #[.int .i64 wide0, .int .i64 high0, .bool wrap0, .slice Ak2 xs0.length ak2, .slice Bk2 ys0.length bk2])] ?_ rfl (g_eqSheet ⟨An0, an0, Bn0, bn0, rfl, hC.list (An0, xs0) (List.mem_cons_of_mem _ (List.mem_cons_of_mem _ (List.mem_cons_of_mem _ (List.mem_cons_of_mem _ (List.mem_cons_self))))), hC.list (Bn0, ys0) (List.mem_cons_of_mem _ (List.mem_cons_of_mem _ (List.mem_cons_of_mem _ (List.mem_cons_self))))⟩ ⟨Ak2, ak2, Bk2, bk2, rfl, fAk2, fBk2⟩ axxs0 axys0 kxs0 kys0)
            clear hV hF hC
            go_simp
          | 4, ho =>
            obtain rfl := Option.some.inj ho
            have e3 : a.tmps.getD 38 undef = .bool true := hV ⟨3, .data⟩ (by simp) rfl
            refine stepG_value (.bool false) ?_ rfl rfl
            clear hV hF hC
            go_simp
          | n + 5, ho => cases ho
        · have hf := hF.form (fun s => 35 ≤ s ∧ s < 40) (fun s hs i hi => by rcases i with _ | _ | _ | _ | _ | i <;> simp at hi ⊢ <;> omega)
          have eR : a.tmps.getD 39 undef = .bool false := hV 4 (by simp)
          simp only [List.size_toArray, List.length_cons, List.length_nil, Nat.reduceAdd, List.range_succ, List.range_zero, List.nil_append, List.cons_append, List.map_cons, List.map_nil, Nat.reduceLeDiff, Nat.reduceLT, Nat.reduceEqDiff, Nat.le_refl, or_false, false_or, or_true, true_or, and_false, and_true, if_true, if_false, Array.getD_eq_getD_getElem?, List.getElem?_toArray, List.getElem?_cons_zero, List.getElem?_cons_succ, Option.getD_some] at hf eR
          rw [eR] at hf
          simp only [← Array.getD_eq_getD_getElem?] at hf
          clear hV hF eR
          generalize a.tmps.getD 35 undef = g35 at hf
          generalize a.tmps.getD 36 undef = g36 at hf
          generalize a.tmps.getD 37 undef = g37 at hf
          generalize a.tmps.getD 38 undef = g38 at hf
          subst hf
          go_wp2_with fail
          generalize wq = U0 at hC ⊢
          have sU0 := hC
          clear hC
          refine wp_region_grow (fun i => if i = 0 then 40 else if i = 1 then 41 else if i = 2 then 42 else if i = 3 then 43 else 44) (Held w [(p1, [.slice An1 xs1.length an1, .slice Bn1 ys1.length bn1, .slice Cn1 zs1.length cn1]), (p0, [.int .i64 wide0, .int .i64 high0, .bool wrap0, .slice An0 xs0.length an0, .slice Bn0 ys0.length bn0]), (w.heap.size, [.int .i64 wide0, .int .i64 high0, .bool wrap0, .slice A0 xs0.length a0, .slice B0 ys0.length b0]), (w.heap.size + 1, [.slice A1 xs1.length a1, .slice B1 ys1.length b1, .slice C1 zs1.length c1])] [(Cn1, zs1), (Bn1, ys1), (An1, xs1), (Bn0, ys0), (An0, xs0), (A0, xs0), (B0, ys0), (A1, xs1), (B1, ys1), (C1, zs1)]) (fun i => ([fun v _ => v = (.agg #[.slice An1 xs1.length an1, .slice Bn1 ys1.length bn1, .slice Cn1 zs1.length cn1]), fun v _ => v = (.agg #[.slice A1 xs1.length a1, .slice B1 ys1.length b1, .slice C1 zs1.length c1]), FieldAt xs1 ys1 zs1, fun v _ => v = .bool true, fun v _ => v = .bool false] : List (Value → World → Prop)).getD i (fun _ _ => True)) (by kernel_rfl) (guards_none (by kernel_rfl)) (edges_back (by kernel_rfl)) (dst_inj (by decide)) (fun i hi => ?_) (fun w w' h hB => h.keep hB) (fun i v w w' hi _ hv hB => keeps_list (by simp only [List.forall_mem_cons, List.not_mem_nil, false_imp_iff, implies_true, and_true]; refine ⟨?_, ?_, ?_, ?_, ?_⟩ <;> first | exact keeps_pure _ | exact FieldAt.keep | exact SheetAt.keep) i v w w' (by simpa using hi) hv hB) sU0 (fun i o ho a wq hC hF hV => ?_) (fun a wq hC hF hV => ?_)
          · rcases i with _ | _ | _ | _ | _ | i <;> simp at hi ⊢
          · clear sU0
            have y0_0 : wq.cell? ⟨p1, 0, none⟩ = some (.slice An1 xs1.length an1) := (hC.box _ (List.mem_cons_self)).2 0 _ rfl
            have y0_1 : wq.cell? ⟨p1, 1, none⟩ = some (.slice Bn1 ys1.length bn1) := (hC.box _ (List.mem_cons_self)).2 1 _ rfl
            have y0_2 : wq.cell? ⟨p1, 2, none⟩ = some (.slice Cn1 zs1.length cn1) := (hC.box _ (List.mem_cons_self)).2 2 _ rfl
            have y1_0 : wq.cell? ⟨p0, 0, none⟩ = some (.int .i64 wide0) := (hC.box _ (List.mem_cons_of_mem _ (List.mem_cons_self))).2 0 _ rfl
            have y1_1 : wq.cell? ⟨p0, 1, none⟩ = some (.int .i64 high0) := (hC.box _ (List.mem_cons_of_mem _ (List.mem_cons_self))).2 1 _ rfl
            have y1_2 : wq.cell? ⟨p0, 2, none⟩ = some (.bool wrap0) := (hC.box _ (List.mem_cons_of_mem _ (List.mem_cons_self))).2 2 _ rfl
            have y1_3 : wq.cell? ⟨p0, 3, none⟩ = some (.slice An0 xs0.length an0) := (hC.box _ (List.mem_cons_of_mem _ (List.mem_cons_self))).2 3 _ rfl
            have y1_4 : wq.cell? ⟨p0, 4, none⟩ = some (.slice Bn0 ys0.length bn0) := (hC.box _ (List.mem_cons_of_mem _ (List.mem_cons_self))).2 4 _ rfl
            have y2_0 : wq.cell? ⟨w.heap.size, 0, none⟩ = some (.int .i64 wide0) := (hC.box _ (List.mem_cons_of_mem _ (List.mem_cons_of_mem _ (List.mem_cons_self)))).2 0 _ rfl
            have y2_1 : wq.cell? ⟨w.heap.size, 1, none⟩ = some (.int .i64 high0) := (hC.box _ (List.mem_cons_of_mem _ (List.mem_cons_of_mem _ (List.mem_cons_self)))).2 1 _ rfl
            have y2_2 : wq.cell? ⟨w.heap.size, 2, none⟩ = some (.bool wrap0) := (hC.box _ (List.mem_cons_of_mem _ (List.mem_cons_of_mem _ (List.mem_cons_self)))).2 2 _ rfl
            have y2_3 : wq.cell? ⟨w.heap.size, 3, none⟩ = some (.slice A0 xs0.length a0) := (hC.box _ (List.mem_cons_of_mem _ (List.mem_cons_of_mem _ (List.mem_cons_self)))).2 3 _ rfl
            have y2_4 : wq.cell? ⟨w.heap.size, 4, none⟩ = some (.slice B0 ys0.length b0) := (hC.box _ (List.mem_cons_of_mem _ (List.mem_cons_of_mem _ (List.mem_cons_self)))).2 4 _ rfl
            have y3_0 : wq.cell? ⟨w.heap.size + 1, 0, none⟩ = some (.slice A1 xs1.length a1) := (hC.box _ (List.mem_cons_of_mem _ (List.mem_cons_of_mem _ (List.mem_cons_of_mem _ (List.mem_cons_self))))).2 0 _ rfl
            have y3_1 : wq.cell? ⟨w.heap.size + 1, 1, none⟩ = some (.slice B1 ys1.length b1) := (hC.box _ (List.mem_cons_of_mem _ (List.mem_cons_of_mem _ (List.mem_cons_of_mem _ (List.mem_cons_self))))).2 1 _ rfl
            have y3_2 : wq.cell? ⟨w.heap.size + 1, 2, none⟩ = some (.slice C1 zs1.length c1) := (hC.box _ (List.mem_cons_of_mem _ (List.mem_cons_of_mem _ (List.mem_cons_of_mem _ (List.mem_cons_self))))).2 2 _ rfl
            have f3 : a.tmps.getD 3 undef = .pointer (some ⟨w.heap.size + 1, 0, none⟩) := hF.rest 3 (fun i hi => by rcases i with _ | _ | _ | _ | _ | i <;> simp at hi ⊢)
            have f8 : a.tmps.getD 8 undef = .pointer (some ⟨p1, 0, none⟩) := hF.rest 8 (fun i hi => by rcases i with _ | _ | _ | _ | _ | i <;> simp at hi ⊢)
            match i, ho with
            | 0, ho =>
              obtain rfl := Option.some.inj ho
              refine stepG_value (.agg #[.slice An1 xs1.length an1, .slice Bn1 ys1.length bn1, .slice Cn1 zs1.length cn1]) ?_ rfl rfl
              clear hV hF hC
              go_simp
            | 1, ho =>
              obtain rfl := Option.some.inj ho
              refine stepG_value (.agg #[.slice A1 xs1.length a1, .slice B1 ys1.length b1, .slice C1 zs1.length c1]) ?_ rfl rfl
              clear hV hF hC
              go_simp
            | 2, ho =>
              obtain rfl := Option.some.inj ho
              have e1 : a.tmps.getD 41 undef = (.agg #[.slice A1 xs1.length a1, .slice B1 ys1.length b1, .slice C1 zs1.length c1]) := hV ⟨1, .data⟩ (by simp) rfl
              refine stepG_call 16 #[(.agg #[.slice A1 xs1.length a1, .slice B1 ys1.length b1, .slice C1 zs1.length c1])] ?_ rfl (g_toField ⟨A1, a1, B1, b1, C1, c1, rfl, hC.list (A1, xs1) (List.mem_cons_of_mem _ (List.mem_cons_of_mem _ (List.mem_cons_of_mem _ (List.mem_cons_of_mem _ (List.mem_cons_of_mem _ (List.mem_cons_of_mem _ (List.mem_cons_of_mem _ (List.mem_cons_self)))))))), hC.list (B1, ys1) (List.mem_cons_of_mem _ (List.mem_cons_of_mem _ (List.mem_cons_of_mem _ (List.mem_cons_of_mem _ (List.mem_cons_of_mem _ (List.mem_cons_of_mem _ (List.mem_cons_of_mem _ (List.mem_cons_of_mem _ (List.mem_cons_self))))))))), hC.list (C1, zs1) (List.mem_cons_of_mem _ (List.mem_cons_of_mem _ (List.mem_cons_of_mem _ (List.mem_cons_of_mem _ (List.mem_cons_of_mem _ (List.mem_cons_of_mem _ (List.mem_cons_of_mem _ (List.mem_cons_of_mem _ (List.mem_cons_of_mem _ (List.mem_cons_self))))))))))⟩ kxs1 kys1 kzs1)
              clear hV hF hC
              go_simp
            | 3, ho =>
              obtain rfl := Option.some.inj ho
              have e0 : a.tmps.getD 40 undef = (.agg #[.slice An1 xs1.length an1, .slice Bn1 ys1.length bn1, .slice Cn1 zs1.length cn1]) := hV ⟨0, .data⟩ (by simp) rfl
              obtain ⟨Ak2, ak2, Bk2, bk2, Ck2, ck2, qk2, fAk2, fBk2, fCk2⟩ : FieldAt xs1 ys1 zs1 (a.tmps.getD 42 undef) wq := hV ⟨2, .data⟩ (by simp) rfl
              refine stepG_call 18 #[(.agg #[.slice An1 xs1.length an1, .slice Bn1 ys1.length bn1, .slice Cn1 zs1.length cn1]), (.agg #[.slice Ak2 xs1.length ak2, .slice Bk2 ys1.length bk2, .slice Ck2 zs1.length ck2])] ?_ rfl (g_eqField ⟨An1, an1, Bn1, bn1, Cn1, cn1, rfl, hC.list (An1, xs1) (List.mem_cons_of_mem _ (List.mem_cons_of_mem _ (List.mem_cons_self))), hC.list (Bn1, ys1) (List.mem_cons_of_mem _ (List.mem_cons_self)), hC.list (Cn1, zs1) (List.mem_cons_self)⟩ ⟨Ak2, ak2, Bk2, bk2, Ck2, ck2, rfl, fAk2, fBk2, fCk2⟩ axxs1 axys1 axzs1 kxs1 kys1 kzs1)
              clear hV hF hC
              go_simp
            | 4, ho =>
              obtain rfl := Option.some.inj ho
              have e3 : a.tmps.getD 43 undef = .bool true := hV ⟨3, .data⟩ (by simp) rfl
              refine stepG_value (.bool false) ?_ rfl rfl
              clear hV hF hC
              go_simp
            | n + 5, ho => cases ho
          · have hf := hF.form (fun s => 40 ≤ s ∧ s < 45) (fun s hs i hi => by rcases i with _ | _ | _ | _ | _ | i <;> simp at hi ⊢ <;> omega)
            have eR : a.tmps.getD 44 undef = .bool false := hV 4 (by simp)
            simp only [List.size_toArray, List.length_cons, List.length_nil, Nat.reduceAdd, List.range_succ, List.range_zero, List.nil_append, List.cons_append, List.map_cons, List.map_nil, Nat.reduceLeDiff, Nat.reduceLT, Nat.reduceEqDiff, Nat.le_refl, or_false, false_or, or_true, true_or, and_false, and_true, if_true, if_false, Array.getD_eq_getD_getElem?, List.getElem?_toArray, List.getElem?_cons_zero, List.getElem?_cons_succ, Option.getD_some] at hf eR
            rw [eR] at hf
            simp only [← Array.getD_eq_getD_getElem?] at hf
            clear hV hF eR
            generalize a.tmps.getD 40 undef = g40 at hf
            generalize a.tmps.getD 41 undef = g41 at hf
            generalize a.tmps.getD 42 undef = g42 at hf
            generalize a.tmps.getD 43 undef = g43 at hf
            subst hf
            go_wp2_with fail
            generalize wq = U1 at hC ⊢
            have sU1 := hC
            clear hC
            go_ret
            exact ⟨rfl, sU1.fr⟩
theorem walk_FnExactIsField (wide0 high0 : Int) (wrap0 : Bool) (A0 : Option Addr) (a0 : Nat) (B0 : Option Addr) (b0 : Nat) (xs0 ys0 : List Nat) (A1 : Option Addr) (a1 : Nat) (B1 : Option Addr) (b1 : Nat) (C1 : Option Addr) (c1 : Nat) (xs1 ys1 zs1 : List Nat) (w : World) (fA0 : Fl32 w A0 xs0) (fB0 : Fl32 w B0 ys0) (axxs0 : All32 xs0) (axys0 : All32 ys0) (hxs0 : xs0.length ≤ maxLen) (hys0 : ys0.length ≤ maxLen) (fA1 : Fl32 w A1 xs1) (fB1 : Fl32 w B1 ys1) (fC1 : Fl32 w C1 zs1) (axxs1 : All32 xs1) (axys1 : All32 ys1) (axzs1 : All32 zs1) (hxs1 : xs1.length ≤ maxLen) (hys1 : ys1.length ≤ maxLen) (hzs1 : zs1.length ≤ maxLen) :
    Calls Try.prog 7 #[.agg #[.int .i64 wide0, .int .i64 high0, .bool wrap0, .slice A0 xs0.length a0, .slice B0 ys0.length b0], .agg #[.slice A1 xs1.length a1, .slice B1 ys1.length b1, .slice C1 zs1.length c1]] w (Law w) := by
  unfold maxLen at hxs0 hys0 hxs1 hys1 hzs1
  exact law_FnExactIsField _ _ _ _ _ _ _ _ _ _ _ _ _ _ _ _ _ _ w fA0 fB0 fA1 fB1 fC1 axxs0 axys0 axxs1 axys1 axzs1 (by omega) (by omega) (by omega) (by omega) (by omega)

end Go.Proofs.Ytbfilganggllkaa
