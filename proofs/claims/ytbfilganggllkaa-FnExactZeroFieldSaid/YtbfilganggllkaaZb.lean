/-
Fields of zeros: the contracts in both packages.
-/
import Derived.Test.YtbfilganggllkaaZa
import Derived.Deep.OwnRows
set_option linter.unusedVariables false
set_option linter.unusedSimpArgs false
namespace Go.Proofs.Ytbfilganggllkaa
open Fl Go.RowKit

theorem run_make_f32 (n : Nat) (hn : n ≤ 1048576) : ∀ w, (Instr.makeSlice 22 (.int .i64 (n : Int)) (.int .i64 (n : Int))).run Try.prog w = .ok (.slice (some ⟨w.heap.size, 0, none⟩) n n) (w.alloc (.cells (madeCells #[.float .f32 0] n) 38)) := by
  intro w
  obtain ⟨i0, hi, hz0, hz1, hz2⟩ := info_parts info32
  exact run_make_row (P := Try.prog) 22 38 i0 (.float .f32 0) Try.underlying22 hi hz0 hz1 rfl .i64 .i64 n (by rw [hz2]; omega) (by omega) w

theorem made_rep (n : Nat) : (madeCells #[Value.float .f32 0] n).toList = List.replicate n (Value.float .f32 0) := by
  simp [madeCells, Nat.mod_one, List.map_const']
theorem own_made {W : World} {g n base : Nat} (hn : n ≤ 1048576) (h : W.heap[g]? = some (.cells (madeCells #[Value.float .f32 0] n) 38 (0, 0))) (hb : base ≤ g) : OwnL base (List.replicate n 0) (.slice (some ⟨g, 0, none⟩) n n) W := by
  have hl := congrArg List.length (made_rep n)
  simp only [List.length_replicate, Array.length_toList] at hl
  refine ownL_rep ⟨by simp, .inr ⟨g, n, _, rfl, hb, h, Nat.le_refl _, by unfold maxLen; omega, by omega, ?_⟩⟩
  rw [List.take_of_length_le (by simp; omega)]
  exact made_rep n
theorem heap_of_alloc (w : World) (o : Obj) {s : Nat} (hs : w.heap.size = s) : (w.alloc o).heap[s]? = some o := by subst hs; exact heap_alloc_new w o
theorem heap_drew (w : World) (k : Nat) : w.drew.heap[k]? = w.heap[k]? := rfl

def ZEnd (w : World) (N n : Nat) (W : World) : Prop :=
  Below w.heap.size w W ∧ W.heap[N + 1]? = some (.cells (madeCells #[Value.float .f32 0] n) 38 (0, 0)) ∧ W.heap[N + 1 + 1]? = some (.cells (madeCells #[Value.float .f32 0] n) 38 (0, 0)) ∧ W.heap[N + 1 + 1 + 1]? = some (.cells (madeCells #[Value.float .f32 0] n) 38 (0, 0))
theorem zero_end (w : World) (n : Nat) (o : Obj) : ZEnd w w.heap.size n ((((w.alloc o).alloc (.cells (madeCells #[Value.float .f32 0] n) 38)).alloc (.cells (madeCells #[Value.float .f32 0] n) 38)).alloc (.cells (madeCells #[Value.float .f32 0] n) 38)).drew := by
  refine ⟨((((((Below.refl w.heap.size w).alloc (Nat.le_refl _) o).alloc (by simp) _).alloc (by simp; omega) _).alloc (by simp; omega) _).drew), ?_, ?_, ?_⟩
  · rw [heap_drew, Below.heap_alloc _ _ _ (by simp), Below.heap_alloc _ _ _ (by simp)]
    exact heap_of_alloc _ _ (by simp)
  · rw [heap_drew, Below.heap_alloc _ _ _ (by simp)]
    exact heap_of_alloc _ _ (by simp)
  · rw [heap_drew]
    exact heap_of_alloc _ _ (by simp)
theorem zero_end2 (w : World) (n : Nat) (o1 o2 : Obj) : ZEnd w (w.heap.size + 1) n (((((w.alloc o1).alloc o2).alloc (.cells (madeCells #[Value.float .f32 0] n) 38)).alloc (.cells (madeCells #[Value.float .f32 0] n) 38)).alloc (.cells (madeCells #[Value.float .f32 0] n) 38)).drew := by
  obtain ⟨h0, h1, h2, h3⟩ := zero_end (w.alloc o1) n o2
  have e : (w.alloc o1).heap.size = w.heap.size + 1 := by simp
  rw [e] at h1 h2 h3
  exact ⟨((Below.refl w.heap.size w).alloc (Nat.le_refl _) o1).trans (h0.mono (by simp)), h1, h2, h3⟩

theorem zero_own {w W : World} {N n : Nat} (hn : n ≤ 1048576) (h : ZEnd w N n W) (a b c : Nat) (ha : a = N + 1 ∨ a = N + 1 + 1 ∨ a = N + 1 + 1 + 1) (hb : b = N + 1 ∨ b = N + 1 + 1 ∨ b = N + 1 + 1 + 1) (hc : c = N + 1 ∨ c = N + 1 + 1 ∨ c = N + 1 + 1 + 1) (hab : a ≠ b) (hac : a ≠ c) (hbc : b ≠ c) :
    Gives (OwnField (N + 1) (List.replicate n 0) (List.replicate n 0) (List.replicate n 0)) w (.returned (.agg #[.slice (some ⟨a, 0, none⟩) n n, .slice (some ⟨b, 0, none⟩) n n, .slice (some ⟨c, 0, none⟩) n n])) W := by
  obtain ⟨h0, h1, h2, h3⟩ := h
  have key : ∀ x, (x = N + 1 ∨ x = N + 1 + 1 ∨ x = N + 1 + 1 + 1) → OwnL (N + 1) (List.replicate n 0) (.slice (some ⟨x, 0, none⟩) n n) W := by
    intro x hx
    rcases hx with rfl | rfl | rfl
    · exact own_made hn h1 (by omega)
    · exact own_made hn h2 (by omega)
    · exact own_made hn h3 (by omega)
  exact ⟨h0, _, rfl, _, _, _, rfl, key a ha, key b hb, key c hc, .inr (by simpa [Value.ownBlock] using hab), .inr (by simpa [Value.ownBlock] using hac), .inr (by simpa [Value.ownBlock] using hbc)⟩

theorem c_l02Zero (n : Nat) (w : World) (hn : n ≤ 1048576) :
    Calls Try.prog 46 #[.int .i64 n] w (Gives (OwnField (w.heap.size + 1) (List.replicate n 0) (List.replicate n 0) (List.replicate n 0)) w) := by
  have hmk := run_make_f32 n hn
  go_enter Try.func46, Try.ntmps46
  go_wp2_with fail
  go_region
  all_goals go_wp2_with fail
  all_goals clear hmk
  all_goals
    first
      | (refine bodyPost_ret (v := .agg #[.slice (some ⟨w.heap.size + 1, 0, none⟩) n n, .slice (some ⟨w.heap.size + 1 + 1, 0, none⟩) n n, .slice (some ⟨w.heap.size + 1 + 1 + 1, 0, none⟩) n n]) ?_ rfl (zero_own hn (zero_end w _ _) _ _ _ (by simp) (by simp) (by simp) (by simp; try omega) (by simp; try omega) (by simp; try omega)); simp [results, Try.results46, go_sem]; done)
      | (refine bodyPost_ret (v := .agg #[.slice (some ⟨w.heap.size + 1, 0, none⟩) n n, .slice (some ⟨w.heap.size + 1 + 1 + 1, 0, none⟩) n n, .slice (some ⟨w.heap.size + 1 + 1, 0, none⟩) n n]) ?_ rfl (zero_own hn (zero_end w _ _) _ _ _ (by simp) (by simp) (by simp) (by simp; try omega) (by simp; try omega) (by simp; try omega)); simp [results, Try.results46, go_sem]; done)
      | (refine bodyPost_ret (v := .agg #[.slice (some ⟨w.heap.size + 1 + 1, 0, none⟩) n n, .slice (some ⟨w.heap.size + 1, 0, none⟩) n n, .slice (some ⟨w.heap.size + 1 + 1 + 1, 0, none⟩) n n]) ?_ rfl (zero_own hn (zero_end w _ _) _ _ _ (by simp) (by simp) (by simp) (by simp; try omega) (by simp; try omega) (by simp; try omega)); simp [results, Try.results46, go_sem]; done)
      | (refine bodyPost_ret (v := .agg #[.slice (some ⟨w.heap.size + 1 + 1, 0, none⟩) n n, .slice (some ⟨w.heap.size + 1 + 1 + 1, 0, none⟩) n n, .slice (some ⟨w.heap.size + 1, 0, none⟩) n n]) ?_ rfl (zero_own hn (zero_end w _ _) _ _ _ (by simp) (by simp) (by simp) (by simp; try omega) (by simp; try omega) (by simp; try omega)); simp [results, Try.results46, go_sem]; done)
      | (refine bodyPost_ret (v := .agg #[.slice (some ⟨w.heap.size + 1 + 1 + 1, 0, none⟩) n n, .slice (some ⟨w.heap.size + 1, 0, none⟩) n n, .slice (some ⟨w.heap.size + 1 + 1, 0, none⟩) n n]) ?_ rfl (zero_own hn (zero_end w _ _) _ _ _ (by simp) (by simp) (by simp) (by simp; try omega) (by simp; try omega) (by simp; try omega)); simp [results, Try.results46, go_sem]; done)
      | (refine bodyPost_ret (v := .agg #[.slice (some ⟨w.heap.size + 1 + 1 + 1, 0, none⟩) n n, .slice (some ⟨w.heap.size + 1 + 1, 0, none⟩) n n, .slice (some ⟨w.heap.size + 1, 0, none⟩) n n]) ?_ rfl (zero_own hn (zero_end w _ _) _ _ _ (by simp) (by simp) (by simp) (by simp; try omega) (by simp; try omega) (by simp; try omega)); simp [results, Try.results46, go_sem]; done)

theorem c_zeroField (wide high : Int) (wrap : Bool) (A : Option Addr) (c : Nat) (B : Option Addr) (d : Nat) (xs ys : List Nat) (n : Nat) (w : World) (hn : n ≤ 1048576) (hwh : wide * high = (n : Int)) :
    Calls Try.prog 47 #[.agg #[.int .i64 wide, .int .i64 high, .bool wrap, .slice A xs.length c, .slice B ys.length d]] w (Gives (OwnField (w.heap.size + 1 + 1) (List.replicate n 0) (List.replicate n 0) (List.replicate n 0)) w) := by
  have hmk := run_make_f32 n hn
  have hw : IntKind.i64.wrap (wide * high) = wide * high := IntWalk.i64_in _ (by omega)
  have hw2 : IntKind.i64.wrap (n : Int) = n := IntWalk.i64_in _ (by omega)
  have HH := hide_ hwh
  have h0 : 0 ≤ wide * high := by omega
  have h1 : wide * high ≤ 1048576 := by omega
  rw [← hwh] at hmk
  clear hwh
  go_enter Try.func47, Try.ntmps47
  go_wp2_with fail
  go_region
  all_goals go_wp2_with fail
  all_goals clear hmk hw hw2 h0 h1
  all_goals
    first
      | (refine bodyPost_ret (v := .agg #[.slice (some ⟨w.heap.size + 1 + 1, 0, none⟩) n n, .slice (some ⟨w.heap.size + 1 + 1 + 1, 0, none⟩) n n, .slice (some ⟨w.heap.size + 1 + 1 + 1 + 1, 0, none⟩) n n]) ?_ rfl (zero_own hn (zero_end2 w _ _ _) _ _ _ (by simp) (by simp) (by simp) (by simp; try omega) (by simp; try omega) (by simp; try omega)); simp [results, Try.results47, go_sem]; done)
      | (refine bodyPost_ret (v := .agg #[.slice (some ⟨w.heap.size + 1 + 1, 0, none⟩) n n, .slice (some ⟨w.heap.size + 1 + 1 + 1 + 1, 0, none⟩) n n, .slice (some ⟨w.heap.size + 1 + 1 + 1, 0, none⟩) n n]) ?_ rfl (zero_own hn (zero_end2 w _ _ _) _ _ _ (by simp) (by simp) (by simp) (by simp; try omega) (by simp; try omega) (by simp; try omega)); simp [results, Try.results47, go_sem]; done)
      | (refine bodyPost_ret (v := .agg #[.slice (some ⟨w.heap.size + 1 + 1 + 1, 0, none⟩) n n, .slice (some ⟨w.heap.size + 1 + 1, 0, none⟩) n n, .slice (some ⟨w.heap.size + 1 + 1 + 1 + 1, 0, none⟩) n n]) ?_ rfl (zero_own hn (zero_end2 w _ _ _) _ _ _ (by simp) (by simp) (by simp) (by simp; try omega) (by simp; try omega) (by simp; try omega)); simp [results, Try.results47, go_sem]; done)
      | (refine bodyPost_ret (v := .agg #[.slice (some ⟨w.heap.size + 1 + 1 + 1, 0, none⟩) n n, .slice (some ⟨w.heap.size + 1 + 1 + 1 + 1, 0, none⟩) n n, .slice (some ⟨w.heap.size + 1 + 1, 0, none⟩) n n]) ?_ rfl (zero_own hn (zero_end2 w _ _ _) _ _ _ (by simp) (by simp) (by simp) (by simp; try omega) (by simp; try omega) (by simp; try omega)); simp [results, Try.results47, go_sem]; done)
      | (refine bodyPost_ret (v := .agg #[.slice (some ⟨w.heap.size + 1 + 1 + 1 + 1, 0, none⟩) n n, .slice (some ⟨w.heap.size + 1 + 1, 0, none⟩) n n, .slice (some ⟨w.heap.size + 1 + 1 + 1, 0, none⟩) n n]) ?_ rfl (zero_own hn (zero_end2 w _ _ _) _ _ _ (by simp) (by simp) (by simp) (by simp; try omega) (by simp; try omega) (by simp; try omega)); simp [results, Try.results47, go_sem]; done)
      | (refine bodyPost_ret (v := .agg #[.slice (some ⟨w.heap.size + 1 + 1 + 1 + 1, 0, none⟩) n n, .slice (some ⟨w.heap.size + 1 + 1 + 1, 0, none⟩) n n, .slice (some ⟨w.heap.size + 1 + 1, 0, none⟩) n n]) ?_ rfl (zero_own hn (zero_end2 w _ _ _) _ _ _ (by simp) (by simp) (by simp) (by simp; try omega) (by simp; try omega) (by simp; try omega)); simp [results, Try.results47, go_sem]; done)

/-- what ZeroField gives -/
def ZeroGives (b : Bool) (zs : List Nat) (w : World) (e : Ending) (w' : World) : Prop :=
  Below w.heap.size w w' ∧ ∃ v, e = .returned (.tuple #[v, .bool b]) ∧ OwnField w.heap.size zs zs zs v w'
theorem nil_field (base : Nat) (w : World) : OwnField base [] [] [] (.agg #[.slice none 0 0, .slice none 0 0, .slice none 0 0]) w :=
  ⟨_, _, _, rfl, ⟨none, 0, rfl, World.ownsRow_nil _ _ _ _⟩, ⟨none, 0, rfl, World.ownsRow_nil _ _ _ _⟩, ⟨none, 0, rfl, World.ownsRow_nil _ _ _ _⟩, .inl rfl, .inl rfl, .inl rfl⟩
theorem OwnL.set3 {base : Nat} {xs : List Nat} {v : Value} {w : World} (h : OwnL base xs v w) {b : Nat} (hb : b < base) (u1 u2 u3 : Value) : OwnL base xs v (((w.setCell ⟨b, 0, none⟩ u1).setCell ⟨b, 1, none⟩ u2).setCell ⟨b, 2, none⟩ u3) :=
  ((h.set hb u1).set hb u2).set hb u3

theorem c_specZero_no (wide high : Int) (wrap : Bool) (A : Option Addr) (c : Nat) (B : Option Addr) (d : Nat) (xs ys : List Nat) (w : World) (hA : Fl32 w A xs) (hB : Fl32 w B ys) (hx : xs.length ≤ 1048576) (hy : ys.length ≤ 1048576) (hv : sheetV wide high xs ys = false) :
    Calls Try.prog 27 #[.agg #[.int .i64 wide, .int .i64 high, .bool wrap, .slice A xs.length c, .slice B ys.length d]] w (ZeroGives false [] w) := by
  have hB0 : Below w.heap.size w ((w.alloc (Obj.cells #[.int .i64 wide, .int .i64 high, .bool wrap, .slice A xs.length c, .slice B ys.length d] 27)).alloc (Obj.cells #[.slice none 0 0, .slice none 0 0, .slice none 0 0] 35)) := ((Below.refl _ _).alloc (Nat.le_refl _) _).alloc (by simp) _
  have H := hide_ (c_l02Is w.heap.size wide high A c B d xs ys ((w.alloc (Obj.cells #[.int .i64 wide, .int .i64 high, .bool wrap, .slice A xs.length c, .slice B ys.length d] 27)).alloc (Obj.cells #[.slice none 0 0, .slice none 0 0, .slice none 0 0] 35)) (by simp [go_sem]) (by simp [go_sem]) (by simp [go_sem]) (by simp [go_sem]) (hA.keep hB0 (Nat.le_refl _)) (hB.keep hB0 (Nat.le_refl _)) hx hy)
  rw [hv] at H
  have HB := hide_ hB0
  clear hv hA hB hB0
  go_enter Try.func27, Try.ntmps27
  go_wp2_with fail
  go_at_call 32
  refine Calls.mono H.out ?_
  rintro e w' ⟨rfl, m, rfl⟩
  go_wp2_with fail
  have q0 : w.heap.size ≤ w.heap.size + 1 := Nat.le_succ _
  exact bodyPost_ret (v := .tuple #[.agg #[.slice none 0 0, .slice none 0 0, .slice none 0 0], .bool false]) (by simp [results, Try.results27, go_sem]) rfl ⟨(((below_n HB.out m).setCell q0 _).setCell q0 _).setCell q0 _, _, rfl, nil_field _ _⟩
theorem c_specZero_yes (wide high : Int) (wrap : Bool) (A : Option Addr) (c : Nat) (B : Option Addr) (d : Nat) (xs ys : List Nat) (w : World) (hA : Fl32 w A xs) (hB : Fl32 w B ys) (hx : xs.length ≤ 1048576) (hy : ys.length ≤ 1048576) (hv : sheetV wide high xs ys = true) :
    Calls Try.prog 27 #[.agg #[.int .i64 wide, .int .i64 high, .bool wrap, .slice A xs.length c, .slice B ys.length d]] w (ZeroGives true (List.replicate xs.length 0) w) := by
  have hB0 : Below w.heap.size w ((w.alloc (Obj.cells #[.int .i64 wide, .int .i64 high, .bool wrap, .slice A xs.length c, .slice B ys.length d] 27)).alloc (Obj.cells #[.slice none 0 0, .slice none 0 0, .slice none 0 0] 35)) := ((Below.refl _ _).alloc (Nat.le_refl _) _).alloc (by simp) _
  have H := hide_ (c_l02Is w.heap.size wide high A c B d xs ys ((w.alloc (Obj.cells #[.int .i64 wide, .int .i64 high, .bool wrap, .slice A xs.length c, .slice B ys.length d] 27)).alloc (Obj.cells #[.slice none 0 0, .slice none 0 0, .slice none 0 0] 35)) (by simp [go_sem]) (by simp [go_sem]) (by simp [go_sem]) (by simp [go_sem]) (hA.keep hB0 (Nat.le_refl _)) (hB.keep hB0 (Nat.le_refl _)) hx hy)
  have hwh : wide * high = (xs.length : Int) := by
    unfold sheetV at hv
    simp only [Bool.and_eq_true, decide_eq_true_eq] at hv
    exact hv.2.1.symm
  rw [hv] at H
  have hw : IntKind.i64.wrap (wide * high) = wide * high := IntWalk.i64_in _ (by omega)
  have h0 : 0 ≤ wide * high := by omega
  have h1 : wide * high ≤ 1048576 := by omega
  have HB := hide_ hB0
  have HZ : Hid (∀ W : World, Calls Try.prog 46 #[.int .i64 (wide * high)] W (Gives (OwnField (W.heap.size + 1) (List.replicate xs.length 0) (List.replicate xs.length 0) (List.replicate xs.length 0)) W)) := by
    intro W; rw [hwh]; exact c_l02Zero xs.length W hx
  clear hv hA hB hB0 hwh
  go_enter Try.func27, Try.ntmps27
  go_wp2_with fail
  go_at_call 32
  refine Calls.mono H.out ?_
  rintro e w' ⟨rfl, m, rfl⟩
  go_wp2_with fail
  go_at_call 46
  refine (HZ.out _).mono ?_
  rintro e w1 ⟨hB1, v, rfl, v1, v2, v3, rfl, o1, o2, o3, p12, p13, p23⟩
  obtain ⟨A1, a1, rfl⟩ := o1.form
  obtain ⟨A2, a2, rfl⟩ := o2.form
  obtain ⟨A3, a3, rfl⟩ := o3.form
  obtain ⟨hc, hf⟩ := bcell hB1
  have k1 : w.heap.size + 1 < w1.heap.size := by have := hB1.size; simp at this; omega
  have hlow : w.heap.size + 1 < (((w.alloc (Obj.cells #[.int .i64 wide, .int .i64 high, .bool wrap, .slice A xs.length c, .slice B ys.length d] 27)).alloc (Obj.cells #[.slice none 0 0, .slice none 0 0, .slice none 0 0] 35)).drewN m).heap.size + 1 := by simp
  have O1 := hide_ o1
  have O2 := hide_ o2
  have O3 := hide_ o3
  have HB1 := hide_ ((below_n HB.out m).trans (hB1.mono (below_n HB.out m).size))
  have P12 := hide_ p12
  have P13 := hide_ p13
  have P23 := hide_ p23
  have HL := hide_ hlow
  clear o1 o2 o3 hB1 p12 p13 p23 hlow
  go_wp2_with fail
  have q0 : w.heap.size ≤ w.heap.size + 1 := Nat.le_succ _
  refine bodyPost_ret (v := .tuple #[.agg #[.slice A1 _ a1, .slice A2 _ a2, .slice A3 _ a3], .bool true]) (by simp [results, Try.results27, go_sem, hc, hf, k1]) rfl ⟨((HB1.out.setCell q0 _).setCell q0 _).setCell q0 _, _, rfl, _, _, _, rfl, OwnL.mono (O1.out.set3 HL.out _ _ _) (by simp; omega), OwnL.mono (O2.out.set3 HL.out _ _ _) (by simp; omega), OwnL.mono (O3.out.set3 HL.out _ _ _) (by simp; omega), P12.out, P13.out, P23.out⟩

theorem c_implZero_no (wide high : Int) (wrap : Bool) (A : Option Addr) (c : Nat) (B : Option Addr) (d : Nat) (xs ys : List Nat) (w : World) (hA : Fl32 w A xs) (hB : Fl32 w B ys) (hx : xs.length ≤ 1048576) (hy : ys.length ≤ 1048576) (hv : sheetV wide high xs ys = false) :
    Calls Try.prog 28 #[.agg #[.int .i64 wide, .int .i64 high, .bool wrap, .slice A xs.length c, .slice B ys.length d]] w (ZeroGives false [] w) := by
  have hB0 : Below w.heap.size w ((w.alloc (Obj.cells #[.int .i64 wide, .int .i64 high, .bool wrap, .slice A xs.length c, .slice B ys.length d] 27)).alloc (Obj.cells #[.slice none 0 0, .slice none 0 0, .slice none 0 0] 35)) := ((Below.refl _ _).alloc (Nat.le_refl _) _).alloc (by simp) _
  have H := hide_ (c_implValid wide high wrap A c B d xs ys _ (hA.keep hB0 (Nat.le_refl _)) (hB.keep hB0 (Nat.le_refl _)) hx hy)
  rw [hv] at H
  have HB := hide_ hB0
  clear hv hA hB hB0
  go_enter Try.func28, Try.ntmps28
  go_wp2_with fail
  go_at_call 12
  refine Calls.mono H.out ?_
  rintro e w1 ⟨rfl, hB1⟩
  obtain ⟨hc, hf⟩ := bcell hB1
  have k1 : w.heap.size + 1 < w1.heap.size := by have := hB1.size; simp at this; omega
  have HB1 := hide_ (HB.out.trans (hB1.mono HB.out.size))
  clear hB1
  go_wp2_with fail
  have q0 : w.heap.size ≤ w.heap.size + 1 := Nat.le_succ _
  exact bodyPost_ret (v := .tuple #[.agg #[.slice none 0 0, .slice none 0 0, .slice none 0 0], .bool false]) (by simp [results, Try.results28, go_sem, hc, hf, k1]) rfl ⟨((HB1.out.setCell q0 _).setCell q0 _).setCell q0 _, _, rfl, nil_field _ _⟩
theorem c_implZero_yes (wide high : Int) (wrap : Bool) (A : Option Addr) (c : Nat) (B : Option Addr) (d : Nat) (xs ys : List Nat) (w : World) (hA : Fl32 w A xs) (hB : Fl32 w B ys) (hx : xs.length ≤ 1048576) (hy : ys.length ≤ 1048576) (hv : sheetV wide high xs ys = true) :
    Calls Try.prog 28 #[.agg #[.int .i64 wide, .int .i64 high, .bool wrap, .slice A xs.length c, .slice B ys.length d]] w (ZeroGives true (List.replicate xs.length 0) w) := by
  have hB0 : Below w.heap.size w ((w.alloc (Obj.cells #[.int .i64 wide, .int .i64 high, .bool wrap, .slice A xs.length c, .slice B ys.length d] 27)).alloc (Obj.cells #[.slice none 0 0, .slice none 0 0, .slice none 0 0] 35)) := ((Below.refl _ _).alloc (Nat.le_refl _) _).alloc (by simp) _
  have H := hide_ (c_implValid wide high wrap A c B d xs ys _ (hA.keep hB0 (Nat.le_refl _)) (hB.keep hB0 (Nat.le_refl _)) hx hy)
  have hwh : wide * high = (xs.length : Int) := by
    unfold sheetV at hv
    simp only [Bool.and_eq_true, decide_eq_true_eq] at hv
    exact hv.2.1.symm
  rw [hv] at H
  have HZ := hide_ (c_zeroField wide high wrap A c B d xs ys xs.length · hx hwh)
  have HB := hide_ hB0
  clear hv hA hB hB0 hwh
  go_enter Try.func28, Try.ntmps28
  go_wp2_with fail
  go_at_call 12
  refine Calls.mono H.out ?_
  rintro e w0 ⟨rfl, hB1⟩
  obtain ⟨hc, hf⟩ := bcell hB1
  have k1 : w.heap.size + 1 < w0.heap.size := by have := hB1.size; simp at this; omega
  have HB0 := hide_ (HB.out.trans (hB1.mono HB.out.size))
  clear hB1
  go_wp2_with fail
  go_at_call 47
  refine (HZ.out _).mono ?_
  rintro e w1 ⟨hB1, v, rfl, v1, v2, v3, rfl, o1, o2, o3, p12, p13, p23⟩
  obtain ⟨A1, a1, rfl⟩ := o1.form
  obtain ⟨A2, a2, rfl⟩ := o2.form
  obtain ⟨A3, a3, rfl⟩ := o3.form
  obtain ⟨hc1, hf1⟩ := bcell hB1
  have k2 : w.heap.size + 1 < w1.heap.size := Nat.lt_of_lt_of_le k1 hB1.size
  have HL : Hid (w.heap.size + 1 < w0.heap.size + 1 + 1) := by show w.heap.size + 1 < w0.heap.size + 1 + 1; omega
  have O1 := hide_ o1
  have O2 := hide_ o2
  have O3 := hide_ o3
  have HB1 := hide_ (HB0.out.trans (hB1.mono HB0.out.size))
  have P12 := hide_ p12
  have P13 := hide_ p13
  have P23 := hide_ p23
  clear o1 o2 o3 hB1 p12 p13 p23
  go_wp2_with fail
  have q0 : w.heap.size ≤ w.heap.size + 1 := Nat.le_succ _
  have q1 : w.heap.size ≤ w0.heap.size + 1 + 1 := by omega
  refine bodyPost_ret (v := .tuple #[.agg #[.slice A1 _ a1, .slice A2 _ a2, .slice A3 _ a3], .bool true]) (by simp [results, Try.results28, go_sem, hc, hf, hc1, hf1, k1, k2]) rfl ⟨((HB1.out.setCell q0 _).setCell q0 _).setCell q0 _, _, rfl, _, _, _, rfl, OwnL.mono (O1.out.set3 HL.out _ _ _) q1, OwnL.mono (O2.out.set3 HL.out _ _ _) q1, OwnL.mono (O3.out.set3 HL.out _ _ _) q1, P12.out, P13.out, P23.out⟩

end Go.Proofs.Ytbfilganggllkaa
