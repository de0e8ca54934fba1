/-
Plain sheets of the program itself.
-/
import Derived.Test.YtbfilganggllkaaPa
set_option linter.unusedVariables false
set_option linter.unusedSimpArgs false
namespace Go.Proofs.Ytbfilganggllkaa
open Fl Go.RowKit

theorem c_validSheet_yes (wide high : Int) (wrap : Bool) (A : Option Addr) (c : Nat) (B : Option Addr) (d : Nat) (xs ys : List Nat) (w : World) (hA : Fl32 w A xs) (hB : Fl32 w B ys) (hx : xs.length ≤ 1048576) (hy : ys.length ≤ 1048576) (hv : sheetV wide high xs ys = true) :
    Calls Try.prog 40 #[.agg #[.int .i64 wide, .int .i64 high, .bool wrap, .slice A xs.length c, .slice B ys.length d]] w fun e w' => e = .returned (.tuple #[.agg #[.int .i64 wide, .int .i64 high, .bool wrap, .slice A xs.length c, .slice B ys.length d], .bool true]) ∧ Below w.heap.size w w' := by
  have hB0 : Below w.heap.size w ((w.alloc (Obj.cells #[.int .i64 wide, .int .i64 high, .bool wrap, .slice A xs.length c, .slice B ys.length d] 27)).alloc (Obj.cells #[.int .i64 0, .int .i64 0, .bool false, .slice none 0 0, .slice none 0 0] 27)) := ((Below.refl _ _).alloc (Nat.le_refl _) _).alloc (by simp) _
  have H : Hid _ := c_implValid wide high wrap A c B d xs ys _ (hA.keep hB0 (Nat.le_refl _)) (hB.keep hB0 (Nat.le_refl _)) hx hy
  rw [hv] at H
  have HB : Hid _ := hB0
  clear hv hA hB hB0
  go_enter Try.func40, Try.ntmps40
  go_wp2_with fail
  go_at_call 12
  refine Calls.mono H.out ?_
  rintro e w1 ⟨rfl, hB1⟩
  obtain ⟨hc, hf⟩ := bcell hB1
  have k1 : w.heap.size + 1 < w1.heap.size := by have := hB1.size; simp at this; omega
  have HB1 : Hid _ := hB1
  clear hB1
  go_wp2_with fail
  have hB2 := HB.out.trans (HB1.out.mono HB.out.size)
  have q0 : w.heap.size ≤ w.heap.size + 1 := Nat.le_succ _
  refine bodyPost_ret (v := .tuple #[.agg #[.int .i64 wide, .int .i64 high, .bool wrap, .slice A xs.length c, .slice B ys.length d], .bool true]) (by simp [results, Try.results40, go_sem, hc, hf, k1]) rfl ⟨rfl, ?_⟩
  exact ((((hB2.setCell q0 _).setCell q0 _).setCell q0 _).setCell q0 _).setCell q0 _
theorem c_validSheet_no (wide high : Int) (wrap : Bool) (A : Option Addr) (c : Nat) (B : Option Addr) (d : Nat) (xs ys : List Nat) (w : World) (hA : Fl32 w A xs) (hB : Fl32 w B ys) (hx : xs.length ≤ 1048576) (hy : ys.length ≤ 1048576) (hv : sheetV wide high xs ys = false) :
    Calls Try.prog 40 #[.agg #[.int .i64 wide, .int .i64 high, .bool wrap, .slice A xs.length c, .slice B ys.length d]] w fun e w' => e = .returned (.tuple #[.agg #[.int .i64 0, .int .i64 0, .bool false, .slice none 0 0, .slice none 0 0], .bool false]) ∧ Below w.heap.size w w' := by
  have hB0 : Below w.heap.size w ((w.alloc (Obj.cells #[.int .i64 wide, .int .i64 high, .bool wrap, .slice A xs.length c, .slice B ys.length d] 27)).alloc (Obj.cells #[.int .i64 0, .int .i64 0, .bool false, .slice none 0 0, .slice none 0 0] 27)) := ((Below.refl _ _).alloc (Nat.le_refl _) _).alloc (by simp) _
  have H : Hid _ := c_implValid wide high wrap A c B d xs ys _ (hA.keep hB0 (Nat.le_refl _)) (hB.keep hB0 (Nat.le_refl _)) hx hy
  rw [hv] at H
  have HB : Hid _ := hB0
  clear hv hA hB hB0
  go_enter Try.func40, Try.ntmps40
  go_wp2_with fail
  go_at_call 12
  refine Calls.mono H.out ?_
  rintro e w1 ⟨rfl, hB1⟩
  obtain ⟨hc, hf⟩ := bcell hB1
  have k1 : w.heap.size + 1 < w1.heap.size := by have := hB1.size; simp at this; omega
  have HB1 : Hid _ := hB1
  clear hB1
  go_wp2_with fail
  have hB2 := HB.out.trans (HB1.out.mono HB.out.size)
  have q0 : w.heap.size ≤ w.heap.size + 1 := Nat.le_succ _
  refine bodyPost_ret (v := .tuple #[.agg #[.int .i64 0, .int .i64 0, .bool false, .slice none 0 0, .slice none 0 0], .bool false]) (by simp [results, Try.results40, go_sem, hc, hf, k1]) rfl ⟨rfl, ?_⟩
  exact ((((hB2.setCell q0 _).setCell q0 _).setCell q0 _).setCell q0 _).setCell q0 _

theorem allV_rep {m x n : Nat} (h : 0 < n) : allV m (List.replicate n x) = okV x m := by
  unfold allV
  rw [List.all_replicate, if_neg (by omega)]
theorem sheetV_plain {wide high : Int} {sp n : Nat} (hs : sidesV wide high = true) (hn : wide * high = (n : Int)) (hp : 0 < n) : sheetV wide high (List.replicate n sp) (List.replicate n 0) = okV sp 1056964608 := by
  unfold sheetV
  rw [hs, List.length_replicate, List.length_replicate, decide_eq_true hn.symm, allV_rep hp, allV_rep hp, show okV 0 1065353216 = true from by decide]
  simp

theorem made_zero (n : Nat) : (madeCells (Value.float .f32 0).cells (n * 1)).toList = List.replicate n (Value.float .f32 0) := by
  have e : (Value.float .f32 0).cells = #[.float .f32 0] := rfl
  rw [e, Nat.mul_one]
  simp [madeCells, Nat.mod_one, List.map_const']

theorem c_implPlain_bad (wide high : Int) (wrap : Bool) (sp : Nat) (w : World) (hs : sidesV wide high = false) :
    Calls Try.prog 20 #[.int .i64 wide, .int .i64 high, .bool wrap, .float .f32 sp] w fun e w' => Below w.heap.size w w' ∧ ∃ v, e = .returned (.tuple #[v, .bool false]) ∧ OwnSheet (w.heap.size + 1) 0 0 false [] [] v w' := by
  have W1 : Hid _ := c_within wide 3 16
  have W2 : Hid _ := c_within high 3 16
  unfold sidesV at hs
  cases h1 : inV wide 3 16
  · rw [h1] at W1
    clear h1 hs W2
    go_enter Try.func20, Try.ntmps20
    go_wp2_with (go_at_call 34; (with_reducible refine (W1.out _).mono ?_); rintro e w' ⟨rfl, rfl⟩)
    exact bodyPost_ret (v := .tuple #[.agg #[.int .i64 0, .int .i64 0, .bool false, .slice none 0 0, .slice none 0 0], .bool false]) (by simp [results, Try.results20, go_sem]) rfl ⟨(Below.refl _ _).alloc (Nat.le_refl _) _, _, rfl, zero_sheet _ _⟩
  · have h2 : inV high 3 16 = false := by rw [h1] at hs; exact hs
    rw [h1] at W1
    rw [h2] at W2
    clear h1 hs h2
    go_enter Try.func20, Try.ntmps20
    go_wp2_with (go_at_call 34; first | ((with_reducible refine (W1.out _).mono ?_); rintro e w' ⟨rfl, rfl⟩) | ((with_reducible refine (W2.out _).mono ?_); rintro e w' ⟨rfl, rfl⟩))
    exact bodyPost_ret (v := .tuple #[.agg #[.int .i64 0, .int .i64 0, .bool false, .slice none 0 0, .slice none 0 0], .bool false]) (by simp [results, Try.results20, go_sem]) rfl ⟨(Below.refl _ _).alloc (Nat.le_refl _) _, _, rfl, zero_sheet _ _⟩

/-- the sheet that is handed to 'validSheet', and what that gives back -/
def PlainEnd (wide high : Int) (wrap : Bool) (sp n : Nat) (ok : Bool) (w : World) (e : Ending) (w' : World) : Prop :=
  Below w.heap.size w w' ∧ ∃ v, e = .returned (.tuple #[v, .bool ok]) ∧ (if ok then OwnSheet (w.heap.size + 1) wide high wrap (List.replicate n sp) (List.replicate n 0) v w' else OwnSheet (w.heap.size + 1) 0 0 false [] [] v w')

theorem plainEnd_no {wide high : Int} {wrap : Bool} {sp n : Nat} {ok : Bool} {w w' : World} {v : Value} (h : ok = false) (hB : Below w.heap.size w w') (ho : OwnSheet (w.heap.size + 1) 0 0 false [] [] v w') : PlainEnd wide high wrap sp n ok w (.returned (.tuple #[v, .bool false])) w' := by
  subst h; exact ⟨hB, v, rfl, ho⟩
theorem plainEnd_yes {wide high : Int} {wrap : Bool} {sp n : Nat} {ok : Bool} {w w' : World} {v : Value} (h : ok = true) (hB : Below w.heap.size w w') (ho : OwnSheet (w.heap.size + 1) wide high wrap (List.replicate n sp) (List.replicate n 0) v w') : PlainEnd wide high wrap sp n ok w (.returned (.tuple #[v, .bool true])) w' := by
  subst h; exact ⟨hB, v, rfl, ho⟩

set_option maxHeartbeats 1000000 in
theorem c_implPlain_sides (wide high : Int) (wrap : Bool) (sp : Nat) (w : World) (hs : sidesV wide high = true) :
    Calls Try.prog 20 #[.int .i64 wide, .int .i64 high, .bool wrap, .float .f32 sp] w (PlainEnd wide high wrap sp (wide * high).toNat (okV sp 1056964608) w) := by
  have W1 : Hid _ := c_within wide 3 16
  have W2 : Hid _ := c_within high 3 16
  have h12 : inV wide 3 16 = true ∧ inV high 3 16 = true := by unfold sidesV at hs; simpa using hs
  rw [h12.1] at W1
  rw [h12.2] at W2
  obtain ⟨a1, a2, a3, a4⟩ := sides_iff.1 hs
  obtain ⟨m1, m2⟩ := mul_bound a1 a2 a3 a4
  have m3 : 0 < wide * high := Int.mul_pos (by omega) (by omega)
  obtain ⟨n, hn⟩ : ∃ n : Nat, wide * high = (n : Int) := ⟨(wide * high).toNat, by omega⟩
  have hnN : (wide * high).toNat = n := by omega
  rw [hnN]
  have hn256 : n ≤ 256 := by omega
  have hV : Hid _ := sheetV_plain (sp := sp) hs hn (by omega)
  obtain ⟨i0, hi, hz0, hz1, hz2⟩ := info_parts info32
  have hw : IntKind.i64.wrap (wide * high) = wide * high := IntWalk.i64_in _ (by omega)
  have HW : Hid _ := hn
  clear hn hnN hs h12 m3
  go_enter Try.func20, Try.ntmps20
  go_wp2_with (first
    | (go_at_call 34; first | ((with_reducible refine (W1.out _).mono ?_); rintro e w' ⟨rfl, rfl⟩) | ((with_reducible refine (W2.out _).mono ?_); rintro e w' ⟨rfl, rfl⟩))
    | (at_make; refine wpList_make_full _ rfl _ _ 22 rfl (w.heap.size + 1) 38 i0 (.float .f32 0) 1 Try.underlying22 hi hz0 hz1 _ _ _ _ n rfl rfl HW.out HW.out (by rw [hz2]; omega) (by unfold maxLen; omega) (by simp) ?_; intro w1 hown hgrow; rw [made_zero] at hown; have HO : Hid (w1.ownsRow (w.heap.size + 1) 38 1 (.slice (some ⟨(w.alloc (Obj.cells #[.int .i64 0, .int .i64 0, .bool false, .slice none 0 0, .slice none 0 0] 27)).heap.size, 0, none⟩) n n) n (List.replicate n (.float .f32 0))) := hown; have HG : Hid _ := hgrow; clear hown hgrow))
  clear W1 W2
  have hw1 : w.heap.size + 1 < w1.heap.size := by have := (World.ownsRow.lt HO.out _ rfl).2; simpa using this
  have hP : PS w (w.heap.size + 1) w1.heap.size w.heap.size wide high wrap sp 0 n (w1.alloc (Obj.cells #[.int .i64 wide, .int .i64 high, .bool wrap, .slice none 0 0, .slice (some ⟨w.heap.size + 1, 0, none⟩) n n] 27)) (.slice none 0 0) (.slice (some ⟨w.heap.size + 1, 0, none⟩) n n) := by
    have hN : (w.alloc (Obj.cells #[.int .i64 0, .int .i64 0, .bool false, .slice none 0 0, .slice none 0 0] 27)).heap.size = w.heap.size + 1 := by simp
    have ho : w1.ownsRow (w.heap.size + 1) 38 1 (.slice (some ⟨w.heap.size + 1, 0, none⟩) n n) n (List.replicate n (.float .f32 0)) := by have := HO.out; rw [hN] at this; exact this
    refine ⟨heap_alloc_new _ _, ?_, World.ownsRow_nil _ _ _ _, ho.alloc _, .inl rfl, by simp [Value.ownBlock], ?_, ?_, Nat.le_refl _, Nat.lt_succ_self _, by omega, by simp⟩
    · rw [Below.heap_alloc _ _ _ (by omega), HG.out.block _ (by omega) (by simp)]
      exact heap_alloc_new w _
    · simp [Value.ownBlock]; omega
    · exact (((Below.refl _ _).alloc (Nat.le_refl _) _).grown HG.out (by omega) (fun k hk => by cases hk)).alloc (by omega) _
  have HP : Hid _ := hP
  clear hP HO HG
  go_loopw [31] (fun i wr => ∃ k : Nat, ∃ vs, k ≤ n ∧ i = .int .i64 k ∧ PS w (w.heap.size + 1) w1.heap.size w.heap.size wide high wrap sp k n wr vs (.slice (some ⟨w.heap.size + 1, 0, none⟩) n n)) (fun i _ => n - (intOf i).toNat)
  case atStart => exact ⟨0, _, Nat.zero_le _, rfl, HP.out⟩
  case round =>
    obtain ⟨k, vs, hk, rfl, R⟩ := hrel
    obtain ⟨A, a, rfl⟩ := own_form R.sown
    clear HP
    generalize w1.heap.size = sb at *
    have hR : Hid (PS w (w.heap.size + 1) sb w.heap.size wide high wrap sp k n wr (.slice A k a) (.slice (some ⟨w.heap.size + 1, 0, none⟩) n n)) := R
    have y1 : wr.cell? ⟨sb, 0, none⟩ = some (.int .i64 wide) := box_cell R.box 0 _ rfl
    have y2 : wr.cell? ⟨sb, 1, none⟩ = some (.int .i64 high) := box_cell R.box 1 _ rfl
    have y3 : wr.cell? ⟨sb, 2, none⟩ = some (.bool wrap) := box_cell R.box 2 _ rfl
    have y4 : wr.cell? ⟨sb, 3, none⟩ = some (.slice A k a) := box_cell R.box 3 _ rfl
    have y5 : wr.cell? ⟨sb, 4, none⟩ = some (.slice (some ⟨w.heap.size + 1, 0, none⟩) n n) := box_cell R.box 4 _ rfl
    have hsz : sb < wr.heap.size := R.b4
    clear R
    by_cases hlt : k < n
    · have hltI : (k : Int) < wide * high := by rw [HW.out]; omega
      go_wp2_with (first
        | (at_builtin; refine wpList_append_own_at _ rfl (.tmp 34) (.tmp 36) 22 rfl (w.heap.size + 1) 38 i0 (.float .f32 0) 1 4 Try.underlying22 hi hz0 hz1 hz2 rfl (by decide) (.slice A k a) k _ rfl (hR.out.sown.alloc _) ⟨wr.heap.size, 0, none⟩ 1 1 [.float .f32 sp] rfl rfl (news_one _ _ _) (news_cell _ rfl) (by unfold maxLen; omega) (by omega) (by simp; omega) ?_; intro v' w2 hown hgrow _ hat; obtain ⟨A', a', rfl⟩ := own_form hown; have hR1 : Hid (PS w (w.heap.size + 1) sb w.heap.size wide high wrap sp (k + 1) n (w2.setCell ⟨sb, 3, none⟩ (.slice A' (k + 1) a')) (.slice A' (k + 1) a') (.slice (some ⟨w.heap.size + 1, 0, none⟩) n n)) := PS.step_s hR.out hown hgrow hat; have hb1 := PS.low hR.out hgrow; have q3 : w2.cell? ⟨sb, 3, none⟩ = some (.slice A k a) := box_cell hb1 3 _ rfl; have f3 := box_free hb1 3; have z1 : sb < w2.heap.size := (Array.getElem?_eq_some_iff.1 hb1).1; clear hown hgrow hat hb1))
      go_roundw
      case rel => exact ⟨k + 1, _, by omega, by go_num, hR1.out⟩
      case measure => simp [intOf]; omega
    · obtain rfl : k = n := by omega
      have hltI : ¬ (k : Int) < wide * high := by rw [HW.out]; omega
      have hs0 : w.heap.size < wr.heap.size := by have := hR.out.b3; omega
      go_wp2_with fail
      have L1 := (ownL_rep hR.out.sown).fl
      have L2 := (ownL_rep hR.out.lown).fl
      obtain ⟨A1, a1', e1, F1⟩ := L1
      obtain ⟨A2, a2', e2, F2⟩ := L2
      simp only [Value.slice.injEq, List.length_replicate] at e1 e2
      obtain ⟨rfl, _, rfl⟩ := e1
      obtain ⟨rfl, _, rfl⟩ := e2
      have hlen1 : (List.replicate k sp).length = k := List.length_replicate
      have hlen2 : (List.replicate k 0).length = k := List.length_replicate
      cases hok : okV sp 1056964608
      · have V : sheetV wide high (List.replicate k sp) (List.replicate k 0) = false := hV.out.trans hok
        have H := c_validSheet_no wide high wrap A a _ k (List.replicate k sp) (List.replicate k 0) wr F1 F2 (by omega) (by omega) V
        rw [hlen1, hlen2] at H
        have HH : Hid _ := H
        have HOK : Hid _ := hok
        clear H V F1 F2 hlen1 hlen2 hok
        go_at_call 40
        refine Calls.mono HH.out ?_
        rintro e w3 ⟨rfl, hB3⟩
        obtain ⟨hc, hf⟩ := bcell hB3
        have HB3 : Hid _ := hB3
        have x1 : w3.cell? ⟨w.heap.size, 0, none⟩ = some (.int .i64 0) := (hc _ _ hs0).trans (box_cell hR.out.res 0 _ rfl)
        have x2 : w3.cell? ⟨w.heap.size, 1, none⟩ = some (.int .i64 0) := (hc _ _ hs0).trans (box_cell hR.out.res 1 _ rfl)
        have x3 : w3.cell? ⟨w.heap.size, 2, none⟩ = some (.bool false) := (hc _ _ hs0).trans (box_cell hR.out.res 2 _ rfl)
        have x4 : w3.cell? ⟨w.heap.size, 3, none⟩ = some (.slice none 0 0) := (hc _ _ hs0).trans (box_cell hR.out.res 3 _ rfl)
        have x5 : w3.cell? ⟨w.heap.size, 4, none⟩ = some (.slice none 0 0) := (hc _ _ hs0).trans (box_cell hR.out.res 4 _ rfl)
        have g0 := (hf _ 0 hs0).trans (box_free hR.out.res 0)
        have g1 := (hf _ 1 hs0).trans (box_free hR.out.res 1)
        have g2 := (hf _ 2 hs0).trans (box_free hR.out.res 2)
        have g3 := (hf _ 3 hs0).trans (box_free hR.out.res 3)
        have g4 := (hf _ 4 hs0).trans (box_free hR.out.res 4)
        have k3 : w.heap.size < w3.heap.size := by have := hB3.size; omega
        clear hB3 hc hf y1 y2 y3 y4 y5
        go_wp2_with fail
        have hB := hR.out.bel.trans (HB3.out.mono (Nat.le_of_lt hs0))
        refine bodyPost_ret (v := .tuple #[.agg #[.int .i64 0, .int .i64 0, .bool false, .slice none 0 0, .slice none 0 0], .bool false]) (by simp [results, Try.results20, go_sem, x1, x2, x3, x4, x5, g0, g1, g2, g3, g4, k3]) rfl (plainEnd_no HOK.out ?_ (zero_sheet _ _))
        exact ((((hB.setCell (Nat.le_refl _) _).setCell (Nat.le_refl _) _).setCell (Nat.le_refl _) _).setCell (Nat.le_refl _) _).setCell (Nat.le_refl _) _
      · have V : sheetV wide high (List.replicate k sp) (List.replicate k 0) = true := hV.out.trans hok
        have H := c_validSheet_yes wide high wrap A a _ k (List.replicate k sp) (List.replicate k 0) wr F1 F2 (by omega) (by omega) V
        rw [hlen1, hlen2] at H
        have HH : Hid _ := H
        have HOK : Hid _ := hok
        clear H V F1 F2 hlen1 hlen2 hok
        go_at_call 40
        refine Calls.mono HH.out ?_
        rintro e w3 ⟨rfl, hB3⟩
        obtain ⟨hc, hf⟩ := bcell hB3
        have HB3 : Hid _ := hB3
        have x1 : w3.cell? ⟨w.heap.size, 0, none⟩ = some (.int .i64 0) := (hc _ _ hs0).trans (box_cell hR.out.res 0 _ rfl)
        have x2 : w3.cell? ⟨w.heap.size, 1, none⟩ = some (.int .i64 0) := (hc _ _ hs0).trans (box_cell hR.out.res 1 _ rfl)
        have x3 : w3.cell? ⟨w.heap.size, 2, none⟩ = some (.bool false) := (hc _ _ hs0).trans (box_cell hR.out.res 2 _ rfl)
        have x4 : w3.cell? ⟨w.heap.size, 3, none⟩ = some (.slice none 0 0) := (hc _ _ hs0).trans (box_cell hR.out.res 3 _ rfl)
        have x5 : w3.cell? ⟨w.heap.size, 4, none⟩ = some (.slice none 0 0) := (hc _ _ hs0).trans (box_cell hR.out.res 4 _ rfl)
        have g0 := (hf _ 0 hs0).trans (box_free hR.out.res 0)
        have g1 := (hf _ 1 hs0).trans (box_free hR.out.res 1)
        have g2 := (hf _ 2 hs0).trans (box_free hR.out.res 2)
        have g3 := (hf _ 3 hs0).trans (box_free hR.out.res 3)
        have g4 := (hf _ 4 hs0).trans (box_free hR.out.res 4)
        have k3 : w.heap.size < w3.heap.size := by have := hB3.size; omega
        clear hB3 hc hf y1 y2 y3 y4 y5
        go_wp2_with fail
        have hB := hR.out.bel.trans (HB3.out.mono (Nat.le_of_lt hs0))
        have O1 := OwnL.keep _ _ _ (ownL_rep hR.out.sown) HB3.out
        have O2 := OwnL.keep _ _ _ (ownL_rep hR.out.lown) HB3.out
        refine bodyPost_ret (v := .tuple #[.agg #[.int .i64 wide, .int .i64 high, .bool wrap, .slice A k a, .slice (some ⟨w.heap.size + 1, 0, none⟩) k k], .bool true]) (by simp [results, Try.results20, go_sem, x1, x2, x3, x4, x5, g0, g1, g2, g3, g4, k3]) rfl (plainEnd_yes HOK.out ?_ ⟨_, _, rfl, ?_, ?_, hR.out.apart⟩)
        · exact ((((hB.setCell (Nat.le_refl _) _).setCell (Nat.le_refl _) _).setCell (Nat.le_refl _) _).setCell (Nat.le_refl _) _).setCell (Nat.le_refl _) _
        · exact ((((O1.set (Nat.lt_succ_self _) _).set (Nat.lt_succ_self _) _).set (Nat.lt_succ_self _) _).set (Nat.lt_succ_self _) _).set (Nat.lt_succ_self _) _
        · exact ((((O2.set (Nat.lt_succ_self _) _).set (Nat.lt_succ_self _) _).set (Nat.lt_succ_self _) _).set (Nat.lt_succ_self _) _).set (Nat.lt_succ_self _) _

end Go.Proofs.Ytbfilganggllkaa
