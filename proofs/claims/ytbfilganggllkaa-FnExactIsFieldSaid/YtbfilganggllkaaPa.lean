/-
Plain sheets: the contracts in both packages.
-/
import Derived.Test.YtbfilganggllkaaMk
import Derived.Maps.AppendAt
set_option linter.unusedVariables false
set_option linter.unusedSimpArgs false
namespace Go.Proofs.Ytbfilganggllkaa
open Fl Go.RowKit

theorem OwnL.set {base : Nat} {xs : List Nat} {v : Value} {w : World} (h : OwnL base xs v w) {p : Addr} (hp : p.block < base) (u : Value) : OwnL base xs v (w.setCell p u) := by
  refine h.grown (setCell_grown w p u) ?_
  obtain ⟨A, cap, rfl, h1⟩ := h
  right
  intro e
  have := h1.lt _ e
  omega

/-- a sheet whose lists the call has made, in blocks of their own -/
def OwnSheet (base : Nat) (wide high : Int) (wrap : Bool) (xs ys : List Nat) (v : Value) (w : World) : Prop :=
  ∃ vs vl, v = .agg #[.int .i64 wide, .int .i64 high, .bool wrap, vs, vl] ∧ OwnL base xs vs w ∧ OwnL base ys vl w ∧ (vs.ownBlock = none ∨ vs.ownBlock ≠ vl.ownBlock)
theorem OwnSheet.sheet {base : Nat} {wide high : Int} {wrap : Bool} {xs ys : List Nat} {v : Value} {w : World} (h : OwnSheet base wide high wrap xs ys v w) : SheetAt wide high wrap xs ys v w := by
  obtain ⟨vs, vl, rfl, h1, h2, _⟩ := h
  obtain ⟨A, a, rfl, f1⟩ := h1.fl
  obtain ⟨B, b, rfl, f2⟩ := h2.fl
  exact ⟨A, a, B, b, rfl, f1, f2⟩
theorem OwnSheet.keep {base : Nat} {wide high : Int} {wrap : Bool} {xs ys : List Nat} : Keeps (OwnSheet base wide high wrap xs ys) := fun v w w' ⟨vs, vl, e, h1, h2, h3⟩ hB => ⟨vs, vl, e, OwnL.keep _ _ _ h1 hB, OwnL.keep _ _ _ h2 hB, h3⟩

/-- the two lists while they grow, and the boxes of the sheet and of the result -/
structure PS (w0 : World) (B sb rb : Nat) (wide high : Int) (wrap : Bool) (sp k m : Nat) (wr : World) (vs vl : Value) : Prop where
  box : wr.heap[sb]? = some (.cells #[.int .i64 wide, .int .i64 high, .bool wrap, vs, vl] 27 (0, 0))
  res : wr.heap[rb]? = some (.cells #[.int .i64 0, .int .i64 0, .bool false, .slice none 0 0, .slice none 0 0] 27 (0, 0))
  sown : wr.ownsRow B 38 1 vs k (List.replicate k (.float .f32 sp))
  lown : wr.ownsRow B 38 1 vl m (List.replicate m (.float .f32 0))
  apart : vs.ownBlock = none ∨ vs.ownBlock ≠ vl.ownBlock
  nsb : vs.ownBlock ≠ some sb
  nlb : vl.ownBlock ≠ some sb
  bel : Below w0.heap.size w0 wr
  b1 : w0.heap.size ≤ rb
  b2 : rb < B
  b3 : B ≤ sb
  b4 : sb < wr.heap.size

theorem box_cell {w : World} {b : Nat} {cs : Array Value} {t : TypeId} (h : w.heap[b]? = some (.cells cs t (0, 0))) (j : Nat) (v : Value) (hv : cs[j]? = some v) : w.cell? ⟨b, j, none⟩ = some v := by
  rw [cell_of_row w b j cs t (0, 0) h]; exact hv
theorem box_free {w : World} {b : Nat} {cs : Array Value} {t : TypeId} (h : w.heap[b]? = some (.cells cs t (0, 0))) (j : Nat) : w.frozen? ⟨b, j, none⟩ = false := frozen_of_row w b j cs t h

section
variable {w0 : World} {B sb rb : Nat} {wide high : Int} {wrap : Bool} {sp k m : Nat} {wr w1 : World} {vs vl v' : Value} {o : Obj}
theorem PS.step_s (h : PS w0 B sb rb wide high wrap sp k m wr vs vl) (ho : w1.ownsRow B 38 1 v' (k + 1) (List.replicate k (.float .f32 sp) ++ [.float .f32 sp])) (hg : (wr.alloc o).grownBy w1 vs.ownBlock)
    (hat : v'.ownBlock = vs.ownBlock ∨ v'.ownBlock = some (wr.alloc o).heap.size) : PS w0 B sb rb wide high wrap sp (k + 1) m (w1.setCell ⟨sb, 3, none⟩ v') v' vl := by
  have hsz : (wr.alloc o).heap.size = wr.heap.size + 1 := by simp
  have hsz1 := hg.size
  have b1 := h.b1
  have b2 := h.b2
  have b3 := h.b3
  have b4 := h.b4
  have hlow : ∀ b, b < wr.heap.size → some b ≠ vs.ownBlock → w1.heap[b]? = wr.heap[b]? := by
    intro b hb hne
    rw [hg.block b (by omega) hne]
    exact Below.heap_alloc wr o b hb
  have hsb := hlow sb b4 (fun e => h.nsb e.symm)
  have hrb := hlow rb (by omega) (fun e => by have := h.sown.lt rb e.symm; omega)
  have hl1 : w1.ownsRow B 38 1 vl m (List.replicate m (.float .f32 0)) := (h.lown.alloc o).kept hg (by
    rcases h.apart with e | e
    · rw [e]; cases vl.ownBlock <;> simp
    · exact .inr fun e' => e e'.symm)
  have hns : v'.ownBlock ≠ some sb := by
    rcases hat with e | e
    · rw [e]; exact h.nsb
    · rw [e]; intro e'; have := Option.some.inj e'; omega
  refine ⟨?_, ?_, ?_, ?_, ?_, hns, h.nlb, ?_, b1, b2, b3, ?_⟩
  · have := heap_setCell_same w1 sb 3 _ _ v' (hsb.trans h.box)
    simpa using this
  · rw [Below.heap_setCell w1 _ v' rb (by show rb ≠ sb; omega), hrb]; exact h.res
  · have e : List.replicate (k + 1) (Value.float .f32 sp) = List.replicate k (.float .f32 sp) ++ [.float .f32 sp] := by rw [List.replicate_succ']
    rw [e]
    exact ho.kept (setCell_grown w1 ⟨sb, 3, none⟩ v') (.inr hns)
  · exact hl1.kept (setCell_grown w1 ⟨sb, 3, none⟩ v') (.inr h.nlb)
  · rcases hat with e | e
    · rw [e]; exact h.apart
    · rw [e]; right; intro e'; have := (h.lown.lt _ e'.symm).2; omega
  · exact ((h.bel.alloc (by omega) o).grown hg (by omega) (fun b hb => by have := h.sown.lt b hb; omega)).setCell (by show w0.heap.size ≤ sb; omega) v'
  · simp; omega
theorem PS.step_l (h : PS w0 B sb rb wide high wrap sp k m wr vs vl) (ho : w1.ownsRow B 38 1 v' (m + 1) (List.replicate m (.float .f32 0) ++ [.float .f32 0])) (hg : (wr.alloc o).grownBy w1 vl.ownBlock)
    (hat : v'.ownBlock = vl.ownBlock ∨ v'.ownBlock = some (wr.alloc o).heap.size) : PS w0 B sb rb wide high wrap sp k (m + 1) (w1.setCell ⟨sb, 4, none⟩ v') vs v' := by
  have hsz : (wr.alloc o).heap.size = wr.heap.size + 1 := by simp
  have hsz1 := hg.size
  have b1 := h.b1
  have b2 := h.b2
  have b3 := h.b3
  have b4 := h.b4
  have hlow : ∀ b, b < wr.heap.size → some b ≠ vl.ownBlock → w1.heap[b]? = wr.heap[b]? := by
    intro b hb hne
    rw [hg.block b (by omega) hne]
    exact Below.heap_alloc wr o b hb
  have hsb := hlow sb b4 (fun e => h.nlb e.symm)
  have hrb := hlow rb (by omega) (fun e => by have := h.lown.lt rb e.symm; omega)
  have hs1 : w1.ownsRow B 38 1 vs k (List.replicate k (.float .f32 sp)) := (h.sown.alloc o).kept hg h.apart
  have hns : v'.ownBlock ≠ some sb := by
    rcases hat with e | e
    · rw [e]; exact h.nlb
    · rw [e]; intro e'; have := Option.some.inj e'; omega
  refine ⟨?_, ?_, ?_, ?_, ?_, h.nsb, hns, ?_, b1, b2, b3, ?_⟩
  · have := heap_setCell_same w1 sb 4 _ _ v' (hsb.trans h.box)
    simpa using this
  · rw [Below.heap_setCell w1 _ v' rb (by show rb ≠ sb; omega), hrb]; exact h.res
  · exact hs1.kept (setCell_grown w1 ⟨sb, 4, none⟩ v') (.inr h.nsb)
  · have e : List.replicate (m + 1) (Value.float .f32 0) = List.replicate m (.float .f32 0) ++ [.float .f32 0] := by rw [List.replicate_succ']
    rw [e]
    exact ho.kept (setCell_grown w1 ⟨sb, 4, none⟩ v') (.inr hns)
  · rcases hat with e | e
    · rcases h.apart with e' | e'
      · exact .inl e'
      · right; rw [e]; exact e'
    · right; rw [e]; intro e'; have := (h.sown.lt _ e').2; omega
  · exact ((h.bel.alloc (by omega) o).grown hg (by omega) (fun b hb => by have := h.lown.lt b hb; omega)).setCell (by show w0.heap.size ≤ sb; omega) v'
  · simp; omega
theorem PS.low (h : PS w0 B sb rb wide high wrap sp k m wr vs vl) (hg : (wr.alloc o).grownBy w1 vs.ownBlock) : w1.heap[sb]? = some (.cells #[.int .i64 wide, .int .i64 high, .bool wrap, vs, vl] 27 (0, 0)) := by
  have b4 := h.b4
  rw [hg.block _ (by simp; omega) (fun e => h.nsb e.symm), Below.heap_alloc wr o _ b4]
  exact h.box
theorem PS.low_l (h : PS w0 B sb rb wide high wrap sp k m wr vs vl) (hg : (wr.alloc o).grownBy w1 vl.ownBlock) : w1.heap[sb]? = some (.cells #[.int .i64 wide, .int .i64 high, .bool wrap, vs, vl] 27 (0, 0)) := by
  have b4 := h.b4
  rw [hg.block _ (by simp; omega) (fun e => h.nlb e.symm), Below.heap_alloc wr o _ b4]
  exact h.box
end

theorem heap_two (w : World) (o1 o2 : Obj) : ((w.alloc o1).alloc o2).heap[w.heap.size + 1]? = some o2 := by
  have h := heap_alloc_new (w.alloc o1) o2
  have e : (w.alloc o1).heap.size = w.heap.size + 1 := by simp
  rw [e] at h
  exact h
theorem heap_one (w : World) (o1 o2 : Obj) : ((w.alloc o1).alloc o2).heap[w.heap.size]? = some o1 := by
  exact (Below.heap_alloc (w.alloc o1) o2 _ (by simp)).trans (heap_alloc_new w o1)

theorem news_one (w : World) (x : Value) (t : TypeId) (j : Nat) (u : Value) (hj : [x][j]? = some u) : (w.alloc (.cells #[x] t)).cell? ((⟨w.heap.size, 0, none⟩ : Addr).add j) = some u := by
  match j, hj with
  | 0, hj => simp at hj; subst hj; simp [Addr.add]
theorem news_at (w : World) (x : Value) (t : TypeId) {s : Nat} (hs : w.heap.size = s) (j : Nat) (u : Value) (hj : [x][j]? = some u) : (w.alloc (.cells #[x] t)).cell? ((⟨s, 0, none⟩ : Addr).add j) = some u := by
  subst hs; exact news_one w x t j u hj
theorem news_cell (x : Value) (h : x.oneCell' = true) (u : Value) (hu : u ∈ [x]) : u.oneCell' = true := by
  simp at hu; subst hu; exact h

theorem own_form {w : World} {base : Nat} {e : TypeId} {size n : Nat} {v : Value} {xs : List Value} (h : w.ownsRow base e size v n xs) : ∃ A cap, v = .slice A n cap := by
  rcases h.2 with ⟨rfl, rfl⟩ | ⟨g, cp, cur, hv, _⟩
  · exact ⟨_, _, rfl⟩
  · exact ⟨_, _, hv⟩
theorem ownL_rep {base : Nat} {n x : Nat} {v : Value} {w : World} (h : w.ownsRow base 38 1 v n (List.replicate n (.float .f32 x))) : OwnL base (List.replicate n x) v w := by
  have hv : ∃ A cap, v = .slice A n cap := by
    rcases h.2 with ⟨rfl, rfl⟩ | ⟨g, cp, cur, hv, _⟩
    · exact ⟨_, _, rfl⟩
    · exact ⟨_, _, hv⟩
  obtain ⟨A, cap, rfl⟩ := hv
  exact ⟨A, cap, by rw [List.length_replicate], by rw [List.length_replicate, List.map_replicate]; exact h⟩

set_option maxHeartbeats 1000000 in
theorem c_specPlain_yes (wide high : Int) (wrap : Bool) (sp : Nat) (w : World) (hs : sidesV wide high = true) (hok : okV sp 1056964608 = true) :
    Calls Try.prog 19 #[.int .i64 wide, .int .i64 high, .bool wrap, .float .f32 sp] w fun e w' => Below w.heap.size w w' ∧ ∃ v, e = .returned (.tuple #[v, .bool true]) ∧ OwnSheet (w.heap.size + 1) wide high wrap (List.replicate (wide * high).toNat sp) (List.replicate (wide * high).toNat 0) v w' := by
  have HS : Hid _ := c_l02Sides wide high
  obtain ⟨a1, a2, a3, a4⟩ := sides_iff.1 hs
  obtain ⟨m1, m2⟩ := mul_bound a1 a2 a3 a4
  have hg : ge0 sp = true := by unfold okV at hok; simp only [Bool.and_eq_true] at hok; exact hok.1
  have hgt : gtm sp 1056964608 = false := by
    have := okV_gtm (m := 1056964608) hg (by decide)
    rw [hok] at this
    cases h : gtm sp 1056964608
    · rfl
    · rw [h] at this; cases this
  have hg' : ((FloatKind.f32.format.order sp 0 == some .gt) || (FloatKind.f32.format.order sp 0 == some .eq)) = true := hg
  have hgt' : (FloatKind.f32.format.order sp 1056964608 == some .gt) = false := hgt
  rw [hs] at HS
  clear hs hok hg hgt
  obtain ⟨n, hn⟩ : ∃ n : Nat, wide * high = (n : Int) := ⟨(wide * high).toNat, by omega⟩
  have hnN : (wide * high).toNat = n := by omega
  have HN : Hid _ := hnN
  rw [hnN]
  have hn256 : n ≤ 256 := by omega
  obtain ⟨i0, hi, hz0, hz1, hz2⟩ := info_parts info32
  have hw : IntKind.i64.wrap (wide * high) = wide * high := IntWalk.i64_in _ (by omega)
  have HW : Hid _ := hn
  clear hn hnN
  go_enter Try.func19, Try.ntmps19
  go_wp2_with (go_at_call 39; refine (HS.out _).mono ?_; rintro e w' ⟨rfl, rfl⟩)
  clear HS
  go_loopw [11] (fun i wr => ∃ k : Nat, ∃ vs vl, k ≤ n ∧ i = .int .i64 k ∧ PS w (w.heap.size + 1) (w.heap.size + 1) w.heap.size wide high wrap sp k k wr vs vl) (fun i _ => n - (intOf i).toNat)
  case atStart =>
    refine ⟨0, .slice none 0 0, .slice none 0 0, Nat.zero_le _, rfl, ?_, ?_, World.ownsRow_nil _ _ _ _, World.ownsRow_nil _ _ _ _, .inl rfl, by simp [Value.ownBlock], by simp [Value.ownBlock], ((Below.refl _ _).alloc (Nat.le_refl _) _).alloc (by simp) _, Nat.le_refl _, Nat.lt_succ_self _, Nat.le_refl _, by simp⟩
    · exact heap_two _ _ _
    · exact heap_one _ _ _
  case round =>
    obtain ⟨k, vs, vl, hk, rfl, R⟩ := hrel
    obtain ⟨A, a, rfl⟩ := own_form R.sown
    obtain ⟨B, b, rfl⟩ := own_form R.lown
    have hR : Hid (PS w (w.heap.size + 1) (w.heap.size + 1) w.heap.size wide high wrap sp k k wr (.slice A k a) (.slice B k b)) := R
    have y1 : wr.cell? ⟨w.heap.size + 1, 0, none⟩ = some (.int .i64 wide) := box_cell R.box 0 _ rfl
    have y2 : wr.cell? ⟨w.heap.size + 1, 1, none⟩ = some (.int .i64 high) := box_cell R.box 1 _ rfl
    have y3 : wr.cell? ⟨w.heap.size + 1, 2, none⟩ = some (.bool wrap) := box_cell R.box 2 _ rfl
    have y4 : wr.cell? ⟨w.heap.size + 1, 3, none⟩ = some (.slice A k a) := box_cell R.box 3 _ rfl
    have y5 : wr.cell? ⟨w.heap.size + 1, 4, none⟩ = some (.slice B k b) := box_cell R.box 4 _ rfl
    have hsz : w.heap.size + 1 < wr.heap.size := R.b4
    clear R
    by_cases hlt : k < n
    · have hltI : (k : Int) < wide * high := by rw [HW.out]; omega
      go_wp2_with (first
        | (at_builtin; refine wpList_append_own_at _ rfl (.tmp 38) (.tmp 40) 22 rfl (w.heap.size + 1) 38 i0 (.float .f32 0) 1 4 Try.underlying22 hi hz0 hz1 hz2 rfl (by decide) (.slice A k a) k _ rfl (hR.out.sown.alloc _) ⟨wr.heap.size, 0, none⟩ 1 1 [.float .f32 sp] rfl rfl (news_one _ _ _) (news_cell _ rfl) (by unfold maxLen; omega) (by omega) (by simp; omega) ?_; intro v' w1 hown hgrow _ hat; obtain ⟨A', a', rfl⟩ := own_form hown; have hR1 : Hid (PS w (w.heap.size + 1) (w.heap.size + 1) w.heap.size wide high wrap sp (k + 1) k (w1.setCell ⟨w.heap.size + 1, 3, none⟩ (.slice A' (k + 1) a')) (.slice A' (k + 1) a') (.slice B k b)) := PS.step_s hR.out hown hgrow hat; have hb1 := PS.low hR.out hgrow; have q3 : w1.cell? ⟨w.heap.size + 1, 3, none⟩ = some (.slice A k a) := box_cell hb1 3 _ rfl; have q4 : w1.cell? ⟨w.heap.size + 1, 4, none⟩ = some (.slice B k b) := box_cell hb1 4 _ rfl; have f3 := box_free hb1 3; have z1 : w.heap.size + 1 < w1.heap.size := (Array.getElem?_eq_some_iff.1 hb1).1; clear hown hgrow hat hb1)
        | (at_builtin; refine wpList_append_own_at _ rfl (.tmp 44) (.tmp 45) 22 rfl (w.heap.size + 1) 38 i0 (.float .f32 0) 1 4 Try.underlying22 hi hz0 hz1 hz2 rfl (by decide) (.slice B k b) k _ rfl (hR1.out.lown.alloc _) ⟨w1.heap.size, 0, none⟩ 1 1 [.float .f32 0] rfl rfl (news_at _ _ _ (by simp)) (news_cell _ rfl) (by unfold maxLen; omega) (by omega) (by simp; omega) ?_; intro v'' w2 hown hgrow _ hat; obtain ⟨B', b', rfl⟩ := own_form hown; have hR2 : Hid (PS w (w.heap.size + 1) (w.heap.size + 1) w.heap.size wide high wrap sp (k + 1) (k + 1) (w2.setCell ⟨w.heap.size + 1, 4, none⟩ (.slice B' (k + 1) b')) (.slice A' (k + 1) a') (.slice B' (k + 1) b')) := PS.step_l hR1.out hown hgrow hat; have hb2 := PS.low_l hR1.out hgrow; have q5 : w2.cell? ⟨w.heap.size + 1, 4, none⟩ = some (.slice B k b) := box_cell hb2 4 _ rfl; have f5 := box_free hb2 4; have z2 : w.heap.size + 1 < w2.heap.size := (Array.getElem?_eq_some_iff.1 hb2).1; clear hown hgrow hat hb2))
      go_roundw
      case rel => exact ⟨k + 1, _, _, by omega, by go_num, hR2.out⟩
      case measure => simp [intOf]; omega
    · obtain rfl : k = n := by omega
      have hltI : ¬ (k : Int) < wide * high := by rw [HW.out]; omega
      have x1 : wr.cell? ⟨w.heap.size, 0, none⟩ = some (.int .i64 0) := box_cell hR.out.res 0 _ rfl
      have x2 : wr.cell? ⟨w.heap.size, 1, none⟩ = some (.int .i64 0) := box_cell hR.out.res 1 _ rfl
      have x3 : wr.cell? ⟨w.heap.size, 2, none⟩ = some (.bool false) := box_cell hR.out.res 2 _ rfl
      have x4 : wr.cell? ⟨w.heap.size, 3, none⟩ = some (.slice none 0 0) := box_cell hR.out.res 3 _ rfl
      have x5 : wr.cell? ⟨w.heap.size, 4, none⟩ = some (.slice none 0 0) := box_cell hR.out.res 4 _ rfl
      have g0 := box_free hR.out.res 0
      have g1 := box_free hR.out.res 1
      have g2 := box_free hR.out.res 2
      have g3 := box_free hR.out.res 3
      have g4 := box_free hR.out.res 4
      have hs0 : w.heap.size < wr.heap.size := by omega
      go_wp2_with fail
      refine bodyPost_ret (v := .tuple #[.agg #[.int .i64 wide, .int .i64 high, .bool wrap, .slice A k a, .slice B k b], .bool true]) (by simp [results, Try.results19, go_sem, x1, x2, x3, x4, x5, g0, g1, g2, g3, g4, hs0]) rfl ⟨?_, _, rfl, _, _, rfl, ?_, ?_, hR.out.apart⟩
      · exact ((((hR.out.bel.setCell (Nat.le_refl _) _).setCell (Nat.le_refl _) _).setCell (Nat.le_refl _) _).setCell (Nat.le_refl _) _).setCell (Nat.le_refl _) _
      · exact (((((ownL_rep hR.out.sown).set (Nat.lt_succ_self _) _).set (Nat.lt_succ_self _) _).set (Nat.lt_succ_self _) _).set (Nat.lt_succ_self _) _).set (Nat.lt_succ_self _) _
      · exact (((((ownL_rep hR.out.lown).set (Nat.lt_succ_self _) _).set (Nat.lt_succ_self _) _).set (Nat.lt_succ_self _) _).set (Nat.lt_succ_self _) _).set (Nat.lt_succ_self _) _

theorem zero_sheet (base : Nat) (w : World) : OwnSheet base 0 0 false [] [] (.agg #[.int .i64 0, .int .i64 0, .bool false, .slice none 0 0, .slice none 0 0]) w :=
  ⟨_, _, rfl, ⟨none, 0, rfl, World.ownsRow_nil _ _ _ _⟩, ⟨none, 0, rfl, World.ownsRow_nil _ _ _ _⟩, .inl rfl⟩

theorem c_specPlain_no (wide high : Int) (wrap : Bool) (sp : Nat) (w : World) (hno : (sidesV wide high && okV sp 1056964608) = false) :
    Calls Try.prog 19 #[.int .i64 wide, .int .i64 high, .bool wrap, .float .f32 sp] w fun e w' => Below w.heap.size w w' ∧ ∃ v, e = .returned (.tuple #[v, .bool false]) ∧ OwnSheet (w.heap.size + 1) 0 0 false [] [] v w' := by
  have HS : Hid _ := c_l02Sides wide high
  cases hs : sidesV wide high
  · rw [hs] at HS
    clear hno hs
    go_enter Try.func19, Try.ntmps19
    go_wp2_with (go_at_call 39; refine (HS.out _).mono ?_; rintro e w' ⟨rfl, rfl⟩)
    exact bodyPost_ret (v := .tuple #[.agg #[.int .i64 0, .int .i64 0, .bool false, .slice none 0 0, .slice none 0 0], .bool false]) (by simp [results, Try.results19, go_sem]) rfl ⟨(Below.refl _ _).alloc (Nat.le_refl _) _, _, rfl, zero_sheet _ _⟩
  · rw [hs] at HS
    have hok : okV sp 1056964608 = false := by rw [hs] at hno; exact hno
    clear hno hs
    cases hg : ge0 sp
    · have hg' : ((FloatKind.f32.format.order sp 0 == some .gt) || (FloatKind.f32.format.order sp 0 == some .eq)) = false := hg
      clear hg hok
      go_enter Try.func19, Try.ntmps19
      go_wp2_with (go_at_call 39; refine (HS.out _).mono ?_; rintro e w' ⟨rfl, rfl⟩)
      exact bodyPost_ret (v := .tuple #[.agg #[.int .i64 0, .int .i64 0, .bool false, .slice none 0 0, .slice none 0 0], .bool false]) (by simp [results, Try.results19, go_sem]) rfl ⟨(Below.refl _ _).alloc (Nat.le_refl _) _, _, rfl, zero_sheet _ _⟩
    · have hgt : gtm sp 1056964608 = true := by
        have := okV_gtm (m := 1056964608) hg (by decide)
        rw [hok] at this
        cases h : gtm sp 1056964608
        · rw [h] at this; cases this
        · rfl
      have hg' : ((FloatKind.f32.format.order sp 0 == some .gt) || (FloatKind.f32.format.order sp 0 == some .eq)) = true := hg
      have hgt' : (FloatKind.f32.format.order sp 1056964608 == some .gt) = true := hgt
      clear hg hok hgt
      go_enter Try.func19, Try.ntmps19
      go_wp2_with (go_at_call 39; refine (HS.out _).mono ?_; rintro e w' ⟨rfl, rfl⟩)
      exact bodyPost_ret (v := .tuple #[.agg #[.int .i64 0, .int .i64 0, .bool false, .slice none 0 0, .slice none 0 0], .bool false]) (by simp [results, Try.results19, go_sem]) rfl ⟨(Below.refl _ _).alloc (Nat.le_refl _) _, _, rfl, zero_sheet _ _⟩

end Go.Proofs.Ytbfilganggllkaa
