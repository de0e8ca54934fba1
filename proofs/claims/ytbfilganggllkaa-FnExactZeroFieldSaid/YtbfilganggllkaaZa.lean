/-
Copies that a law owns; marks on a field's lists.
-/
import Derived.Test.YtbfilganggllkaaPc
set_option linter.unusedVariables false
set_option linter.unusedSimpArgs false
namespace Go.Proofs.Ytbfilganggllkaa
open Fl Go.RowKit

theorem OwnL.marked {base : Nat} {xs : List Nat} {v vs vl : Value} {w w' : World} (h : OwnL base xs v w) (hM : Marked vs vl w w') (h1 : ∀ k, v.ownBlock = some k → vs.ownBlock ≠ some k) (h2 : ∀ k, v.ownBlock = some k → vl.ownBlock ≠ some k) : OwnL base xs v w' := by
  obtain ⟨A, cap, rfl, hl, hr⟩ := h
  refine ⟨A, cap, rfl, hl, ?_⟩
  rcases hr with hr | ⟨g, cp, cur, hv, hb, hh, hr⟩
  · exact .inl hr
  · have hg : (Value.slice A xs.length cap).ownBlock = some g := by rw [hv]; rfl
    exact .inr ⟨g, cp, cur, hv, hb, by rw [hM.block g (Array.getElem?_eq_some_iff.1 hh).1 (fun e => h1 g hg e.symm) (fun e => h2 g hg e.symm)]; exact hh, hr⟩

theorem Filled.own {wr : World} {B : Nat} {xs : List Nat} (h : Filled wr B xs.length xs xs.length) : OwnL B xs (.slice (some ⟨B, 0, none⟩) xs.length xs.length) wr := by
  obtain ⟨ys, ho, hy⟩ := h
  have hl : ys.length = xs.length * 1 := ho.1
  have e : ys = xs.map (Value.float .f32) := by
    apply List.ext_getElem?
    intro i
    by_cases hi : i < xs.length
    · rw [hy i hi]; simp [List.getD_eq_getElem?_getD, hi]
    · rw [List.getElem?_eq_none (by omega), List.getElem?_eq_none (by simp; omega)]
  subst e
  exact ⟨_, _, rfl, ho⟩

theorem o_toFloat32S (A : Option Addr) (cap : Nat) (xs : List Nat) (w : World) (h : Fl32 w A xs) (hm : xs.length ≤ 1048576) :
    Calls Try.prog 33 #[.slice A xs.length cap] w fun e w' => e = .returned (.slice (some ⟨w.heap.size, 0, none⟩) xs.length xs.length) ∧ Below w.heap.size w w' ∧ w.heap.size < w'.heap.size ∧ OwnL w.heap.size xs (.slice (some ⟨w.heap.size, 0, none⟩) xs.length xs.length) w' := by
  obtain ⟨i0, hi, hz0, hz1, hz2⟩ := info_parts info32
  rcases h with rfl | ⟨b, off, rfl, hb, hc⟩
  · go_enter Try.func33, Try.ntmps33
    go_wp2_with (at_make; refine wpList_make_full _ rfl _ _ 22 rfl w.heap.size 38 i0 (.float .f32 0) 1 Try.underlying22 hi hz0 hz1 _ _ _ _ 0 rfl rfl rfl rfl (by rw [hz2]; omega) (by unfold maxLen; omega) (Nat.le_refl _) ?_; intro w1 hown hgrow)
    have hBel : Below w.heap.size w w1 := (Below.refl _ _).grown hgrow (Nat.le_refl _) (fun k hk => by cases hk)
    have hlt : w.heap.size < w1.heap.size := hown.lt _ rfl |>.2
    have HO : Hid (OwnL w.heap.size [] (.slice (some ⟨w.heap.size, 0, none⟩) 0 0) w1) := by rw [made_zero] at hown; exact ⟨_, _, rfl, hown⟩
    clear hown hgrow
    go_loop [4] (fun i => i = .int .i64 0) (fun _ => 0)
    case atStart => rfl
    case round =>
      obtain rfl := hrel
      go_wp2
      go_ret
      exact ⟨rfl, hBel, hlt, HO.out⟩
  · go_enter Try.func33, Try.ntmps33
    go_wp2_with (at_make; refine wpList_make_full _ rfl _ _ 22 rfl w.heap.size 38 i0 (.float .f32 0) 1 Try.underlying22 hi hz0 hz1 _ _ _ _ xs.length rfl rfl rfl rfl (by rw [hz2]; omega) (by unfold maxLen; omega) (Nat.le_refl _) ?_; intro w1 hown hgrow)
    have hBel : Below w.heap.size w w1 := (Below.refl _ _).grown hgrow (Nat.le_refl _) (fun k hk => by cases hk)
    have hlt1 : w.heap.size < w1.heap.size := hown.lt _ rfl |>.2
    have hfill : Filled w1 w.heap.size xs.length xs 0 := ⟨_, hown, fun j hj => by omega⟩
    clear hown hgrow
    go_loopw [4] (fun i wr => ∃ k : Nat, k ≤ xs.length ∧ i = .int .i64 k ∧ Filled wr w.heap.size xs.length xs k ∧ Below w.heap.size w wr ∧ w.heap.size < wr.heap.size) (fun i _ => xs.length - (intOf i).toNat)
    case atStart => exact ⟨0, Nat.zero_le _, rfl, hfill, hBel, hlt1⟩
    case round =>
      obtain ⟨k, hk, rfl, hF, hB, hsz⟩ := hrel
      clear hfill hBel hlt1
      by_cases hlt : k < xs.length
      · have hca : wr.cell? ⟨b, off + k, none⟩ = some (.float .f32 (xs.getD k 0)) := by rw [hB.cell (p := ⟨b, off + k, none⟩) hb]; exact hc k hlt
        obtain ⟨⟨u, hu⟩, hfz⟩ := hF.cell hlt
        have HC : Hid _ := hc
        clear hc
        generalize hv : xs.getD k 0 = v at hca
        have HV : Hid _ := hv
        clear hv
        go_wp2
        go_roundw
        case rel => exact ⟨k + 1, by omega, by go_num, hF.step hlt (by rw [← HV.out]), hB.setCell (Nat.le_refl _) _, by simpa using hsz⟩
        case measure => simp [intOf]; omega
      · have hks : k = xs.length := by omega
        subst hks
        have HC : Hid _ := hc
        have HF := hide_ hF.own
        clear hc
        go_wp2
        go_ret
        exact ⟨rfl, hB, hsz, HF.out⟩

theorem o_toSheet (wide high : Int) (wrap : Bool) (A : Option Addr) (c : Nat) (B : Option Addr) (d : Nat) (xs ys : List Nat) (w : World) (hA : Fl32 w A xs) (hB : Fl32 w B ys) (hx : xs.length ≤ 1048576) (hy : ys.length ≤ 1048576) :
    Calls Try.prog 11 #[.agg #[.int .i64 wide, .int .i64 high, .bool wrap, .slice A xs.length c, .slice B ys.length d]] w (Gives (OwnSheet w.heap.size wide high wrap xs ys) w) := by
  go_enter Try.func11, Try.ntmps11
  go_wp2_with fail
  go_at_call 33
  have hB0 : Below w.heap.size w (((w.alloc (Obj.cells #[.int .i64 wide, .int .i64 high, .bool wrap, .slice A xs.length c, .slice B ys.length d] 24)).alloc (Obj.cells #[.int .i64 0, .int .i64 0, .bool false, .slice none 0 0, .slice none 0 0] 27)).alloc (Obj.cells #[.int .i64 wide, .int .i64 high, .bool wrap, .slice none 0 0, .slice none 0 0] 27)) := (((Below.refl _ _).alloc (Nat.le_refl _) _).alloc (by simp) _).alloc (by simp; omega) _
  refine (o_toFloat32S A c xs _ (hA.keep hB0 (Nat.le_refl _)) hx).mono ?_
  rintro e w1 ⟨rfl, hB1, hs1, hF1⟩
  obtain ⟨hc, hf⟩ := bcell hB1
  have hB1' := hB0.trans (hB1.mono hB0.size)
  simp at hs1
  have hF1' : OwnL (w.heap.size + 1 + 1 + 1) xs (.slice (some ⟨w.heap.size + 1 + 1 + 1, 0, none⟩) xs.length xs.length) w1 := by
    have e : (((w.alloc (Obj.cells #[.int .i64 wide, .int .i64 high, .bool wrap, .slice A xs.length c, .slice B ys.length d] 24)).alloc (Obj.cells #[.int .i64 0, .int .i64 0, .bool false, .slice none 0 0, .slice none 0 0] 27)).alloc (Obj.cells #[.int .i64 wide, .int .i64 high, .bool wrap, .slice none 0 0, .slice none 0 0] 27)).heap.size = w.heap.size + 1 + 1 + 1 := by simp
    rw [e] at hF1
    exact hF1
  have HF1 := hide_ hF1'
  clear hB0 hF1 hF1'
  go_wp2_with fail
  go_at_call 33
  have hB2 := hB1'.setCell (p := ⟨w.heap.size + 1 + 1, 3, none⟩) (by show w.heap.size ≤ w.heap.size + 1 + 1; omega) (Value.slice (some { block := w.heap.size + 1 + 1 + 1, off := 0 }) xs.length xs.length)
  have hF2 := HF1.out.set (p := ⟨w.heap.size + 1 + 1, 3, none⟩) (by show w.heap.size + 1 + 1 < w.heap.size + 1 + 1 + 1; omega) (Value.slice (some { block := w.heap.size + 1 + 1 + 1, off := 0 }) xs.length xs.length)
  have HF2 := hide_ hF2
  clear hF2 HF1
  refine (o_toFloat32S B d ys _ (hB.keep hB2 (Nat.le_refl _)) hy).mono ?_
  rintro e w3 ⟨rfl, hB3, hs3, hF3⟩
  obtain ⟨hc3, hf3⟩ := bcell hB3
  have k0 : w.heap.size < w1.heap.size := by omega
  have k1 : w.heap.size + 1 < w1.heap.size := by omega
  have k2 : w.heap.size + 1 + 1 < w1.heap.size := by omega
  have HF4 := hide_ (OwnL.keep _ _ _ HF2.out hB3)
  have HF3 : Hid (OwnL w1.heap.size ys (.slice (some ⟨w1.heap.size, 0, none⟩) ys.length ys.length) w3) := by
    have e : (w1.setCell ⟨w.heap.size + 1 + 1, 3, none⟩ (Value.slice (some { block := w.heap.size + 1 + 1 + 1, off := 0 }) xs.length xs.length)).heap.size = w1.heap.size := by simp
    rw [e] at hF3
    exact hF3
  clear hF3 HF2
  go_wp2_with fail
  have hB4 := hB2.trans (hB3.mono hB2.size)
  simp at hs3
  have q0 : w.heap.size ≤ w.heap.size + 1 + 1 := by omega
  have q1 : w.heap.size ≤ w.heap.size + 1 := by omega
  refine bodyPost_ret (v := .agg #[.int .i64 wide, .int .i64 high, .bool wrap, .slice (some ⟨w.heap.size + 1 + 1 + 1, 0, none⟩) xs.length xs.length, .slice (some ⟨w1.heap.size, 0, none⟩) ys.length ys.length]) (by simp [results, Try.results11, go_sem, hc3, hf3, hc, hf, k0, k1, k2]) rfl ⟨?_, _, rfl, _, _, rfl, OwnL.mono ?_ (show w.heap.size ≤ w.heap.size + 1 + 1 + 1 by omega), OwnL.mono ?_ (Nat.le_of_lt k0), .inr ?_⟩
  · exact (((((hB4.setCell (by first | exact q0 | exact q1) _).setCell (by first | exact q0 | exact q1) _).setCell (by first | exact q0 | exact q1) _).setCell (by first | exact q0 | exact q1) _).setCell (by first | exact q0 | exact q1) _).setCell (by first | exact q0 | exact q1) _
  · exact (((((HF4.out.set (by first | (simp; done) | (simp; omega)) _).set (by first | (simp; done) | (simp; omega)) _).set (by first | (simp; done) | (simp; omega)) _).set (by first | (simp; done) | (simp; omega)) _).set (by first | (simp; done) | (simp; omega)) _).set (by first | (simp; done) | (simp; omega)) _
  · exact (((((HF3.out.set (by first | (simp; done) | (simp; omega)) _).set (by first | (simp; done) | (simp; omega)) _).set (by first | (simp; done) | (simp; omega)) _).set (by first | (simp; done) | (simp; omega)) _).set (by first | (simp; done) | (simp; omega)) _).set (by first | (simp; done) | (simp; omega)) _
  · simp [Value.ownBlock]; omega

/-- a field whose lists the call has made, in blocks of their own -/
def OwnField (base : Nat) (xs ys zs : List Nat) (v : Value) (w : World) : Prop :=
  ∃ v1 v2 v3, v = .agg #[v1, v2, v3] ∧ OwnL base xs v1 w ∧ OwnL base ys v2 w ∧ OwnL base zs v3 w ∧ (v1.ownBlock = none ∨ v1.ownBlock ≠ v2.ownBlock) ∧ (v1.ownBlock = none ∨ v1.ownBlock ≠ v3.ownBlock) ∧ (v2.ownBlock = none ∨ v2.ownBlock ≠ v3.ownBlock)
theorem OwnField.field {base : Nat} {xs ys zs : List Nat} {v : Value} {w : World} (h : OwnField base xs ys zs v w) : FieldAt xs ys zs v w := by
  obtain ⟨v1, v2, v3, rfl, h1, h2, h3, _⟩ := h
  obtain ⟨A, a, rfl, f1⟩ := h1.fl
  obtain ⟨B, b, rfl, f2⟩ := h2.fl
  obtain ⟨C, c, rfl, f3⟩ := h3.fl
  exact ⟨A, a, B, b, C, c, rfl, f1, f2, f3⟩

/-- what marking a field changes: the blocks of its lists alone -/
structure MarkedF (v1 v2 v3 : Value) (w w' : World) : Prop where
  os : w'.os = w.os
  tape : w'.tape = w.tape
  output : w'.output = w.output
  size : w.heap.size ≤ w'.heap.size
  block : ∀ k, k < w.heap.size → some k ≠ v1.ownBlock → some k ≠ v2.ownBlock → some k ≠ v3.ownBlock → w'.heap[k]? = w.heap[k]?
theorem MarkedF.below {v1 v2 v3 : Value} {w w' : World} (h : MarkedF v1 v2 v3 w w') {B : Nat} (hB : B ≤ w.heap.size) (h1 : ∀ k, v1.ownBlock = some k → B ≤ k) (h2 : ∀ k, v2.ownBlock = some k → B ≤ k) (h3 : ∀ k, v3.ownBlock = some k → B ≤ k) : Below B w w' :=
  ⟨h.os, h.tape, h.output, h.size, fun k hk => h.block k (by omega) (fun e => by have := h1 k e.symm; omega) (fun e => by have := h2 k e.symm; omega) (fun e => by have := h3 k e.symm; omega)⟩

theorem apart_kept {base : Nat} {xs : List Nat} {v v' : Value} {w w' : World} (h : OwnL base xs v w) (hg : w.grownBy w' v'.ownBlock) (hap : v'.ownBlock = none ∨ v'.ownBlock ≠ v.ownBlock) : OwnL base xs v w' :=
  h.grown hg (by
    rcases hap with e | e
    · rw [e]; cases v.ownBlock <;> simp
    · exact .inr fun e' => e e'.symm)

theorem c_markField (base : Nat) (v1 v2 v3 : Value) (xs ys zs : List Nat) (k : Nat) (w : World) (h1 : OwnL base xs v1 w) (h2 : OwnL base ys v2 w) (h3 : OwnL base zs v3 w) (p12 : v1.ownBlock = none ∨ v1.ownBlock ≠ v2.ownBlock) (p13 : v1.ownBlock = none ∨ v1.ownBlock ≠ v3.ownBlock) (p23 : v2.ownBlock = none ∨ v2.ownBlock ≠ v3.ownBlock) (hk : k + xs.length + ys.length + zs.length ≤ 2000000) :
    Calls Try.prog 29 #[.agg #[v1, v2, v3], .int .i64 k] w fun e w' => e = .returned (.int .i64 (k + xs.length + ys.length + zs.length : Nat)) ∧ OwnL base (marks k xs.length) v1 w' ∧ OwnL base (marks (k + xs.length) ys.length) v2 w' ∧ OwnL base (marks (k + xs.length + ys.length) zs.length) v3 w' ∧ MarkedF v1 v2 v3 w w' := by
  have hB0 : Below w.heap.size w (w.alloc (Obj.cells #[v1, v2, v3] 35)) := (Below.refl _ _).alloc (Nat.le_refl _) _
  have g1 := OwnL.keep _ _ _ h1 hB0
  have g2 := OwnL.keep _ _ _ h2 hB0
  have g3 := OwnL.keep _ _ _ h3 hB0
  obtain ⟨A, a, rfl⟩ := h1.form
  obtain ⟨B, b, rfl⟩ := h2.form
  obtain ⟨C, c, rfl⟩ := h3.form
  have H1 := hide_ (c_markFloat32S base (.slice A xs.length a) xs k _ g1 (by omega))
  have L1 := hide_ h1.low
  have L2 := hide_ h2.low
  have L3 := hide_ h3.low
  have G2 := hide_ g2
  have G3 := hide_ g3
  have P12 := hide_ p12
  have P13 := hide_ p13
  have P23 := hide_ p23
  clear h1 h2 h3 g1 g2 g3 hB0 p12 p13 p23
  have HBX := hide_ (heap_alloc_new w (Obj.cells #[.slice A xs.length a, .slice B ys.length b, .slice C zs.length c] 35))
  go_enter Try.func29, Try.ntmps29
  go_wp2_with fail
  go_at_call 41
  refine Calls.mono H1.out ?_
  rintro e w1 ⟨rfl, o1, hg1, hz1⟩
  have hsz : w.heap.size < w1.heap.size := by rw [hz1]; simp
  have hbox1 : w1.heap[w.heap.size]? = some (Obj.cells #[.slice A xs.length a, .slice B ys.length b, .slice C zs.length c] 35 (0, 0)) := by
    rw [hg1.block _ (by simp) (fun e => by have := L1.out _ e.symm; omega)]; exact HBX.out
  have y1 : w1.cell? ⟨w.heap.size, 1, none⟩ = some (.slice B ys.length b) := box_cell hbox1 1 _ rfl
  have H2 := hide_ (c_markFloat32S base (.slice B ys.length b) ys (k + xs.length) w1 (apart_kept G2.out hg1 P12.out) (by omega))
  have G3' := hide_ (apart_kept G3.out hg1 P13.out)
  have O1 := hide_ o1
  have GR1 := hide_ hg1
  have Z1 := hide_ hz1
  have HBX1 := hide_ hbox1
  clear o1 hg1 hz1 hbox1 H1 G2 G3 HBX
  go_wp2_with fail
  clear y1
  go_at_call 41
  refine Calls.mono H2.out ?_
  rintro e w2 ⟨rfl, o2, hg2, hz2⟩
  have hsz2 : w.heap.size < w2.heap.size := by rw [hz2]; exact hsz
  have hbox2 : w2.heap[w.heap.size]? = some (Obj.cells #[.slice A xs.length a, .slice B ys.length b, .slice C zs.length c] 35 (0, 0)) := by
    rw [hg2.block _ hsz (fun e => by have := L2.out _ e.symm; omega)]; exact HBX1.out
  have y2 : w2.cell? ⟨w.heap.size, 2, none⟩ = some (.slice C zs.length c) := box_cell hbox2 2 _ rfl
  have H3 := hide_ (c_markFloat32S base (.slice C zs.length c) zs (k + xs.length + ys.length) w2 (apart_kept G3'.out hg2 P23.out) hk)
  have O1' := hide_ (OwnL.grown O1.out hg2 P12.out)
  have O2 := hide_ o2
  have GR2 := hide_ hg2
  have Z2 := hide_ hz2
  clear o2 hg2 hz2 hbox2 H2 HBX1 O1 G3'
  go_wp2_with fail
  clear y2
  go_at_call 41
  refine Calls.mono H3.out ?_
  rintro e w3 ⟨rfl, o3, hg3, hz3⟩
  have O1 := hide_ (OwnL.grown O1'.out hg3 P13.out)
  have O2' := hide_ (OwnL.grown O2.out hg3 P23.out)
  have O3 := hide_ o3
  have hM : MarkedF (.slice A xs.length a) (.slice B ys.length b) (.slice C zs.length c) w w3 := by
    have a1 := GR1.out
    have a2 := GR2.out
    refine ⟨hg3.os.trans (a2.os.trans a1.os), hg3.tape.trans (a2.tape.trans a1.tape), hg3.output.trans (a2.output.trans a1.output), by rw [hz3]; omega, fun q hq n1 n2 n3 => ?_⟩
    rw [hg3.block q (by omega) n3, a2.block q (by omega) n2, a1.block q (by simp; omega) n1]
    exact Below.heap_alloc w _ q hq
  have HM := hide_ hM
  clear o3 hg3 hz3 hM
  go_wp2_with fail
  go_ret
  exact ⟨rfl, O1.out, O2'.out, O3.out, HM.out⟩

theorem c_heldField (k n m l : Nat) (v : Value) (w : World) (h : FieldAt (marks k n) (marks (k + n) m) (marks (k + n + m) l) v w) (hk : k + n + m + l < 2000) :
    Calls Try.prog 30 #[v, .int .i64 k] w fun e w' => e = .returned (.int .i64 (k + n + m + l : Nat)) ∧ Below w.heap.size w w' := by
  obtain ⟨A, a, B, b, C, c, rfl, fA, fB, fC⟩ := h
  rw [marks_len, marks_len, marks_len]
  have hB0 : Below w.heap.size w (w.alloc (Obj.cells #[.slice A n a, .slice B m b, .slice C l c] 35)) := (Below.refl _ _).alloc (Nat.le_refl _) _
  have H1 := hide_ (c_heldFloat32S A a n k _ (fA.keep hB0 (Nat.le_refl _)) (by omega))
  have H2 := hide_ (c_heldFloat32S B b m (k + n) _ (fB.keep hB0 (Nat.le_refl _)) (by omega))
  have H3 := hide_ (c_heldFloat32S C c l (k + n + m) _ (fC.keep hB0 (Nat.le_refl _)) (by omega))
  have HB := hide_ hB0
  clear hB0 fA fB fC
  go_enter Try.func30, Try.ntmps30
  go_wp2_with fail
  go_at_call 42
  refine Calls.mono H1.out ?_
  rintro e w1 ⟨rfl, rfl⟩
  go_wp2_with fail
  go_at_call 42
  refine Calls.mono H2.out ?_
  rintro e w1 ⟨rfl, rfl⟩
  go_wp2_with fail
  go_at_call 42
  refine Calls.mono H3.out ?_
  rintro e w1 ⟨rfl, rfl⟩
  go_wp2_with fail
  go_ret
  exact ⟨rfl, HB.out⟩

end Go.Proofs.Ytbfilganggllkaa
