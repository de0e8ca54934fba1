/-
Lists of float32 in memory: what it is to read as a list; copies; comparisons.
-/
import Derived.Test.YticggbmmeefelaaDoorNv
import Derived.OneCell
import Derived.Test.YticggbmmeefelaaDoorRg
namespace Go.Proofs.YticggbmmeefelaaDoor
open Fl Go.RowKit

@[go_sem] theorem run_store_float {P : Program} {w : World} {a : Addr} {m : Mode} (k : FloatKind) (b : Nat) : (store a (.float k b) m).run P w = stored P w a (.float k b) m := run_store P w a _ m rfl
@[go_sem] theorem run_store_complex {P : Program} {w : World} {a : Addr} {m : Mode} (k : FloatKind) (b c : Nat) : (store a (.complex k b c) m).run P w = stored P w a (.complex k b c) m := run_store P w a _ m rfl

/-- the cells behind an address hold the list's numbers -/
def Fl32 (w : World) (A : Option Addr) (xs : List Nat) : Prop :=
  xs = [] ∨ ∃ b off, A = some ⟨b, off, none⟩ ∧ b < w.heap.size ∧ ∀ j, j < xs.length → w.cell? ⟨b, off + j, none⟩ = some (.float .f32 (xs.getD j 0))
/-- each number is one of 32 bits -/
def All32 (xs : List Nat) : Prop := ∀ j, xs.getD j 0 < 4294967296

theorem Fl32.at {w : World} {A : Option Addr} {xs : List Nat} (h : Fl32 w A xs) {k : Nat} (hk : k < xs.length) :
    ∃ b off, A = some ⟨b, off, none⟩ ∧ b < w.heap.size ∧ w.cell? ⟨b, off + k, none⟩ = some (.float .f32 (xs.getD k 0)) := by
  rcases h with rfl | ⟨b, off, rfl, hb, hc⟩
  · cases hk
  · exact ⟨b, off, rfl, hb, hc k hk⟩
theorem Fl32.keep {B : Nat} {w w' : World} {A : Option Addr} {xs : List Nat} (h : Fl32 w A xs) (hb : Below B w w') (hB : w.heap.size ≤ B) : Fl32 w' A xs := by
  rcases h with rfl | ⟨b, off, rfl, hbl, hc⟩
  · exact .inl rfl
  · exact .inr ⟨b, off, rfl, Nat.lt_of_lt_of_le hbl hb.size, fun j hj => by rw [hb.cell (p := ⟨b, off + j, none⟩) (by show b < B; omega)]; exact hc j hj⟩
theorem Fl32.drewN {w : World} {A : Option Addr} {xs : List Nat} (h : Fl32 w A xs) (n : Nat) : Fl32 (w.drewN n) A xs := h

theorem info32 : (Tryd.prog.info? 52).map (fun i => (i.zero, i.size, i.bytes)) = some (some (.float .f32 0), 1, 4) := by kernel_rfl

/-- a new row of floats, the first k of them those of a list -/
def Filled (wr : World) (B n : Nat) (xs : List Nat) (k : Nat) : Prop :=
  ∃ ys : List Value, wr.ownsRow B 52 1 (.slice (some ⟨B, 0, none⟩) n n) n ys ∧ ∀ j, j < k → ys[j]? = some (.float .f32 (xs.getD j 0))
theorem Filled.cells {wr : World} {B : Nat} {xs : List Nat} (h : Filled wr B xs.length xs xs.length) (hB : B < wr.heap.size) : Fl32 wr (some ⟨B, 0, none⟩) xs := by
  obtain ⟨ys, ho, hy⟩ := h
  refine .inr ⟨B, 0, rfl, hB, fun j hj => ?_⟩
  rw [Nat.zero_add, ho.cellAt j (by omega)]
  exact hy j hj
theorem Filled.cell {wr : World} {B n : Nat} {xs : List Nat} {k : Nat} (h : Filled wr B n xs k) {j : Nat} (hj : j < n) : (∃ u, wr.cell? ⟨B, j, none⟩ = some u) ∧ wr.frozen? ⟨B, j, none⟩ = false := by
  obtain ⟨ys, ho, hy⟩ := h
  have hl : ys.length = n * 1 := ho.1
  refine ⟨⟨ys[j]'(by omega), ?_⟩, ho.frozenAt j⟩
  rw [ho.cellAt j (by omega)]
  exact List.getElem?_eq_getElem (by omega)
theorem Filled.step {wr : World} {B n : Nat} {xs : List Nat} {k : Nat} (h : Filled wr B n xs k) (hk : k < n) {v : Value} (hv : v = .float .f32 (xs.getD k 0)) : Filled (wr.setCell ⟨B, k, none⟩ v) B n xs (k + 1) := by
  obtain ⟨ys, ho, hy⟩ := h
  have hl : ys.length = n * 1 := ho.1
  refine ⟨_, (ho.stored k v).1, fun j hj => ?_⟩
  rw [List.getElem?_set]
  by_cases h1 : k = j
  · subst h1
    rw [if_pos rfl, if_pos (by omega), hv]
  · rw [if_neg h1]; exact hy j (by omega)

theorem c_toFloat32S (A : Option Addr) (cap : Nat) (xs : List Nat) (w : World) (h : Fl32 w A xs) (hm : xs.length ≤ 1048576) :
    Calls Tryd.prog 17 #[.slice A xs.length cap] w fun e w' => e = .returned (.slice (some ⟨w.heap.size, 0, none⟩) xs.length xs.length) ∧ Below w.heap.size w w' ∧ w.heap.size < w'.heap.size ∧ Fl32 w' (some ⟨w.heap.size, 0, none⟩) xs := by
  obtain ⟨i0, hi, hz0, hz1, hz2⟩ := info_parts info32
  rcases h with rfl | ⟨b, off, rfl, hb, hc⟩
  · go_enter Tryd.func17, Tryd.ntmps17
    go_wp2_with (at_make; refine wpList_make_full _ rfl _ _ 30 rfl w.heap.size 52 i0 (.float .f32 0) 1 Tryd.underlying30 hi hz0 hz1 _ _ _ _ 0 rfl rfl rfl rfl (by rw [hz2]; omega) (by unfold maxLen; omega) (Nat.le_refl _) ?_; intro w1 hown hgrow)
    have hBel : Below w.heap.size w w1 := (Below.refl _ _).grown hgrow (Nat.le_refl _) (fun k hk => by cases hk)
    have hlt : w.heap.size < w1.heap.size := hown.lt _ rfl |>.2
    have HO : Hid _ := hown
    clear hown hgrow
    go_loop [4] (fun i => i = .int .i64 0) (fun _ => 0)
    case atStart => rfl
    case round =>
      obtain rfl := hrel
      go_wp2
      go_ret
      exact ⟨rfl, hBel, hlt, .inl rfl⟩
  · go_enter Tryd.func17, Tryd.ntmps17
    go_wp2_with (at_make; refine wpList_make_full _ rfl _ _ 30 rfl w.heap.size 52 i0 (.float .f32 0) 1 Tryd.underlying30 hi hz0 hz1 _ _ _ _ xs.length rfl rfl rfl rfl (by rw [hz2]; omega) (by unfold maxLen; omega) (Nat.le_refl _) ?_; intro w1 hown hgrow)
    have hBel : Below w.heap.size w w1 := (Below.refl _ _).grown hgrow (Nat.le_refl _) (fun k hk => by cases hk)
    have hlt1 : w.heap.size < w1.heap.size := hown.lt _ rfl |>.2
    have hfill : Filled w1 w.heap.size xs.length xs 0 := ⟨_, hown, fun j hj => by omega⟩
    clear hown hgrow
    go_loopw [4] (fun i wr => ∃ k : Nat, k ≤ xs.length ∧ i = .int .i64 k ∧ Filled wr w.heap.size xs.length xs k ∧ Below w.heap.size w wr ∧ w.heap.size < wr.heap.size) (fun i _ => xs.length - (intOf i).toNat)
    case atStart => exact ⟨0, Nat.zero_le _, rfl, hfill, hBel, hlt1⟩
    case round =>
      obtain ⟨k, hk, rfl, hF, hB, hsz⟩ := hrel
      clear hfill hBel hlt1
      by_cases hlt : k < xs.length
      · have hca : wr.cell? ⟨b, off + k, none⟩ = some (.float .f32 (xs.getD k 0)) := by rw [hB.cell (p := ⟨b, off + k, none⟩) hb]; exact hc k hlt
        obtain ⟨⟨u, hu⟩, hfz⟩ := hF.cell hlt
        have HC : Hid _ := hc
        clear hc
        generalize hv : xs.getD k 0 = v at hca
        have HV : Hid _ := hv
        clear hv
        go_wp2
        go_roundw
        case rel => exact ⟨k + 1, by omega, by go_num, hF.step hlt (by rw [← HV.out]), hB.setCell (Nat.le_refl _) _, by simpa using hsz⟩
        case measure => simp [intOf]; omega
      · have hks : k = xs.length := by omega
        subst hks
        have HC : Hid _ := hc
        clear hc
        go_wp2
        go_ret
        exact ⟨rfl, hB, hsz, hF.cells hsz⟩

theorem Fl32.of_pos {w : World} {A : Option Addr} {xs : List Nat} (h : Fl32 w A xs) (hp : 0 < xs.length) :
    ∃ b off, A = some ⟨b, off, none⟩ ∧ b < w.heap.size ∧ ∀ j, j < xs.length → w.cell? ⟨b, off + j, none⟩ = some (.float .f32 (xs.getD j 0)) := by
  rcases h with rfl | h
  · cases hp
  · exact h

/-- the kinds of what the statement 'sameFloat(float64(a[i]), float64(b[i]))' leaves -/
def eqV (b off b' off' n c d k v : Nat) : Nat → Value → Prop
  | 0, x => x = .slice (some ⟨b, off, none⟩) n c
  | 1, x => x = .int .i64 k
  | 2, x => x = .pointer (some ⟨b, off + k, none⟩)
  | 3, x => x = .float .f32 v
  | 4, x => ∃ r, RV .f64 (cvf .f32 .f64 (fv .f32 v)) r ∧ x = .float .f64 r
  | 5, x => x = .slice (some ⟨b', off', none⟩) n d
  | 6, x => x = .int .i64 k
  | 7, x => x = .pointer (some ⟨b', off' + k, none⟩)
  | 8, x => x = .float .f32 v
  | 9, x => ∃ r, RV .f64 (cvf .f32 .f64 (fv .f32 v)) r ∧ x = .float .f64 r
  | 10, x => x = .bool true
  | 11, x => x = .bool false
  | _, _ => True

set_option maxRecDepth 100000 in
theorem c_eqFloat32S (A B : Option Addr) (c d : Nat) (xs : List Nat) (w : World) (hA : Fl32 w A xs) (hB : Fl32 w B xs) (hx : All32 xs) (hm : xs.length ≤ 9223372036854775807) :
    Calls Tryd.prog 19 #[.slice A xs.length c, .slice B xs.length d] w (RB true w) := by
  by_cases hp : 0 < xs.length
  · obtain ⟨b, off, rfl, hb, hc⟩ := hA.of_pos hp
    obtain ⟨b', off', rfl, hb', hc'⟩ := hB.of_pos hp
    clear hA hB
    go_enter Tryd.func19, Tryd.ntmps19
    go_wp2_with fail
    have HC : Hid _ := hc
    have HC' : Hid _ := hc'
    clear hc hc'
    go_loopw [5] (fun i wr => ∃ k m : Nat, k ≤ xs.length ∧ i = .int .i64 k ∧ wr = w.drewN m) (fun i _ => xs.length - (intOf i).toNat)
    case atStart => exact ⟨0, 0, Nat.zero_le _, rfl, rfl⟩
    case round =>
      obtain ⟨k, m, hk, rfl, rfl⟩ := hrel
      by_cases hlt : k < xs.length
      · have h1 := HC.out k hlt
        have h2 := HC'.out k hlt
        have hv := hx k
        generalize xs.getD k 0 = v at h1 h2 hv
        go_wp2_with fail
        refine wp_region_inv (dst := fun i => 17 + i) (C := fun w' => ∃ q, w' = w.drewN q) (V := eqV b off b' off' xs.length c d k v) (by kernel_rfl) (guards_none (by kernel_rfl)) (fun i j _ _ h => by omega) (fun i hi => by simp at hi ⊢; omega) (edges_back (by kernel_rfl)) ⟨m + 1, rfl⟩ ?_ ?_
        · intro i o ho a wq hC hF hV _
          obtain ⟨q, rfl⟩ := hC
          have f0 : a.tmps.getD 0 undef = .slice (some ⟨b, off, none⟩) xs.length c := hF.rest 0 (fun i hi => by omega)
          have f1 : a.tmps.getD 1 undef = .slice (some ⟨b', off', none⟩) xs.length d := hF.rest 1 (fun i hi => by omega)
          have f5 : a.tmps.getD 5 undef = .int .i64 k := hF.rest 5 (fun i hi => by omega)
          match i, ho with
          | 0, ho => obtain rfl := Option.some.inj ho; exact step_value rfl rfl ⟨q, rfl⟩ f0
          | 1, ho => obtain rfl := Option.some.inj ho; exact step_value rfl rfl ⟨q, rfl⟩ f5
          | 2, ho =>
            obtain rfl := Option.some.inj ho
            have e0 : a.tmps.getD 17 undef = .slice (some ⟨b, off, none⟩) xs.length c := hV ⟨0, .data⟩ (by simp) rfl
            have e1 : a.tmps.getD 18 undef = .int .i64 k := hV ⟨1, .data⟩ (by simp) rfl
            refine step_value (v := .pointer (some ⟨b, off + k, none⟩)) (w' := w.drewN q) ?_ rfl ⟨q, rfl⟩ rfl
            clear hV hF f0 f1 f5
            go_simp
          | 3, ho =>
            obtain rfl := Option.some.inj ho
            have e2 : a.tmps.getD 19 undef = .pointer (some ⟨b, off + k, none⟩) := hV ⟨2, .data⟩ (by simp) rfl
            refine step_value (v := .float .f32 v) (w' := w.drewN q) ?_ rfl ⟨q, rfl⟩ rfl
            clear hV hF f0 f1 f5
            go_simp
          | 4, ho =>
            obtain rfl := Option.some.inj ho
            have e3 : a.tmps.getD 20 undef = .float .f32 v := hV ⟨3, .data⟩ (by simp) rfl
            obtain ⟨r, n, hr, hrun⟩ := run_fcv Tryd.prog (w.drewN q) (s := 52) (t := 57) (k := .f32) (d := .f64) (bx := v) (by rw [Tryd.underlying52]; rfl) Tryd.underlying57 hv (fits_widen v)
            refine step_value (v := .float .f64 r) (w' := (w.drewN q).drewN n) ?_ rfl ⟨q + n, by simp⟩ ⟨r, hr, rfl⟩
            clear hV hF f0 f1 f5
            go_simp
          | 5, ho => obtain rfl := Option.some.inj ho; exact step_value rfl rfl ⟨q, rfl⟩ f1
          | 6, ho => obtain rfl := Option.some.inj ho; exact step_value rfl rfl ⟨q, rfl⟩ f5
          | 7, ho =>
            obtain rfl := Option.some.inj ho
            have e5 : a.tmps.getD 22 undef = .slice (some ⟨b', off', none⟩) xs.length d := hV ⟨5, .data⟩ (by simp) rfl
            have e6 : a.tmps.getD 23 undef = .int .i64 k := hV ⟨6, .data⟩ (by simp) rfl
            refine step_value (v := .pointer (some ⟨b', off' + k, none⟩)) (w' := w.drewN q) ?_ rfl ⟨q, rfl⟩ rfl
            clear hV hF f0 f1 f5
            go_simp
          | 8, ho =>
            obtain rfl := Option.some.inj ho
            have e7 : a.tmps.getD 24 undef = .pointer (some ⟨b', off' + k, none⟩) := hV ⟨7, .data⟩ (by simp) rfl
            refine step_value (v := .float .f32 v) (w' := w.drewN q) ?_ rfl ⟨q, rfl⟩ rfl
            clear hV hF f0 f1 f5
            go_simp
          | 9, ho =>
            obtain rfl := Option.some.inj ho
            have e8 : a.tmps.getD 25 undef = .float .f32 v := hV ⟨8, .data⟩ (by simp) rfl
            obtain ⟨r, n, hr, hrun⟩ := run_fcv Tryd.prog (w.drewN q) (s := 52) (t := 57) (k := .f32) (d := .f64) (bx := v) (by rw [Tryd.underlying52]; rfl) Tryd.underlying57 hv (fits_widen v)
            refine step_value (v := .float .f64 r) (w' := (w.drewN q).drewN n) ?_ rfl ⟨q + n, by simp⟩ ⟨r, hr, rfl⟩
            clear hV hF f0 f1 f5
            go_simp
          | 10, ho =>
            obtain rfl := Option.some.inj ho
            have e4 : ∃ r, RV .f64 (cvf .f32 .f64 (fv .f32 v)) r ∧ a.tmps.getD 21 undef = .float .f64 r := hV ⟨4, .data⟩ (by simp) rfl
            have e9 : ∃ r, RV .f64 (cvf .f32 .f64 (fv .f32 v)) r ∧ a.tmps.getD 26 undef = .float .f64 r := hV ⟨9, .data⟩ (by simp) rfl
            obtain ⟨r, hr, er⟩ := e4
            obtain ⟨r', hr', er'⟩ := e9
            refine step_call (f := 45) (args := #[.float .f64 r, .float .f64 r']) ?_ rfl ((c_sameFloat _ _ (Fl.RV.same hr hr') _).mono fun e w' ⟨he, n, hn⟩ => ⟨_, he, rfl, q + n, by rw [hn]; simp⟩)
            clear hV hF f0 f1 f5
            go_simp
          | 11, ho =>
            obtain rfl := Option.some.inj ho
            have e10 : a.tmps.getD 27 undef = .bool true := hV ⟨10, .data⟩ (by simp) rfl
            refine step_value (v := .bool false) (w' := w.drewN q) ?_ rfl ⟨q, rfl⟩ rfl
            clear hV hF f0 f1 f5
            go_simp
          | n + 12, ho => cases ho
        · intro a wq hC hF hV
          obtain ⟨q, rfl⟩ := hC
          have hf := hF.form (fun s => 17 ≤ s ∧ s < 29) (fun s hs i hi => by simp at hi; omega)
          have e11 : a.tmps.getD 28 undef = .bool false := hV 11 (by simp)
          simp only [List.size_toArray, List.length_cons, List.length_nil, Nat.reduceAdd, List.range_succ, List.range_zero, List.nil_append, List.cons_append, List.map_cons, List.map_nil, Nat.reduceLeDiff, Nat.reduceLT, Nat.le_refl, and_true, if_true, if_false, Array.getD_eq_getD_getElem?, List.getElem?_toArray, List.getElem?_cons_zero, List.getElem?_cons_succ, Option.getD_some] at hf e11
          rw [e11] at hf
          simp only [← Array.getD_eq_getD_getElem?] at hf
          clear hV hF e11
          generalize a.tmps.getD 17 undef = y17 at hf
          generalize a.tmps.getD 18 undef = y18 at hf
          generalize a.tmps.getD 19 undef = y19 at hf
          generalize a.tmps.getD 20 undef = y20 at hf
          generalize a.tmps.getD 21 undef = y21 at hf
          generalize a.tmps.getD 22 undef = y22 at hf
          generalize a.tmps.getD 23 undef = y23 at hf
          generalize a.tmps.getD 24 undef = y24 at hf
          generalize a.tmps.getD 25 undef = y25 at hf
          generalize a.tmps.getD 26 undef = y26 at hf
          generalize a.tmps.getD 27 undef = y27 at hf
          subst hf
          go_wp2_with fail
          go_roundw
          case rel => exact ⟨k + 1, q, by omega, by go_num, rfl⟩
          case measure => simp [intOf]; omega
      · go_wp2_with fail
        go_ret
        exact ⟨rfl, m, rfl⟩
  · obtain rfl : xs = [] := List.eq_nil_of_length_eq_zero (by omega)
    go_enter Tryd.func19, Tryd.ntmps19
    go_wp2_with fail
    go_loop [5] (fun i => i = .int .i64 0) (fun _ => 0)
    case atStart => rfl
    case round =>
      obtain rfl := hrel
      go_wp2_with fail
      go_ret
      exact ⟨rfl, 0, rfl⟩

end Go.Proofs.YticggbmmeefelaaDoor
