/-
Lists of complex64 compared, marked, and the marks looked at.
-/
import Derived.Test.YticggbmmeefelaaDoorCc
import Derived.Test.YticggbmmeefelaaDoorCx
import Derived.Test.YticggbmmeefelaaDoorHm
set_option linter.unusedVariables false
set_option linter.unusedSimpArgs false
namespace Go.Proofs.YticggbmmeefelaaDoor
open Fl Go Go.RowKit

theorem c_sameComplex (a b c d : Nat) (h1 : fv .f64 a = fv .f64 c) (h2 : fv .f64 b = fv .f64 d) (w : World) : Calls Tryd.prog 56 #[.complex .f64 a b, .complex .f64 c d] w (RB true w) := by
  have H1 := hide_ (fun W => c_sameFloat a c h1 W)
  have H2 := hide_ (fun W => c_sameFloat b d h2 W)
  clear h1 h2
  go_enter Tryd.func56, Tryd.ntmps56
  go_wp2_with fail
  go_at_call 45
  refine Calls.mono (H1.out _) ?_
  rintro e w1 ⟨rfl, n1, rfl⟩
  go_wp2_with fail
  go_at_call 45
  refine Calls.mono (H2.out _) ?_
  rintro e w2 ⟨rfl, n2, rfl⟩
  go_wp2_with fail
  go_ret
  exact ⟨rfl, n1 + n2, by simp⟩

theorem Fc.of_own {base : Nat} {xs : List (Nat × Nat)} {v : Value} {w : World} (h : OwnC base xs v w) : ∃ A cap, v = .slice A xs.length cap ∧ Fc w A xs := by
  obtain ⟨A, cap, rfl, h1⟩ := h
  exact ⟨A, cap, rfl, own_fc h1 rfl⟩

/-- the kinds of what the statement 'sameComplex(complex128(a[i]), complex128(b[i]))' leaves -/
def eqC (b off b' off' n c d k : Nat) (x1 x2 : Nat) : Nat → Value → Prop
  | 0, x => x = .slice (some ⟨b, off, none⟩) n c
  | 1, x => x = .int .i64 k
  | 2, x => x = .pointer (some ⟨b, off + k, none⟩)
  | 3, x => x = .complex .f32 x1 x2
  | 4, x => ∃ r q, RV .f64 (cvf .f32 .f64 (fv .f32 x1)) r ∧ RV .f64 (cvf .f32 .f64 (fv .f32 x2)) q ∧ x = .complex .f64 r q
  | 5, x => x = .slice (some ⟨b', off', none⟩) n d
  | 6, x => x = .int .i64 k
  | 7, x => x = .pointer (some ⟨b', off' + k, none⟩)
  | 8, x => x = .complex .f32 x1 x2
  | 9, x => ∃ r q, RV .f64 (cvf .f32 .f64 (fv .f32 x1)) r ∧ RV .f64 (cvf .f32 .f64 (fv .f32 x2)) q ∧ x = .complex .f64 r q
  | 10, x => x = .bool true
  | 11, x => x = .bool false
  | _, _ => True

set_option maxRecDepth 100000 in
theorem c_eqComplex64S (A B : Option Addr) (c d : Nat) (xs : List (Nat × Nat)) (w : World) (hA : Fc w A xs) (hB : Fc w B xs) (hx : AllC xs) (hm : xs.length ≤ 9223372036854775807) :
    Calls Tryd.prog 32 #[.slice A xs.length c, .slice B xs.length d] w (RB true w) := by
  by_cases hp : 0 < xs.length
  · obtain ⟨b, off, rfl, hb, hc⟩ := hA.of_pos hp
    obtain ⟨b', off', rfl, hb', hc'⟩ := hB.of_pos hp
    clear hA hB
    go_enter Tryd.func32, Tryd.ntmps32
    go_wp2_with fail
    have HC := hide_ hc
    have HC' := hide_ hc'
    clear hc hc'
    go_loopw [5] (fun i wr => ∃ k m : Nat, k ≤ xs.length ∧ i = .int .i64 k ∧ wr = w.drewN m) (fun i _ => xs.length - (intOf i).toNat)
    case atStart => exact ⟨0, 0, Nat.zero_le _, rfl, rfl⟩
    case round =>
      obtain ⟨k, m, hk, rfl, rfl⟩ := hrel
      by_cases hlt : k < xs.length
      · have h1 := HC.out k hlt
        have h2 := HC'.out k hlt
        have hv := hx k
        generalize xs.getD k (0, 0) = v at h1 h2 hv
        obtain ⟨x1, x2⟩ := v
        obtain ⟨hx1, hx2⟩ := hv
        simp only [cxV] at hx1 hx2 h1 h2
        go_wp2_with fail
        refine wp_region_inv (dst := fun i => 17 + i) (C := fun w' => ∃ q, w' = w.drewN q) (V := eqC b off b' off' xs.length c d k x1 x2) (by kernel_rfl) (guards_none (by kernel_rfl)) (fun i j _ _ h => by omega) (fun i hi => by simp at hi ⊢; omega) (edges_back (by kernel_rfl)) ⟨m + 1, rfl⟩ ?_ ?_
        · intro i o ho a wq hC hF hV _
          obtain ⟨q, rfl⟩ := hC
          have f0 : a.tmps.getD 0 undef = .slice (some ⟨b, off, none⟩) xs.length c := hF.rest 0 (fun i hi => by omega)
          have f1 : a.tmps.getD 1 undef = .slice (some ⟨b', off', none⟩) xs.length d := hF.rest 1 (fun i hi => by omega)
          have f5 : a.tmps.getD 5 undef = .int .i64 k := hF.rest 5 (fun i hi => by omega)
          match i, ho with
          | 0, ho => obtain rfl := Option.some.inj ho; exact step_value rfl rfl ⟨q, rfl⟩ f0
          | 1, ho => obtain rfl := Option.some.inj ho; exact step_value rfl rfl ⟨q, rfl⟩ f5
          | 2, ho =>
            obtain rfl := Option.some.inj ho
            have e0 : a.tmps.getD 17 undef = .slice (some ⟨b, off, none⟩) xs.length c := hV ⟨0, .data⟩ (by simp) rfl
            have e1 : a.tmps.getD 18 undef = .int .i64 k := hV ⟨1, .data⟩ (by simp) rfl
            refine step_value (v := .pointer (some ⟨b, off + k, none⟩)) (w' := w.drewN q) ?_ rfl ⟨q, rfl⟩ rfl
            clear hV hF f0 f1 f5
            go_simp
          | 3, ho =>
            obtain rfl := Option.some.inj ho
            have e2 : a.tmps.getD 19 undef = .pointer (some ⟨b, off + k, none⟩) := hV ⟨2, .data⟩ (by simp) rfl
            refine step_value (v := .complex .f32 x1 x2) (w' := w.drewN q) ?_ rfl ⟨q, rfl⟩ rfl
            clear hV hF f0 f1 f5
            go_simp
          | 4, ho =>
            obtain rfl := Option.some.inj ho
            have e3 : a.tmps.getD 20 undef = .complex .f32 x1 x2 := hV ⟨3, .data⟩ (by simp) rfl
            obtain ⟨r, r', n, hr, hr', hrun⟩ := run_ccv Tryd.prog (w.drewN q) (s := 64) (t := 67) (k := .f32) (d := .f64) (x := x1) (y := x2) (by rw [Tryd.underlying64]; rfl) Tryd.underlying67 hx1 hx2 (fits_widen x1) (fits_widen x2)
            refine step_value (v := .complex .f64 r r') (w' := (w.drewN q).drewN n) ?_ rfl ⟨q + n, by simp⟩ ⟨r, r', hr, hr', rfl⟩
            clear hV hF f0 f1 f5
            go_simp
          | 5, ho => obtain rfl := Option.some.inj ho; exact step_value rfl rfl ⟨q, rfl⟩ f1
          | 6, ho => obtain rfl := Option.some.inj ho; exact step_value rfl rfl ⟨q, rfl⟩ f5
          | 7, ho =>
            obtain rfl := Option.some.inj ho
            have e5 : a.tmps.getD 22 undef = .slice (some ⟨b', off', none⟩) xs.length d := hV ⟨5, .data⟩ (by simp) rfl
            have e6 : a.tmps.getD 23 undef = .int .i64 k := hV ⟨6, .data⟩ (by simp) rfl
            refine step_value (v := .pointer (some ⟨b', off' + k, none⟩)) (w' := w.drewN q) ?_ rfl ⟨q, rfl⟩ rfl
            clear hV hF f0 f1 f5
            go_simp
          | 8, ho =>
            obtain rfl := Option.some.inj ho
            have e7 : a.tmps.getD 24 undef = .pointer (some ⟨b', off' + k, none⟩) := hV ⟨7, .data⟩ (by simp) rfl
            refine step_value (v := .complex .f32 x1 x2) (w' := w.drewN q) ?_ rfl ⟨q, rfl⟩ rfl
            clear hV hF f0 f1 f5
            go_simp
          | 9, ho =>
            obtain rfl := Option.some.inj ho
            have e8 : a.tmps.getD 25 undef = .complex .f32 x1 x2 := hV ⟨8, .data⟩ (by simp) rfl
            obtain ⟨r, r', n, hr, hr', hrun⟩ := run_ccv Tryd.prog (w.drewN q) (s := 64) (t := 67) (k := .f32) (d := .f64) (x := x1) (y := x2) (by rw [Tryd.underlying64]; rfl) Tryd.underlying67 hx1 hx2 (fits_widen x1) (fits_widen x2)
            refine step_value (v := .complex .f64 r r') (w' := (w.drewN q).drewN n) ?_ rfl ⟨q + n, by simp⟩ ⟨r, r', hr, hr', rfl⟩
            clear hV hF f0 f1 f5
            go_simp
          | 10, ho =>
            obtain rfl := Option.some.inj ho
            have e4 : ∃ r q, RV .f64 (cvf .f32 .f64 (fv .f32 x1)) r ∧ RV .f64 (cvf .f32 .f64 (fv .f32 x2)) q ∧ a.tmps.getD 21 undef = .complex .f64 r q := hV ⟨4, .data⟩ (by simp) rfl
            have e9 : ∃ r q, RV .f64 (cvf .f32 .f64 (fv .f32 x1)) r ∧ RV .f64 (cvf .f32 .f64 (fv .f32 x2)) q ∧ a.tmps.getD 26 undef = .complex .f64 r q := hV ⟨9, .data⟩ (by simp) rfl
            obtain ⟨r, s, hr, hs, er⟩ := e4
            obtain ⟨r', s', hr', hs', er'⟩ := e9
            refine step_call (f := 56) (args := #[.complex .f64 r s, .complex .f64 r' s']) ?_ rfl ((c_sameComplex _ _ _ _ (Fl.RV.same hr hr') (Fl.RV.same hs hs') _).mono fun e w' ⟨he, n, hn⟩ => ⟨_, he, rfl, q + n, by rw [hn]; simp⟩)
            clear hV hF f0 f1 f5
            go_simp
          | 11, ho =>
            obtain rfl := Option.some.inj ho
            have e10 : a.tmps.getD 27 undef = .bool true := hV ⟨10, .data⟩ (by simp) rfl
            refine step_value (v := .bool false) (w' := w.drewN q) ?_ rfl ⟨q, rfl⟩ rfl
            clear hV hF f0 f1 f5
            go_simp
          | n + 12, ho => cases ho
        · intro a wq hC hF hV
          obtain ⟨q, rfl⟩ := hC
          have hf := hF.form (fun s => 17 ≤ s ∧ s < 29) (fun s hs i hi => by simp at hi; omega)
          have e11 : a.tmps.getD 28 undef = .bool false := hV 11 (by simp)
          simp only [List.size_toArray, List.length_cons, List.length_nil, Nat.reduceAdd, List.range_succ, List.range_zero, List.nil_append, List.cons_append, List.map_cons, List.map_nil, Nat.reduceLeDiff, Nat.reduceLT, Nat.le_refl, and_true, if_true, if_false, Array.getD_eq_getD_getElem?, List.getElem?_toArray, List.getElem?_cons_zero, List.getElem?_cons_succ, Option.getD_some] at hf e11
          rw [e11] at hf
          simp only [← Array.getD_eq_getD_getElem?] at hf
          clear hV hF e11
          generalize a.tmps.getD 17 undef = y17 at hf
          generalize a.tmps.getD 18 undef = y18 at hf
          generalize a.tmps.getD 19 undef = y19 at hf
          generalize a.tmps.getD 20 undef = y20 at hf
          generalize a.tmps.getD 21 undef = y21 at hf
          generalize a.tmps.getD 22 undef = y22 at hf
          generalize a.tmps.getD 23 undef = y23 at hf
          generalize a.tmps.getD 24 undef = y24 at hf
          generalize a.tmps.getD 25 undef = y25 at hf
          generalize a.tmps.getD 26 undef = y26 at hf
          generalize a.tmps.getD 27 undef = y27 at hf
          subst hf
          go_wp2_with fail
          go_roundw
          case rel => exact ⟨k + 1, q, by omega, by go_num, rfl⟩
          case measure => simp [intOf]; omega
      · go_wp2_with fail
        go_ret
        exact ⟨rfl, m, rfl⟩
  · have h0 : xs.length = 0 := by omega
    rw [h0]
    go_enter Tryd.func32, Tryd.ntmps32
    go_wp2_with fail
    go_loop [5] (fun i => i = .int .i64 0) (fun _ => 0)
    case atStart => rfl
    case round =>
      obtain rfl := hrel
      go_wp2_with fail
      go_ret
      exact ⟨rfl, 0, rfl⟩

def cvC (k : Nat) : Nat := (floatToFloatBits .f64 (floatOfInt .f64 (k : Int)) .f32).getD 0
theorem cvC_all : (List.range 2000).all (fun k => (floatToFloatBits .f64 (floatOfInt .f64 (k : Int)) .f32 == some (cvC k)) && (FloatKind.f32.format.order (cvC k) (cvC k) == some .eq)) = true := by kernel_rfl
theorem cvC_run {k : Nat} (h : k < 2000) : floatToFloatBits .f64 (floatOfInt .f64 (k : Int)) .f32 = some (cvC k) ∧ (FloatKind.f32.format.order (cvC k) (cvC k) == some .eq) = true := by
  have := List.all_eq_true.1 cvC_all k (List.mem_range.2 h)
  simp only [Bool.and_eq_true] at this
  exact ⟨eq_of_beq this.1, this.2⟩
theorem cvC_one : floatToFloatBits .f64 4607182418800017408 .f32 = some 1065353216 := by kernel_rfl
theorem cvC_one_eq : (FloatKind.f32.format.order 1065353216 1065353216 == some .eq) = true := by kernel_rfl
def markC (k : Nat) : Nat × Nat := (cvC k, 1065353216)
def marksC (k n : Nat) : List (Nat × Nat) := (List.range n).map fun i => markC (k + i)
theorem marksC_len (k n : Nat) : (marksC k n).length = n := by simp [marksC]
theorem marksC_get (k n : Nat) {i : Nat} (h : i < n) : (marksC k n).getD i (0, 0) = markC (k + i) := by
  simp [marksC, List.getD_eq_getElem?_getD, h]
theorem OwnC.grown {base : Nat} {xs : List (Nat × Nat)} {v : Value} {w w' : World} {row : Option Nat} (h : OwnC base xs v w) (hg : w.grownBy w' row) (hne : v.ownBlock = none ∨ v.ownBlock ≠ row) : OwnC base xs v w' := by
  obtain ⟨A, cap, rfl, h1⟩ := h
  exact ⟨A, cap, rfl, h1.kept hg hne⟩
theorem markC_step {w : World} {base n : Nat} {v : Value} {ys : List Value} (h : w.ownsRow base 64 1 v n ys) {k j : Nat} {g : Nat} {cap : Nat} (hv : v = .slice (some ⟨g, 0, none⟩) n cap) (hy : ∀ i, i < j → ys[i]? = some (cxV (markC (k + i)))) (hj : j < n) :
    ∃ zs, (w.setCell ⟨g, j, none⟩ (cxV (markC (k + j)))).ownsRow base 64 1 v n zs ∧ ∀ i, i < j + 1 → zs[i]? = some (cxV (markC (k + i))) := by
  subst hv
  have hl : ys.length = n * 1 := h.1
  refine ⟨_, (h.stored j (cxV (markC (k + j)))).1, fun i hi => ?_⟩
  rw [List.getElem?_set]
  by_cases h1 : j = i
  · subst h1
    rw [if_pos rfl, if_pos (by omega)]
  · rw [if_neg h1]; exact hy i (by omega)
theorem markC_end {w : World} {base n : Nat} {A : Option Addr} {cap : Nat} {ys : List Value} (h : w.ownsRow base 64 1 (.slice A n cap) n ys) {k : Nat} (hy : ∀ i, i < n → ys[i]? = some (cxV (markC (k + i)))) : OwnC base (marksC k n) (.slice A n cap) w := by
  have hl : ys.length = n * 1 := h.1
  have e : ys = (marksC k n).map cxV := by
    apply List.ext_getElem?
    intro i
    by_cases hi : i < n
    · rw [hy i hi]; simp [marksC, hi]
    · rw [List.getElem?_eq_none (by omega), List.getElem?_eq_none (by simp [marksC]; omega)]
  subst e
  exact ⟨A, cap, by rw [marksC_len], by rw [marksC_len]; exact h⟩

theorem c_markComplex64S (base : Nat) (v : Value) (xs : List (Nat × Nat)) (k : Nat) (w : World) (h : OwnC base xs v w) (hk : k + xs.length < 2000) :
    Calls Tryd.prog 33 #[v, .int .i64 k] w fun e w' => e = .returned (.int .i64 (k + xs.length : Nat)) ∧ OwnC base (marksC k xs.length) v w' ∧ w.grownBy w' v.ownBlock ∧ w'.heap.size = w.heap.size := by
  obtain ⟨A, cap, rfl, ho⟩ := h
  generalize xs.map cxV = ys at ho
  generalize xs.length = n at *
  by_cases hp : 0 < n
  · obtain ⟨g, rfl, hb⟩ : ∃ g, A = some ⟨g, 0, none⟩ ∧ base ≤ g := by
      rcases ho.2 with ⟨_, hn⟩ | ⟨g, cp, cur, hv, hb, _⟩
      · omega
      · simp only [Value.slice.injEq] at hv
        exact ⟨g, hv.1, hb⟩
    go_enter Tryd.func33, Tryd.ntmps33
    go_wp2_with fail
    go_loopw [1, 5] (fun q i wr => ∃ j : Nat, j ≤ n ∧ i = .int .i64 j ∧ q = .int .i64 (k + j : Nat) ∧ (∃ zs, wr.ownsRow base 64 1 (.slice (some ⟨g, 0, none⟩) n cap) n zs ∧ ∀ i, i < j → zs[i]? = some (cxV (markC (k + i)))) ∧ w.grownBy wr (some g) ∧ wr.heap.size = w.heap.size) (fun q i _ => n - (intOf i).toNat)
    case atStart => exact ⟨0, Nat.zero_le _, rfl, rfl, ⟨_, ho, fun i hi => absurd hi (Nat.not_lt_zero _)⟩, ⟨rfl, rfl, rfl, Nat.le_refl _, fun _ _ _ => rfl⟩, rfl⟩
    case round =>
      obtain ⟨j, hj, rfl, rfl, ⟨zs, hz, hy⟩, hg, hs⟩ := hrel
      clear ho
      by_cases hlt : j < n
      · have hl : zs.length = n * 1 := hz.1
        obtain ⟨u, hcell⟩ : ∃ u, wr.cell? ⟨g, j, none⟩ = some u := ⟨zs[j]'(by omega), by rw [hz.cellAt j (by omega)]; exact List.getElem?_eq_getElem (by omega)⟩
        have hfz := hz.frozenAt j
        obtain ⟨zs', hz', hy'⟩ := markC_step hz rfl hy hlt
        have h1 : k + (j + 1) ≤ 2000000 := by omega
        have HCV := (cvC_run (show k + j < 2000 by omega)).1
        unfold cxV markC at hz'
        simp only at hz'
        have HZ := hide_ hz'
        have HY := hide_ hy'
        have HS := hide_ hs
        have HG := hide_ (grown_trans hg (setCell_grown wr ⟨g, j, none⟩ (.complex .f32 (cvC (k + j)) 1065353216)))
        clear hz hy hz' hy' hs hg hl
        generalize cvC (k + j) = cv at HCV HZ HG
        have HCV' := hide_ (show floatToFloatBits .f64 (floatOfInt .f64 ((k : Int) + (j : Int))) .f32 = some cv by rw [← Int.natCast_add]; exact HCV)
        clear HCV
        go_wp2_with ((with_reducible refine upon_cto (d := .f32) (r := cv) (q := 1065353216) ?_ Tryd.underlying64 ?_ cvC_one ?_); (rw [Tryd.underlying67]; rfl); exact HCV'.out)
        go_roundw
        case rel => exact ⟨j + 1, by omega, by go_num, by go_num, ⟨zs', HZ.out, HY.out⟩, HG.out, by simpa using HS.out⟩
        case measure => simp [intOf]; omega
      · obtain rfl : j = n := by omega
        have R := markC_end hz hy
        have HR := hide_ R
        have HG := hide_ hg
        have HS := hide_ hs
        clear hz hy R hg hs
        go_wp2_with fail
        go_ret
        exact ⟨rfl, HR.out, HG.out, HS.out⟩
  · obtain rfl : n = 0 := by omega
    have R : OwnC base (marksC k 0) (.slice A 0 cap) w := markC_end ho (fun i hi => absurd hi (Nat.not_lt_zero _))
    have HR := hide_ R
    clear R ho
    go_enter Tryd.func33, Tryd.ntmps33
    go_wp2_with fail
    go_loop [1, 5] (fun q i => i = .int .i64 0 ∧ q = .int .i64 k) (fun _ _ => 0)
    case atStart => exact ⟨rfl, rfl⟩
    case round =>
      obtain ⟨rfl, rfl⟩ := hrel
      go_wp2_with fail
      go_ret
      exact ⟨rfl, HR.out, ⟨rfl, rfl, rfl, Nat.le_refl _, fun _ _ _ => rfl⟩, rfl⟩

theorem c_heldComplex64S (A : Option Addr) (cap n : Nat) (k : Nat) (w : World) (h : Fc w A (marksC k n)) (hk : k + n < 2000) :
    Calls Tryd.prog 34 #[.slice A n cap, .int .i64 k] w fun e w' => e = .returned (.int .i64 (k + n : Nat)) ∧ w = w' := by
  by_cases hp : 0 < n
  · obtain ⟨b, off, rfl, hb, hc⟩ := h.of_pos (by rw [marksC_len]; exact hp)
    rw [marksC_len] at hc
    have HC := hide_ hc
    clear hc h
    go_enter Tryd.func34, Tryd.ntmps34
    go_wp2_with fail
    go_loop [1, 5] (fun q i => ∃ j : Nat, j ≤ n ∧ i = .int .i64 j ∧ q = .int .i64 (k + j : Nat)) (fun q i => n - (intOf i).toNat)
    case atStart => exact ⟨0, Nat.zero_le _, rfl, rfl⟩
    case round =>
      obtain ⟨j, hj, rfl, rfl⟩ := hrel
      by_cases hlt : j < n
      · have hcell := HC.out j hlt
        rw [marksC_get k n hlt] at hcell
        obtain ⟨HCV, hs⟩ := cvC_run (show k + j < 2000 by omega)
        have h1 : k + (j + 1) ≤ 2000000 := by omega
        unfold cxV markC at hcell
        simp only at hcell
        generalize cvC (k + j) = cv at HCV hs hcell
        have HCV' := hide_ (show floatToFloatBits .f64 (floatOfInt .f64 ((k : Int) + (j : Int))) .f32 = some cv by rw [← Int.natCast_add]; exact HCV)
        have hs2 : (!((FloatKind.f32.format.order cv cv == some .eq) && (FloatKind.f32.format.order 1065353216 1065353216 == some .eq))) = false := by rw [hs, cvC_one_eq]; rfl
        clear HCV hs
        go_wp2_with ((with_reducible refine upon_cto (d := .f32) (r := cv) (q := 1065353216) ?_ Tryd.underlying64 ?_ cvC_one ?_); (rw [Tryd.underlying67]; rfl); exact HCV'.out)
        go_round
        case rel => exact ⟨j + 1, by omega, by go_num, by go_num⟩
        case measure => simp [intOf]; omega
      · obtain rfl : j = n := by omega
        go_wp2_with fail
        go_ret
        exact ⟨rfl, rfl⟩
  · obtain rfl : n = 0 := by omega
    go_enter Tryd.func34, Tryd.ntmps34
    go_wp2_with fail
    go_loop [1, 5] (fun q i => i = .int .i64 0 ∧ q = .int .i64 k) (fun _ _ => 0)
    case atStart => exact ⟨rfl, rfl⟩
    case round =>
      obtain ⟨rfl, rfl⟩ := hrel
      go_wp2_with fail
      go_ret
      exact ⟨rfl, rfl⟩

end Go.Proofs.YticggbmmeefelaaDoor
