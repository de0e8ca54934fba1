/-
The law on ListText, walked; lists of integers that came in; copies of them.
-/
import Derived.Test.YticggbmmeefelaaDoorDd
import Derived.ProofKit
import Derived.OpenShut
import Derived.Carry
import Derived.Deep.QuietTactic
import Derived.BigQuiet
set_option linter.unusedVariables false
set_option linter.unusedSimpArgs false
namespace Go.Proofs.YticggbmmeefelaaDoor
open Go Go.RowKit Go.ChangeShapes Go.WideShapes Go.ChangeAt

theorem below_drewN {B : Nat} (w : World) (n : Nat) : Below B w (w.drewN n) := ⟨rfl, rfl, rfl, Nat.le_refl _, fun _ _ => rfl⟩
theorem cells64 : Tryd.prog.cellsOf 2 = 1 := by kernel_rfl
set_option maxRecDepth 100000 in
/-- a slice of int64 that came in, opened -/
theorem open_i64s {H : Type} {enc : TypeId × Value → H} {w : World} {base0 base : Nat} {spare : Nat → Bool} {held : Bool} {v : Value} {d : DataW H} {ps : List MemPlace}
    (hv : Value.okWide Tryd.prog w .any base0 24 v) (h : DataW.Trod enc Tryd.prog w base spare held 24 v d ps) : ∃ A cap xs, v = .slice A xs.length cap ∧ xs.length ≤ maxLen ∧ Fi w A xs ∧ AllI xs := by
  obtain ⟨A, n, cap, rfl⟩ := okWide_slice Tryd.underlying24 hv
  obtain ⟨fuel, hf⟩ := h
  rcases open_ints (k := .i64) Tryd.underlying24 Tryd.underlying2 cells64 hf with ⟨h0, _⟩ | ⟨a, len, cap', zs, h0, hb, hl, hm, hzl, _, hcell, hwf⟩
  · simp only [Value.cells, List.cons.injEq, Value.slice.injEq, and_true] at h0
    obtain ⟨rfl, rfl, rfl⟩ := h0
    exact ⟨none, 0, [], rfl, by simp [maxLen], .inl rfl, fun j hj => by cases hj⟩
  · simp only [Value.cells, List.cons.injEq, Value.slice.injEq, and_true] at h0
    obtain ⟨rfl, rfl, rfl⟩ := h0
    have hle : n ≤ zs.length := by rw [hzl]; split <;> omega
    have hget : ∀ j, j < n → (zs.take n).getD j 0 = zs.getD j 0 := by
      intro j hj
      simp [List.getD_eq_getElem?_getD, List.getElem?_take, hj]
    refine ⟨some a, cap, zs.take n, by rw [List.length_take, Nat.min_eq_left hle], by rw [List.length_take, Nat.min_eq_left hle]; omega, ?_, ?_⟩
    · by_cases hn : n = 0
      · left; subst hn; simp
      · right
        obtain ⟨b, off, spot⟩ := a
        have hs := World.cell?_spot (hcell 0 (by omega))
        have hspot : spot = none := by simpa [Addr.add] using hs
        subst hspot
        have hblk := World.block_lt_of_cell? _ _ (hcell 0 (by omega))
        refine ⟨b, off, rfl, by simpa [Addr.add] using hblk, fun j hj => ?_⟩
        have hj' : j < n := by rw [List.length_take, Nat.min_eq_left hle] at hj; exact hj
        have h2 := hcell j (by omega)
        rw [hget j hj']
        rw [Addr.add_lit] at h2
        exact h2
    · intro j hj
      have hj' : j < n := by rw [List.length_take, Nat.min_eq_left hle] at hj; exact hj
      rw [hget j hj']
      have hmem : zs.getD j 0 ∈ zs := by
        have : j < zs.length := by omega
        simp only [List.getD_eq_getElem?_getD, List.getElem?_eq_getElem this, Option.getD_some]
        exact List.getElem_mem this
      exact bounds_i64 (hwf _ hmem)

theorem info64 : (Tryd.prog.info? 2).map (fun i => (i.zero, i.size, i.bytes)) = some (some (.int .i64 0), 1, 8) := by kernel_rfl
def FilledI (wr : World) (B n : Nat) (xs : List Int) (k : Nat) : Prop :=
  ∃ ys : List Value, wr.ownsRow B 2 1 (.slice (some ⟨B, 0, none⟩) n n) n ys ∧ ∀ j, j < k → ys[j]? = some (.int .i64 (xs.getD j 0))
theorem FilledI.cells {wr : World} {B : Nat} {xs : List Int} (h : FilledI wr B xs.length xs xs.length) (hB : B < wr.heap.size) : Fi wr (some ⟨B, 0, none⟩) xs := by
  obtain ⟨ys, ho, hy⟩ := h
  refine .inr ⟨B, 0, rfl, hB, fun j hj => ?_⟩
  rw [Nat.zero_add, ho.cellAt j (by omega)]
  exact hy j hj
theorem FilledI.cell {wr : World} {B n : Nat} {xs : List Int} {k : Nat} (h : FilledI wr B n xs k) {j : Nat} (hj : j < n) : (∃ u, wr.cell? ⟨B, j, none⟩ = some u) ∧ wr.frozen? ⟨B, j, none⟩ = false := by
  obtain ⟨ys, ho, hy⟩ := h
  have hl : ys.length = n * 1 := ho.1
  refine ⟨⟨ys[j]'(by omega), ?_⟩, ho.frozenAt j⟩
  rw [ho.cellAt j (by omega)]
  exact List.getElem?_eq_getElem (by omega)
theorem FilledI.step {wr : World} {B n : Nat} {xs : List Int} {k : Nat} (h : FilledI wr B n xs k) (hk : k < n) {v : Value} (hv : v = .int .i64 (xs.getD k 0)) : FilledI (wr.setCell ⟨B, k, none⟩ v) B n xs (k + 1) := by
  obtain ⟨ys, ho, hy⟩ := h
  have hl : ys.length = n * 1 := ho.1
  refine ⟨_, (ho.stored k v).1, fun j hj => ?_⟩
  rw [List.getElem?_set]
  by_cases h1 : k = j
  · subst h1
    rw [if_pos rfl, if_pos (by omega), hv]
  · rw [if_neg h1]; exact hy j (by omega)
theorem c_toInt64S (A : Option Addr) (cap : Nat) (xs : List Int) (w : World) (h : Fi w A xs) (hm : xs.length ≤ 1048576) :
    Calls Tryd.prog 13 #[.slice A xs.length cap] w fun e w' => e = .returned (.slice (some ⟨w.heap.size, 0, none⟩) xs.length xs.length) ∧ Below w.heap.size w w' ∧ w.heap.size < w'.heap.size ∧ Fi w' (some ⟨w.heap.size, 0, none⟩) xs := by
  obtain ⟨i0, hi, hz0, hz1, hz2⟩ := info_parts info64
  rcases h with rfl | ⟨b, off, rfl, hb, hc⟩
  · go_enter Tryd.func13, Tryd.ntmps13
    go_wp2_with (at_make; refine wpList_make_full _ rfl _ _ 24 rfl w.heap.size 2 i0 (.int .i64 0) 1 Tryd.underlying24 hi hz0 hz1 _ _ _ _ 0 rfl rfl rfl rfl (by rw [hz2]; omega) (by unfold maxLen; omega) (Nat.le_refl _) ?_; intro w1 hown hgrow)
    have hBel : Below w.heap.size w w1 := (Below.refl _ _).grown hgrow (Nat.le_refl _) (fun k hk => by cases hk)
    have hlt : w.heap.size < w1.heap.size := hown.lt _ rfl |>.2
    clear hown hgrow
    go_loop [4] (fun i => i = .int .i64 0) (fun _ => 0)
    case atStart => rfl
    case round =>
      obtain rfl := hrel
      go_wp2
      go_ret
      exact ⟨rfl, hBel, hlt, .inl rfl⟩
  · go_enter Tryd.func13, Tryd.ntmps13
    go_wp2_with (at_make; refine wpList_make_full _ rfl _ _ 24 rfl w.heap.size 2 i0 (.int .i64 0) 1 Tryd.underlying24 hi hz0 hz1 _ _ _ _ xs.length rfl rfl rfl rfl (by rw [hz2]; omega) (by unfold maxLen; omega) (Nat.le_refl _) ?_; intro w1 hown hgrow)
    have hBel : Below w.heap.size w w1 := (Below.refl _ _).grown hgrow (Nat.le_refl _) (fun k hk => by cases hk)
    have hlt1 : w.heap.size < w1.heap.size := hown.lt _ rfl |>.2
    have hfill : FilledI w1 w.heap.size xs.length xs 0 := ⟨_, hown, fun j hj => by omega⟩
    clear hown hgrow
    go_loopw [4] (fun i wr => ∃ k : Nat, k ≤ xs.length ∧ i = .int .i64 k ∧ FilledI wr w.heap.size xs.length xs k ∧ Below w.heap.size w wr ∧ w.heap.size < wr.heap.size) (fun i _ => xs.length - (intOf i).toNat)
    case atStart => exact ⟨0, Nat.zero_le _, rfl, hfill, hBel, hlt1⟩
    case round =>
      obtain ⟨k, hk, rfl, hF, hB, hsz⟩ := hrel
      clear hfill hBel hlt1
      by_cases hlt : k < xs.length
      · have hca : wr.cell? ⟨b, off + k, none⟩ = some (.int .i64 (xs.getD k 0)) := by rw [hB.cell (p := ⟨b, off + k, none⟩) hb]; exact hc k hlt
        obtain ⟨⟨u, hu⟩, hfz⟩ := hF.cell hlt
        have HC : Hid _ := hc
        clear hc
        generalize hv : xs.getD k 0 = v at hca
        have HV : Hid _ := hv
        clear hv
        go_wp2
        go_roundw
        case rel => exact ⟨k + 1, by omega, by go_num, hF.step hlt (by rw [← HV.out]), hB.setCell (Nat.le_refl _) _, by simpa using hsz⟩
        case measure => simp [intOf]; omega
      · have hks : k = xs.length := by omega
        subst hks
        have HC : Hid _ := hc
        clear hc
        go_wp2
        go_ret
        exact ⟨rfl, hB, hsz, hF.cells hsz⟩

theorem c_eqInt64S (A B : Option Addr) (c d : Nat) (xs : List Int) (w : World) (hA : Fi w A xs) (hB : Fi w B xs) (hx : xs.length ≤ 1048576) :
    Calls Tryd.prog 15 #[.slice A xs.length c, .slice B xs.length d] w fun e w' => e = .returned (.bool true) ∧ ∃ n, w' = w.drewN n := by
  by_cases hp : 0 < xs.length
  · obtain ⟨b, off, rfl, hb, hc⟩ := hA.of_pos hp
    obtain ⟨b', off', rfl, hb', hc'⟩ := hB.of_pos hp
    have HC := hide_ hc
    have HC' := hide_ hc'
    clear hc hc' hA hB
    go_enter Tryd.func15, Tryd.ntmps15
    go_wp2_with fail
    go_loopw [5] (fun i wr => ∃ k m : Nat, k ≤ xs.length ∧ i = .int .i64 k ∧ wr = w.drewN m) (fun i _ => xs.length - (intOf i).toNat)
    case atStart => exact ⟨0, 0, Nat.zero_le _, rfl, rfl⟩
    case round =>
      obtain ⟨k, m, hk, rfl, rfl⟩ := hrel
      by_cases hlt : k < xs.length
      · have h1 := HC.out k hlt
        have h2 := HC'.out k hlt
        generalize xs.getD k 0 = v at h1 h2
        have hltI : (k : Int) < xs.length := by omega
        go_wp2_with fail
        go_quiet (fail)
        go_wp2_with fail
        go_roundw
        case rel => exact ⟨k + 1, _, by omega, by go_num, rfl⟩
        case measure => simp [intOf]; omega
      · obtain rfl : k = xs.length := by omega
        go_wp2_with fail
        go_ret
        exact ⟨rfl, m, rfl⟩
  · obtain rfl : xs = [] := List.eq_nil_of_length_eq_zero (by omega)
    go_enter Tryd.func15, Tryd.ntmps15
    go_wp2_with fail
    go_loop [5] (fun i => i = .int .i64 0) (fun _ => 0)
    case atStart => rfl
    case round =>
      obtain rfl := hrel
      go_wp2_with fail
      go_ret
      exact ⟨rfl, 0, rfl⟩

def listT (xs : List Int) : List UInt8 := if listV xs then textL (xs.map Lib.itoa) else []
theorem listT_no {xs : List Int} (h : listV xs = false) : listT xs = [] := by unfold listT; rw [h]; rfl
theorem listT_yes {xs : List Int} (h : listV xs = true) : listT xs = textL (xs.map Lib.itoa) := by unfold listT; rw [h]; rfl
/-- what ListText gives -/
def TextGives (xs : List Int) (w : World) (e : Ending) (w' : World) : Prop :=
  e = .returned (.tuple #[.string ⟨(listT xs).toArray⟩, .bool (listV xs)]) ∧ Below w.heap.size w w'
theorem c_specListText (A : Option Addr) (c : Nat) (xs : List Int) (w : World) (hA : Fi w A xs) (ax : AllI xs) (hx : xs.length ≤ 1048576) : Calls Tryd.prog 12 #[.slice A xs.length c] w (TextGives xs w) := by
  have H1 := hide_ (c_l01List A c xs w hA hx)
  unfold TextGives
  cases hv : listV xs
  · rw [listT_no hv]
    rw [hv] at H1
    clear hA ax hv
    go_enter Tryd.func12, Tryd.ntmps12
    go_wp2_with fail
    go_at_call 37
    refine Calls.mono H1.out ?_
    rintro e w' ⟨rfl, rfl⟩
    go_wp2_with fail
    go_ret2
    exact ⟨rfl, Below.refl _ _⟩
  · rw [listT_yes hv]
    rw [hv] at H1
    have h64 : xs.length ≤ 64 := by
      unfold listV at hv
      simp only [Bool.and_eq_true, decide_eq_true_eq] at hv
      exact hv.2
    have H2 := hide_ (c_l01Text A c xs w hA ax h64)
    clear hA ax hv h64
    go_enter Tryd.func12, Tryd.ntmps12
    go_wp2_with fail
    go_at_call 37
    refine Calls.mono H1.out ?_
    rintro e w' ⟨rfl, rfl⟩
    go_wp2_with fail
    go_at_call 38
    refine Calls.mono H2.out ?_
    rintro e w' ⟨rfl, hB⟩
    go_wp2_with fail
    go_ret2
    exact ⟨rfl, hB⟩
theorem c_implListText (A : Option Addr) (c : Nat) (xs : List Int) (w : World) (hA : Fi w A xs) (ax : AllI xs) (hx : xs.length ≤ 1048576) (ht : Tab10 w) : Calls Tryd.prog 14 #[.slice A xs.length c] w (TextGives xs w) := by
  have H1 := hide_ (c_areValues A c xs w hA hx)
  unfold TextGives
  cases hv : listV xs
  · rw [listT_no hv]
    rw [hv] at H1
    clear hA ax hv ht
    go_enter Tryd.func14, Tryd.ntmps14
    go_wp2_with fail
    go_at_call 39
    refine Calls.mono H1.out ?_
    rintro e w' ⟨rfl, rfl⟩
    go_wp2_with fail
    go_ret2
    exact ⟨rfl, Below.refl _ _⟩
  · rw [listT_yes hv]
    rw [hv] at H1
    have h64 : xs.length ≤ 64 := by
      unfold listV at hv
      simp only [Bool.and_eq_true, decide_eq_true_eq] at hv
      exact hv.2
    have H2 := hide_ (c_listText A c xs w hA ax h64 ht)
    clear hA ax hv h64 ht
    go_enter Tryd.func14, Tryd.ntmps14
    go_wp2_with fail
    go_at_call 39
    refine Calls.mono H1.out ?_
    rintro e w' ⟨rfl, rfl⟩
    go_wp2_with fail
    go_at_call 40
    refine Calls.mono H2.out ?_
    rintro e w' ⟨rfl, hB⟩
    go_wp2_with fail
    go_ret2
    exact ⟨rfl, hB⟩

theorem walk_FnExactListText (A : Option Addr) (c : Nat) (xs : List Int) (w : World) (hA : Fi w A xs) (ax : AllI xs) (hx : xs.length ≤ maxLen) (ht : Tab10 w) :
    Calls Tryd.prog 4 #[.slice A xs.length c] w (LawD w) := by
  unfold maxLen at hx
  by_cases hbig : xs.length ≤ 1048576
  · have hI : ¬ (1048576 : Int) < xs.length := by omega
    have HA := hide_ hA
    have AX := hide_ ax
    have HT := hide_ ht
    clear hA ax ht hx
    go_enter Tryd.func4, Tryd.ntmps4
    go_wp2_with fail
    go_at_call 13
    refine (c_toInt64S A c xs _ HA.out hbig).mono ?_
    rintro e w1 ⟨rfl, hB1, hs1, f1⟩
    have B1 := hide_ hB1
    have F1 := hide_ f1
    clear hB1 f1
    go_wp2_with fail
    go_at_call 12
    refine (c_specListText _ _ xs _ F1.out AX.out hbig).mono ?_
    rintro e w2 ⟨rfl, hB2⟩
    have B2 := hide_ (B1.out.trans (hB2.mono B1.out.size))
    clear hB2 F1
    go_wp2_with fail
    go_at_call 13
    refine (c_toInt64S A c xs _ (HA.out.keep B2.out (Nat.le_refl _)) hbig).mono ?_
    rintro e w3 ⟨rfl, hB3, hs3, f3⟩
    have B3 := hide_ (B2.out.trans (hB3.mono B2.out.size))
    have F3 := hide_ f3
    clear hB3 f3
    go_wp2_with fail
    go_at_call 14
    refine (c_implListText _ _ xs _ F3.out AX.out hbig (HT.out.keep B3.out)).mono ?_
    rintro e w4 ⟨rfl, hB4⟩
    have B4 := hide_ (B3.out.trans (hB4.mono B3.out.size))
    have F4 := hide_ (F3.out.keep hB4 (Nat.le_refl _))
    clear hB4
    go_wp2_with fail
    go_at_call 13
    refine (c_toInt64S A c xs _ (HA.out.keep B4.out (Nat.le_refl _)) hbig).mono ?_
    rintro e w5 ⟨rfl, hB5, hs5, f5⟩
    have B5 := hide_ (B4.out.trans (hB5.mono B4.out.size))
    have F5 := hide_ f5
    have F4' := hide_ (F4.out.keep hB5 (Nat.le_refl _))
    clear hB5 f5
    go_wp2_with fail
    go_at_call 15
    refine (c_eqInt64S _ _ _ _ xs _ F4'.out F5.out hbig).mono ?_
    rintro e w6 ⟨rfl, n, rfl⟩
    go_wp2_with fail
    go_ret
    exact ⟨rfl, B5.out.trans (below_drewN _ n)⟩
  · have hI : (1048576 : Int) < xs.length := by omega
    clear hA ax ht
    go_enter Tryd.func4, Tryd.ntmps4
    go_wp2_with fail
    go_ret
    exact ⟨rfl, Below.refl _ _⟩

end Go.Proofs.YticggbmmeefelaaDoor
