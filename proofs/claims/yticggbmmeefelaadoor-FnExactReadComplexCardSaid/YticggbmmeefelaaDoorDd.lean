/-
The text of a list of integers in both packages.
-/
import Derived.Test.YticggbmmeefelaaDoorDc
import Derived.Test.YticggbmmeefelaaDoorSj
import Derived.Laws.Concat
set_option linter.unusedVariables false
set_option linter.unusedSimpArgs false
namespace Go.Proofs.YticggbmmeefelaaDoor
open Go Go.RowKit

/-- pieces with commas between them; "none" if there are none -/
def textL (ds : List (List UInt8)) : List UInt8 := if ds = [] then [110, 111, 110, 101] else Lib.join ds [44]
theorem join_snoc {ds : List (List UInt8)} {k : Nat} {d : List UInt8} (hk : 1 ≤ k) (hd : ds[k]? = some d) : Lib.join (ds.take (k + 1)) [44] = Lib.join (ds.take k) [44] ++ 44 :: d := by
  cases ds with
  | nil => simp at hd
  | cons x r =>
    obtain ⟨j, rfl⟩ : ∃ j, k = j + 1 := ⟨k - 1, by omega⟩
    simp only [List.getElem?_cons_succ] at hd
    rw [List.take_succ_cons, List.take_succ_cons, Lib.join_cons, Lib.join_cons, Lib.joinTail_take_succ _ _ _ _ hd]
    simp
theorem join_first {ds : List (List UInt8)} {d : List UInt8} (hd : ds[0]? = some d) : Lib.join (ds.take 1) [44] = d := by
  cases ds with
  | nil => simp at hd
  | cons x r => simp at hd; subst hd; simp [Lib.join_one]
theorem join_bound {B : Nat} : ∀ {ds : List (List UInt8)}, (∀ d ∈ ds, d.length ≤ B) → (Lib.join ds [44]).length ≤ (B + 1) * ds.length := by
  intro ds h
  cases ds with
  | nil => simp [Lib.join_nil]
  | cons x r =>
    rw [Lib.join_cons]
    have hx := h x (by simp)
    have hr : ∀ (r : List (List UInt8)), (∀ d ∈ r, d.length ≤ B) → (Lib.joinTail [44] r).length ≤ (B + 1) * r.length := by
      intro r
      induction r with
      | nil => intro _; simp [Lib.joinTail]
      | cons y r ih =>
        intro h
        have hy := h y (by simp)
        have := ih (fun d hd => h d (by simp [hd]))
        simp only [Lib.joinTail, List.map_cons, List.flatten_cons, List.length_append, List.length_cons, List.length_nil] at this ⊢
        rw [Nat.mul_add]
        omega
    have := hr r (fun d hd => h d (by simp [hd]))
    rw [List.length_append, List.length_cons, Nat.mul_add]
    omega
theorem itoa_len {n : Int} (h0 : -9223372036854775808 ≤ n) (h1 : n ≤ 9223372036854775807) : (Lib.itoa n).length ≤ 21 := by
  unfold Lib.itoa
  split
  · have := dig_len 19 n.natAbs (Nat.lt_of_le_of_lt (show n.natAbs ≤ 9223372036854775808 by omega) (by decide))
    simp; omega
  · have := dig_len 19 n.toNat (Nat.lt_of_le_of_lt (show n.toNat ≤ 9223372036854775808 by omega) (by decide))
    omega
theorem cat3 (T l : List UInt8) : (⟨T.toArray⟩ ++ (⟨#[44]⟩ ++ ⟨l.toArray⟩) : ByteArray) = ⟨(T ++ 44 :: l).toArray⟩ := by
  apply ByteArray.ext
  simp [ByteArray.data_append]
theorem cat2 (T l : List UInt8) : (⟨T.toArray⟩ ++ ⟨l.toArray⟩ : ByteArray) = ⟨(T ++ l).toArray⟩ := by
  apply ByteArray.ext
  simp [ByteArray.data_append]
theorem add_lists (x y : List UInt8) (h : x.length + y.length ≤ 9223372036854775807) (w : World) : (Op.stringOp .add ⟨x.toArray⟩ ⟨y.toArray⟩).run Tryd.prog w = .ok (.string ⟨(x ++ y).toArray⟩) w := by
  rw [run_string_add_sum w _ _ (by simpa [ByteArray.size] using h), ByteArray.mk_append_mk]

set_option maxRecDepth 100000 in
theorem c_l01Text (A : Option Addr) (c : Nat) (xs : List Int) (w : World) (hA : Fi w A xs) (ax : AllI xs) (hx : xs.length ≤ 64) :
    Calls Tryd.prog 38 #[.slice A xs.length c] w fun e w' => e = .returned (.string ⟨(textL (xs.map Lib.itoa)).toArray⟩) ∧ Below w.heap.size w w' := by
  have hds : ∀ j, j < xs.length → (xs.map Lib.itoa)[j]? = some (Lib.itoa (xs.getD j 0)) := by
    intro j hj
    simp [List.getD_eq_getElem?_getD, hj]
  have hB : ∀ d ∈ xs.map Lib.itoa, d.length ≤ 21 := by
    intro d hd
    simp only [List.mem_map] at hd
    obtain ⟨n, hn, rfl⟩ := hd
    obtain ⟨j, hj, rfl⟩ := List.getElem_of_mem hn
    have := ax j hj
    simp only [List.getD_eq_getElem?_getD, List.getElem?_eq_getElem hj, Option.getD_some] at this
    exact itoa_len this.1 this.2
  by_cases hp : 0 < xs.length
  · obtain ⟨b, off, rfl, hb, hc⟩ := hA.of_pos hp
    have c0 := hc 0 hp
    rw [Nat.add_zero] at c0
    have HC := hide_ hc
    have AX := hide_ ax
    have HD := hide_ hds
    have HB := hide_ hB
    have D0 := hide_ (c_l01Dec (xs.getD 0 0) (ax 0 hp).1 (ax 0 hp).2)
    have T0 : Hid (Lib.join ((xs.map Lib.itoa).take 1) [44] = Lib.itoa (xs.getD 0 0)) := join_first (hds 0 hp)
    clear hc hA ax hds hB
    generalize h0 : xs.getD 0 0 = x0 at c0 D0 T0
    clear h0
    have hp1 : (0 : Int) < xs.length := by omega
    go_enter Tryd.func38, Tryd.ntmps38
    go_wp2_with fail
    go_at_call 35
    refine (D0.out _).mono ?_
    rintro e w1 ⟨rfl, hB1⟩
    have B1 := hide_ hB1
    clear hB1 c0 D0
    go_wp2_with fail
    go_loopw [3, 4] (fun out i wr => ∃ k : Nat, 1 ≤ k ∧ k ≤ xs.length ∧ i = .int .i64 k ∧ out = .string ⟨(Lib.join ((xs.map Lib.itoa).take k) [44]).toArray⟩ ∧ Below w.heap.size w wr) (fun out i wr => xs.length - (intOf i).toNat)
    case atStart => exact ⟨1, Nat.le_refl _, hp, rfl, by rw [T0.out], B1.out⟩
    case round =>
      obtain ⟨k, hk1, hk, rfl, rfl, R⟩ := hrel
      have HR := hide_ R
      clear R B1
      by_cases hlt : k < xs.length
      · have hcell := (HR.out.cell (p := ⟨b, off + k, none⟩) hb).trans (HC.out k hlt)
        have TS := hide_ (join_snoc hk1 (HD.out k hlt))
        have hab := AX.out k hlt
        have DK := hide_ (c_l01Dec (xs.getD k 0) hab.1 hab.2)
        have hlen := itoa_len hab.1 hab.2
        have hT : (Lib.join ((xs.map Lib.itoa).take k) [44]).length ≤ (21 + 1) * k := by
          have := join_bound (B := 21) (ds := (xs.map Lib.itoa).take k) (fun d hd => HB.out d (List.mem_of_mem_take hd))
          simpa [Nat.min_eq_left hk] using this
        clear hab
        generalize Lib.join ((xs.map Lib.itoa).take k) [44] = T at *
        generalize hxk : xs.getD k 0 = xk at hcell DK TS hlen
        clear hxk
        have hno : ¬ 9223372036854775807 < T.length + ((Lib.itoa xk).length + 1) := by omega
        clear hlen hT
        go_wp2_with fail
        go_at_call 35
        refine (DK.out _).mono ?_
        rintro e w2 ⟨rfl, hB2⟩
        have B2 := hide_ (HR.out.trans (hB2.mono HR.out.size))
        clear hB2
        go_wp2_with fail
        go_roundw
        case rel => exact ⟨k + 1, by omega, by omega, by go_num, by rw [TS.out]; first | rw [cat3] | rw [cat2], B2.out⟩
        case measure => simp [intOf]; omega
      · obtain rfl : k = xs.length := by omega
        have HT : Hid (textL (xs.map Lib.itoa) = Lib.join ((xs.map Lib.itoa).take xs.length) [44]) := by
          unfold textL
          rw [if_neg (fun h => by rw [List.map_eq_nil_iff] at h; rw [h] at hp; cases hp), List.take_of_length_le (by simp)]; rfl
        go_wp2_with fail
        go_ret
        exact ⟨by rw [HT.out]; rfl, HR.out⟩
  · obtain rfl : xs = [] := List.eq_nil_of_length_eq_zero (by omega)
    go_enter Tryd.func38, Tryd.ntmps38
    go_wp2_with fail
    go_ret
    exact ⟨rfl, Below.refl _ _⟩

theorem infoS : (Tryd.prog.info? 9).map (fun i => (i.zero, i.size, i.bytes)) = some (some (.string ByteArray.empty), 1, 16) := by kernel_rfl
def strV (d : List UInt8) : Value := .string ⟨d.toArray⟩

theorem c_joined (base : Nat) (ds : List (List UInt8)) (v : Value) (w : World) (h : w.ownsRow base 9 1 v ds.length (ds.map strV)) (hB : ∀ d ∈ ds, d.length ≤ 100) (hn : ds.length ≤ 1048576) :
    Calls Tryd.prog 44 #[v] w fun e w' => e = .returned (.string ⟨(textL ds).toArray⟩) ∧ Below w.heap.size w w' := by
  by_cases hp : 0 < ds.length
  · obtain ⟨g, cap, rfl⟩ : ∃ g cap, v = .slice (some ⟨g, 0, none⟩) ds.length cap := by
      rcases h.2 with ⟨_, h0⟩ | ⟨g, cap, cur, hv, _⟩
      · omega
      · exact ⟨g, cap, hv⟩
    have hlen := join_bound hB
    have hcap : ds.length ≤ cap := by
      rcases h.2 with ⟨h0, _⟩ | ⟨g', cap', cur, hv, _, _, hc, _⟩
      · cases h0
      · simp only [Value.slice.injEq] at hv
        obtain ⟨_, _, rfl⟩ := hv
        exact hc
    have hmap : (ds.map fun d => (⟨d.toArray⟩ : ByteArray)).map (·.data.toList) = ds := by rw [List.map_map]; simp [Function.comp_def]
    have J := Tryd.strings_Join g 0 cap (ds.map fun d => (⟨d.toArray⟩ : ByteArray)) ⟨#[44]⟩ w (fun j x hx => by
      rw [Nat.zero_add]
      have := h.cells (g := g) rfl j (.string x) (by
        simp only [List.getElem?_map, Option.map_eq_some_iff] at hx ⊢
        obtain ⟨d, hd, rfl⟩ := hx
        exact ⟨d, hd, rfl⟩)
      have hadd : (⟨g, 0, none⟩ : Addr).add j = ⟨g, j, none⟩ := by unfold Addr.add; split <;> simp_all
      rw [hadd] at this
      exact this) (h.lt g rfl).2 (by simp; omega) (by simpa using hcap) (by rw [hmap]; simp only [List.toList_toArray] at *; omega)
    rw [hmap, List.length_map] at J
    have HJ := hide_ J
    have HT : Hid (textL ds = Lib.join ds [44]) := by
      unfold textL
      rw [if_neg (fun h => by subst h; cases hp)]; rfl
    have hne : ((ds.length : Int) == 0) = false := beq_eq_false_iff_ne.2 (by omega)
    clear J h hB hlen hmap
    go_enter Tryd.func44, Tryd.ntmps44
    go_wp2_with fail
    go_at_call 62
    refine Calls.mono HJ.out ?_
    rintro e w1 ⟨rfl, hB1⟩
    go_wp2_with fail
    go_ret
    exact ⟨by rw [HT.out]; rfl, hB1⟩
  · obtain rfl : ds = [] := List.eq_nil_of_length_eq_zero (by omega)
    obtain ⟨A, cap, rfl⟩ : ∃ A cap, v = .slice A 0 cap := by
      rcases h.2 with ⟨hv, _⟩ | ⟨g, cap, cur, hv, _⟩
      · exact ⟨_, _, hv⟩
      · exact ⟨_, _, hv⟩
    clear h hB
    go_enter Tryd.func44, Tryd.ntmps44
    go_wp2_with fail
    go_ret
    exact ⟨rfl, Below.refl _ _⟩

theorem own_below {w w' : World} {base : Nat} {e : TypeId} {size n : Nat} {v : Value} {xs : List Value} (h : w.ownsRow base e size v n xs) (hb : Below w.heap.size w w') : w'.ownsRow base e size v n xs := by
  obtain ⟨hl, hr⟩ := h
  refine ⟨hl, ?_⟩
  rcases hr with hr | ⟨g, cp, cur, hv, hg, hh, hr⟩
  · exact .inl hr
  · exact .inr ⟨g, cp, cur, hv, hg, by rw [hb.block g (Array.getElem?_eq_some_iff.1 hh).1]; exact hh, hr⟩
theorem form_succ {w : World} {base : Nat} {e : TypeId} {size n : Nat} {v : Value} {xs : List Value} (h : w.ownsRow base e size v n xs) : ∃ A c, v = .slice A n c := by
  rcases h.2 with ⟨rfl, rfl⟩ | ⟨g, cp, cur, hv, _⟩
  · exact ⟨_, _, rfl⟩
  · exact ⟨_, _, hv⟩
theorem Tab10.keep' {w0 w' : World} (h : Tab10 w0) (hb : Below w0.heap.size w0 w') : Tab10 w' := h.keep hb
theorem own_strs_app {ds : List (List UInt8)} {k : Nat} {d : List UInt8} (hd : ds[k]? = some d) : (ds.take k).map strV ++ [strV d] = (ds.take (k + 1)).map strV := by
  rw [List.take_add_one, hd]; simp

set_option maxRecDepth 100000 in
theorem c_listText (A : Option Addr) (c : Nat) (xs : List Int) (w : World) (hA : Fi w A xs) (ax : AllI xs) (hx : xs.length ≤ 64) (ht : Tab10 w) :
    Calls Tryd.prog 40 #[.slice A xs.length c] w fun e w' => e = .returned (.string ⟨(textL (xs.map Lib.itoa)).toArray⟩) ∧ Below w.heap.size w w' := by
  obtain ⟨i0, hi, hz0, hz1, hz2⟩ := info_parts infoS
  have hds : ∀ j, j < xs.length → (xs.map Lib.itoa)[j]? = some (Lib.itoa (xs.getD j 0)) := by
    intro j hj
    simp [List.getD_eq_getElem?_getD, hj]
  have hB : ∀ d ∈ xs.map Lib.itoa, d.length ≤ 100 := by
    intro d hd
    simp only [List.mem_map] at hd
    obtain ⟨n, hn, rfl⟩ := hd
    obtain ⟨j, hj, rfl⟩ := List.getElem_of_mem hn
    have := ax j hj
    simp only [List.getD_eq_getElem?_getD, List.getElem?_eq_getElem hj, Option.getD_some] at this
    have := itoa_len this.1 this.2
    omega
  have HA := hide_ hA
  have AX := hide_ ax
  have HD := hide_ hds
  have HB := hide_ hB
  have HT := hide_ ht
  have HJ := hide_ (c_joined w.heap.size (xs.map Lib.itoa) · · · hB (by simp; omega))
  clear hA ax hds hB ht
  go_enter Tryd.func40, Tryd.ntmps40
  go_wp2_with fail
  go_loopw [3, 9] (fun out i wr => ∃ (k : Nat) (A' : Option Addr) (c' : Nat), k ≤ xs.length ∧ i = .int .i64 k ∧ out = .slice A' k c' ∧ wr.ownsRow w.heap.size 9 1 (.slice A' k c') k (((xs.map Lib.itoa).take k).map strV) ∧ Below w.heap.size w wr) (fun out i wr => xs.length - (intOf i).toNat)
  case atStart => exact ⟨0, _, _, Nat.zero_le _, rfl, rfl, ⟨rfl, .inr ⟨w.heap.size, 0, #[], rfl, Nat.le_refl _, heap_alloc_new w _, Nat.le_refl _, by unfold maxLen; omega, rfl, rfl⟩⟩, (Below.refl _ _).alloc (Nat.le_refl _) _⟩
  case round =>
    obtain ⟨k, A', c', hk, rfl, rfl, ho, R⟩ := hrel
    have HO := hide_ ho
    have HR := hide_ R
    clear ho R
    by_cases hlt : k < xs.length
    · obtain ⟨b, off, rfl, hb, hc⟩ := HA.out.of_pos (by omega)
      have hcell := (HR.out.cell (p := ⟨b, off + k, none⟩) hb).trans (hc k hlt)
      have hab := AX.out k hlt
      have DK := hide_ (c_implDecimal (xs.getD k 0) hab.1 hab.2 wr (HT.out.keep' HR.out))
      have TD := hide_ (HD.out k hlt)
      clear hab hc
      generalize hxk : xs.getD k 0 = xk at hcell DK TD
      clear hxk
      go_wp2_with fail
      go_at_call 11
      refine Calls.mono DK.out ?_
      rintro e w2 ⟨rfl, hB2⟩
      have HO2 := hide_ (own_below HO.out hB2)
      have HR2 := hide_ (HR.out.trans (hB2.mono HR.out.size))
      have hsz2 : w.heap.size ≤ w2.heap.size := HR2.out.size
      clear hB2 HO hcell DK
      go_wp2_with (at_builtin; refine wpList_append_own_at _ rfl (.tmp 13) (.tmp 16) 53 rfl w.heap.size 9 i0 (.string ByteArray.empty) 1 16 Tryd.underlying53 hi hz0 hz1 hz2 rfl (by decide) (.slice A' k c') k _ rfl (World.ownsRow.alloc HO2.out _) ⟨w2.heap.size, 0, none⟩ 1 1 [strV (Lib.itoa xk)] rfl rfl (news_at _ _ _ rfl) (fun u hu => by simp at hu; subst hu; rfl) (by unfold maxLen; omega) (by omega) (by simp; omega) ?_; intro v' w3 hown hgrow _ _; rw [own_strs_app TD.out] at hown; obtain ⟨A3, c3, rfl⟩ := form_succ hown; have HO3 := hide_ hown; have HR3 := hide_ ((HR2.out.alloc hsz2 (Obj.cells #[strV (Lib.itoa xk)] 9)).grown hgrow (by simp; omega) (fun q hq => (World.ownsRow.lt HO2.out q hq).1)); clear hown hgrow)
      go_roundw
      case rel => exact ⟨k + 1, A3, c3, by omega, by go_num, rfl, HO3.out, HR3.out⟩
      case measure => simp [intOf]; omega
    · obtain rfl : k = xs.length := by omega
      have ho : wr.ownsRow w.heap.size 9 1 (.slice A' xs.length c') (xs.map Lib.itoa).length ((xs.map Lib.itoa).map strV) := by
        have := HO.out
        rw [List.take_of_length_le (by simp)] at this
        rw [List.length_map]
        exact this
      have JJ := hide_ (HJ.out _ _ ho)
      clear ho
      go_wp2_with fail
      go_at_call 44
      refine Calls.mono JJ.out ?_
      rintro e w2 ⟨rfl, hB2⟩
      have HR2 := hide_ (HR.out.trans (hB2.mono HR.out.size))
      clear hB2
      go_wp2_with fail
      go_ret
      exact ⟨rfl, HR2.out⟩

end Go.Proofs.YticggbmmeefelaaDoor
