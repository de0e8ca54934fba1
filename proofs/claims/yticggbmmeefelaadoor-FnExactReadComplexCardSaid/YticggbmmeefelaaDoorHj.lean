/-
The texts of lists of numbers; the law on NumbersText.
-/
import Derived.Test.YticggbmmeefelaaDoorHi
import Derived.Test.YticggbmmeefelaaDoorSl
import Derived.Test.YticggbmmeefelaaDoorOp
set_option linter.unusedVariables false
set_option linter.unusedSimpArgs false
namespace Go.Proofs.YticggbmmeefelaaDoor
open Fl Go Go.RowKit

theorem rep48 (c : Nat) : Lib.repeatL [48] c = List.replicate c 48 := by
  induction c with
  | zero => rfl
  | succ c ih => rw [Lib.repeatL, ih]; rfl
theorem cat2' (T l : List UInt8) : (⟨T.toArray⟩ ++ ⟨l.toArray⟩ : ByteArray) = ⟨(T ++ l).toArray⟩ := by
  apply ByteArray.ext
  simp [ByteArray.data_append]
theorem c_formatInt16 (n : Nat) (hn : n < 4294967296) (w : World) (h : Tz w) : Calls Tryd.prog 57 #[.int .i64 n, .int .i64 16] w fun e w' => ∃ L, 1 ≤ L ∧ L ≤ 8 ∧ n < 16 ^ L ∧ e = .returned (.string ⟨(hxL n L).toArray⟩) ∧ Below w.heap.size w w' := by
  have H := hide_ (c_formatBits n hn w h)
  clear h
  have h0 : ¬ (n : Int) < 0 := by omega
  go_enter Tryd.func57, Tryd.ntmps57
  go_wp2_with fail
  go_at_call 76
  refine Calls.mono H.out ?_
  rintro e w' ⟨L, h1, h2, h3, rfl, hB⟩
  have HB := hide_ hB
  have H3 := hide_ h3
  clear hB h3
  go_wp2_with fail
  go_ret
  exact ⟨L, h1, h2, H3.out, rfl, HB.out⟩
theorem c_strFormatInt16 (n : Nat) (hn : n < 4294967296) (w : World) (h : Tz w) : Calls Tryd.prog 36 #[.int .i64 n, .int .i64 16] w fun e w' => ∃ L, 1 ≤ L ∧ L ≤ 8 ∧ n < 16 ^ L ∧ e = .returned (.string ⟨(hxL n L).toArray⟩) ∧ Below w.heap.size w w' := by
  have H := hide_ (c_formatInt16 n hn w h)
  clear h
  go_enter Tryd.func36, Tryd.ntmps36
  go_wp2_with fail
  go_at_call 57
  refine Calls.mono H.out ?_
  rintro e w' ⟨L, h1, h2, h3, rfl, hB⟩
  have HB := hide_ hB
  have H3 := hide_ h3
  clear hB h3
  go_wp2_with fail
  go_ret
  exact ⟨L, h1, h2, H3.out, rfl, HB.out⟩
set_option maxRecDepth 100000 in
theorem c_hexOf (x : Nat) (hx : x < 4294967296) (w : World) (h : Tz w) : Calls Tryd.prog 43 #[.float .f32 x] w fun e w' => e = .returned (.string ⟨(hex8 x).toArray⟩) ∧ Below w.heap.size w w' := by
  have HB := hide_ (c_implBitsOf x hx)
  rw [nb_eq] at HB
  have hn := nb_lt hx
  have HX := hide_ (show hex8 x = hxL (nb x) 8 from rfl)
  generalize nb x = n at *
  have HF := hide_ (c_strFormatInt16 n hn w h)
  clear h
  go_enter Tryd.func43, Tryd.ntmps43
  go_wp2_with (go_at_call 60; refine (HB.out _).mono ?_; rintro e w' ⟨rfl, rfl⟩)
  go_at_call 36
  refine Calls.mono HF.out ?_
  rintro e w1 ⟨L, h1, h2, h3, rfl, hB1⟩
  have B1 := hide_ hB1
  obtain ⟨c, hc⟩ : ∃ c, L + c = 8 := ⟨8 - L, by omega⟩
  have HZ := hide_ (hxL_zero n L h3 c)
  rw [Nat.add_comm c L, hc] at HZ
  have hl := hxL_len n L
  clear hB1 h3
  generalize hxL n L = T at *
  have hsub : (8 : Int) - (T.length : Int) = (c : Int) := by omega
  have hr0 := Tryd.strings_Repeat ⟨#[48]⟩ c w1 (by omega) (by rw [show (⟨#[48]⟩ : ByteArray).size = 1 from rfl, Nat.one_mul]; omega)
  rw [show (⟨#[48]⟩ : ByteArray).data.toList = [48] from rfl, rep48] at hr0
  have hrl : (List.replicate c (48 : UInt8)).length = c := List.length_replicate
  generalize List.replicate c (48 : UInt8) = R at hr0 hrl HZ
  have HR := hide_ hr0
  clear hr0
  have hno : ¬ 9223372036854775807 < R.length + T.length := by omega
  have HC := hide_ (cat2' R T)
  clear hrl hl hc h1 h2 hn hx HF HB
  go_wp2_with fail
  go_at_call 61
  refine Calls.mono HR.out ?_
  rintro e w2 ⟨rfl, hB2⟩
  have B2 := hide_ (B1.out.trans (hB2.mono B1.out.size))
  clear hB2
  go_wp2_with fail
  go_ret
  exact ⟨by rw [HX.out, HZ.out, ← HC.out]; rfl, B2.out⟩

set_option maxRecDepth 100000 in
theorem c_l01NText (A : Option Addr) (c : Nat) (xs : List Nat) (w : World) (hA : Fl32 w A xs) (ax : All32 xs) (hx : xs.length ≤ 256) :
    Calls Tryd.prog 42 #[.slice A xs.length c] w fun e w' => e = .returned (.string ⟨(textL (xs.map hex8)).toArray⟩) ∧ Below w.heap.size w w' := by
  have hds : ∀ j, j < xs.length → (xs.map hex8)[j]? = some (hex8 (xs.getD j 0)) := by
    intro j hj
    simp [List.getD_eq_getElem?_getD, hj]
  have hB : ∀ d ∈ xs.map hex8, d.length ≤ 21 := by
    intro d hd
    simp only [List.mem_map] at hd
    obtain ⟨n, hn, rfl⟩ := hd
    unfold hex8
    rw [hxL_len]; omega
  by_cases hp : 0 < xs.length
  · obtain ⟨b, off, rfl, hb, hc⟩ := hA.of_pos hp
    have c0 := hc 0 hp
    rw [Nat.add_zero] at c0
    have HC := hide_ hc
    have AX := hide_ ax
    have HD := hide_ hds
    have HB := hide_ hB
    have D0 := hide_ (c_l01Hex (xs.getD 0 0) (ax 0))
    have T0 : Hid (Lib.join ((xs.map hex8).take 1) [44] = hex8 (xs.getD 0 0)) := join_first (hds 0 hp)
    clear hc hA ax hds hB
    generalize h0 : xs.getD 0 0 = x0 at c0 D0 T0
    clear h0
    have hp1 : (0 : Int) < xs.length := by omega
    go_enter Tryd.func42, Tryd.ntmps42
    go_wp2_with fail
    go_at_call 59
    refine (D0.out _).mono ?_
    rintro e w1 ⟨rfl, hB1⟩
    have B1 := hide_ hB1
    clear hB1 c0 D0
    go_wp2_with fail
    go_loopw [3, 4] (fun out i wr => ∃ k : Nat, 1 ≤ k ∧ k ≤ xs.length ∧ i = .int .i64 k ∧ out = .string ⟨(Lib.join ((xs.map hex8).take k) [44]).toArray⟩ ∧ Below w.heap.size w wr) (fun out i wr => xs.length - (intOf i).toNat)
    case atStart => exact ⟨1, Nat.le_refl _, hp, rfl, by rw [T0.out], B1.out⟩
    case round =>
      obtain ⟨k, hk1, hk, rfl, rfl, R⟩ := hrel
      have HR := hide_ R
      clear R B1
      by_cases hlt : k < xs.length
      · have hcell := (HR.out.cell (p := ⟨b, off + k, none⟩) hb).trans (HC.out k hlt)
        have TS := hide_ (join_snoc hk1 (HD.out k hlt))
        have DK := hide_ (c_l01Hex (xs.getD k 0) (AX.out k))
        have hlen : (hex8 (xs.getD k 0)).length = 8 := hxL_len _ _
        have hT : (Lib.join ((xs.map hex8).take k) [44]).length ≤ (21 + 1) * k := by
          have := join_bound (B := 21) (ds := (xs.map hex8).take k) (fun d hd => HB.out d (List.mem_of_mem_take hd))
          simpa [Nat.min_eq_left hk] using this
        generalize Lib.join ((xs.map hex8).take k) [44] = T at *
        generalize hxk : xs.getD k 0 = xk at hcell DK TS hlen
        clear hxk
        have hno : ¬ 9223372036854775807 < T.length + ((hex8 xk).length + 1) := by omega
        clear hT
        have hno2 : ¬ 9223372036854775807 < 1 + (hex8 xk).length := by omega
        clear hlen
        go_wp2_with fail
        go_at_call 59
        refine (DK.out _).mono ?_
        rintro e w2 ⟨rfl, hB2⟩
        have B2 := hide_ (HR.out.trans (hB2.mono HR.out.size))
        clear hB2
        go_wp2_with fail
        go_roundw
        case rel => exact ⟨k + 1, by omega, by omega, by go_num, by rw [TS.out]; first | rw [cat3] | rw [cat2], B2.out⟩
        case measure => simp [intOf]; omega
      · obtain rfl : k = xs.length := by omega
        have HT : Hid (textL (xs.map hex8) = Lib.join ((xs.map hex8).take xs.length) [44]) := by
          unfold textL
          rw [if_neg (fun h => by rw [List.map_eq_nil_iff] at h; rw [h] at hp; cases hp), List.take_of_length_le (by simp)]; rfl
        go_wp2_with fail
        go_ret
        exact ⟨by rw [HT.out]; rfl, HR.out⟩
  · obtain rfl : xs = [] := List.eq_nil_of_length_eq_zero (by omega)
    go_enter Tryd.func42, Tryd.ntmps42
    go_wp2_with fail
    go_ret
    exact ⟨rfl, Below.refl _ _⟩

/-- what NumbersText gives -/
def numT (xs : List Nat) : Bool := decide (xs.length ≤ 256)
def numX (xs : List Nat) : List UInt8 := if numT xs then textL (xs.map hex8) else []
def NTextGives (xs : List Nat) (w : World) (e : Ending) (w' : World) : Prop :=
  e = .returned (.tuple #[.string ⟨(numX xs).toArray⟩, .bool (numT xs)]) ∧ Below w.heap.size w w'
theorem numT_yes {xs : List Nat} (h : xs.length ≤ 256) : numT xs = true ∧ numX xs = textL (xs.map hex8) := by
  have e : numT xs = true := decide_eq_true h
  refine ⟨e, ?_⟩
  unfold numX
  rw [e]; rfl
theorem numT_no {xs : List Nat} (h : ¬ xs.length ≤ 256) : numT xs = false ∧ numX xs = [] := by
  have e : numT xs = false := decide_eq_false h
  refine ⟨e, ?_⟩
  unfold numX
  rw [e]; rfl

theorem c_l01FewN (A : Option Addr) (c n : Nat) (w : World) : Calls Tryd.prog 41 #[.slice A n c] w fun e w' => e = .returned (.bool (decide (n ≤ 256))) ∧ w = w' := by
  by_cases h : n ≤ 256
  · have hI : (n : Int) ≤ 256 := by omega
    rw [decide_eq_true h]
    go_enter Tryd.func41, Tryd.ntmps41
    go_wp2_with fail
    go_ret
    exact ⟨by first | rfl | (congr 2; simp; omega), rfl⟩
  · have hI : ¬ (n : Int) ≤ 256 := by omega
    rw [decide_eq_false h]
    go_enter Tryd.func41, Tryd.ntmps41
    go_wp2_with fail
    go_ret
    exact ⟨by first | rfl | (congr 2; simp; omega), rfl⟩
theorem c_specNText (A : Option Addr) (c : Nat) (xs : List Nat) (w : World) (hA : Fl32 w A xs) (ax : All32 xs) : Calls Tryd.prog 16 #[.slice A xs.length c] w (NTextGives xs w) := by
  have H1 := hide_ (c_l01FewN A c xs.length w)
  unfold NTextGives
  by_cases h : xs.length ≤ 256
  · have HN := hide_ (numT_yes h)
    have H2 := hide_ (c_l01NText A c xs w hA ax h)
    rw [decide_eq_true h] at H1
    clear hA ax
    go_enter Tryd.func16, Tryd.ntmps16
    go_wp2_with fail
    go_at_call 41
    refine Calls.mono H1.out ?_
    rintro e w' ⟨rfl, rfl⟩
    go_wp2_with fail
    go_at_call 42
    refine Calls.mono H2.out ?_
    rintro e w' ⟨rfl, hB⟩
    have HB := hide_ hB
    clear hB
    go_wp2_with fail
    go_ret2
    exact ⟨by rw [HN.out.1, HN.out.2]; rfl, HB.out⟩
  · have HN := hide_ (numT_no h)
    rw [decide_eq_false h] at H1
    clear hA ax
    go_enter Tryd.func16, Tryd.ntmps16
    go_wp2_with fail
    go_at_call 41
    refine Calls.mono H1.out ?_
    rintro e w' ⟨rfl, rfl⟩
    go_wp2_with fail
    go_ret2
    exact ⟨by rw [HN.out.1, HN.out.2]; rfl, Below.refl _ _⟩

theorem infoSh : (Tryd.prog.info? 9).map (fun i => (i.zero, i.size, i.bytes)) = some (some (.string ByteArray.empty), 1, 16) := by kernel_rfl
theorem own_belowH {w w' : World} {base : Nat} {e : TypeId} {size n : Nat} {v : Value} {xs : List Value} (h : w.ownsRow base e size v n xs) (hb : Below w.heap.size w w') : w'.ownsRow base e size v n xs := by
  obtain ⟨hl, hr⟩ := h
  refine ⟨hl, ?_⟩
  rcases hr with hr | ⟨g, cp, cur, hv, hg, hh, hr⟩
  · exact .inl hr
  · exact .inr ⟨g, cp, cur, hv, hg, by rw [hb.block g (Array.getElem?_eq_some_iff.1 hh).1]; exact hh, hr⟩
theorem form_H {w : World} {base : Nat} {e : TypeId} {size n : Nat} {v : Value} {xs : List Value} (h : w.ownsRow base e size v n xs) : ∃ A c, v = .slice A n c := by
  rcases h.2 with ⟨rfl, rfl⟩ | ⟨g, cp, cur, hv, _⟩
  · exact ⟨_, _, rfl⟩
  · exact ⟨_, _, hv⟩
theorem own_strs_H {ds : List (List UInt8)} {k : Nat} {d : List UInt8} (hd : ds[k]? = some d) : (ds.take k).map strV ++ [strV d] = (ds.take (k + 1)).map strV := by
  rw [List.take_add_one, hd]; simp
set_option maxRecDepth 100000 in
theorem c_implNText (A : Option Addr) (c : Nat) (xs : List Nat) (w : World) (hA : Fl32 w A xs) (ax : All32 xs) (hm : xs.length ≤ 9223372036854775807) (ht : Tz w) : Calls Tryd.prog 18 #[.slice A xs.length c] w (NTextGives xs w) := by
  unfold NTextGives
  by_cases h256 : xs.length ≤ 256
  · obtain ⟨i0, hi, hz0, hz1, hz2⟩ := info_parts infoSh
    have HN := hide_ (numT_yes h256)
    have hds : ∀ j, j < xs.length → (xs.map hex8)[j]? = some (hex8 (xs.getD j 0)) := by
      intro j hj
      simp [List.getD_eq_getElem?_getD, hj]
    have hB : ∀ d ∈ xs.map hex8, d.length ≤ 100 := by
      intro d hd
      simp only [List.mem_map] at hd
      obtain ⟨n, hn, rfl⟩ := hd
      unfold hex8
      rw [hxL_len]; omega
    have HA := hide_ hA
    have AX := hide_ ax
    have HD := hide_ hds
    have HT := hide_ ht
    have HJ := hide_ (c_joined w.heap.size (xs.map hex8) · · · hB (by simp; omega))
    have h256I : ¬ (256 : Int) < xs.length := by omega
    clear hA ax hds hB ht
    go_enter Tryd.func18, Tryd.ntmps18
    go_wp2_with fail
    go_loopw [4, 13] (fun out i wr => ∃ (k : Nat) (A' : Option Addr) (c' : Nat), k ≤ xs.length ∧ i = .int .i64 k ∧ out = .slice A' k c' ∧ wr.ownsRow w.heap.size 9 1 (.slice A' k c') k (((xs.map hex8).take k).map strV) ∧ Below w.heap.size w wr) (fun out i wr => xs.length - (intOf i).toNat)
    case atStart => exact ⟨0, _, _, Nat.zero_le _, rfl, rfl, ⟨rfl, .inr ⟨w.heap.size, 0, #[], rfl, Nat.le_refl _, heap_alloc_new w _, Nat.le_refl _, by unfold maxLen; omega, rfl, rfl⟩⟩, (Below.refl _ _).alloc (Nat.le_refl _) _⟩
    case round =>
      obtain ⟨k, A', c', hk, rfl, rfl, ho, R⟩ := hrel
      have HO := hide_ ho
      have HR := hide_ R
      clear ho R
      by_cases hlt : k < xs.length
      · obtain ⟨b, off, rfl, hb, hc⟩ := HA.out.of_pos (by omega)
        have hcell := (HR.out.cell (p := ⟨b, off + k, none⟩) hb).trans (hc k hlt)
        have DK := hide_ (c_hexOf (xs.getD k 0) (AX.out k) wr (HT.out.keep HR.out))
        have TD := hide_ (HD.out k hlt)
        clear hc
        generalize hxk : xs.getD k 0 = xk at hcell DK TD
        clear hxk
        go_wp2_with fail
        go_at_call 43
        refine Calls.mono DK.out ?_
        rintro e w2 ⟨rfl, hB2⟩
        have HO2 := hide_ (own_belowH HO.out hB2)
        have HR2 := hide_ (HR.out.trans (hB2.mono HR.out.size))
        have hsz2 : w.heap.size ≤ w2.heap.size := HR2.out.size
        clear hB2 HO hcell DK
        go_wp2_with (at_builtin; refine wpList_append_own_at _ rfl (.tmp 17) (.tmp 20) 53 rfl w.heap.size 9 i0 (.string ByteArray.empty) 1 16 Tryd.underlying53 hi hz0 hz1 hz2 rfl (by decide) (.slice A' k c') k _ rfl (World.ownsRow.alloc HO2.out _) ⟨w2.heap.size, 0, none⟩ 1 1 [strV (hex8 xk)] rfl rfl (news_at _ _ _ rfl) (fun u hu => by simp at hu; subst hu; rfl) (by unfold maxLen; omega) (by omega) (by simp; omega) ?_; intro v' w3 hown hgrow _ _; rw [own_strs_H TD.out] at hown; obtain ⟨A3, c3, rfl⟩ := form_H hown; have HO3 := hide_ hown; have HR3 := hide_ ((HR2.out.alloc hsz2 (Obj.cells #[strV (hex8 xk)] 9)).grown hgrow (by simp; omega) (fun q hq => (World.ownsRow.lt HO2.out q hq).1)); clear hown hgrow)
        go_roundw
        case rel => exact ⟨k + 1, A3, c3, by omega, by go_num, rfl, HO3.out, HR3.out⟩
        case measure => simp [intOf]; omega
      · obtain rfl : k = xs.length := by omega
        have ho : wr.ownsRow w.heap.size 9 1 (.slice A' xs.length c') (xs.map hex8).length ((xs.map hex8).map strV) := by
          have := HO.out
          rw [List.take_of_length_le (by simp)] at this
          rw [List.length_map]
          exact this
        have JJ := hide_ (HJ.out _ _ ho)
        clear ho
        go_wp2_with fail
        go_at_call 44
        refine Calls.mono JJ.out ?_
        rintro e w2 ⟨rfl, hB2⟩
        have HR2 := hide_ (HR.out.trans (hB2.mono HR.out.size))
        clear hB2
        go_wp2_with fail
        go_ret2
        exact ⟨by rw [HN.out.1, HN.out.2]; rfl, HR2.out⟩
  · have HN := hide_ (numT_no h256)
    have h256I : (256 : Int) < xs.length := by omega
    clear hA ax ht
    go_enter Tryd.func18, Tryd.ntmps18
    go_wp2_with fail
    go_ret2
    exact ⟨by rw [HN.out.1, HN.out.2]; rfl, Below.refl _ _⟩

theorem drew_belowH {B : Nat} (w : World) (n : Nat) : Below B w (w.drewN n) := ⟨rfl, rfl, rfl, Nat.le_refl _, fun _ _ => rfl⟩
theorem walk_FnExactNumbersText (A : Option Addr) (c : Nat) (xs : List Nat) (w : World) (hA : Fl32 w A xs) (ax : All32 xs) (hx : xs.length ≤ maxLen) (ht : Tz w) :
    Calls Tryd.prog 5 #[.slice A xs.length c] w (LawD w) := by
  unfold maxLen at hx
  by_cases hbig : xs.length ≤ 1048576
  · have hI : ¬ (1048576 : Int) < xs.length := by omega
    have HA := hide_ hA
    have AX := hide_ ax
    have HT := hide_ ht
    clear hA ax ht hx
    go_enter Tryd.func5, Tryd.ntmps5
    go_wp2_with fail
    go_at_call 17
    refine (c_toFloat32S A c xs _ HA.out hbig).mono ?_
    rintro e w1 ⟨rfl, hB1, hs1, f1⟩
    have B1 := hide_ hB1
    have F1 := hide_ f1
    clear hB1 f1
    go_wp2_with fail
    go_at_call 16
    refine (c_specNText _ _ xs _ F1.out AX.out).mono ?_
    rintro e w2 ⟨rfl, hB2⟩
    have B2 := hide_ (B1.out.trans (hB2.mono B1.out.size))
    clear hB2 F1
    go_wp2_with fail
    go_at_call 17
    refine (c_toFloat32S A c xs _ (HA.out.keep B2.out (Nat.le_refl _)) hbig).mono ?_
    rintro e w3 ⟨rfl, hB3, hs3, f3⟩
    have B3 := hide_ (B2.out.trans (hB3.mono B2.out.size))
    have F3 := hide_ f3
    clear hB3 f3
    go_wp2_with fail
    go_at_call 18
    refine (c_implNText _ _ xs _ F3.out AX.out (by omega) (HT.out.keep B3.out)).mono ?_
    rintro e w4 ⟨rfl, hB4⟩
    have B4 := hide_ (B3.out.trans (hB4.mono B3.out.size))
    have F4 := hide_ (F3.out.keep hB4 (Nat.le_refl _))
    clear hB4
    go_wp2_with fail
    go_at_call 17
    refine (c_toFloat32S A c xs _ (HA.out.keep B4.out (Nat.le_refl _)) hbig).mono ?_
    rintro e w5 ⟨rfl, hB5, hs5, f5⟩
    have B5 := hide_ (B4.out.trans (hB5.mono B4.out.size))
    have F5 := hide_ f5
    have F4' := hide_ (F4.out.keep hB5 (Nat.le_refl _))
    clear hB5 f5
    go_wp2_with fail
    go_at_call 19
    refine (c_eqFloat32S _ _ _ _ xs _ F4'.out F5.out AX.out (by omega)).mono ?_
    rintro e w6 ⟨rfl, n, rfl⟩
    go_wp2_with fail
    go_ret
    exact ⟨rfl, B5.out.trans (drew_belowH _ n)⟩
  · have hI : (1048576 : Int) < xs.length := by omega
    clear hA ax ht
    go_enter Tryd.func5, Tryd.ntmps5
    go_wp2_with fail
    go_ret
    exact ⟨rfl, Below.refl _ _⟩

end Go.Proofs.YticggbmmeefelaaDoor
