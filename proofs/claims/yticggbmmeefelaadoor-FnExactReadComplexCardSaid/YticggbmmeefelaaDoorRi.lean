/-
Texts of lists read back: the program.
-/
import Derived.Test.YticggbmmeefelaaDoorRs
import Derived.Test.YticggbmmeefelaaDoorDg
import Derived.Test.YticggbmmeefelaaDoorSs
set_option linter.unusedVariables false
set_option linter.unusedSimpArgs false
namespace Go.Proofs.YticggbmmeefelaaDoor
open Go Go.RowKit

/-- the library's variables: the powers, the errors, the bound of a search -/
def VarsM (w : World) : Prop := Vars w ∧ ∃ m, w.cell? ⟨6, 0, none⟩ = some (.int .i64 m)
theorem VarsM.keep {w w' : World} (h : VarsM w) (hb : Below w.heap.size w w') : VarsM w' := by
  obtain ⟨h1, m, h2⟩ := h
  have l := World.block_lt_of_cell? _ _ h2
  exact ⟨h1.keep hb, m, (hb.cell (p := ⟨6, 0, none⟩) l).trans h2⟩
def rawB (s : ByteArray) : Bool := isNo s || (sp s).all rP
def rawL (s : ByteArray) : List Int := if isNo s then [] else if rawB s then (sp s).map rN else []
theorem raw_none {s : ByteArray} (h : isNo s = true) : rawB s = true ∧ rawL s = [] := by
  unfold rawB rawL
  rw [h]
  exact ⟨rfl, rfl⟩
theorem raw_bad {s : ByteArray} {k : Nat} (h : isNo s = false) (hk : k < (sp s).length) (hr : rP ((sp s).getD k default) = false) : rawB s = false ∧ rawL s = [] := by
  have e : (sp s).getD k default = (sp s)[k] := by simp [List.getD_eq_getElem?_getD, hk]
  have ha : (sp s).all rP = false := by
    rw [List.all_eq_false]
    exact ⟨(sp s)[k], List.getElem_mem hk, by rw [← e, hr]; decide⟩
  have : rawB s = false := by unfold rawB; rw [h, ha]; rfl
  unfold rawL
  rw [h, this]
  exact ⟨rfl, rfl⟩
theorem raw_good {s : ByteArray} (h : isNo s = false) (hr : ∀ k, k < (sp s).length → rP ((sp s).getD k default) = true) : rawB s = true ∧ rawL s = (sp s).map rN := by
  have ha : (sp s).all rP = true := by
    rw [List.all_eq_true]
    intro x hx
    obtain ⟨k, hk, rfl⟩ := List.getElem_of_mem hx
    have e : (sp s).getD k default = (sp s)[k] := by simp [List.getD_eq_getElem?_getD, hk]
    rw [← e]; exact hr k hk
  have : rawB s = true := by unfold rawB; rw [h, ha]; rfl
  unfold rawL
  rw [h, this]
  exact ⟨rfl, rfl⟩
theorem raw_len (s : ByteArray) : (rawL s).length ≤ s.size + 1 := by
  unfold rawL
  have := sp_le s
  split
  · simp
  · split
    · simpa using this
    · simp
theorem raw_no {s : ByteArray} (h : rawB s = false) : numB s = false ∧ numL s = [] := by
  unfold rawB at h
  simp only [Bool.or_eq_false_iff] at h
  have : numB s = false := by unfold numB; rw [h.1, h.2]; simp
  unfold numL
  rw [h.1, this]
  exact ⟨rfl, rfl⟩
theorem raw_fit {s : ByteArray} (h : rawB s = true) (hl : (rawL s).length ≤ 64) : numB s = true ∧ numL s = rawL s := by
  cases hn : isNo s
  · have ha : (sp s).all rP = true := by unfold rawB at h; rw [hn] at h; exact h
    have e : rawL s = (sp s).map rN := by unfold rawL; rw [hn, h]; rfl
    have hl' : (sp s).length ≤ 64 := by rw [e] at hl; simpa using hl
    have hb : numB s = true := by unfold numB; rw [hn, ha, decide_eq_true hl']; rfl
    refine ⟨hb, ?_⟩
    unfold numL
    rw [hn, hb, e]
    rfl
  · have := num_none hn
    exact ⟨this.1, by rw [this.2, (raw_none hn).2]⟩
theorem raw_big {s : ByteArray} (h : rawB s = true) (hl : ¬ (rawL s).length ≤ 64) : numB s = false ∧ numL s = [] := by
  cases hn : isNo s
  · have e : rawL s = (sp s).map rN := by unfold rawL; rw [hn, h]; rfl
    refine num_long hn ?_
    rw [e] at hl
    simpa using hl
  · rw [(raw_none hn).2] at hl
    simp at hl

theorem c_piecesNone (s : ByteArray) (w : World) (h : isNo s = true) : Calls Tryd.prog 52 #[.string s] w fun e w' => e = .returned (.slice none 0 0) ∧ w = w' := by
  have hno : (s.toList == [110, 111, 110, 101]) = true := by rw [str_eqR]; exact h
  clear h
  go_enter Tryd.func52, Tryd.ntmps52
  go_wp2_with fail
  go_ret
  exact ⟨rfl, rfl⟩
theorem c_pieces (s : ByteArray) (w : World) (hm : s.size ≤ 1048576) (h : isNo s = false) (hv : VarsM w) : Calls Tryd.prog 52 #[.string s] w fun e w' => ∃ A c, e = .returned (.slice A (sp s).length c) ∧ Fs w' A (sp s) ∧ (∀ g, g < w.heap.size → NotAt A g) ∧ Below w.heap.size w w' := by
  have hno : (s.toList == [110, 111, 110, 101]) = false := by rw [str_eqR]; exact h
  obtain ⟨_, m, hmx⟩ := hv
  have S := Tryd.strings_Split s comma m w (by omega) hmx (by decide)
  have S2 : Hid (Calls Tryd.prog 69 #[.string s, .string ⟨#[44]⟩] w fun e w' => e = .returned (.slice (some ⟨w.heap.size, 0, none⟩) (sp s).length (sp s).length) ∧ Fs w' (some ⟨w.heap.size, 0, none⟩) (sp s) ∧ Below w.heap.size w w') := by
    refine Calls.mono S ?_
    rintro e w' ⟨rfl, rfl⟩
    have hl := sp_len s
    refine ⟨by rw [hl], ?_, (Below.refl _ _).alloc (Nat.le_refl _) _⟩
    have hsp := sp_le s
    refine Fs.of_own (base := w.heap.size) (n := (sp s).length) (cap := (sp s).length) ⟨by simp, .inr ⟨w.heap.size, (sp s).length, _, rfl, Nat.le_refl _, heap_alloc_new w _, Nat.le_refl _, by unfold maxLen; omega, ?_, ?_⟩⟩ rfl
    · simp [sp]
    · show List.take _ ((sp s).map Value.string) = _
      rw [Nat.mul_one, List.take_of_length_le (by simp)]
  clear h hmx S
  go_enter Tryd.func52, Tryd.ntmps52
  go_wp2_with fail
  go_at_call 69
  refine Calls.mono S2.out ?_
  rintro e w1 ⟨rfl, hF, hB⟩
  have HF := hide_ hF
  have HB := hide_ hB
  clear hF hB
  go_wp2_with fail
  go_ret
  first | exact ⟨_, ⟨_, rfl⟩, HF.out, fun g hg b off e => by cases e; omega, HB.out⟩ | exact ⟨_, _, rfl, HF.out, fun g hg b off e => by cases e; omega, HB.out⟩

/-- what the program's inner reading gives -/
def RawGives (s : ByteArray) (w : World) (e : Ending) (w' : World) : Prop :=
  ∃ v, e = .returned (.tuple #[v, .bool (rawB s)]) ∧ OwnI w.heap.size (rawL s) v w' ∧ Below w.heap.size w w'

set_option maxRecDepth 100000 in
set_option maxHeartbeats 1000000 in
theorem c_readList (s : ByteArray) (w : World) (hm : s.size ≤ 1048576) (hv : VarsM w) : Calls Tryd.prog 50 #[.string s] w (RawGives s w) := by
  obtain ⟨i0, hi, hz0, hz1, hz2⟩ := info_parts info64r
  unfold RawGives
  have HV0 := hide_ hv
  cases hn : isNo s
  · have HC1 := hide_ (c_pieces s (w.alloc (.cells #[] 2)) hm hn (hv.keep ((Below.refl w.heap.size w).alloc (Nat.le_refl _) _)))
    have hsp := sp_le s
    have HN := hide_ hn
    have HP := hide_ (fun k hk => piece_at s (k := k) hk)
    clear hn hv
    go_enter Tryd.func50, Tryd.ntmps50
    go_wp2_with fail
    go_at_call 52
    refine Calls.mono HC1.out ?_
    rintro e w1 ⟨A, c, rfl, hF, hNA, hB⟩
    have HF := hide_ hF
    have HNA := hide_ (hNA w.heap.size (by simp))
    have HO1 := hide_ (own_keep (own_new w 2 w.heap.size (Nat.le_refl _)) hB)
    have HB1 := hide_ (((Below.refl w.heap.size w).alloc (Nat.le_refl _) (.cells #[] 2)).trans (hB.mono (by simp)))
    clear hF hNA hB
    go_wp2_with fail
    go_loopw [4, 13] (fun out i wr => ∃ (k : Nat) (A' : Option Addr) (c' : Nat), k ≤ (sp s).length ∧ i = .int .i64 k ∧ out = .slice A' k c' ∧ wr.ownsRow w.heap.size 2 1 (.slice A' k c') k ((((sp s).take k).map rN).map (Value.int .i64)) ∧ Below w.heap.size w wr ∧ Fs wr A (sp s) ∧ (∃ g, A' = some ⟨g, 0, none⟩ ∧ NotAt A g) ∧ ∀ j, j < k → rP ((sp s).getD j default) = true) (fun out i wr => (sp s).length - (intOf i).toNat)
    case atStart => exact ⟨0, _, _, Nat.zero_le _, rfl, rfl, HO1.out, HB1.out, HF.out, ⟨_, rfl, HNA.out⟩, fun j hj => absurd hj (Nat.not_lt_zero _)⟩
    case round =>
      obtain ⟨k, A', c', hk, rfl, rfl, ho, R, F, ⟨g, rfl, hna⟩, P⟩ := hrel
      have HNg := hide_ hna
      have HO := hide_ ho
      have HR := hide_ R
      have HF' := hide_ F
      have HPk := hide_ P
      clear ho R F P hna HO1 HB1 HF HNA
      by_cases hlt : k < (sp s).length
      · obtain ⟨b, off, rfl, hb, hc⟩ := HF'.out.of_pos (by omega)
        have hcell := hc k hlt
        have HM := hide_ (map_snoc s hlt)
        have HV := hide_ (c_implRead ((sp s).getD k default) wr (by have := HP.out k hlt; omega) (HV0.out.keep HR.out).1)
        clear hc
        have hltI : (k : Int) < (sp s).length := by omega
        cases hr : readP ((sp s).getD k default).data.toList
        · have HBD := hide_ (raw_bad HN.out hlt hr)
          have HV' : Hid (Calls Tryd.prog 21 #[.string ((sp s).getD k default)] wr fun e w' => ∃ n, e = .returned (.tuple #[.int .i64 n, .bool false]) ∧ Below wr.heap.size wr w') := by
            refine Calls.mono HV.out ?_
            rintro e w' ⟨rfl, hB⟩
            exact ⟨_, by rw [hr], hB⟩
          clear HV HM hr
          generalize (sp s).getD k default = p at *
          go_wp2_with fail
          go_at_call 21
          refine Calls.mono HV'.out ?_
          rintro e w2 ⟨n, rfl, hB2⟩
          have HB2 := hide_ (HR.out.trans (hB2.mono HR.out.size))
          clear hB2
          go_wp2_with fail
          go_ret2
          exact ⟨_, by rw [HBD.out.1]; rfl, by rw [HBD.out.2]; exact OwnI.nil _ _, HB2.out⟩
        · have HRk := hide_ (show rP ((sp s).getD k default) = true from hr)
          have HV' : Hid (Calls Tryd.prog 21 #[.string ((sp s).getD k default)] wr fun e w' => e = .returned (.tuple #[.int .i64 (rN ((sp s).getD k default)), .bool true]) ∧ Below wr.heap.size wr w') := by
            refine Calls.mono HV.out ?_
            rintro e w' ⟨rfl, hB⟩
            exact ⟨by rw [hr]; rfl, hB⟩
          clear HV hr
          generalize hp : (sp s).getD k default = p at hcell HM HV' HRk
          have HPp := hide_ hp
          clear hp
          go_wp2_with fail
          go_at_call 21
          refine Calls.mono HV'.out ?_
          rintro e w2 ⟨rfl, hB2⟩
          have HO2 := hide_ (own_keep HO.out hB2)
          have HR2 := hide_ (HR.out.trans (hB2.mono HR.out.size))
          have HF2 := hide_ (HF'.out.keep hB2 (Nat.le_refl _))
          have hsz2 : w.heap.size ≤ w2.heap.size := HR2.out.size
          have hszr : wr.heap.size ≤ w2.heap.size := hB2.size
          clear hB2
          go_wp2_with (at_builtin; refine wpList_append_own_at _ rfl (.tmp 24) (.tmp 26) 24 rfl w.heap.size 2 i0 (.int .i64 0) 1 8 Tryd.underlying24 hi hz0 hz1 hz2 rfl (by decide) (.slice (some ⟨g, 0, none⟩) k c') k _ rfl (World.ownsRow.alloc HO2.out _) ⟨w2.heap.size, 0, none⟩ 1 1 [.int .i64 (rN p)] rfl rfl (news_at _ _ _ rfl) (fun u hu => by simp at hu; subst hu; rfl) (by unfold maxLen; omega) (by omega) (by simp; omega) ?_; intro v' w3 hown hgrow hni hob; have HF3 := hide_ ((HF2.out.keep ((Below.refl w2.heap.size w2).alloc (Nat.le_refl _) (Obj.cells #[.int .i64 (rN p)] 2)) (Nat.le_refl _)).grown hgrow HNg.out); have hbg := hgrow.size; obtain ⟨A3, c3, rfl⟩ := own_form hown; have HOB := hide_ (ob_some hni hob hown); have HO3 := hide_ hown; have HR3 := hide_ ((HR2.out.alloc hsz2 (Obj.cells #[.int .i64 (rN p)] 2)).grown hgrow (by simp; omega) (fun q hq => (World.ownsRow.lt HO2.out q hq).1)); clear hown hgrow hni hob)
          go_roundw
          case rel =>
            obtain ⟨g3, rfl, hg3⟩ := HOB.out
            refine ⟨k + 1, _, c3, by omega, by go_num, rfl, by have := HO3.out; rw [← List.map_singleton (f := Value.int .i64), ← List.map_append, HM.out] at this; exact this, HR3.out, HF3.out, ⟨g3, rfl, ?_⟩, fun j hj => ?_⟩
            · rcases hg3 with rfl | rfl
              · exact HNg.out
              · intro b' off' e
                simp only [Option.some.injEq, Addr.mk.injEq] at e
                have hb' := e.1
                simp only [World.size_alloc] at *
                omega
            · rcases Nat.lt_or_eq_of_le (Nat.le_of_lt_succ hj) with h | h
              · exact HPk.out j h
              · rw [h, HPp.out]; exact HRk.out
          case measure => simp [intOf] <;> omega
      · obtain rfl : k = (sp s).length := by omega
        have HBD := hide_ (raw_good HN.out HPk.out)
        have HOO : Hid (OwnI w.heap.size ((sp s).map rN) (.slice (some ⟨g, 0, none⟩) (sp s).length c') wr) := by
          have := HO.out
          rw [List.take_length] at this
          exact ⟨some ⟨g, 0, none⟩, c', by simp, by simpa using this⟩
        go_wp2_with fail
        go_ret2
        exact ⟨_, by rw [HBD.out.1]; rfl, by rw [HBD.out.2]; exact HOO.out, HR.out⟩
  · have HC1 := hide_ (c_piecesNone s (w.alloc (.cells #[] 2)) hn)
    have HN := hide_ (raw_none hn)
    clear hn hv
    go_enter Tryd.func50, Tryd.ntmps50
    go_wp2_with fail
    go_at_call 52
    refine Calls.mono HC1.out ?_
    rintro e w1 ⟨rfl, rfl⟩
    go_wp2_with fail
    go_loop [4, 13] (fun out i => i = .int .i64 0 ∧ out = .slice (some ⟨w.heap.size, 0, none⟩) 0 0) (fun _ _ => 0)
    case atStart => exact ⟨rfl, rfl⟩
    case round =>
      obtain ⟨rfl, rfl⟩ := hrel
      go_wp2_with fail
      go_ret2
      exact ⟨_, by rw [HN.out.1]; rfl, by rw [HN.out.2]; exact ⟨_, _, rfl, own_new w _ _ (Nat.le_refl _)⟩, (Below.refl _ _).alloc (Nat.le_refl _) _⟩

theorem c_implReadList (s : ByteArray) (w : World) (hm : s.size ≤ 1048576) (hv : VarsM w) : Calls Tryd.prog 23 #[.string s] w (NumGives s w) := by
  have H := hide_ (c_readList s w hm hv)
  unfold RawGives at H
  unfold NumGives
  have hl := raw_len s
  clear hv
  cases hb : rawB s
  · have H' : Hid (Calls Tryd.prog 50 #[.string s] w fun e w' => ∃ v, e = .returned (.tuple #[v, .bool false]) ∧ Below w.heap.size w w') := by
      refine Calls.mono H.out ?_
      rintro e w' ⟨v, rfl, _, hB⟩
      exact ⟨v, by rw [hb], hB⟩
    have HX := hide_ (raw_no hb)
    clear H hb
    go_enter Tryd.func23, Tryd.ntmps23
    go_wp2_with fail
    go_at_call 50
    refine Calls.mono H'.out ?_
    rintro e w1 ⟨v, rfl, hB⟩
    have HB := hide_ hB
    clear hB
    go_wp2_with fail
    go_ret2
    exact ⟨_, by rw [HX.out.1]; rfl, by rw [HX.out.2]; exact OwnI.nil _ _, HB.out⟩
  · have H' : Hid (Calls Tryd.prog 50 #[.string s] w fun e w' => ∃ A c, e = .returned (.tuple #[.slice A (rawL s).length c, .bool true]) ∧ OwnI w.heap.size (rawL s) (.slice A (rawL s).length c) w' ∧ Below w.heap.size w w') := by
      refine Calls.mono H.out ?_
      rintro e w' ⟨v, rfl, ⟨A, c, rfl, hO⟩, hB⟩
      exact ⟨A, c, by rw [hb], ⟨A, c, rfl, hO⟩, hB⟩
    by_cases h64 : (rawL s).length ≤ 64
    · have HX := hide_ (raw_fit hb h64)
      have hI : ¬ (64 : Int) < (rawL s).length := by omega
      clear H hb
      go_enter Tryd.func23, Tryd.ntmps23
      go_wp2_with fail
      go_at_call 50
      refine Calls.mono H'.out ?_
      rintro e w1 ⟨A, c, rfl, hO, hB⟩
      have HO := hide_ hO
      have HB := hide_ hB
      clear hO hB
      go_wp2_with fail
      go_ret2
      exact ⟨_, by rw [HX.out.1]; rfl, by rw [HX.out.2]; exact HO.out, HB.out⟩
    · have HX := hide_ (raw_big hb h64)
      have hI : (64 : Int) < (rawL s).length := by omega
      clear H hb
      go_enter Tryd.func23, Tryd.ntmps23
      go_wp2_with fail
      go_at_call 50
      refine Calls.mono H'.out ?_
      rintro e w1 ⟨A, c, rfl, hO, hB⟩
      have HO := hide_ hO
      have HB := hide_ hB
      clear hO hB
      go_wp2_with fail
      go_ret2
      exact ⟨_, by rw [HX.out.1]; rfl, by rw [HX.out.2]; exact OwnI.nil _ _, HB.out⟩

end Go.Proofs.YticggbmmeefelaaDoor
