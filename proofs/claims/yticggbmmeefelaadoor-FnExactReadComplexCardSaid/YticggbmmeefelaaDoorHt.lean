/-
Texts of lists of numbers read back: the program, walked.
-/
import Derived.Test.YticggbmmeefelaaDoorHq
import Derived.Test.YticggbmmeefelaaDoorHv
import Derived.Test.YticggbmmeefelaaDoorRi
import Derived.Test.YticggbmmeefelaaDoorHj
set_option linter.unusedVariables false
set_option linter.unusedSimpArgs false
namespace Go.Proofs.YticggbmmeefelaaDoor
open Fl Go Go.RowKit

theorem info32t : (Tryd.prog.info? 52).map (fun i => (i.zero, i.size, i.bytes)) = some (some (.float .f32 0), 1, 4) := by kernel_rfl
theorem own_fl {base n : Nat} {xs : List Nat} {A : Option Addr} {cap : Nat} {w : World} (h : w.ownsRow base 52 1 (.slice A n cap) n (xs.map (Value.float .f32))) (hn : n = xs.length) : Fl32 w A xs := by
  subst hn
  rcases h.2 with ⟨hv, hn⟩ | ⟨g, cp, cur, hv, hb, hh, hr⟩
  · exact .inl (List.eq_nil_of_length_eq_zero hn)
  · simp only [Value.slice.injEq] at hv
    obtain ⟨rfl, _, rfl⟩ := hv
    refine .inr ⟨g, 0, rfl, (Array.getElem?_eq_some_iff.1 hh).1, fun j hj => ?_⟩
    rw [Nat.zero_add, h.cellAt j (by omega), List.getElem?_map, List.getElem?_eq_getElem hj]
    simp [List.getD_eq_getElem?_getD, hj]
theorem all_vH {s : ByteArray} (hz : ∀ k, k < (sp s).length → ((sp s).getD k default).size = 8) : All32 ((sp s).map vH) := by
  intro j
  by_cases hj : j < (sp s).length
  · have e : ((sp s).map vH).getD j 0 = vH ((sp s).getD j default) := by simp [List.getD_eq_getElem?_getD, hj]
    rw [e]
    exact vH_lt (hz j hj)
  · have e : ((sp s).map vH).getD j 0 = 0 := by simp [List.getD_eq_getElem?_getD, hj]
    rw [e]; decide

set_option maxRecDepth 100000 in
set_option maxHeartbeats 4000000 in
theorem c_implReadNumbers (s : ByteArray) (w : World) (hm : s.size ≤ 1048576) (hv : VarsM w) (hz : Tz w) : Calls Tryd.prog 27 #[.string s] w (NReadGives s w) := by
  obtain ⟨i0, hi, hz0, hz1, hz2⟩ := info_parts info32t
  unfold NReadGives
  have HV0 := hide_ hv
  have HZ0 := hide_ hz
  cases hn : isNo s
  · have HC1 := hide_ (c_pieces s (w.alloc (.cells #[] 52)) hm hn (hv.keep ((Below.refl w.heap.size w).alloc (Nat.le_refl _) _)))
    have hsp := sp_le s
    have HN := hide_ hn
    clear hn hv hz
    go_enter Tryd.func27, Tryd.ntmps27
    go_wp2_with fail
    go_at_call 52
    refine Calls.mono HC1.out ?_
    rintro e w1 ⟨A, c, rfl, hF, hNA, hB⟩
    have HF := hide_ hF
    have HNA := hide_ (hNA w.heap.size (by simp))
    have HO1 := hide_ (own_keep (own_new w 52 w.heap.size (Nat.le_refl _)) hB)
    have HB1 := hide_ (((Below.refl w.heap.size w).alloc (Nat.le_refl _) (.cells #[] 52)).trans (hB.mono (by simp)))
    clear hF hNA hB
    go_wp2_with fail
    go_loopw [4, 13] (fun out i wr => ∃ (k : Nat) (A' : Option Addr) (c' : Nat), k ≤ (sp s).length ∧ k ≤ 256 ∧ i = .int .i64 k ∧ out = .slice A' k c' ∧ wr.ownsRow w.heap.size 52 1 (.slice A' k c') k ((((sp s).take k).map vH).map (Value.float .f32)) ∧ Below w.heap.size w wr ∧ Fs wr A (sp s) ∧ (∃ g, A' = some ⟨g, 0, none⟩ ∧ NotAt A g) ∧ ∀ j, j < k → ((sp s).getD j default).size = 8) (fun out i wr => (sp s).length - (intOf i).toNat)
    case atStart => exact ⟨0, _, _, Nat.zero_le _, Nat.zero_le _, rfl, rfl, HO1.out, HB1.out, HF.out, ⟨_, rfl, HNA.out⟩, fun j hj => absurd hj (Nat.not_lt_zero _)⟩
    case round =>
      obtain ⟨k, A', c', hk, hk6, rfl, rfl, ho, R, F, ⟨g, rfl, hna⟩, P⟩ := hrel
      have HNg := hide_ hna
      have HO := hide_ ho
      have HR := hide_ R
      have HF' := hide_ F
      have HPk := hide_ P
      clear ho R F P hna HO1 HB1 HF HNA
      by_cases hlt : k < (sp s).length
      · obtain ⟨b, off, rfl, hb, hc⟩ := HF'.out.of_pos (by omega)
        have hcell := hc k hlt
        have HM := hide_ (mapF_snoc s hlt)
        have HBD := hide_ (nN_bad HN.out hlt)
        have HLG := hide_ (fun h => nN_long (s := s) HN.out h)
        clear hc
        have hltI : (k : Int) < (sp s).length := by omega
        generalize hp : (sp s).getD k default = p at hcell HM HBD
        have HPp := hide_ hp
        clear hp
        by_cases h8 : p.size = 8
        · have h8N : ((p.size : Int) != 8) = false := by rw [bne, beq_iff_eq.2 (show (p.size : Int) = 8 by omega)]; rfl
          by_cases h256 : k = 256
          · have hkI : ((k : Int) == 256) = true := beq_iff_eq.2 (by omega)
            have HQ := hide_ (HLG.out (by omega))
            have HP8 := hide_ h8
            clear h8 h256
            go_wp2_with fail
            go_ret2
            exact ⟨_, by rw [HQ.out.1]; rfl, by rw [HQ.out.2]; exact OwnF.nil _ _, HR.out⟩
          · have hkI : ((k : Int) == 256) = false := beq_eq_false_iff_ne.2 (by omega)
            have HRH := hide_ (c_readHex p h8 wr (HV0.out.keep HR.out).1.2)
            have HP8 := hide_ h8
            clear h8
            go_wp2_with fail
            go_at_call 53
            refine Calls.mono HRH.out ?_
            rintro e w2 ⟨rfl, hB2⟩
            have HO2 := hide_ (own_keep HO.out hB2)
            have HR2 := hide_ (HR.out.trans (hB2.mono HR.out.size))
            have HF2 := hide_ (HF'.out.keep hB2 (Nat.le_refl _))
            have hsz2 : w.heap.size ≤ w2.heap.size := HR2.out.size
            have hszr : wr.heap.size ≤ w2.heap.size := hB2.size
            clear hB2
            go_wp2_with (at_builtin; refine wpList_append_own_at _ rfl (.tmp 25) (.tmp 28) 30 rfl w.heap.size 52 i0 (.float .f32 0) 1 4 Tryd.underlying30 hi hz0 hz1 hz2 rfl (by decide) (.slice (some ⟨g, 0, none⟩) k c') k _ rfl (World.ownsRow.alloc HO2.out _) ⟨w2.heap.size, 0, none⟩ 1 1 [.float .f32 (vH p)] rfl rfl (news_at _ _ _ rfl) (fun u hu => by simp at hu; subst hu; rfl) (by unfold maxLen; omega) (by omega) (by simp; omega) ?_; intro v' w3 hown hgrow hni hob; have HF3 := hide_ ((HF2.out.keep ((Below.refl w2.heap.size w2).alloc (Nat.le_refl _) (Obj.cells #[.float .f32 (vH p)] 52)) (Nat.le_refl _)).grown hgrow HNg.out); have hbg := hgrow.size; obtain ⟨A3, c3, rfl⟩ := own_form hown; have HOB := hide_ (ob_some hni hob hown); have HO3 := hide_ hown; have HR3 := hide_ ((HR2.out.alloc hsz2 (Obj.cells #[.float .f32 (vH p)] 52)).grown hgrow (by simp; omega) (fun q hq => (World.ownsRow.lt HO2.out q hq).1)); clear hown hgrow hni hob)
            go_roundw
            case rel =>
              obtain ⟨g3, rfl, hg3⟩ := HOB.out
              refine ⟨k + 1, _, c3, by omega, by omega, by go_num, rfl, by have := HO3.out; rw [← List.map_singleton (f := Value.float .f32), ← List.map_append, HM.out] at this; exact this, HR3.out, HF3.out, ⟨g3, rfl, ?_⟩, fun j hj => ?_⟩
              · rcases hg3 with rfl | rfl
                · exact HNg.out
                · intro b' off' e
                  simp only [Option.some.injEq, Addr.mk.injEq] at e
                  have hb' := e.1
                  simp only [World.size_alloc] at *
                  omega
              · rcases Nat.lt_or_eq_of_le (Nat.le_of_lt_succ hj) with h | h
                · exact HPk.out j h
                · rw [h, HPp.out]; exact HP8.out
            case measure => simp [intOf] <;> omega
        · have h8N : ((p.size : Int) != 8) = true := by rw [bne_iff_ne]; omega
          have HQ := hide_ (HBD.out (okH_size h8))
          clear h8
          go_wp2_with fail
          go_ret2
          exact ⟨_, by rw [HQ.out.1]; rfl, by rw [HQ.out.2]; exact OwnF.nil _ _, HR.out⟩
      · obtain rfl : k = (sp s).length := by omega
        have ho2 := HO.out
        rw [List.take_length] at ho2
        have hT := c_implNText (some ⟨g, 0, none⟩) c' ((sp s).map vH) wr (own_fl ho2 (by simp)) (all_vH HPk.out) (by simp; omega) (HZ0.out.keep HR.out)
        unfold NTextGives at hT
        rw [(numT_yes (xs := (sp s).map vH) (by simpa using hk6)).1, (numT_yes (xs := (sp s).map vH) (by simpa using hk6)).2, List.length_map] at hT
        have hte := nN_text HPk.out
        have HOO : Hid (OwnF w.heap.size ((sp s).map vH) (.slice (some ⟨g, 0, none⟩) (sp s).length c') wr) := ⟨some ⟨g, 0, none⟩, c', by simp, by simpa using ho2⟩
        have HQ : Hid ((sp s).all okH = false → accN s = false ∧ lstN s = []) := nN_all HN.out
        have HY : Hid ((sp s).all okH = true → accN s = true ∧ lstN s = (sp s).map vH) := nN_yes HN.out hk6
        generalize textL (((sp s).map vH).map hex8) = T at hT hte
        have HT := hide_ hT
        have hcmp := (str_eq T s).trans hte
        clear hT hte ho2
        cases ha : (sp s).all okH
        · rw [ha] at hcmp
          have HQ' := hide_ (HQ.out ha)
          clear ha
          have hcmp2 : (T != s.toList) = true := by rw [bne, hcmp]; rfl
          go_wp2_with fail
          go_at_call 18
          refine Calls.mono HT.out ?_
          rintro e w2 ⟨rfl, hB2⟩
          have HR2 := hide_ (HR.out.trans (hB2.mono HR.out.size))
          clear hB2
          go_wp2_with fail
          go_ret2
          exact ⟨_, by rw [HQ'.out.1]; rfl, by rw [HQ'.out.2]; exact OwnF.nil _ _, HR2.out⟩
        · rw [ha] at hcmp
          have HY' := hide_ (HY.out ha)
          clear ha
          have hcmp2 : (T != s.toList) = false := by rw [bne, hcmp]; rfl
          go_wp2_with fail
          go_at_call 18
          refine Calls.mono HT.out ?_
          rintro e w2 ⟨rfl, hB2⟩
          have HR2 := hide_ (HR.out.trans (hB2.mono HR.out.size))
          have HO2 := hide_ (HOO.out.keep hB2)
          clear hB2
          go_wp2_with fail
          go_ret2
          exact ⟨_, by rw [HY'.out.1]; rfl, by rw [HY'.out.2]; exact HO2.out, HR2.out⟩
  · have HN := hide_ (nN_none hn)
    have hs : s = ⟨#[110, 111, 110, 101]⟩ := bext (by
      unfold isNo at hn
      rw [beq_iff_eq] at hn
      exact hn)
    have HC1 := hide_ (c_piecesNone s (w.alloc (.cells #[] 52)) hn)
    have hT := c_implNText (some ⟨w.heap.size, 0, none⟩) 0 [] (w.alloc (.cells #[] 52)) (.inl rfl) (fun j => by simp) (by simp) (hz.keep ((Below.refl w.heap.size w).alloc (Nat.le_refl _) _))
    have HT : Hid (Calls Tryd.prog 18 #[.slice (some ⟨w.heap.size, 0, none⟩) 0 0] (w.alloc (.cells #[] 52)) fun e w' => e = .returned (.tuple #[.string ⟨#[110, 111, 110, 101]⟩, .bool true]) ∧ Below (w.heap.size + 1) (w.alloc (.cells #[] 52)) w') := by
      refine Calls.mono hT ?_
      rintro e w' ⟨rfl, hB⟩
      exact ⟨rfl, by simpa using hB⟩
    clear hn hv hz hT
    subst hs
    go_enter Tryd.func27, Tryd.ntmps27
    go_wp2_with fail
    go_at_call 52
    refine Calls.mono HC1.out ?_
    rintro e w1 ⟨rfl, rfl⟩
    go_wp2_with fail
    go_loop [4, 13] (fun out i => i = .int .i64 0 ∧ out = .slice (some ⟨w.heap.size, 0, none⟩) 0 0) (fun _ _ => 0)
    case atStart => exact ⟨rfl, rfl⟩
    case round =>
      obtain ⟨rfl, rfl⟩ := hrel
      go_wp2_with fail
      go_at_call 18
      refine Calls.mono HT.out ?_
      rintro e w2 ⟨rfl, hB2⟩
      have HR2 := hide_ (((Below.refl w.heap.size w).alloc (Nat.le_refl _) (.cells #[] 52)).trans (hB2.mono (Nat.le_succ _)))
      have HO2 := hide_ (own_keep (own_new w 52 w.heap.size (Nat.le_refl _)) (by simpa using hB2))
      clear hB2
      go_wp2_with fail
      go_ret2
      exact ⟨_, by rw [HN.out.1]; rfl, by rw [HN.out.2]; exact ⟨_, _, rfl, HO2.out⟩, HR2.out⟩

end Go.Proofs.YticggbmmeefelaaDoor
