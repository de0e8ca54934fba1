/-
Texts of lists of complex numbers read back: the reference, walked.
-/
import Derived.Test.YticggbmmeefelaaDoorCa
set_option linter.unusedVariables false
set_option linter.unusedSimpArgs false
namespace Go.Proofs.YticggbmmeefelaaDoor
open Fl Go Go.RowKit

def cxV (c : Nat × Nat) : Value := .complex .f32 c.1 c.2
/-- a list of complex64 that was made from block 'base' on -/
def OwnC (base : Nat) (xs : List (Nat × Nat)) (v : Value) (w : World) : Prop :=
  ∃ A cap, v = .slice A xs.length cap ∧ w.ownsRow base 64 1 v xs.length (xs.map cxV)
theorem OwnC.keep {base : Nat} {xs : List (Nat × Nat)} {v : Value} {w w' : World} (h : OwnC base xs v w) (hb : Below w.heap.size w w') : OwnC base xs v w' := by
  obtain ⟨A, cap, rfl, h1⟩ := h
  exact ⟨A, cap, rfl, own_keep h1 hb⟩
theorem OwnC.nil (base : Nat) (w : World) : OwnC base [] (.slice none 0 0) w := ⟨none, 0, rfl, rfl, .inl ⟨rfl, rfl⟩⟩
def CReadGives (s : ByteArray) (w : World) (e : Ending) (w' : World) : Prop :=
  ∃ v, e = .returned (.tuple #[v, .bool (accC s)]) ∧ OwnC w.heap.size (lstC s) v w' ∧ Below w.heap.size w w'
theorem mapC_snoc (s : ByteArray) {k : Nat} (hk : k < (sp s).length) : ((sp s).take k).map vC ++ [vC ((sp s).getD k default)] = ((sp s).take (k + 1)).map vC := by
  have e : (sp s).getD k default = (sp s)[k] := by simp [List.getD_eq_getElem?_getD, hk]
  rw [List.take_succ_eq_append_getElem hk, List.map_append, e]
  rfl
theorem infoC : (Tryd.prog.info? 64).map (fun i => (i.zero, i.size, i.bytes)) = some (some (.complex .f32 0 0), 1, 8) := by kernel_rfl

set_option maxRecDepth 100000 in
set_option maxHeartbeats 1000000 in
theorem c_l01CRead (s : ByteArray) (w : World) (hm : s.size ≤ 1048576) : Calls Tryd.prog 54 #[.string s] w (CReadGives s w) := by
  obtain ⟨i0, hi, hz0, hz1, hz2⟩ := info_parts infoC
  unfold CReadGives
  cases hn : isNo s
  · have hno : (s.toList == [110, 111, 110, 101]) = false := by rw [str_eqR]; exact hn
    have HC1 := hide_ (c_l01Cut s (w.alloc (.cells #[] 64)) hm)
    have hsp := sp_le s
    have HN := hide_ hn
    clear hn
    by_cases h64 : (sp s).length ≤ 256
    · have h64i : ¬ (256 : Int) < (sp s).length := by omega
      go_enter Tryd.func54, Tryd.ntmps54
      go_wp2_with fail
      go_at_call 66
      refine Calls.mono HC1.out ?_
      rintro e w1 ⟨A, c, rfl, hF, hNA, hB⟩
      have HF := hide_ hF
      have HNA := hide_ (hNA w.heap.size (by simp))
      have HO1 := hide_ (own_keep (own_new w 64 w.heap.size (Nat.le_refl _)) hB)
      have HB1 := hide_ (((Below.refl w.heap.size w).alloc (Nat.le_refl _) (.cells #[] 64)).trans (hB.mono (by simp)))
      clear hF hNA hB
      go_wp2_with fail
      go_loopw [4, 6] (fun out i wr => ∃ (k : Nat) (A' : Option Addr) (c' : Nat), k ≤ (sp s).length ∧ i = .int .i64 k ∧ out = .slice A' k c' ∧ wr.ownsRow w.heap.size 64 1 (.slice A' k c') k ((((sp s).take k).map vC).map cxV) ∧ Below w.heap.size w wr ∧ Fs wr A (sp s) ∧ (∃ g, A' = some ⟨g, 0, none⟩ ∧ NotAt A g) ∧ ∀ j, j < k → okC ((sp s).getD j default) = true) (fun out i wr => (sp s).length - (intOf i).toNat)
      case atStart => exact ⟨0, _, _, Nat.zero_le _, rfl, rfl, HO1.out, HB1.out, HF.out, ⟨_, rfl, HNA.out⟩, fun j hj => absurd hj (Nat.not_lt_zero _)⟩
      case round =>
        obtain ⟨k, A', c', hk, rfl, rfl, ho, R, F, ⟨g, rfl, hna⟩, P⟩ := hrel
        have HNg := hide_ hna
        have HO := hide_ ho
        have HR := hide_ R
        have HF' := hide_ F
        have HPk := hide_ P
        clear ho R F P hna HO1 HB1 HF HNA
        by_cases hlt : k < (sp s).length
        · obtain ⟨b, off, rfl, hb, hc⟩ := HF'.out.of_pos (by omega)
          have hcell := hc k hlt
          have HM := hide_ (mapC_snoc s hlt)
          have HBD := hide_ (nC_bad HN.out hlt)
          clear hc
          have hltI : (k : Int) < (sp s).length := by omega
          generalize hp : (sp s).getD k default = p at hcell HM HBD
          have HPp := hide_ hp
          clear hp
          by_cases h8 : p.size = 16
          · have h8N : ((p.size : Int) != 16) = false := by rw [bne, beq_iff_eq.2 (show (p.size : Int) = 16 by omega)]; rfl
            have h8I : (8 : Int) ≤ p.size := by omega
            have HD1 : Hid (∀ w, Calls Tryd.prog 72 #[.string (p.extract 0 8)] w (DigGives (p1 p) w)) := c_l01Digits (p1 p) (half_size h8).1
            have HD2 : Hid (∀ w, Calls Tryd.prog 72 #[.string (p.extract 8 16)] w (DigGives (p2 p) w)) := by
              have e : p.extract 8 16 = p2 p := by unfold p2; rw [h8]
              rw [e]
              exact c_l01Digits (p2 p) (half_size h8).2
            have hok : okC p = (okH (p1 p) && okH (p2 p)) := by unfold okC; rw [decide_eq_true h8, Bool.true_and]
            have HVC : Hid (vC p = (vH (p1 p), vH (p2 p))) := rfl
            have HY1 := hide_ (fun h => dg_yes (p := p1 p) h)
            have HY2 := hide_ (fun h => dg_yes (p := p2 p) h)
            unfold DigGives at HD1 HD2
            generalize dgN (p1 p) = d1 at HD1 HY1
            generalize dgN (p2 p) = d2 at HD2 HY2
            generalize okH (p1 p) = o1 at *
            generalize okH (p2 p) = o2 at *
            cases hoo : (o1 && o2)
            · have HQ := hide_ (HBD.out (hok.trans hoo))
              clear hok HY1 HY2 HBD
              rcases o1 <;> rcases o2 <;> simp at hoo
              all_goals
                go_wp2_with fail
                go_at_call 72
                refine (HD1.out _).mono ?_
                rintro e w2 ⟨rfl, rfl⟩
                go_wp2_with fail
                go_at_call 72
                refine (HD2.out _).mono ?_
                rintro e w3 ⟨rfl, rfl⟩
                go_wp2_with fail
                go_ret2
                exact ⟨_, by rw [HQ.out.1]; rfl, by rw [HQ.out.2]; exact OwnC.nil _ _, HR.out⟩
            · have HOK := hide_ (hok.trans hoo)
              rw [Bool.and_eq_true] at hoo
              obtain ⟨rfl, rfl⟩ := hoo
              obtain rfl := HY1.out rfl
              obtain rfl := HY2.out rfl
              rw [show vC p = (vH (p1 p), vH (p2 p)) from rfl] at HM
              generalize vH (p1 p) = x1 at *
              generalize vH (p2 p) = x2 at *
              have hsz2 : w.heap.size ≤ wr.heap.size := HR.out.size
              clear hok HY1 HY2 HBD HVC
              go_wp2_with fail
              go_at_call 72
              refine (HD1.out _).mono ?_
              rintro e w2 ⟨rfl, rfl⟩
              go_wp2_with fail
              go_at_call 72
              refine (HD2.out _).mono ?_
              rintro e w3 ⟨rfl, rfl⟩
              go_wp2_with (at_builtin; refine wpList_append_own_at _ rfl (.tmp 56) (.tmp 60) 44 rfl w.heap.size 64 i0 (.complex .f32 0 0) 1 8 Tryd.underlying44 hi hz0 hz1 hz2 rfl (by decide) (.slice (some ⟨g, 0, none⟩) k c') k _ rfl (World.ownsRow.alloc HO.out _) ⟨wr.heap.size, 0, none⟩ 1 1 [cxV (x1, x2)] rfl rfl (news_at _ _ _ rfl) (fun u hu => by simp at hu; subst hu; rfl) (by unfold maxLen; omega) (by omega) (by simp; omega) ?_; intro v' w4 hown hgrow hni hob; have HF3 := hide_ ((HF'.out.keep ((Below.refl wr.heap.size wr).alloc (Nat.le_refl _) (Obj.cells #[cxV (x1, x2)] 64)) (Nat.le_refl _)).grown hgrow HNg.out); have hbg := hgrow.size; obtain ⟨A3, c3, rfl⟩ := own_form hown; have HOB := hide_ (ob_some hni hob hown); have HO3 := hide_ hown; have HR3 := hide_ ((HR.out.alloc hsz2 (Obj.cells #[cxV (x1, x2)] 64)).grown hgrow (by simp; omega) (fun q hq => (World.ownsRow.lt HO.out q hq).1)); clear hown hgrow hni hob)
              go_roundw
              case rel =>
                obtain ⟨g3, rfl, hg3⟩ := HOB.out
                refine ⟨k + 1, _, c3, by omega, by go_num, rfl, by have := HO3.out; rw [← List.map_singleton (f := cxV), ← List.map_append, HM.out] at this; exact this, HR3.out, HF3.out, ⟨g3, rfl, ?_⟩, fun j hj => ?_⟩
                · rcases hg3 with rfl | rfl
                  · exact HNg.out
                  · intro b' off' e
                    simp only [Option.some.injEq, Addr.mk.injEq] at e
                    have hb' := e.1
                    simp only [World.size_alloc] at *
                    omega
                · rcases Nat.lt_or_eq_of_le (Nat.le_of_lt_succ hj) with h | h
                  · exact HPk.out j h
                  · rw [h, HPp.out]; exact HOK.out
              case measure => simp [intOf] <;> omega
          · have h8N : ((p.size : Int) != 16) = true := by rw [bne_iff_ne]; omega
            have HQ := hide_ (HBD.out (okC_size h8))
            clear h8
            go_wp2_with fail
            go_ret2
            exact ⟨_, by rw [HQ.out.1]; rfl, by rw [HQ.out.2]; exact OwnC.nil _ _, HR.out⟩
        · obtain rfl : k = (sp s).length := by omega
          have HBD := hide_ (nC_good HN.out h64 HPk.out)
          have HOO : Hid (OwnC w.heap.size ((sp s).map vC) (.slice (some ⟨g, 0, none⟩) (sp s).length c') wr) := by
            have := HO.out
            rw [List.take_length] at this
            exact ⟨some ⟨g, 0, none⟩, c', by simp, by simpa using this⟩
          go_wp2_with fail
          go_ret2
          exact ⟨_, by rw [HBD.out.1]; rfl, by rw [HBD.out.2]; exact HOO.out, HR.out⟩
    · have h64i : (256 : Int) < (sp s).length := by omega
      have HBD := hide_ (nC_long HN.out h64)
      go_enter Tryd.func54, Tryd.ntmps54
      go_wp2_with fail
      go_at_call 66
      refine Calls.mono HC1.out ?_
      rintro e w1 ⟨A, c, rfl, hF, hNA, hB⟩
      have HB1 := hide_ (((Below.refl w.heap.size w).alloc (Nat.le_refl _) (.cells #[] 64)).trans (hB.mono (by simp)))
      clear hF hNA hB
      go_wp2_with fail
      go_ret2
      exact ⟨_, by rw [HBD.out.1]; rfl, by rw [HBD.out.2]; exact OwnC.nil _ _, HB1.out⟩
  · have hno : (s.toList == [110, 111, 110, 101]) = true := by rw [str_eqR]; exact hn
    have HN := hide_ (nC_none hn)
    clear hn
    go_enter Tryd.func54, Tryd.ntmps54
    go_wp2_with fail
    go_ret2
    exact ⟨_, by rw [HN.out.1]; rfl, by rw [HN.out.2]; exact ⟨_, _, rfl, own_new w _ _ (Nat.le_refl _)⟩, (Below.refl _ _).alloc (Nat.le_refl _) _⟩

theorem c_specReadComplex (s : ByteArray) (w : World) (hm : s.size ≤ 1048576) : Calls Tryd.prog 30 #[.string s] w (CReadGives s w) := by
  have H := hide_ (c_l01CRead s w hm)
  unfold CReadGives at *
  go_enter Tryd.func30, Tryd.ntmps30
  go_wp2_with fail
  go_at_call 54
  refine Calls.mono H.out ?_
  rintro e w1 ⟨v, rfl, hO, hB⟩
  have HO := hide_ hO
  have HB := hide_ hB
  clear hO hB
  go_wp2_with fail
  go_ret2
  exact ⟨v, rfl, HO.out, HB.out⟩

end Go.Proofs.YticggbmmeefelaaDoor
