/-
Texts of lists of complex numbers read back: the program, walked.
-/
import Derived.Test.YticggbmmeefelaaDoorCc
import Derived.Test.YticggbmmeefelaaDoorGt
import Derived.Test.YticggbmmeefelaaDoorOp
set_option linter.unusedVariables false
set_option linter.unusedSimpArgs false
namespace Go.Proofs.YticggbmmeefelaaDoor
open Fl Go Go.RowKit

/-- what stands while a piece is read -/
def CK (w : World) (g c' k : Nat) (s : ByteArray) (A : Option Addr) (W : World) : Prop :=
  W.ownsRow w.heap.size 64 1 (.slice (some ⟨g, 0, none⟩) k c') k ((((sp s).take k).map vC).map cxV) ∧ Below w.heap.size w W ∧ Fs W A (sp s) ∧ VarsM W
theorem CK.keep {w : World} {g c' k : Nat} {s : ByteArray} {A : Option Addr} {W W' : World} (h : CK w g c' k s A W) (hB : Below W.heap.size W W') : CK w g c' k s A W' :=
  ⟨own_keep h.1 hB, h.2.1.trans (hB.mono h.2.1.size), h.2.2.1.keep hB (Nat.le_refl _), h.2.2.2.keep hB⟩
theorem setL {l : Array Bool} {i j : Nat} (h : i ≠ j) : (l.setIfInBounds i true).getD j false = l.getD j false := by
  simp [Array.getD_eq_getD_getElem?, Array.getElem?_setIfInBounds, h]
theorem setL_same {l : Array Bool} {i : Nat} (h : i < l.size) : (l.setIfInBounds i true).getD i false = true := by
  simp [Array.getD_eq_getD_getElem?, Array.getElem?_setIfInBounds, h]
theorem setL_up {l : Array Bool} {i j : Nat} (h : l.getD j false = true) : (l.setIfInBounds i true).getD j false = true := by
  by_cases e : i = j
  · subst e
    refine setL_same ?_
    rw [Array.getD_eq_getD_getElem?] at h
    cases hq : l[i]? with
    | none => rw [hq] at h; cases h
    | some x => exact (Array.getElem?_eq_some_iff.1 hq).1
  · rw [setL e]; exact h
/-- which operations are done ahead of which -/
def Done (l : Array Bool) : Prop := (l.getD 10 false = true → l.getD 9 false = true) ∧ (l.getD 9 false = true → l.getD 0 false = true ∧ l.getD 8 false = true)
theorem Done.start (n : Nat) : Done (Array.replicate n false) := by
  have h : ∀ j, (Array.replicate n false).getD j false = false := fun j => by
    simp only [Array.getD_eq_getD_getElem?, Array.getElem?_replicate]
    split <;> rfl
  exact ⟨(fun e => by rw [h] at e; cases e), (fun e => by rw [h] at e; cases e)⟩
theorem Done.set {l : Array Bool} (h : Done l) {q : Nat} (h9 : q ≠ 9) (h10 : q ≠ 10) : Done (l.setIfInBounds q true) :=
  ⟨fun e => by rw [setL h10] at e; rw [setL h9]; exact h.1 e, fun e => by rw [setL h9] at e; exact ⟨setL_up (h.2 e).1, setL_up (h.2 e).2⟩⟩
theorem Done.set9 {l : Array Bool} (h : Done l) (h9 : l.getD 9 false = false) (h0 : l.getD 0 false = true) (h8 : l.getD 8 false = true) : Done (l.setIfInBounds 9 true) :=
  ⟨(fun e => by rw [setL (by decide)] at e; rw [h.1 e] at h9; cases h9), fun _ => ⟨setL_up h0, setL_up h8⟩⟩
theorem Done.set10 {l : Array Bool} (h : Done l) (h9 : l.getD 9 false = true) : Done (l.setIfInBounds 10 true) :=
  ⟨fun _ => setL_up h9, fun _ => ⟨setL_up (h.2 h9).1, setL_up (h.2 h9).2⟩⟩
theorem Done.no10 {l : Array Bool} (h : Done l) (h0 : l.getD 0 false = false) : l.getD 10 false = false := by
  cases e : l.getD 10 false
  · rfl
  · rw [(h.2 (h.1 e)).1] at h0; cases h0
theorem Done.not10 {l : Array Bool} (h : Done l) (h9 : l.getD 9 false = false) : l.getD 10 false = false := by
  cases e : l.getD 10 false
  · rfl
  · rw [h.1 e] at h9; cases h9
theorem stepL_step {P : Program} {o : Oper} {a : Act} {w w1 : World} {Q : Exit → Act → World → Prop} {C' : World → Prop} {L : Nat → Prop} {n i : Nat} {V : Nat → Value → World → Prop} {d : Nat} (v : Value)
    (h : (execOp a.eval o).run P w = .ok (.value v) w1) (hd : o.dst = some d) (hk : ∀ j v, j < n → L j → V j v w → V j v w1) (hv : V i v w1) (hC : C' w1) :
    o.wp P a w (fun a' w' => C' w' ∧ (∀ j v, j < n → L j → V j v w → V j v w') ∧ ∃ v, V i v w' ∧ a' = a.put (some d) v) Q := by
  unfold Oper.wp
  rw [h]
  exact ⟨hC, hk, v, hv, by rw [hd]⟩
/-- the one-cell slice that an append reads -/
def NewC (g x1 x2 : Nat) (v : Value) (W : World) : Prop := ∃ B, v = .slice (some ⟨B, 0, none⟩) 1 1 ∧ B ≠ g ∧ W.heap[B]? = some (.cells #[.complex .f32 x1 x2] 64 (0, 0))
theorem exec_append {P : Program} {o : Oper} {a : Act} {s x : Operand} {t : TypeId} {v u v' : Value} {w w' : World} (ho : o.op = .call { callee := .builtin .append, args := #[s, x], argTypes := #[t, t] })
    (hs : a.eval s = v) (hx : a.eval x = u) (hr : (Builtin.append_ #[t, t] o.type #[v, u]).run P w = .ok v' w') : (execOp a.eval o).run P w = .ok (.value v') w' := by
  unfold execOp
  simp only [ho, resolve, invoke, builtin, Sem.run_bind, Sem.run_pure, Result.andThen_ok, List.map_toArray, List.map_cons, List.map_nil, hs, hx, hr]
theorem news_of {B : Nat} {x : Value} {t : TypeId} {W : World} (h : W.heap[B]? = some (.cells #[x] t (0, 0))) (j : Nat) (u : Value) (hj : [x][j]? = some u) : W.cell? ((⟨B, 0, none⟩ : Addr).add j) = some u := by
  match j, hj with
  | 0, hj =>
    simp at hj; subst hj
    unfold World.cell?
    simp [Addr.add, h]
/-- the list with one number more -/
def RowC (w : World) (g b k : Nat) (s : ByteArray) (x1 x2 : Nat) (v : Value) (W : World) : Prop := ∃ g3 c3, v = .slice (some ⟨g3, 0, none⟩) (k + 1) c3 ∧ W.ownsRow w.heap.size 64 1 v (k + 1) ((((sp s).take k).map vC ++ [(x1, x2)]).map cxV) ∧ (g3 = g ∨ b < g3)
theorem NewC.keep {g x1 x2 : Nat} {v : Value} {W W' : World} (h : NewC g x1 x2 v W) (hB : Below W.heap.size W W') : NewC g x1 x2 v W' := by
  obtain ⟨B, rfl, h1, h2⟩ := h
  exact ⟨B, rfl, h1, by rw [hB.block B (Array.getElem?_eq_some_iff.1 h2).1]; exact h2⟩
theorem RowC.keep {w : World} {g b k : Nat} {s : ByteArray} {x1 x2 : Nat} {v : Value} {W W' : World} (h : RowC w g b k s x1 x2 v W) (hB : Below W.heap.size W W') : RowC w g b k s x1 x2 v W' := by
  obtain ⟨g3, c3, rfl, h1, h2⟩ := h
  exact ⟨g3, c3, rfl, own_keep h1 hB, h2⟩
/-- the kinds of what the region's slots hold -/
def VC (w : World) (g c' b k : Nat) (s p : ByteArray) (x1 x2 : Nat) : Nat → Value → World → Prop := fun i => ([fun v _ => v = .slice (some ⟨g, 0, none⟩) k c', fun v _ => v = .string p, fun v _ => v = .string (p.extract 0 8), fun v _ => v = .float .f32 x1, fun v _ => v = .string p, fun v _ => v = .string (p.extract 8 16), fun v _ => v = .float .f32 x2, fun v _ => v = .complex .f32 x1 x2, NewC g x1 x2, RowC w g b k s x1 x2, RowC w g b k s x1 x2] : List (Value → World → Prop)).getD i (fun _ _ => True)
theorem VC.keep {w : World} {g c' b k : Nat} {s p : ByteArray} {x1 x2 : Nat} {W W' : World} (hB : Below W.heap.size W W') (j : Nat) (v : Value) (h : VC w g c' b k s p x1 x2 j v W) : VC w g c' b k s p x1 x2 j v W' := by
  rcases j with _ | _ | _ | _ | _ | _ | _ | _ | _ | _ | _ | j
  · exact h
  · exact h
  · exact h
  · exact h
  · exact h
  · exact h
  · exact h
  · exact h
  · exact NewC.keep h hB
  · exact RowC.keep h hB
  · exact RowC.keep h hB
  · exact h
set_option maxRecDepth 100000 in
set_option maxHeartbeats 4000000 in
theorem c_implReadComplex (s : ByteArray) (w : World) (hm : s.size ≤ 1048576) (hv : VarsM w) (hz : Tz w) : Calls Tryd.prog 31 #[.string s] w (CReadGives s w) := by
  obtain ⟨i0, hi, hz0, hz1, hz2⟩ := info_parts infoC
  unfold CReadGives
  have HV0 := hide_ hv
  have HZ0 := hide_ hz
  cases hn : isNo s
  · have HC1 := hide_ (c_pieces s (w.alloc (.cells #[] 64)) hm hn (hv.keep ((Below.refl w.heap.size w).alloc (Nat.le_refl _) _)))
    have hsp := sp_le s
    have HN := hide_ hn
    clear hn hv hz
    go_enter Tryd.func31, Tryd.ntmps31
    go_wp2_with fail
    go_at_call 52
    refine Calls.mono HC1.out ?_
    rintro e w1 ⟨A, c, rfl, hF, hNA, hB⟩
    have HF := hide_ hF
    have HNA := hide_ (hNA w.heap.size (by simp))
    have HO1 := hide_ (own_keep (own_new w 64 w.heap.size (Nat.le_refl _)) hB)
    have HB1 := hide_ (((Below.refl w.heap.size w).alloc (Nat.le_refl _) (.cells #[] 64)).trans (hB.mono (by simp)))
    clear hF hNA hB
    go_wp2_with fail
    go_loopw [4, 13] (fun out i wr => ∃ (k : Nat) (A' : Option Addr) (c' : Nat), k ≤ (sp s).length ∧ k ≤ 256 ∧ i = .int .i64 k ∧ out = .slice A' k c' ∧ wr.ownsRow w.heap.size 64 1 (.slice A' k c') k ((((sp s).take k).map vC).map cxV) ∧ Below w.heap.size w wr ∧ Fs wr A (sp s) ∧ (∃ g, A' = some ⟨g, 0, none⟩ ∧ NotAt A g) ∧ ∀ j, j < k → ((sp s).getD j default).size = 16) (fun out i wr => (sp s).length - (intOf i).toNat)
    case atStart => exact ⟨0, _, _, Nat.zero_le _, Nat.zero_le _, rfl, rfl, HO1.out, HB1.out, HF.out, ⟨_, rfl, HNA.out⟩, fun j hj => absurd hj (Nat.not_lt_zero _)⟩
    case round =>
      obtain ⟨k, A', c', hk, hk6, rfl, rfl, ho, R, F, ⟨g, rfl, hna⟩, P⟩ := hrel
      have HNg := hide_ hna
      have HO := hide_ ho
      have HR := hide_ R
      have HF' := hide_ F
      have HPk := hide_ P
      clear ho R F P hna HO1 HB1 HF HNA
      by_cases hlt : k < (sp s).length
      · obtain ⟨b, off, rfl, hb, hc⟩ := HF'.out.of_pos (by omega)
        have hcell := hc k hlt
        have HM := hide_ (mapC_snoc s hlt)
        have HBD := hide_ (nC_bad HN.out hlt)
        have HLG := hide_ (fun h => nC_long (s := s) HN.out h)
        clear hc
        have hltI : (k : Int) < (sp s).length := by omega
        generalize hp : (sp s).getD k default = p at hcell HM HBD
        have HPp := hide_ hp
        clear hp
        by_cases h8 : p.size = 16
        · have h8N : ((p.size : Int) != 16) = false := by rw [bne, beq_iff_eq.2 (show (p.size : Int) = 16 by omega)]; rfl
          by_cases h256 : k = 256
          · have hkI : ((k : Int) == 256) = true := beq_iff_eq.2 (by omega)
            have HQ := hide_ (HLG.out (by omega))
            have HP8 := hide_ h8
            clear h8 h256
            go_wp2_with fail
            go_ret2
            exact ⟨_, by rw [HQ.out.1]; rfl, by rw [HQ.out.2]; exact OwnC.nil _ _, HR.out⟩
          · have hkI : ((k : Int) == 256) = false := beq_eq_false_iff_ne.2 (by omega)
            have HP8 := hide_ h8
            have HK0 := hide_ (show CK w g c' k s (some ⟨b, off, none⟩) wr from ⟨HO.out, HR.out, HF'.out, HV0.out.keep HR.out⟩)
            have hp8 : (8 : Int) ≤ p.size := by omega
            have D1 : Hid (∀ W, VarsM W → Calls Tryd.prog 53 #[.string (p.extract 0 8)] W fun e w' => e = .returned (.float .f32 (vH (p1 p))) ∧ Below W.heap.size W w') := fun W hW => c_readHex (p1 p) (half_size h8).1 W hW.1.2
            have D2 : Hid (∀ W, VarsM W → Calls Tryd.prog 53 #[.string (p.extract 8 16)] W fun e w' => e = .returned (.float .f32 (vH (p2 p))) ∧ Below W.heap.size W w') := by
              intro W hW
              have e : p.extract 8 16 = p2 p := by unfold p2; rw [h8]
              rw [e]
              exact c_readHex (p2 p) (half_size h8).2 W hW.1.2
            rw [show vC p = (vH (p1 p), vH (p2 p)) from rfl] at HM
            generalize vH (p1 p) = x1 at *
            generalize vH (p2 p) = x2 at *
            go_wp2_with fail
            refine wp_region_listed (fun i => if i = 10 then 4 else 25 + i) (fun l W => Done l ∧ Below w.heap.size w W ∧ Fs W (some ⟨b, off, none⟩) (sp s) ∧ VarsM W ∧ (l.getD 9 false = false → CK w g c' k s (some ⟨b, off, none⟩) W)) (VC w g c' b k s p x1 x2) (by kernel_rfl) (guards_none (by kernel_rfl)) (edges_back (by kernel_rfl)) (dstL_inj (by decide)) (fun i hi => ?_) ?_ (fun l i o hls ho hli hle a wq hC hF hN hV => ?_) (fun l a wq hall hC hF hV => ?_)
            · have hi11 : i < 11 := by simpa using hi
              show (if i = 10 then 4 else 25 + i) < 49
              split <;> omega
            · have hKd := HK0.out.keep (Below.refl wr.heap.size wr).drew
              exact ⟨Done.start _, hKd.2.1, hKd.2.2.1, hKd.2.2.2, fun _ => hKd⟩
            · have hCs : ∀ q, q ≠ 9 → q ≠ 10 → Done (l.setIfInBounds q true) ∧ Below w.heap.size w wq ∧ Fs wq (some ⟨b, off, none⟩) (sp s) ∧ VarsM wq ∧ ((l.setIfInBounds q true).getD 9 false = false → CK w g c' k s (some ⟨b, off, none⟩) wq) := fun q h9 h10 => by
                rw [setL h9]; exact ⟨hC.1.set h9 h10, hC.2⟩
              have f6 : a.tmps.getD 6 undef = .string p := hF.rest 6 (fun i hi => by
                have hi11 : i < 11 := by simpa using hi
                show (if i = 10 then 4 else 25 + i) ≠ 6
                split <;> omega)
              match i, ho with
              | 0, ho =>
                obtain rfl := Option.some.inj ho
                have f4 : a.tmps.getD 4 undef = .slice (some ⟨g, 0, none⟩) k c' := hN 10 (by simp) (hC.1.no10 hli)
                refine stepL_value (.slice (some ⟨g, 0, none⟩) k c') ?_ rfl rfl (hCs 0 (by decide) (by decide))
                clear hV hF hC hCs
                go_simp
              | 1, ho =>
                obtain rfl := Option.some.inj ho
                refine stepL_value (.string p) ?_ rfl rfl (hCs 1 (by decide) (by decide))
                clear hV hF hC hCs
                go_simp
              | 2, ho =>
                obtain rfl := Option.some.inj ho
                have e1 : a.tmps.getD 26 undef = .string p := hV ⟨1, .data⟩ (by simp) rfl
                refine stepL_value (.string (p.extract 0 8)) ?_ rfl rfl (hCs 2 (by decide) (by decide))
                clear hV hF hC hCs
                go_simp
              | 3, ho =>
                obtain rfl := Option.some.inj ho
                have e2 : a.tmps.getD 27 undef = .string (p.extract 0 8) := hV ⟨2, .data⟩ (by simp) rfl
                refine stepL_call 53 #[.string (p.extract 0 8)] ?_ rfl ?_
                · clear hV hF hC hCs
                  go_simp
                · refine (D1.out wq hC.2.2.2.1).mono ?_
                  rintro e w' ⟨rfl, hB⟩
                  exact ⟨⟨hC.1.set (by decide) (by decide), hC.2.1.trans (hB.mono hC.2.1.size), hC.2.2.1.keep hB (Nat.le_refl _), hC.2.2.2.1.keep hB, fun h => (hC.2.2.2.2 (by rw [setL (by decide)] at h; exact h)).keep hB⟩, fun j v _ _ h => VC.keep hB j v h, _, rfl, rfl⟩
              | 4, ho =>
                obtain rfl := Option.some.inj ho
                refine stepL_value (.string p) ?_ rfl rfl (hCs 4 (by decide) (by decide))
                clear hV hF hC hCs
                go_simp
              | 5, ho =>
                obtain rfl := Option.some.inj ho
                have e4 : a.tmps.getD 29 undef = .string p := hV ⟨4, .data⟩ (by simp) rfl
                refine stepL_value (.string (p.extract 8 16)) ?_ rfl rfl (hCs 5 (by decide) (by decide))
                clear hV hF hC hCs
                go_simp
              | 6, ho =>
                obtain rfl := Option.some.inj ho
                have e5 : a.tmps.getD 30 undef = .string (p.extract 8 16) := hV ⟨5, .data⟩ (by simp) rfl
                refine stepL_call 53 #[.string (p.extract 8 16)] ?_ rfl ?_
                · clear hV hF hC hCs
                  go_simp
                · refine (D2.out wq hC.2.2.2.1).mono ?_
                  rintro e w' ⟨rfl, hB⟩
                  exact ⟨⟨hC.1.set (by decide) (by decide), hC.2.1.trans (hB.mono hC.2.1.size), hC.2.2.1.keep hB (Nat.le_refl _), hC.2.2.2.1.keep hB, fun h => (hC.2.2.2.2 (by rw [setL (by decide)] at h; exact h)).keep hB⟩, fun j v _ _ h => VC.keep hB j v h, _, rfl, rfl⟩
              | 7, ho =>
                obtain rfl := Option.some.inj ho
                have e3 : a.tmps.getD 28 undef = .float .f32 x1 := hV ⟨3, .data⟩ (by simp) rfl
                have e6 : a.tmps.getD 31 undef = .float .f32 x2 := hV ⟨6, .data⟩ (by simp) rfl
                refine stepL_value (.complex .f32 x1 x2) ?_ rfl rfl (hCs 7 (by decide) (by decide))
                clear hV hF hC hCs
                go_simp
              | 8, ho =>
                obtain rfl := Option.some.inj ho
                have e7 : a.tmps.getD 32 undef = .complex .f32 x1 x2 := hV ⟨7, .data⟩ (by simp) rfl
                have hK := hC.2.2.2.2 (by
                  cases e : l.getD 9 false
                  · rfl
                  · rw [(hC.1.2 e).2] at hli; cases hli)
                have hB : Below wq.heap.size wq (wq.alloc (.cells #[.complex .f32 x1 x2] 64)) := (Below.refl wq.heap.size wq).alloc (Nat.le_refl _) _
                have hgl := (World.ownsRow.lt hK.1 g rfl).2
                refine stepL_step (.slice (some ⟨wq.heap.size, 0, none⟩) 1 1) (w1 := wq.alloc (.cells #[.complex .f32 x1 x2] 64)) ?_ rfl (fun j v _ _ h => VC.keep hB j v h) ⟨wq.heap.size, rfl, by omega, heap_alloc_new wq _⟩ ⟨hC.1.set (by decide) (by decide), hC.2.1.trans (hB.mono hC.2.1.size), hC.2.2.1.keep hB (Nat.le_refl _), hC.2.2.2.1.keep hB, fun h => hK.keep hB⟩
                clear hV hF hC hCs hK hB hle hN hli
                have e7' := e7
                rw [Array.getD_eq_getD_getElem?] at e7'
                go_simp
              | 9, ho =>
                obtain rfl := Option.some.inj ho
                have e0 : a.tmps.getD 25 undef = .slice (some ⟨g, 0, none⟩) k c' := hV ⟨0, .data⟩ (by simp) rfl
                obtain ⟨B, e8, hBg, hBh⟩ : NewC g x1 x2 (a.tmps.getD 33 undef) wq := hV ⟨8, .data⟩ (by simp) rfl
                have hK := hC.2.2.2.2 hli
                have h0 : l.getD 0 false = true := hle ⟨0, .data⟩ (by simp) rfl
                have h8' : l.getD 8 false = true := hle ⟨8, .data⟩ (by simp) rfl
                obtain ⟨v', w3, hr, hown, hgrow, hni, hob⟩ := run_append_own_at (P := Tryd.prog) wq w.heap.size 44 44 64 i0 (.complex .f32 0 0) 1 8 Tryd.underlying44 hi hz0 hz1 hz2 rfl (by decide) (.slice (some ⟨g, 0, none⟩) k c') k _ hK.1 ⟨B, 0, none⟩ 1 1 [.complex .f32 x1 x2] rfl (news_of hBh) (fun u hu => by simp at hu; subst hu; rfl) (by unfold maxLen; omega) (by omega) hC.2.1.size
                obtain ⟨b', off', hbe, hbl, _⟩ := hC.2.2.1.of_pos (by omega)
                simp only [Option.some.injEq, Addr.mk.injEq] at hbe
                have hbl' : b < wq.heap.size := by rw [hbe.1]; exact hbl
                have hgl := (World.ownsRow.lt hK.1 g rfl).2
                have hF3 := hC.2.2.1.grown hgrow HNg.out
                have hR3 := hC.2.1.grown hgrow hC.2.1.size (fun q hq => (World.ownsRow.lt hK.1 q hq).1)
                obtain ⟨A3, c3, rfl⟩ := own_form hown
                obtain ⟨g3, rfl, hg3⟩ := ob_some hni hob hown
                refine stepL_step (.slice (some ⟨g3, 0, none⟩) (k + 1) c3) (w1 := w3) ?_ rfl (fun j v hj hlj h => ?_) ⟨g3, c3, rfl, ?_, ?_⟩ ⟨hC.1.set9 hli h0 h8', hR3, hF3, HV0.out.keep hR3, fun h => ?_⟩
                · exact exec_append rfl e0 e8 hr
                · rcases j with _ | _ | _ | _ | _ | _ | _ | _ | _ | _ | _ | j
                  · exact h
                  · exact h
                  · exact h
                  · exact h
                  · exact h
                  · exact h
                  · exact h
                  · exact h
                  · obtain ⟨B', rfl, h1, h2⟩ := h
                    exact ⟨B', rfl, h1, by rw [hgrow.block B' (Array.getElem?_eq_some_iff.1 h2).1 (fun e => h1 (Option.some.inj e))]; exact h2⟩
                  · rw [hli] at hlj; cases hlj
                  · rw [hC.1.not10 hli] at hlj; cases hlj
                  · exact h
                · rw [List.map_append]; exact hown
                · rcases hg3 with rfl | rfl
                  · exact .inl rfl
                  · exact .inr hbl'
                · exfalso
                  rw [setL_same (by rw [hls]; simp)] at h
                  cases h
              | 10, ho =>
                obtain rfl := Option.some.inj ho
                have e9 : RowC w g b k s x1 x2 (a.tmps.getD 34 undef) wq := hV ⟨9, .data⟩ (by simp) rfl
                have h9 : l.getD 9 false = true := hle ⟨9, .data⟩ (by simp) rfl
                refine stepL_value (a.tmps.getD 34 undef) rfl rfl e9 ⟨hC.1.set10 h9, hC.2.1, hC.2.2.1, hC.2.2.2.1, fun h => ?_⟩
                rw [setL (by decide), h9] at h
                cases h
              | n + 11, ho => cases ho
            · have hR := hide_ hC.2.1
              have hFs := hide_ hC.2.2.1
              obtain ⟨b', off', hbe, hbl, _⟩ := hC.2.2.1.of_pos (by omega)
              simp only [Option.some.injEq, Addr.mk.injEq] at hbe
              have HBL := hide_ (show b < wq.heap.size by rw [hbe.1]; exact hbl)
              obtain ⟨g3, c3, e10, hown, hg3⟩ : RowC w g b k s x1 x2 (a.tmps.getD 4 undef) wq := hV 10 (by simp)
              have hf := hF.form (fun s => s = 4 ∨ (25 ≤ s ∧ s < 35)) (fun s hs i hi => by
                have hi11 : i < 11 := by simpa using hi
                show (if i = 10 then 4 else 25 + i) ≠ s
                split <;> omega)
              rw [HM.out] at hown
              have HO3 := hide_ hown
              have HG3 := hide_ hg3
              clear hown hg3 hbe hbl hC hV hF hall
              simp only [List.size_toArray, List.length_cons, List.length_nil, Nat.reduceAdd, List.range_succ, List.range_zero, List.nil_append, List.cons_append, List.map_cons, List.map_nil, Nat.reduceLeDiff, Nat.reduceLT, Nat.reduceEqDiff, Nat.le_refl, and_true, true_and, and_false, false_and, or_false, false_or, or_true, true_or, or_self, and_self, if_true, if_false, Array.getD_eq_getD_getElem?, List.getElem?_toArray, List.getElem?_cons_zero, List.getElem?_cons_succ, Option.getD_some] at hf e10
              rw [e10] at hf
              simp only [← Array.getD_eq_getD_getElem?] at hf
              clear e10
              generalize a.tmps.getD 25 undef = y25 at hf
              generalize a.tmps.getD 26 undef = y26 at hf
              generalize a.tmps.getD 27 undef = y27 at hf
              generalize a.tmps.getD 28 undef = y28 at hf
              generalize a.tmps.getD 29 undef = y29 at hf
              generalize a.tmps.getD 30 undef = y30 at hf
              generalize a.tmps.getD 31 undef = y31 at hf
              generalize a.tmps.getD 32 undef = y32 at hf
              generalize a.tmps.getD 33 undef = y33 at hf
              generalize a.tmps.getD 34 undef = y34 at hf
              subst hf
              go_wp2_with fail
              go_roundw
              case rel =>
                refine ⟨k + 1, _, c3, by omega, by omega, by go_num, rfl, HO3.out, hR.out, hFs.out, ⟨g3, rfl, ?_⟩, fun j hj => ?_⟩
                · rcases HG3.out with rfl | h
                  · exact HNg.out
                  · intro b' off' e
                    simp only [Option.some.injEq, Addr.mk.injEq] at e
                    have hb' := e.1
                    omega
                · rcases Nat.lt_or_eq_of_le (Nat.le_of_lt_succ hj) with h | h
                  · exact HPk.out j h
                  · rw [h, HPp.out]; exact HP8.out
              case measure => simp [intOf] <;> omega
        · have h8N : ((p.size : Int) != 16) = true := by rw [bne_iff_ne]; omega
          have HQ := hide_ (HBD.out (okC_size h8))
          clear h8
          go_wp2_with fail
          go_ret2
          exact ⟨_, by rw [HQ.out.1]; rfl, by rw [HQ.out.2]; exact OwnC.nil _ _, HR.out⟩
      · obtain rfl : k = (sp s).length := by omega
        have ho2 := HO.out
        rw [List.take_length] at ho2
        have hT := c_implCText (some ⟨g, 0, none⟩) c' ((sp s).map vC) wr (own_fc ho2 (by simp)) (all_vC HPk.out) (by simpa using hk6) (HZ0.out.keep HR.out)
        rw [List.length_map] at hT
        have hte := nC_text HPk.out
        have HOO : Hid (OwnC w.heap.size ((sp s).map vC) (.slice (some ⟨g, 0, none⟩) (sp s).length c') wr) := ⟨some ⟨g, 0, none⟩, c', by simp, by simpa using ho2⟩
        have HQ : Hid ((sp s).all okC = false → accC s = false ∧ lstC s = []) := nC_all HN.out
        have HY : Hid ((sp s).all okC = true → accC s = true ∧ lstC s = (sp s).map vC) := nC_yes HN.out hk6
        generalize textL (((sp s).map vC).map hexC) = T at hT hte
        have HT := hide_ hT
        have hcmp := (str_eq T s).trans hte
        clear hT hte ho2
        cases ha : (sp s).all okC
        · rw [ha] at hcmp
          have HQ' := hide_ (HQ.out ha)
          clear ha
          have hcmp2 : (T != s.toList) = true := by rw [bne, hcmp]; rfl
          go_wp2_with fail
          go_at_call 55
          refine Calls.mono HT.out ?_
          rintro e w2 ⟨rfl, hB2⟩
          have HR2 := hide_ (HR.out.trans (hB2.mono HR.out.size))
          clear hB2
          go_wp2_with fail
          go_ret2
          exact ⟨_, by rw [HQ'.out.1]; rfl, by rw [HQ'.out.2]; exact OwnC.nil _ _, HR2.out⟩
        · rw [ha] at hcmp
          have HY' := hide_ (HY.out ha)
          clear ha
          have hcmp2 : (T != s.toList) = false := by rw [bne, hcmp]; rfl
          go_wp2_with fail
          go_at_call 55
          refine Calls.mono HT.out ?_
          rintro e w2 ⟨rfl, hB2⟩
          have HR2 := hide_ (HR.out.trans (hB2.mono HR.out.size))
          have HO2 := hide_ (HOO.out.keep hB2)
          clear hB2
          go_wp2_with fail
          go_ret2
          exact ⟨_, by rw [HY'.out.1]; rfl, by rw [HY'.out.2]; exact HO2.out, HR2.out⟩
  · have HN := hide_ (nC_none hn)
    have hs : s = ⟨#[110, 111, 110, 101]⟩ := bext (by
      unfold isNo at hn
      rw [beq_iff_eq] at hn
      exact hn)
    have HC1 := hide_ (c_piecesNone s (w.alloc (.cells #[] 64)) hn)
    have hT := c_implCText (some ⟨w.heap.size, 0, none⟩) 0 [] (w.alloc (.cells #[] 64)) (.inl rfl) (fun j => ⟨Nat.zero_lt_succ _, Nat.zero_lt_succ _⟩) (by simp) (hz.keep ((Below.refl w.heap.size w).alloc (Nat.le_refl _) _))
    have HT : Hid (Calls Tryd.prog 55 #[.slice (some ⟨w.heap.size, 0, none⟩) 0 0] (w.alloc (.cells #[] 64)) fun e w' => e = .returned (.tuple #[.string ⟨#[110, 111, 110, 101]⟩, .bool true]) ∧ Below (w.heap.size + 1) (w.alloc (.cells #[] 64)) w') := by
      refine Calls.mono hT ?_
      rintro e w' ⟨rfl, hB⟩
      exact ⟨rfl, by simpa using hB⟩
    clear hn hv hz hT
    subst hs
    go_enter Tryd.func31, Tryd.ntmps31
    go_wp2_with fail
    go_at_call 52
    refine Calls.mono HC1.out ?_
    rintro e w1 ⟨rfl, rfl⟩
    go_wp2_with fail
    go_loop [4, 13] (fun out i => i = .int .i64 0 ∧ out = .slice (some ⟨w.heap.size, 0, none⟩) 0 0) (fun _ _ => 0)
    case atStart => exact ⟨rfl, rfl⟩
    case round =>
      obtain ⟨rfl, rfl⟩ := hrel
      go_wp2_with fail
      go_at_call 55
      refine Calls.mono HT.out ?_
      rintro e w2 ⟨rfl, hB2⟩
      have HR2 := hide_ (((Below.refl w.heap.size w).alloc (Nat.le_refl _) (.cells #[] 64)).trans (hB2.mono (Nat.le_succ _)))
      have HO2 := hide_ (own_keep (own_new w 64 w.heap.size (Nat.le_refl _)) (by simpa using hB2))
      clear hB2
      go_wp2_with fail
      go_ret2
      exact ⟨_, by rw [HN.out.1]; rfl, by rw [HN.out.2]; exact ⟨_, _, rfl, HO2.out⟩, HR2.out⟩

end Go.Proofs.YticggbmmeefelaaDoor
