/-
A region that draws its order, walked by an invariant that knows which operations are done; each step says itself what it keeps.
-/
import Derived.Test.YticggbmmeefelaaDoorRg
import Derived.ProofKit
import Derived.Carry
namespace Go.Proofs.YticggbmmeefelaaDoor.Fl
open Go Go.RowKit

section
variable {P : Program} {ops : Array Oper} {Q : Exit → Act → World → Prop} {dst : Nat → Nat} {C : Array Bool → World → Prop} {V : Nat → Value → World → Prop} {a0 : Act}

theorem wpAny_listed (hd : ∀ (i : Nat) (o : Oper), ops[i]? = some o → o.guard = none)
    (hinj : ∀ i j, i < ops.size → j < ops.size → dst i = dst j → i = j)
    (hlt : ∀ i, i < ops.size → dst i < a0.tmps.size)
    (hback : ∀ (i : Nat) (o : Oper), ops[i]? = some o → ∀ e ∈ o.after, e.on < i)
    (hstep : ∀ (listed : Array Bool) (i : Nat) (o : Oper), listed.size = ops.size → ops[i]? = some o → listed.getD i false = false → (∀ e ∈ o.after, Region.binds .any e = true → listed.getD e.on false = true) → ∀ a w, C listed w → FrameOf ops.size dst a0 a → (∀ j, j < ops.size → listed.getD j false = false → a.tmps.getD (dst j) undef = a0.tmps.getD (dst j) undef) → (∀ e ∈ o.after, Region.binds .any e = true → V e.on (a.tmps.getD (dst e.on) undef) w) →
      o.wp P a w (fun a' w' => C (listed.setIfInBounds i true) w' ∧ (∀ j v, j < ops.size → listed.getD j false = true → V j v w → V j v w') ∧ ∃ v, V i v w' ∧ a' = a.put (some (dst i)) v) Q)
    (hend : ∀ listed a w, (∀ i, i < ops.size → listed.getD i false = true) → C listed w → FrameOf ops.size dst a0 a → (∀ i, i < ops.size → V i (a.tmps.getD (dst i) undef) w) → Q .normal a w) :
    ∀ (fuel : Nat) (listed : Array Bool) (a : Act) (w : World), listed.size = ops.size → (List.range ops.size).countP (fun i => !listed.getD i false) ≤ fuel → C listed w → FrameOf ops.size dst a0 a →
      (∀ i, i < ops.size → listed.getD i false = true → V i (a.tmps.getD (dst i) undef) w) → (∀ j, j < ops.size → listed.getD j false = false → a.tmps.getD (dst j) undef = a0.tmps.getD (dst j) undef) → wpAny P .any ops Q fuel listed a w := by
  intro fuel
  induction fuel with
  | zero =>
    intro listed a w hsz hcnt hC hF hV hN
    have hall : ∀ i, i < ops.size → listed.getD i false = true := by
      intro i hi
      have h0 : (List.range ops.size).countP (fun i => !listed.getD i false) = 0 := by omega
      have := List.countP_eq_zero.1 h0 i (List.mem_range.2 hi)
      simpa using this
    refine ⟨?_, hend listed a w hall hC hF fun i hi => hV i hi (hall i hi)⟩
    cases hr : Region.ready .any ops listed with
    | nil => rfl
    | cons x xs =>
      have hx : x ∈ Region.ready .any ops listed := by rw [hr]; exact List.mem_cons_self
      obtain ⟨h1, h2, _⟩ := ready_mem hx
      rw [getD_lt listed x true false (by omega), hall x h1] at h2
      cases h2
  | succ fuel ih =>
    intro listed a w hsz hcnt hC hF hV hN
    refine ⟨fun hr => hend listed a w (ready_nil hsz hback hr) hC hF fun i hi => hV i hi (ready_nil hsz hback hr i hi), fun i hi => ?_⟩
    obtain ⟨h1, h2, h3⟩ := ready_mem hi
    have ho : ops[i]? = some ops[i] := Array.getElem?_eq_getElem h1
    unfold wpOp
    rw [ho]
    simp only []
    rw [if_pos (by simp [Region.wanted, hd i _ ho])]
    refine .inl (Oper.wp_mono ?_ (hstep listed i _ hsz ho (by rw [← getD_lt listed i true false (by omega)]; exact h2) (fun e he hb => h3 _ ho e he hb) a w hC hF hN (fun e he hb => ?_)))
    · rintro a' w' ⟨hC', hB, v, hv, rfl⟩
      refine ih _ _ _ (by rw [Array.size_setIfInBounds]; exact hsz) ?_ hC' (hF.put h1 v) ?_ ?_
      · have hlt' := countP_lt (p := fun i => !listed.getD i false) (q := fun j => !(listed.setIfInBounds i true).getD j false) (i := i) (List.range ops.size) (List.mem_range.2 h1) (by
          intro x hx
          simp only [Array.getD_eq_getD_getElem?, Array.getElem?_setIfInBounds, Bool.not_eq_true'] at hx ⊢
          split at hx
          · rename_i h; subst h; simp [show i < listed.size by omega] at hx
          · exact hx) (by
          rw [getD_lt listed i true false (by omega)] at h2
          rw [h2]; rfl) (by simp [Array.getD_eq_getD_getElem?, show i < listed.size by omega])
        omega
      · intro j hj hl
        by_cases hij : i = j
        · subst hij
          rw [put_same _ _ _ (by rw [hF.size]; exact hlt i h1)]
          exact hv
        · rw [put_other _ _ _ _ (fun h => hij (hinj i j h1 hj h))]
          have hl' : listed.getD j false = true := by
            simp only [Array.getD_eq_getD_getElem?, Array.getElem?_setIfInBounds, if_neg hij] at hl ⊢
            exact hl
          exact hB j _ hj hl' (hV j hj hl')
      · intro j hj hl
        by_cases hij : i = j
        · subst hij
          simp [Array.getD_eq_getD_getElem?, show i < listed.size by omega] at hl
        · rw [put_other _ _ _ _ (fun h => hij (hinj i j h1 hj h))]
          refine hN j hj ?_
          simp only [Array.getD_eq_getD_getElem?, Array.getElem?_setIfInBounds, if_neg hij] at hl ⊢
          exact hl
    · exact hV e.on (Nat.lt_trans (hback i _ ho e he) h1) (h3 _ ho e he hb)

/-- A REGION THAT DRAWS ITS ORDER, ANY STEPS THAT KEEP AN INVARIANT AND THE KINDS OF THE SLOTS. -/
theorem wp_region_listed {id : Nat} {w0 : World} (dst : Nat → Nat) (C : Array Bool → World → Prop) (V : Nat → Value → World → Prop) (hm : P.follows .mixedOrders = true) (hd : ∀ (i : Nat) (o : Oper), ops[i]? = some o → o.guard = none)
    (hback : ∀ (i : Nat) (o : Oper), ops[i]? = some o → ∀ e ∈ o.after, e.on < i)
    (hinj : ∀ i j, i < ops.size → j < ops.size → dst i = dst j → i = j)
    (hlt : ∀ i, i < ops.size → dst i < a0.tmps.size)
    (hCd : C (Array.replicate ops.size false) w0.drew)
    (hstep : ∀ (listed : Array Bool) (i : Nat) (o : Oper), listed.size = ops.size → ops[i]? = some o → listed.getD i false = false → (∀ e ∈ o.after, Region.binds .any e = true → listed.getD e.on false = true) → ∀ a w, C listed w → FrameOf ops.size dst a0 a → (∀ j, j < ops.size → listed.getD j false = false → a.tmps.getD (dst j) undef = a0.tmps.getD (dst j) undef) → (∀ e ∈ o.after, Region.binds .any e = true → V e.on (a.tmps.getD (dst e.on) undef) w) →
      o.wp P a w (fun a' w' => C (listed.setIfInBounds i true) w' ∧ (∀ j v, j < ops.size → listed.getD j false = true → V j v w → V j v w') ∧ ∃ v, V i v w' ∧ a' = a.put (some (dst i)) v) Q)
    (hend : ∀ listed a w, (∀ i, i < ops.size → listed.getD i false = true) → C listed w → FrameOf ops.size dst a0 a → (∀ i, i < ops.size → V i (a.tmps.getD (dst i) undef) w) → Q .normal a w) :
    (Code.region id ops true).wp P Q a0 w0 := by
  refine wp_region_any hm (wpAny_listed hd hinj hlt hback hstep hend ops.size _ _ _ (by simp) ?_ hCd ⟨rfl, rfl, fun _ _ => rfl⟩ ?_ (fun _ _ _ => rfl))
  · exact Nat.le_trans List.countP_le_length (by simp)
  · intro i hi h
    simp [Array.getD_eq_getD_getElem?, hi] at h
end

theorem stepL_value {P : Program} {o : Oper} {a : Act} {w : World} {Q : Exit → Act → World → Prop} {C' : World → Prop} {L : Nat → Prop} {n i : Nat} {V : Nat → Value → World → Prop} {d : Nat} (v : Value)
    (h : (execOp a.eval o).run P w = .ok (.value v) w) (hd : o.dst = some d) (hv : V i v w) (hC : C' w) :
    o.wp P a w (fun a' w' => C' w' ∧ (∀ j v, j < n → L j → V j v w → V j v w') ∧ ∃ v, V i v w' ∧ a' = a.put (some d) v) Q := by
  unfold Oper.wp
  rw [h]
  exact ⟨hC, fun _ _ _ _ h => h, v, hv, by rw [hd]⟩
theorem stepL_call {P : Program} {o : Oper} {a : Act} {w : World} {Q : Exit → Act → World → Prop} {C' : World → Prop} {L : Nat → Prop} {n i : Nat} {V : Nat → Value → World → Prop} {d : Nat} (f : FuncId) (args : Array Value)
    (h : (execOp a.eval o).run P w = .ok (.enter f args) w) (hd : o.dst = some d)
    (hc : Calls P f args w fun e w' => C' w' ∧ (∀ j v, j < n → L j → V j v w → V j v w') ∧ ∃ v, e = .returned v ∧ V i v w') :
    o.wp P a w (fun a' w' => C' w' ∧ (∀ j v, j < n → L j → V j v w → V j v w') ∧ ∃ v, V i v w' ∧ a' = a.put (some d) v) Q := by
  unfold Oper.wp
  rw [h]
  exact hc.mono fun e w' ⟨hC, hk, v, he, hv⟩ => by subst he; exact ⟨hC, hk, v, hv, by rw [hd]⟩
theorem dstL_inj {dst : Nat → Nat} {n : Nat} (h : (List.range n).all (fun i => (List.range n).all fun j => decide (dst i = dst j → i = j)) = true) : ∀ i j, i < n → j < n → dst i = dst j → i = j := by
  intro i j hi hj
  have := List.all_eq_true.1 (List.all_eq_true.1 h i (List.mem_range.2 hi)) j (List.mem_range.2 hj)
  exact of_decide_eq_true this

end Go.Proofs.YticggbmmeefelaaDoor.Fl
