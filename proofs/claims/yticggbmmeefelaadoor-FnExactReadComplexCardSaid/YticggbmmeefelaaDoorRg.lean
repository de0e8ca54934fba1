/-
A region that draws its order, walked by an invariant: each operation leaves a value of its kind, whatever the order.
-/
import Derived.WalkKit
import Derived.Deep.Draws
import Derived.Orders
namespace Go.Proofs.YticggbmmeefelaaDoor.Fl
open Go

/-- what a frame keeps of another: all but the slots that a region writes -/
structure FrameOf (n : Nat) (dst : Nat → Nat) (a0 a : Act) : Prop where
  defers : a.defers = a0.defers
  size : a.tmps.size = a0.tmps.size
  rest : ∀ s, (∀ i, i < n → dst i ≠ s) → a.tmps.getD s undef = a0.tmps.getD s undef

theorem countP_lt {p q : Nat → Bool} {i : Nat} : ∀ l : List Nat, i ∈ l → (∀ x, q x = true → p x = true) → p i = true → q i = false → l.countP q < l.countP p := by
  intro l
  induction l with
  | nil => intro h; cases h
  | cons x l ih =>
    intro hi hpq hp hq
    have hle : l.countP q ≤ l.countP p := List.countP_mono_left fun y _ => hpq y
    rw [List.countP_cons, List.countP_cons]
    rcases List.mem_cons.1 hi with h | h
    · subst h
      rw [hp, hq]
      simp; omega
    · have := ih h hpq hp hq
      cases hx : q x
      · simp; split <;> omega
      · rw [hpq x hx]; simp; omega

section
variable {P : Program} {ops : Array Oper} {Q : Exit → Act → World → Prop} {dst : Nat → Nat} {C : World → Prop} {V : Nat → Value → Prop} {a0 : Act}

theorem getD_lt {α : Type} (xs : Array α) (i : Nat) (d d' : α) (h : i < xs.size) : xs.getD i d = xs.getD i d' := by
  simp [Array.getD, h]

theorem ready_mem {listed : Array Bool} {i : Nat} (h : i ∈ Region.ready .any ops listed) : i < ops.size ∧ listed.getD i true = false ∧ ∀ o, ops[i]? = some o → ∀ e ∈ o.after, Region.binds .any e = true → listed.getD e.on false = true := by
  unfold Region.ready at h
  obtain ⟨h1, h2⟩ := List.mem_filter.1 h
  have hi := List.mem_range.1 h1
  simp only [Bool.and_eq_true, Bool.not_eq_true'] at h2
  refine ⟨hi, h2.1, fun o ho e he hb => ?_⟩
  have h3 := h2.2
  rw [ho] at h3
  simp only [Option.map_some, Option.getD_some, Array.all_eq_true', Bool.or_eq_true, Bool.not_eq_true'] at h3
  rcases h3 e he with h | h
  · rw [hb] at h; cases h
  · exact h

theorem ready_nil {listed : Array Bool} (hsz : listed.size = ops.size) (hback : ∀ (i : Nat) (o : Oper), ops[i]? = some o → ∀ e ∈ o.after, e.on < i) (h : Region.ready .any ops listed = []) :
    ∀ i, i < ops.size → listed.getD i false = true := by
  intro i
  induction i using Nat.strongRecOn with
  | ind i ih =>
    intro hi
    cases hl : listed.getD i false with
    | true => rfl
    | false =>
      exfalso
      have : i ∈ Region.ready .any ops listed := by
        unfold Region.ready
        refine List.mem_filter.2 ⟨List.mem_range.2 hi, ?_⟩
        rw [getD_lt listed i true false (by omega), hl]
        have ho : ops[i]? = some ops[i] := Array.getElem?_eq_getElem hi
        rw [ho]
        simp only [Bool.not_false, Option.map_some, Option.getD_some, Bool.true_and, Array.all_eq_true', Bool.or_eq_true]
        intro e he
        exact .inr (ih e.on (hback i _ ho e he) (Nat.lt_trans (hback i _ ho e he) hi))
      rw [h] at this
      cases this

theorem FrameOf.put {n : Nat} {a : Act} (h : FrameOf n dst a0 a) {i : Nat} (hi : i < n) (v : Value) : FrameOf n dst a0 (a.put (some (dst i)) v) := by
  refine ⟨h.defers, ?_, fun s hs => ?_⟩
  · show (a.tmps.setIfInBounds (dst i) v).size = _
    rw [Array.size_setIfInBounds]; exact h.size
  · rw [← h.rest s hs]
    show (a.tmps.setIfInBounds (dst i) v).getD s undef = _
    have := hs i hi
    simp only [Array.getD_eq_getD_getElem?, Array.getElem?_setIfInBounds]
    rw [if_neg this]

theorem put_same (a : Act) (d : Nat) (v : Value) (h : d < a.tmps.size) : (a.put (some d) v).tmps.getD d undef = v := by
  show (a.tmps.setIfInBounds d v).getD d undef = v
  simp [Array.getD_eq_getD_getElem?, h]
theorem put_other (a : Act) (d s : Nat) (v : Value) (h : d ≠ s) : (a.put (some d) v).tmps.getD s undef = a.tmps.getD s undef := by
  show (a.tmps.setIfInBounds d v).getD s undef = _
  simp only [Array.getD_eq_getD_getElem?, Array.getElem?_setIfInBounds]
  rw [if_neg h]

theorem wpAny_inv (hd : ∀ (i : Nat) (o : Oper), ops[i]? = some o → o.guard = none)
    (hinj : ∀ i j, i < ops.size → j < ops.size → dst i = dst j → i = j)
    (hlt : ∀ i, i < ops.size → dst i < a0.tmps.size)
    (hback : ∀ (i : Nat) (o : Oper), ops[i]? = some o → ∀ e ∈ o.after, e.on < i)
    (hstep : ∀ (i : Nat) (o : Oper), ops[i]? = some o → ∀ a w, C w → FrameOf ops.size dst a0 a → (∀ e ∈ o.after, Region.binds .any e = true → V e.on (a.tmps.getD (dst e.on) undef)) →
      (∀ (j : Nat) (o' : Oper), ops[j]? = some o' → (∃ e ∈ o'.after, e.on = i ∧ Region.binds .any e = true) → a.tmps.getD (dst j) undef = a0.tmps.getD (dst j) undef) →
      o.wp P a w (fun a' w' => C w' ∧ ∃ v, V i v ∧ a' = a.put (some (dst i)) v) Q)
    (hend : ∀ a w, C w → FrameOf ops.size dst a0 a → (∀ i, i < ops.size → V i (a.tmps.getD (dst i) undef)) → Q .normal a w) :
    ∀ (fuel : Nat) (listed : Array Bool) (a : Act) (w : World), listed.size = ops.size → (List.range ops.size).countP (fun i => !listed.getD i false) ≤ fuel → C w → FrameOf ops.size dst a0 a →
      (∀ i, i < ops.size → listed.getD i false = true → V i (a.tmps.getD (dst i) undef)) →
      (∀ i, i < ops.size → listed.getD i false = false → a.tmps.getD (dst i) undef = a0.tmps.getD (dst i) undef) →
      (∀ (j : Nat) (o : Oper), ops[j]? = some o → listed.getD j false = true → ∀ e ∈ o.after, Region.binds .any e = true → listed.getD e.on false = true) → wpAny P .any ops Q fuel listed a w := by
  intro fuel
  induction fuel with
  | zero =>
    intro listed a w hsz hcnt hC hF hV hU hD
    have hall : ∀ i, i < ops.size → listed.getD i false = true := by
      intro i hi
      have h0 : (List.range ops.size).countP (fun i => !listed.getD i false) = 0 := by omega
      have := List.countP_eq_zero.1 h0 i (List.mem_range.2 hi)
      simpa using this
    refine ⟨?_, hend a w hC hF fun i hi => hV i hi (hall i hi)⟩
    cases hr : Region.ready .any ops listed with
    | nil => rfl
    | cons x xs =>
      have hx : x ∈ Region.ready .any ops listed := by rw [hr]; exact List.mem_cons_self
      obtain ⟨h1, h2, _⟩ := ready_mem hx
      rw [getD_lt listed x true false (by omega), hall x h1] at h2
      cases h2
  | succ fuel ih =>
    intro listed a w hsz hcnt hC hF hV hU hD
    refine ⟨fun hr => hend a w hC hF fun i hi => hV i hi (ready_nil hsz hback hr i hi), fun i hi => ?_⟩
    obtain ⟨h1, h2, h3⟩ := ready_mem hi
    have ho : ops[i]? = some ops[i] := Array.getElem?_eq_getElem h1
    unfold wpOp
    rw [ho]
    simp only []
    rw [if_pos (by simp [Region.wanted, hd i _ ho])]
    refine .inl (Oper.wp_mono ?_ (hstep i _ ho a w hC hF (fun e he hb => ?_) (fun j o' hj ⟨e, he, hei, hb⟩ => ?_)))
    · rintro a' w' ⟨hC', v, hv, rfl⟩
      refine ih _ _ _ (by rw [Array.size_setIfInBounds]; exact hsz) ?_ hC' (hF.put h1 v) ?_ ?_ ?_
      · have hlt' := countP_lt (p := fun i => !listed.getD i false) (q := fun j => !(listed.setIfInBounds i true).getD j false) (i := i) (List.range ops.size) (List.mem_range.2 h1) (by
          intro x hx
          simp only [Array.getD_eq_getD_getElem?, Array.getElem?_setIfInBounds, Bool.not_eq_true'] at hx ⊢
          split at hx
          · rename_i h; subst h; simp [show i < listed.size by omega] at hx
          · exact hx) (by
          rw [getD_lt listed i true false (by omega)] at h2
          rw [h2]; rfl) (by simp [Array.getD_eq_getD_getElem?, show i < listed.size by omega])
        omega
      · intro j hj hl
        by_cases hij : i = j
        · subst hij
          rw [put_same _ _ _ (by rw [hF.size]; exact hlt i h1)]
          exact hv
        · rw [put_other _ _ _ _ (fun h => hij (hinj i j h1 hj h))]
          refine hV j hj ?_
          simp only [Array.getD_eq_getD_getElem?, Array.getElem?_setIfInBounds, if_neg hij] at hl ⊢
          exact hl
      · intro j hj hl
        have hij : i ≠ j := by
          intro h
          subst h
          simp [Array.getD_eq_getD_getElem?, show i < listed.size by omega] at hl
        rw [put_other _ _ _ _ (fun h => hij (hinj i j h1 hj h))]
        refine hU j hj ?_
        simp only [Array.getD_eq_getD_getElem?, Array.getElem?_setIfInBounds, if_neg hij] at hl ⊢
        exact hl
      · intro j o hj hl e he hb
        have key : ∀ x, listed.getD x false = true → (listed.setIfInBounds i true).getD x false = true := by
          intro x hx
          simp only [Array.getD_eq_getD_getElem?, Array.getElem?_setIfInBounds] at hx ⊢
          split
          · rename_i h; subst h; simp [show i < listed.size by omega]
          · exact hx
        by_cases hij : i = j
        · subst hij
          exact key _ (h3 o hj e he hb)
        · refine key _ (hD j o hj ?_ e he hb)
          simp only [Array.getD_eq_getD_getElem?, Array.getElem?_setIfInBounds, if_neg hij] at hl ⊢
          exact hl
    · exact hV e.on (Nat.lt_trans (hback i _ ho e he) h1) (h3 _ ho e he hb)
    · obtain ⟨hj1, _⟩ := Array.getElem?_eq_some_iff.1 hj
      refine hU j hj1 ?_
      cases hl : listed.getD j false with
      | false => rfl
      | true =>
        exfalso
        have := hD j o' hj hl e he hb
        rw [hei, getD_lt listed i false true (by omega), h2] at this
        cases this

/-- A REGION THAT DRAWS ITS ORDER, BY AN INVARIANT: each operation leaves in its slot a value of its kind, whatever its forerunners left. -/
theorem wp_region_inv {id : Nat} {w0 : World} (hm : P.follows .mixedOrders = true) (hd : ∀ (i : Nat) (o : Oper), ops[i]? = some o → o.guard = none)
    (hinj : ∀ i j, i < ops.size → j < ops.size → dst i = dst j → i = j)
    (hlt : ∀ i, i < ops.size → dst i < a0.tmps.size)
    (hback : ∀ (i : Nat) (o : Oper), ops[i]? = some o → ∀ e ∈ o.after, e.on < i) (hC : C w0.drew)
    (hstep : ∀ (i : Nat) (o : Oper), ops[i]? = some o → ∀ a w, C w → FrameOf ops.size dst a0 a → (∀ e ∈ o.after, Region.binds .any e = true → V e.on (a.tmps.getD (dst e.on) undef)) →
      (∀ (j : Nat) (o' : Oper), ops[j]? = some o' → (∃ e ∈ o'.after, e.on = i ∧ Region.binds .any e = true) → a.tmps.getD (dst j) undef = a0.tmps.getD (dst j) undef) →
      o.wp P a w (fun a' w' => C w' ∧ ∃ v, V i v ∧ a' = a.put (some (dst i)) v) Q)
    (hend : ∀ a w, C w → FrameOf ops.size dst a0 a → (∀ i, i < ops.size → V i (a.tmps.getD (dst i) undef)) → Q .normal a w) :
    (Code.region id ops true).wp P Q a0 w0 := by
  refine wp_region_any hm (wpAny_inv hd hinj hlt hback hstep hend ops.size _ _ _ (by simp) ?_ hC ⟨rfl, rfl, fun _ _ => rfl⟩ ?_ (fun _ _ _ => rfl) ?_)
  · exact Nat.le_trans List.countP_le_length (by simp)
  · intro i hi h
    simp [Array.getD_eq_getD_getElem?, hi] at h
  · intro j o hj h
    obtain ⟨hj1, _⟩ := Array.getElem?_eq_some_iff.1 hj
    simp [Array.getD_eq_getD_getElem?, hj1] at h
end

theorem guards_none {ops : Array Oper} (h : ops.all (fun o => o.guard.isNone) = true) : ∀ (i : Nat) (o : Oper), ops[i]? = some o → o.guard = none := by
  intro i o ho
  obtain ⟨hi, rfl⟩ := Array.getElem?_eq_some_iff.1 ho
  have := Array.all_eq_true.1 h i hi
  simpa using this
theorem edges_back {ops : Array Oper} (h : (List.range ops.size).all (fun i => (ops[i]?).all fun o => o.after.all fun e => decide (e.on < i)) = true) : ∀ (i : Nat) (o : Oper), ops[i]? = some o → ∀ e ∈ o.after, e.on < i := by
  intro i o ho e he
  obtain ⟨hi, rfl⟩ := Array.getElem?_eq_some_iff.1 ho
  have := List.all_eq_true.1 h i (List.mem_range.2 hi)
  rw [ho] at this
  simp only [Option.all_some, Array.all_eq_true', decide_eq_true_eq] at this
  exact this e he

theorem step_value {P : Program} {o : Oper} {a : Act} {w w' : World} {Q : Exit → Act → World → Prop} {C : World → Prop} {V : Value → Prop} {d : Nat} {v : Value}
    (h : (execOp a.eval o).run P w = .ok (.value v) w') (hd : o.dst = some d) (hC : C w') (hv : V v) : o.wp P a w (fun a' w' => C w' ∧ ∃ v, V v ∧ a' = a.put (some d) v) Q := by
  unfold Oper.wp
  rw [h]
  exact ⟨hC, v, hv, by rw [hd]⟩
theorem step_call {P : Program} {o : Oper} {a : Act} {w : World} {Q : Exit → Act → World → Prop} {C : World → Prop} {V : Value → Prop} {d : Nat} {f : FuncId} {args : Array Value}
    (h : (execOp a.eval o).run P w = .ok (.enter f args) w) (hd : o.dst = some d) (hc : Calls P f args w fun e w' => ∃ v, e = .returned v ∧ V v ∧ C w') : o.wp P a w (fun a' w' => C w' ∧ ∃ v, V v ∧ a' = a.put (some d) v) Q := by
  unfold Oper.wp
  rw [h]
  exact hc.mono fun e w' ⟨v, he, hv, hC⟩ => by subst he; exact ⟨hC, v, hv, by rw [hd]⟩

theorem toList_form (l : List Value) : l = (List.range l.length).map fun s => l.getD s undef := by
  apply List.ext_getElem
  · simp
  · intro i h1 h2
    simp [List.getD_eq_getElem?_getD, List.getElem?_eq_getElem h1]

/-- the frame behind the region, written out: 'own' holds of the slots that the region writes -/
theorem FrameOf.form {n : Nat} {dst : Nat → Nat} {a0 a : Act} (h : FrameOf n dst a0 a) (own : Nat → Prop) [DecidablePred own] (ho : ∀ s, ¬ own s → ∀ i, i < n → dst i ≠ s) :
    a = ⟨((List.range a0.tmps.size).map fun s => if own s then a.tmps.getD s undef else a0.tmps.getD s undef).toArray, a0.defers⟩ := by
  obtain ⟨t, d⟩ := a
  obtain ⟨h1, h2, h3⟩ := h
  simp only at h1 h2 h3
  subst h1
  congr 1
  apply Array.ext'
  rw [List.toList_toArray, ← h2]
  conv => lhs; rw [toList_form t.toList]
  rw [Array.length_toList]
  apply List.map_congr_left
  intro s hs
  have e : t.toList.getD s undef = t.getD s undef := by simp [Array.getD_eq_getD_getElem?, List.getD_eq_getElem?_getD]
  rw [e]
  split
  · rfl
  · rename_i hn
    exact h3 s (ho s hn)

end Go.Proofs.YticggbmmeefelaaDoor.Fl
