/-
The pieces of a text between commas; lists of texts and lists of numbers in memory: plain part.
-/
import Derived.Lib.IndexAny
import Derived.Lib.SplitLaws
import Derived.Test.YticggbmmeefelaaDoorDf
set_option linter.unusedVariables false
set_option linter.unusedSimpArgs false
namespace Go.Proofs.YticggbmmeefelaaDoor
open Go Go.RowKit

def comma : ByteArray := ⟨#[44]⟩
/-- the pieces of a text between commas -/
def sp (s : ByteArray) : List ByteArray := Lib.splitB comma 0 (Lib.countB s comma) s
theorem idx_eq (s : ByteArray) : Lib.indexB s comma = Lib.indexAny s.data.toList [44] := by
  show Lib.index s.data.toList [44] = _
  rw [Lib.index_one, ← Lib.indexAny_one]
def NoC (s : ByteArray) (a b : Nat) : Prop := ∀ j c, a ≤ j → j < b → s.data.toList[j]? = some c → c ≠ 44
theorem ex_data (s : ByteArray) (a : Nat) : (s.extract a s.size).data.toList = s.data.toList.drop a := by
  rw [Lib.extract_data, List.take_of_length_le]
  rw [List.length_drop, len_data]; exact Nat.le_refl _
theorem sp_miss (s : ByteArray) (a : Nat) (h : NoC s a s.size) : sp (s.extract a s.size) = [s.extract a s.size] := by
  unfold sp
  refine Lib.splitB_miss _ _ _ _ ?_
  rw [idx_eq]
  refine Lib.indexAny_none ?_
  rw [ex_data]
  intro j c hj hc
  rw [List.length_drop, len_data] at hj
  rw [List.getElem?_drop] at hc
  have := h (a + j) c (by omega) (by omega) hc
  simp [this]
theorem bext {a b : ByteArray} (h : a.data.toList = b.data.toList) : a = b := by
  cases a; cases b
  congr 1
  exact Array.toList_inj.1 h
theorem bext2 (s : ByteArray) (a i : Nat) (hi : a ≤ i) (hs : i ≤ s.size) : (s.extract a s.size).extract 0 (i - a + 0) = s.extract a i := by
  apply bext
  rw [Lib.extract_data, ex_data, Lib.extract_data, List.drop_zero, Nat.sub_zero, Nat.add_zero]
theorem bext3 (s : ByteArray) (a i : Nat) (hi : a ≤ i) : (s.extract a s.size).extract (i - a + comma.size) (s.extract a s.size).size = s.extract (i + 1) s.size := by
  apply bext
  rw [ex_data, ex_data, ex_data, List.drop_drop]
  congr 1
  show a + (i - a + 1) = i + 1
  omega
theorem sp_hit (s : ByteArray) (a i : Nat) (h : NoC s a i) (ha : a ≤ i) (hi : i < s.size) (hc : s.data.toList[i]? = some 44) : sp (s.extract a s.size) = s.extract a i :: sp (s.extract (i + 1) s.size) := by
  have hx : Lib.indexB (s.extract a s.size) comma = ((i - a : Nat) : Int) := by
    rw [idx_eq]
    refine Lib.indexAny_hit (x := 44) ?_ ?_ rfl
    · rw [ex_data]
      intro j c hj hc'
      rw [List.getElem?_drop] at hc'
      have := h (a + j) c (by omega) (by omega) hc'
      simp [this]
    · rw [ex_data, List.getElem?_drop, show a + (i - a) = i by omega]
      exact hc
  unfold sp
  rw [Lib.countB_hit _ _ (i - a) (by decide) hx, Nat.add_comm 1, Lib.splitB_hit _ _ _ _ _ hx, bext2 s a i ha (by omega), bext3 s a i ha]
theorem sp_len (s : ByteArray) : (sp s).length = Lib.countB s comma + 1 := Lib.splitB_all _ (by decide) _ _ _ rfl
theorem sp_le (s : ByteArray) : (sp s).length ≤ s.size + 1 := by
  rw [sp_len]
  have := Lib.countB_le comma (by decide) s.size s (Nat.le_refl _)
  omega
theorem ex_all (s : ByteArray) : s.extract 0 s.size = s := by
  apply bext
  rw [ex_data, List.drop_zero]
/-- where a cut of a text stands: 'done' pieces lie behind, the next one begins at a, the bytes up to i are no comma; or all is done -/
def CutAt (s : ByteArray) (done : List ByteArray) (a i : Nat) : Prop :=
  (a ≤ i ∧ i ≤ s.size ∧ done.length ≤ a ∧ sp s = done ++ sp (s.extract a s.size) ∧ NoC s a i) ∨ (i = s.size + 1 ∧ done = sp s ∧ a = s.size + 1)
theorem CutAt.zero (s : ByteArray) : CutAt s [] 0 0 := .inl ⟨Nat.le_refl _, Nat.zero_le _, Nat.le_refl _, by rw [ex_all]; rfl, fun j c h1 h2 => absurd h2 (by omega)⟩
theorem CutAt.last {s : ByteArray} {done : List ByteArray} {a : Nat} (h : CutAt s done a s.size) : a ≤ s.size ∧ done.length ≤ a ∧ CutAt s (done ++ [s.extract a s.size]) (s.size + 1) (s.size + 1) := by
  rcases h with ⟨h1, h2, h3, h4, h5⟩ | ⟨h1, _⟩
  · refine ⟨h1, h3, .inr ⟨rfl, ?_, rfl⟩⟩
    rw [h4, sp_miss s a h5]
  · omega
theorem CutAt.hit {s : ByteArray} {done : List ByteArray} {a i : Nat} (h : CutAt s done a i) (hi : i < s.size) (hc : s[i] = 44) : a ≤ i ∧ done.length ≤ a ∧ CutAt s (done ++ [s.extract a i]) (i + 1) (i + 1) := by
  rcases h with ⟨h1, h2, h3, h4, h5⟩ | ⟨h1, _⟩
  · refine ⟨h1, h3, .inl ⟨Nat.le_refl _, by omega, by simp; omega, ?_, fun j c h1 h2 => absurd h2 (by omega)⟩⟩
    rw [h4, sp_hit s a i h5 h1 hi (by rw [← hc]; exact List.getElem?_eq_getElem (by rw [len_data]; exact hi))]
    simp
  · omega
theorem CutAt.miss {s : ByteArray} {done : List ByteArray} {a i : Nat} (h : CutAt s done a i) (hi : i < s.size) (hc : ¬ s[i] = 44) : CutAt s done a (i + 1) := by
  rcases h with ⟨h1, h2, h3, h4, h5⟩ | ⟨h1, _⟩
  · refine .inl ⟨by omega, by omega, h3, h4, fun j c g1 g2 g3 => ?_⟩
    by_cases e : j = i
    · subst e
      rw [List.getElem?_eq_getElem (by rw [len_data]; exact hi)] at g3
      cases g3
      exact hc
    · exact h5 j c g1 (by omega) g3
  · omega
theorem CutAt.le {s : ByteArray} {done : List ByteArray} {a i : Nat} (h : CutAt s done a i) : i ≤ s.size + 1 := by
  rcases h with ⟨h1, h2, _⟩ | ⟨h1, _⟩ <;> omega
theorem CutAt.fin {s : ByteArray} {done : List ByteArray} {a i : Nat} (h : CutAt s done a i) (hi : ¬ i ≤ s.size) : done = sp s := by
  rcases h with ⟨h1, h2, _⟩ | ⟨h1, h2, _⟩
  · omega
  · exact h2

/-- "none" -/
def isNo (s : ByteArray) : Bool := s.data.toList == [110, 111, 110, 101]
def rP (s : ByteArray) : Bool := readP s.data.toList
def rN (s : ByteArray) : Int := readN s.data.toList
/-- has a text a list -/
def numB (s : ByteArray) : Bool := isNo s || (decide ((sp s).length ≤ 64) && (sp s).all rP)
def numL (s : ByteArray) : List Int := if isNo s then [] else if numB s then (sp s).map rN else []
theorem num_none {s : ByteArray} (h : isNo s = true) : numB s = true ∧ numL s = [] := by
  unfold numB numL
  rw [h]
  exact ⟨rfl, rfl⟩
theorem num_long {s : ByteArray} (h : isNo s = false) (hl : ¬ (sp s).length ≤ 64) : numB s = false ∧ numL s = [] := by
  have : numB s = false := by unfold numB; rw [h, decide_eq_false hl]; rfl
  unfold numL
  rw [h, this]
  exact ⟨rfl, rfl⟩
theorem num_bad {s : ByteArray} {k : Nat} (h : isNo s = false) (hk : k < (sp s).length) (hr : rP ((sp s).getD k default) = false) : numB s = false ∧ numL s = [] := by
  have e : (sp s).getD k default = (sp s)[k] := by simp [List.getD_eq_getElem?_getD, hk]
  have ha : (sp s).all rP = false := by
    rw [List.all_eq_false]
    exact ⟨(sp s)[k], List.getElem_mem hk, by rw [← e, hr]; decide⟩
  have : numB s = false := by unfold numB; rw [h, ha]; simp
  unfold numL
  rw [h, this]
  exact ⟨rfl, rfl⟩
theorem num_good {s : ByteArray} (h : isNo s = false) (hl : (sp s).length ≤ 64) (hr : ∀ k, k < (sp s).length → rP ((sp s).getD k default) = true) : numB s = true ∧ numL s = (sp s).map rN := by
  have ha : (sp s).all rP = true := by
    rw [List.all_eq_true]
    intro x hx
    obtain ⟨k, hk, rfl⟩ := List.getElem_of_mem hx
    have e : (sp s).getD k default = (sp s)[k] := by simp [List.getD_eq_getElem?_getD, hk]
    rw [← e]; exact hr k hk
  have : numB s = true := by unfold numB; rw [h, ha, decide_eq_true hl]; rfl
  unfold numL
  rw [h, this]
  exact ⟨rfl, rfl⟩
theorem num_len (s : ByteArray) : (numL s).length ≤ 64 := by
  unfold numL
  split
  · simp
  · split
    · rename_i h1 h2
      unfold numB at h2
      simp only [Bool.or_eq_true, Bool.and_eq_true, decide_eq_true_eq] at h2
      rcases h2 with h2 | h2
      · exact absurd h2 h1
      · simpa using h2.1
    · simp

/-- a list of numbers that was made from block 'base' on -/
def OwnI (base : Nat) (xs : List Int) (v : Value) (w : World) : Prop :=
  ∃ A cap, v = .slice A xs.length cap ∧ w.ownsRow base 2 1 v xs.length (xs.map (Value.int .i64))
theorem own_keep {w w' : World} {base : Nat} {e : TypeId} {size n : Nat} {v : Value} {xs : List Value} (h : w.ownsRow base e size v n xs) (hb : Below w.heap.size w w') : w'.ownsRow base e size v n xs := by
  obtain ⟨hl, hr⟩ := h
  refine ⟨hl, ?_⟩
  rcases hr with hr | ⟨g, cp, cur, hv, hg, hh, hr⟩
  · exact .inl hr
  · exact .inr ⟨g, cp, cur, hv, hg, by rw [hb.block g (Array.getElem?_eq_some_iff.1 hh).1]; exact hh, hr⟩
theorem own_form {w : World} {base : Nat} {e : TypeId} {size n : Nat} {v : Value} {xs : List Value} (h : w.ownsRow base e size v n xs) : ∃ A c, v = .slice A n c := by
  rcases h.2 with ⟨rfl, rfl⟩ | ⟨g, cp, cur, hv, _⟩
  · exact ⟨_, _, rfl⟩
  · exact ⟨_, _, hv⟩
theorem OwnI.keep {base : Nat} {xs : List Int} {v : Value} {w w' : World} (h : OwnI base xs v w) (hb : Below w.heap.size w w') : OwnI base xs v w' := by
  obtain ⟨A, cap, rfl, h1⟩ := h
  exact ⟨A, cap, rfl, own_keep h1 hb⟩
theorem OwnI.nil (base : Nat) (w : World) : OwnI base [] (.slice none 0 0) w := ⟨none, 0, rfl, rfl, .inl ⟨rfl, rfl⟩⟩
theorem OwnI.fi {base : Nat} {xs : List Int} {v : Value} {w : World} (h : OwnI base xs v w) : ∃ A cap, v = .slice A xs.length cap ∧ Fi w A xs := by
  obtain ⟨A, cap, rfl, h1, h2⟩ := h
  refine ⟨A, cap, rfl, ?_⟩
  rcases h2 with ⟨hv, hn⟩ | ⟨g, cp, cur, hv, hb, hh, hr⟩
  · exact .inl (List.eq_nil_of_length_eq_zero hn)
  · simp only [Value.slice.injEq] at hv
    obtain ⟨rfl, _, rfl⟩ := hv
    refine .inr ⟨g, 0, rfl, (Array.getElem?_eq_some_iff.1 hh).1, fun j hj => ?_⟩
    have ho : w.ownsRow base 2 1 (.slice (some ⟨g, 0, none⟩) xs.length cap) xs.length (xs.map (Value.int .i64)) := ⟨h1, .inr ⟨g, cap, cur, rfl, hb, hh, hr⟩⟩
    rw [Nat.zero_add, ho.cellAt j (by omega), List.getElem?_map, List.getElem?_eq_getElem hj]
    simp [List.getD_eq_getElem?_getD, hj]

/-- the cells behind an address hold texts -/
def Fs (w : World) (A : Option Addr) (xs : List ByteArray) : Prop :=
  xs = [] ∨ ∃ b off, A = some ⟨b, off, none⟩ ∧ b < w.heap.size ∧ ∀ j, j < xs.length → w.cell? ⟨b, off + j, none⟩ = some (.string (xs.getD j default))
theorem Fs.keep {B : Nat} {w w' : World} {A : Option Addr} {xs : List ByteArray} (h : Fs w A xs) (hb : Below B w w') (hB : w.heap.size ≤ B) : Fs w' A xs := by
  rcases h with rfl | ⟨b, off, rfl, hbl, hc⟩
  · exact .inl rfl
  · exact .inr ⟨b, off, rfl, Nat.lt_of_lt_of_le hbl hb.size, fun j hj => by rw [hb.cell (p := ⟨b, off + j, none⟩) (by show b < B; omega)]; exact hc j hj⟩
theorem Fs.of_pos {w : World} {A : Option Addr} {xs : List ByteArray} (h : Fs w A xs) (hp : 0 < xs.length) : ∃ b off, A = some ⟨b, off, none⟩ ∧ b < w.heap.size ∧ ∀ j, j < xs.length → w.cell? ⟨b, off + j, none⟩ = some (.string (xs.getD j default)) := by
  rcases h with rfl | h
  · cases hp
  · exact h
theorem Fs.of_own {base n : Nat} {xs : List ByteArray} {A : Option Addr} {cap : Nat} {w : World} (h : w.ownsRow base 9 1 (.slice A n cap) n (xs.map Value.string)) (hn : n = xs.length) : Fs w A xs := by
  subst hn
  rcases h.2 with ⟨hv, hn⟩ | ⟨g, cp, cur, hv, hb, hh, hr⟩
  · exact .inl (List.eq_nil_of_length_eq_zero hn)
  · simp only [Value.slice.injEq] at hv
    obtain ⟨rfl, _, rfl⟩ := hv
    refine .inr ⟨g, 0, rfl, (Array.getElem?_eq_some_iff.1 hh).1, fun j hj => ?_⟩
    rw [Nat.zero_add, h.cellAt j (by omega), List.getElem?_map, List.getElem?_eq_getElem hj]
    simp [List.getD_eq_getElem?_getD, hj]
/-- an address that lies in no block numbered g -/
def NotAt (A : Option Addr) (g : Nat) : Prop := ∀ b off, A = some ⟨b, off, none⟩ → b ≠ g
theorem Fs.grown {w w' : World} {A : Option Addr} {xs : List ByteArray} {g : Nat} (h : Fs w A xs) (hg : w.grownBy w' (some g)) (hn : NotAt A g) : Fs w' A xs := by
  rcases h with rfl | ⟨b, off, rfl, hbl, hc⟩
  · exact .inl rfl
  · refine .inr ⟨b, off, rfl, Nat.lt_of_lt_of_le hbl hg.size, fun j hj => ?_⟩
    rw [← hc j hj]
    have := hg.block b hbl (fun e => hn b off rfl (Option.some.inj e))
    unfold World.cell?
    simp only [this]
theorem NotAt.own {base n : Nat} {xs : List Value} {A : Option Addr} {cap : Nat} {w : World} {t : TypeId} (h : w.ownsRow base t 1 (.slice A n cap) n xs) {g : Nat} (hg : g < base) : NotAt A g := by
  intro b off e
  subst e
  rcases h.2 with ⟨hv, hn⟩ | ⟨g', cp, cur, hv, hb, hh, hr⟩
  · cases hv
  · simp only [Value.slice.injEq, Option.some.injEq, Addr.mk.injEq] at hv
    omega
/-- how a list reads: some of its pieces are read, the numbers lie in a list of the call's own -/
theorem map_snoc (s : ByteArray) {k : Nat} (hk : k < (sp s).length) : ((sp s).take k).map rN ++ [rN ((sp s).getD k default)] = ((sp s).take (k + 1)).map rN := by
  have e : (sp s).getD k default = (sp s)[k] := by simp [List.getD_eq_getElem?_getD, hk]
  rw [List.take_succ_eq_append_getElem hk, List.map_append, e]
  rfl
theorem piece_le (s : ByteArray) : ∀ p ∈ sp s, p.size ≤ s.size := by
  unfold sp
  generalize Lib.countB s comma = n
  induction n generalizing s with
  | zero => intro p hp; simp [Lib.splitB] at hp; subst hp; exact Nat.le_refl _
  | succ n ih =>
    intro p hp
    unfold Lib.splitB at hp
    split at hp
    · simp at hp; subst hp; exact Nat.le_refl _
    · simp only [List.mem_cons] at hp
      rcases hp with rfl | hp
      · rw [ByteArray.size_extract]; omega
      · have := ih _ p hp
        rw [ByteArray.size_extract] at this
        omega
theorem piece_at (s : ByteArray) {k : Nat} (hk : k < (sp s).length) : ((sp s).getD k default).size ≤ s.size := by
  have e : (sp s).getD k default = (sp s)[k] := by simp [List.getD_eq_getElem?_getD, hk]
  rw [e]
  exact piece_le s _ (List.getElem_mem hk)

end Go.Proofs.YticggbmmeefelaaDoor
