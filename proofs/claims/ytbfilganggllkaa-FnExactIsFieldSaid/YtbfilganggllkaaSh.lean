/-
Sheets and fields in memory: sizes, copies, comparing.
-/
import Derived.Test.YtbfilganggllkaaOp
set_option linter.unusedVariables false
set_option linter.unusedSimpArgs false
namespace Go.Proofs.Ytbfilganggllkaa
open Fl Go.RowKit

theorem bcell {W w1 : World} (hb : Below W.heap.size W w1) : (∀ b o, b < W.heap.size → w1.cell? ⟨b, o, none⟩ = W.cell? ⟨b, o, none⟩) ∧ (∀ b o, b < W.heap.size → w1.frozen? ⟨b, o, none⟩ = W.frozen? ⟨b, o, none⟩) :=
  ⟨fun b o h => hb.cell (p := ⟨b, o, none⟩) h, fun b o h => hb.frozen (p := ⟨b, o, none⟩) h⟩

def szL (left : Int) (n : Nat) : Int := if left < n then -1 else left - n
theorem szL_le {left : Int} {n : Nat} (h : left ≤ 1048576) : szL left n ≤ 1048576 := by unfold szL; split <;> omega
theorem szL_neg {left : Int} {n : Nat} (h : left < 0) : szL left n = -1 := by unfold szL; rw [if_pos (by omega)]
theorem c_szFloat32S (A : Option Addr) (n cap : Nat) (left : Int) (hn : n ≤ 9223372036854775807) (h0 : 0 ≤ left) (h1 : left ≤ 1048576) (w : World) :
    Calls Try.prog 31 #[.slice A n cap, .int .i64 left] w fun e w' => e = .returned (.int .i64 (szL left n)) ∧ w = w' := by
  unfold szL
  by_cases hl : left < (n : Int)
  · rw [if_pos hl]
    go_enter Try.func31, Try.ntmps31
    go_wp2
    go_ret
    exact ⟨rfl, rfl⟩
  · rw [if_neg hl]
    go_enter Try.func31, Try.ntmps31
    go_wp2
    go_ret
    exact ⟨rfl, rfl⟩

theorem c_szSheet (wide high : Int) (wrap : Bool) (A : Option Addr) (c : Nat) (B : Option Addr) (d : Nat) (n m : Nat) (left : Int) (hn : n ≤ 9223372036854775807) (hm : m ≤ 9223372036854775807) (h0 : 0 ≤ left) (h1 : left ≤ 1048576) (w : World) :
    Calls Try.prog 9 #[.agg #[.int .i64 wide, .int .i64 high, .bool wrap, .slice A n c, .slice B m d], .int .i64 left] w fun e w' => e = .returned (.int .i64 (szL (szL left n) m)) ∧ Below w.heap.size w w' := by
  have H1 : Hid _ := c_szFloat32S A n c left hn h0 h1
  by_cases hneg : szL left n < 0
  · have e : szL (szL left n) m = -1 := szL_neg hneg
    rw [e]
    go_enter Try.func9, Try.ntmps9
    go_wp2_with (go_at_call 31; refine (H1.out _).mono ?_; rintro e w' ⟨rfl, rfl⟩)
    go_ret
    exact ⟨rfl, (Below.refl _ _).alloc (Nat.le_refl _) _⟩
  · have h2 : 0 ≤ szL left n := by omega
    have H2 : Hid _ := c_szFloat32S B m d (szL left n) hm h2 (szL_le h1)
    generalize szL left n = l at *
    by_cases hneg2 : szL l m < 0
    · have e : szL l m = -1 := by
        unfold szL at hneg2 ⊢
        split
        · rfl
        · rename_i h; rw [if_neg h] at hneg2; omega
      go_enter Try.func9, Try.ntmps9
      go_wp2_with (go_at_call 31; first | ((with_reducible refine (H1.out _).mono ?_); rintro e w' ⟨rfl, rfl⟩) | ((with_reducible refine (H2.out _).mono ?_); rintro e w' ⟨rfl, rfl⟩))
      go_ret
      exact ⟨by rw [e]; rfl, (Below.refl _ _).alloc (Nat.le_refl _) _⟩
    · go_enter Try.func9, Try.ntmps9
      go_wp2_with (go_at_call 31; first | ((with_reducible refine (H1.out _).mono ?_); rintro e w' ⟨rfl, rfl⟩) | ((with_reducible refine (H2.out _).mono ?_); rintro e w' ⟨rfl, rfl⟩))
      go_ret
      exact ⟨rfl, (Below.refl _ _).alloc (Nat.le_refl _) _⟩

theorem Fl32.set {w : World} {b : Nat} {off : Nat} {xs : List Nat} (h : Fl32 w (some ⟨b, off, none⟩) xs) {p : Addr} (hne : b ≠ p.block) (v : Value) : Fl32 (w.setCell p v) (some ⟨b, off, none⟩) xs := by
  rcases h with rfl | ⟨b', off', he, hb, hc⟩
  · exact .inl rfl
  · obtain ⟨rfl, rfl⟩ : b = b' ∧ off = off' := by simpa using he
    refine .inr ⟨b, off, rfl, by simpa using hb, fun j hj => ?_⟩
    rw [← hc j hj]
    exact World.cell?_of_block (w := w) (Below.heap_setCell w p v b hne)

theorem c_toSheet (wide high : Int) (wrap : Bool) (A : Option Addr) (c : Nat) (B : Option Addr) (d : Nat) (xs ys : List Nat) (w : World) (hA : Fl32 w A xs) (hB : Fl32 w B ys) (hx : xs.length ≤ 1048576) (hy : ys.length ≤ 1048576) :
    Calls Try.prog 11 #[.agg #[.int .i64 wide, .int .i64 high, .bool wrap, .slice A xs.length c, .slice B ys.length d]] w fun e w' => ∃ A' B', e = .returned (.agg #[.int .i64 wide, .int .i64 high, .bool wrap, .slice A' xs.length xs.length, .slice B' ys.length ys.length]) ∧ Below w.heap.size w w' ∧ w.heap.size < w'.heap.size ∧ Fl32 w' A' xs ∧ Fl32 w' B' ys := by
  go_enter Try.func11, Try.ntmps11
  go_wp2_with fail
  go_at_call 33
  have hB0 : Below w.heap.size w (((w.alloc (Obj.cells #[.int .i64 wide, .int .i64 high, .bool wrap, .slice A xs.length c, .slice B ys.length d] 24)).alloc (Obj.cells #[.int .i64 0, .int .i64 0, .bool false, .slice none 0 0, .slice none 0 0] 27)).alloc (Obj.cells #[.int .i64 wide, .int .i64 high, .bool wrap, .slice none 0 0, .slice none 0 0] 27)) := (((Below.refl _ _).alloc (Nat.le_refl _) _).alloc (by simp) _).alloc (by simp; omega) _
  refine (c_toFloat32S A c xs _ (hA.keep hB0 (Nat.le_refl _)) hx).mono ?_
  rintro e w1 ⟨rfl, hB1, hs1, hF1⟩
  obtain ⟨hc, hf⟩ := bcell hB1
  have hB1' := hB0.trans (hB1.mono hB0.size)
  simp at hs1 hF1
  clear hB0
  go_wp2_with fail
  go_at_call 33
  have hB2 := hB1'.setCell (p := ⟨w.heap.size + 1 + 1, 3, none⟩) (by show w.heap.size ≤ w.heap.size + 1 + 1; omega) (Value.slice (some { block := w.heap.size + 1 + 1 + 1, off := 0 }) xs.length xs.length)
  have hF2 := hF1.set (p := ⟨w.heap.size + 1 + 1, 3, none⟩) (by show w.heap.size + 1 + 1 + 1 ≠ w.heap.size + 1 + 1; omega) (Value.slice (some { block := w.heap.size + 1 + 1 + 1, off := 0 }) xs.length xs.length)
  refine (c_toFloat32S B d ys _ (hB.keep hB2 (Nat.le_refl _)) hy).mono ?_
  rintro e w3 ⟨rfl, hB3, hs3, hF3⟩
  obtain ⟨hc3, hf3⟩ := bcell hB3
  have k0 : w.heap.size < w1.heap.size := by omega
  have k1 : w.heap.size + 1 < w1.heap.size := by omega
  have k2 : w.heap.size + 1 + 1 < w1.heap.size := by omega
  go_wp2_with fail
  have hB4 := hB2.trans (hB3.mono hB2.size)
  have hF4 := hF2.keep hB3 (Nat.le_refl _)
  simp at hs3 hF3
  refine bodyPost_ret (v := .agg #[.int .i64 wide, .int .i64 high, .bool wrap, .slice (some ⟨w.heap.size + 1 + 1 + 1, 0, none⟩) xs.length xs.length, .slice (some ⟨w1.heap.size, 0, none⟩) ys.length ys.length]) (by simp [results, Try.results11, go_sem, hc3, hf3, hc, hf, k0, k1, k2]) rfl ⟨_, _, rfl, ?_, ?_, ?_, ?_⟩
  · exact (((((hB4.setCell (by first | (simp; done) | (simp; omega)) _).setCell (by first | (simp; done) | (simp; omega)) _).setCell (by first | (simp; done) | (simp; omega)) _).setCell (by first | (simp; done) | (simp; omega)) _).setCell (by first | (simp; done) | (simp; omega)) _).setCell (by first | (simp; done) | (simp; omega)) _
  · simp; omega
  · exact (((((hF4.set (by first | (simp; done) | (simp; omega)) _).set (by first | (simp; done) | (simp; omega)) _).set (by first | (simp; done) | (simp; omega)) _).set (by first | (simp; done) | (simp; omega)) _).set (by first | (simp; done) | (simp; omega)) _).set (by first | (simp; done) | (simp; omega)) _
  · exact (((((hF3.set (by first | (simp; done) | (simp; omega)) _).set (by first | (simp; done) | (simp; omega)) _).set (by first | (simp; done) | (simp; omega)) _).set (by first | (simp; done) | (simp; omega)) _).set (by first | (simp; done) | (simp; omega)) _).set (by first | (simp; done) | (simp; omega)) _

theorem c_eqSheet (wide high : Int) (wrap : Bool) (A A' : Option Addr) (c c' : Nat) (B B' : Option Addr) (d d' : Nat) (xs ys : List Nat) (w : World) (hA : Fl32 w A xs) (hA' : Fl32 w A' xs) (hB : Fl32 w B ys) (hB' : Fl32 w B' ys) (ax : All32 xs) (ay : All32 ys) (hx : xs.length ≤ 1048576) (hy : ys.length ≤ 1048576) :
    Calls Try.prog 13 #[.agg #[.int .i64 wide, .int .i64 high, .bool wrap, .slice A xs.length c, .slice B ys.length d], .agg #[.int .i64 wide, .int .i64 high, .bool wrap, .slice A' xs.length c', .slice B' ys.length d']] w fun e w' => e = .returned (.bool true) ∧ Below w.heap.size w w' := by
  have hB0 : Below w.heap.size w ((w.alloc (Obj.cells #[.int .i64 wide, .int .i64 high, .bool wrap, .slice A xs.length c, .slice B ys.length d] 27)).alloc (Obj.cells #[.int .i64 wide, .int .i64 high, .bool wrap, .slice A' xs.length c', .slice B' ys.length d'] 27)) := ((Below.refl _ _).alloc (Nat.le_refl _) _).alloc (by simp) _
  have e1 := hA.keep hB0 (Nat.le_refl _)
  have e2 := hA'.keep hB0 (Nat.le_refl _)
  have e3 := hB.keep hB0 (Nat.le_refl _)
  have e4 := hB'.keep hB0 (Nat.le_refl _)
  have E1 : Hid _ := e1
  have E2 : Hid _ := e2
  have E3 : Hid _ := e3
  have E4 : Hid _ := e4
  have HB : Hid _ := hB0
  clear hB0 e1 e2 e3 e4
  go_enter Try.func13, Try.ntmps13
  go_wp2_with fail
  go_at_call 36
  refine (c_eqFloat32S A A' c c' xs _ E1.out E2.out ax (by omega)).mono ?_
  rintro e w' ⟨rfl, m, rfl⟩
  go_wp2_with fail
  go_at_call 36
  refine (c_eqFloat32S B B' d d' ys _ (Fl32.drewN E3.out m) (Fl32.drewN E4.out m) ay (by omega)).mono ?_
  rintro e w' ⟨rfl, m', rfl⟩
  go_wp2_with fail
  go_ret
  exact ⟨rfl, below_n HB.out _⟩

theorem c_szField (A : Option Addr) (c : Nat) (B : Option Addr) (d : Nat) (C : Option Addr) (q : Nat) (n m k : Nat) (left : Int) (hn : n ≤ 9223372036854775807) (hm : m ≤ 9223372036854775807) (hk : k ≤ 9223372036854775807) (h0 : 0 ≤ left) (h1 : left ≤ 1048576) (w : World) :
    Calls Try.prog 14 #[.agg #[.slice A n c, .slice B m d, .slice C k q], .int .i64 left] w fun e w' => e = .returned (.int .i64 (szL (szL (szL left n) m) k)) ∧ Below w.heap.size w w' := by
  have H1 : Hid _ := c_szFloat32S A n c left hn h0 h1
  have szm : ∀ (l : Int) (p : Nat), szL l p < 0 → szL l p = -1 := by
    intro l p h
    unfold szL at h ⊢
    split
    · rfl
    · rename_i h'; rw [if_neg h'] at h; omega
  by_cases hneg : szL left n < 0
  · have e : szL (szL (szL left n) m) k = -1 := by rw [szL_neg hneg]; exact szL_neg (by omega)
    rw [e]
    go_enter Try.func14, Try.ntmps14
    go_wp2_with (go_at_call 31; refine (H1.out _).mono ?_; rintro e w' ⟨rfl, rfl⟩)
    go_ret
    exact ⟨rfl, (Below.refl _ _).alloc (Nat.le_refl _) _⟩
  · have h2 : 0 ≤ szL left n := by omega
    have h3 : szL left n ≤ 1048576 := szL_le h1
    have H2 : Hid _ := c_szFloat32S B m d (szL left n) hm h2 h3
    generalize szL left n = l at *
    by_cases hneg2 : szL l m < 0
    · have e : szL (szL l m) k = -1 := szL_neg hneg2
      rw [e]
      clear szm
      go_enter Try.func14, Try.ntmps14
      go_wp2_with (go_at_call 31; first | ((with_reducible refine (H1.out _).mono ?_); rintro e w' ⟨rfl, rfl⟩) | ((with_reducible refine (H2.out _).mono ?_); rintro e w' ⟨rfl, rfl⟩))
      go_ret
      exact ⟨rfl, (Below.refl _ _).alloc (Nat.le_refl _) _⟩
    · have h4 : 0 ≤ szL l m := by omega
      have h5 : szL l m ≤ 1048576 := szL_le h3
      have H3 : Hid _ := c_szFloat32S C k q (szL l m) hk h4 h5
      generalize szL l m = l2 at *
      by_cases hneg3 : szL l2 k < 0
      · have e := szm _ _ hneg3
        clear szm
        have E : Hid _ := e
        clear e
        go_enter Try.func14, Try.ntmps14
        go_wp2_with (go_at_call 31; first | ((with_reducible refine (H1.out _).mono ?_); rintro e w' ⟨rfl, rfl⟩) | ((with_reducible refine (H2.out _).mono ?_); rintro e w' ⟨rfl, rfl⟩) | ((with_reducible refine (H3.out _).mono ?_); rintro e w' ⟨rfl, rfl⟩))
        go_ret
        exact ⟨by rw [E.out]; rfl, (Below.refl _ _).alloc (Nat.le_refl _) _⟩
      · clear szm
        go_enter Try.func14, Try.ntmps14
        go_wp2_with (go_at_call 31; first | ((with_reducible refine (H1.out _).mono ?_); rintro e w' ⟨rfl, rfl⟩) | ((with_reducible refine (H2.out _).mono ?_); rintro e w' ⟨rfl, rfl⟩) | ((with_reducible refine (H3.out _).mono ?_); rintro e w' ⟨rfl, rfl⟩))
        go_ret
        exact ⟨rfl, (Below.refl _ _).alloc (Nat.le_refl _) _⟩

theorem c_toField (A : Option Addr) (c : Nat) (B : Option Addr) (d : Nat) (C : Option Addr) (q : Nat) (xs ys zs : List Nat) (w : World) (hA : Fl32 w A xs) (hB : Fl32 w B ys) (hC : Fl32 w C zs) (hx : xs.length ≤ 1048576) (hy : ys.length ≤ 1048576) (hz : zs.length ≤ 1048576) :
    Calls Try.prog 16 #[.agg #[.slice A xs.length c, .slice B ys.length d, .slice C zs.length q]] w fun e w' => ∃ A' B' C', e = .returned (.agg #[.slice A' xs.length xs.length, .slice B' ys.length ys.length, .slice C' zs.length zs.length]) ∧ Below w.heap.size w w' ∧ w.heap.size < w'.heap.size ∧ Fl32 w' A' xs ∧ Fl32 w' B' ys ∧ Fl32 w' C' zs := by
  go_enter Try.func16, Try.ntmps16
  go_wp2_with fail
  go_at_call 33
  have hB0 : Below w.heap.size w (((w.alloc (Obj.cells #[.slice A xs.length c, .slice B ys.length d, .slice C zs.length q] 32)).alloc (Obj.cells #[.slice none 0 0, .slice none 0 0, .slice none 0 0] 35)).alloc (Obj.cells #[.slice none 0 0, .slice none 0 0, .slice none 0 0] 35)) := (((Below.refl _ _).alloc (Nat.le_refl _) _).alloc (by simp) _).alloc (by simp; omega) _
  refine (c_toFloat32S A c xs _ (hA.keep hB0 (Nat.le_refl _)) hx).mono ?_
  rintro e w1 ⟨rfl, hB1, hs1, hF1⟩
  obtain ⟨hc, hf⟩ := bcell hB1
  have hB1' := hB0.trans (hB1.mono hB0.size)
  simp at hs1 hF1
  clear hB0
  go_wp2_with fail
  go_at_call 33
  have hB2 := hB1'.setCell (p := ⟨w.heap.size + 1 + 1, 0, none⟩) (by show w.heap.size ≤ w.heap.size + 1 + 1; omega) (Value.slice (some { block := w.heap.size + 1 + 1 + 1, off := 0 }) xs.length xs.length)
  have hF2 := hF1.set (p := ⟨w.heap.size + 1 + 1, 0, none⟩) (by show w.heap.size + 1 + 1 + 1 ≠ w.heap.size + 1 + 1; omega) (Value.slice (some { block := w.heap.size + 1 + 1 + 1, off := 0 }) xs.length xs.length)
  refine (c_toFloat32S B d ys _ (hB.keep hB2 (Nat.le_refl _)) hy).mono ?_
  rintro e w3 ⟨rfl, hB3, hs3, hF3⟩
  obtain ⟨hc3, hf3⟩ := bcell hB3
  have k0 : w.heap.size < w1.heap.size := by omega
  have k1 : w.heap.size + 1 < w1.heap.size := by omega
  have k2 : w.heap.size + 1 + 1 < w1.heap.size := by omega
  have hB4 := hB2.trans (hB3.mono hB2.size)
  have hF4 := hF2.keep hB3 (Nat.le_refl _)
  simp at hs3 hF3
  go_wp2_with fail
  go_at_call 33
  have hB5 := hB4.setCell (p := ⟨w.heap.size + 1 + 1, 1, none⟩) (by show w.heap.size ≤ w.heap.size + 1 + 1; omega) (Value.slice (some { block := w1.heap.size, off := 0 }) ys.length ys.length)
  have hF5 := hF4.set (p := ⟨w.heap.size + 1 + 1, 1, none⟩) (by show w.heap.size + 1 + 1 + 1 ≠ w.heap.size + 1 + 1; omega) (Value.slice (some { block := w1.heap.size, off := 0 }) ys.length ys.length)
  have hG5 := hF3.set (p := ⟨w.heap.size + 1 + 1, 1, none⟩) (by show w1.heap.size ≠ w.heap.size + 1 + 1; omega) (Value.slice (some { block := w1.heap.size, off := 0 }) ys.length ys.length)
  refine (c_toFloat32S C q zs _ (hC.keep hB5 (Nat.le_refl _)) hz).mono ?_
  rintro e w5 ⟨rfl, hB6, hs6, hF6⟩
  obtain ⟨hc6, hf6⟩ := bcell hB6
  have k3 : w.heap.size < w3.heap.size := by omega
  have k4 : w.heap.size + 1 < w3.heap.size := by omega
  have k5 : w.heap.size + 1 + 1 < w3.heap.size := by omega
  have hB7 := hB5.trans (hB6.mono hB5.size)
  have hF7 := hF5.keep hB6 (Nat.le_refl _)
  have hG7 := hG5.keep hB6 (Nat.le_refl _)
  simp at hs6 hF6
  go_wp2_with fail
  refine bodyPost_ret (v := .agg #[.slice (some ⟨w.heap.size + 1 + 1 + 1, 0, none⟩) xs.length xs.length, .slice (some ⟨w1.heap.size, 0, none⟩) ys.length ys.length, .slice (some ⟨w3.heap.size, 0, none⟩) zs.length zs.length]) (by simp [results, Try.results16, go_sem, hc3, hf3, hc, hf, hc6, hf6, k0, k1, k2, k3, k4, k5]) rfl ⟨_, _, _, rfl, ?_, ?_, ?_, ?_, ?_⟩
  · exact ((((hB7).setCell (by first | (simp; done) | (simp; omega)) _).setCell (by first | (simp; done) | (simp; omega)) _).setCell (by first | (simp; done) | (simp; omega)) _).setCell (by first | (simp; done) | (simp; omega)) _
  · simp; omega
  · exact ((((hF7).set (by first | (simp; done) | (simp; omega)) _).set (by first | (simp; done) | (simp; omega)) _).set (by first | (simp; done) | (simp; omega)) _).set (by first | (simp; done) | (simp; omega)) _
  · exact ((((hG7).set (by first | (simp; done) | (simp; omega)) _).set (by first | (simp; done) | (simp; omega)) _).set (by first | (simp; done) | (simp; omega)) _).set (by first | (simp; done) | (simp; omega)) _
  · exact ((((hF6).set (by first | (simp; done) | (simp; omega)) _).set (by first | (simp; done) | (simp; omega)) _).set (by first | (simp; done) | (simp; omega)) _).set (by first | (simp; done) | (simp; omega)) _

theorem c_eqField (A A' : Option Addr) (c c' : Nat) (B B' : Option Addr) (d d' : Nat) (C C' : Option Addr) (q q' : Nat) (xs ys zs : List Nat) (w : World) (hA : Fl32 w A xs) (hA' : Fl32 w A' xs) (hB : Fl32 w B ys) (hB' : Fl32 w B' ys) (hC : Fl32 w C zs) (hC' : Fl32 w C' zs) (ax : All32 xs) (ay : All32 ys) (az : All32 zs) (hx : xs.length ≤ 1048576) (hy : ys.length ≤ 1048576) (hz : zs.length ≤ 1048576) :
    Calls Try.prog 18 #[.agg #[.slice A xs.length c, .slice B ys.length d, .slice C zs.length q], .agg #[.slice A' xs.length c', .slice B' ys.length d', .slice C' zs.length q']] w fun e w' => e = .returned (.bool true) ∧ Below w.heap.size w w' := by
  have hB0 : Below w.heap.size w ((w.alloc (Obj.cells #[.slice A xs.length c, .slice B ys.length d, .slice C zs.length q] 35)).alloc (Obj.cells #[.slice A' xs.length c', .slice B' ys.length d', .slice C' zs.length q'] 35)) := ((Below.refl _ _).alloc (Nat.le_refl _) _).alloc (by simp) _
  have e1 := hA.keep hB0 (Nat.le_refl _)
  have e2 := hA'.keep hB0 (Nat.le_refl _)
  have e3 := hB.keep hB0 (Nat.le_refl _)
  have e4 := hB'.keep hB0 (Nat.le_refl _)
  have e5 := hC.keep hB0 (Nat.le_refl _)
  have e6 := hC'.keep hB0 (Nat.le_refl _)
  have E1 : Hid _ := e1
  have E2 : Hid _ := e2
  have E3 : Hid _ := e3
  have E4 : Hid _ := e4
  have E5 : Hid _ := e5
  have E6 : Hid _ := e6
  have HB : Hid _ := hB0
  clear hB0 e1 e2 e3 e4 e5 e6
  go_enter Try.func18, Try.ntmps18
  go_wp2_with fail
  go_at_call 36
  refine (c_eqFloat32S A A' c c' xs _ E1.out E2.out ax (by omega)).mono ?_
  rintro e w' ⟨rfl, m, rfl⟩
  go_wp2_with fail
  go_at_call 36
  refine (c_eqFloat32S B B' d d' ys _ (Fl32.drewN E3.out m) (Fl32.drewN E4.out m) ay (by omega)).mono ?_
  rintro e w' ⟨rfl, m', rfl⟩
  go_wp2_with fail
  go_at_call 36
  refine (c_eqFloat32S C C' q q' zs _ (Fl32.drewN E5.out _) (Fl32.drewN E6.out _) az (by omega)).mono ?_
  rintro e w' ⟨rfl, m'', rfl⟩
  go_wp2_with fail
  go_ret
  exact ⟨rfl, below_n HB.out _⟩

end Go.Proofs.Ytbfilganggllkaa
