/-
The law on ValidSheet.
-/
import Derived.Test.YtbfilganggllkaaSv
import Derived.Deep.RegionHeld3
set_option linter.unusedVariables false
set_option linter.unusedSimpArgs false
namespace Go.Proofs.Ytbfilganggllkaa
open Fl Go.RowKit

theorem keepC {w' w'' : World} {b : Nat} (hb : Below w'.heap.size w' w'') (h : b < w'.heap.size) {j : Nat} {v : Value} (hc : w'.cell? ⟨b, j, none⟩ = some v) : w''.cell? ⟨b, j, none⟩ = some v := (hb.cell (p := ⟨b, j, none⟩) h).trans hc

theorem c_specValid (wide high : Int) (wrap : Bool) (A : Option Addr) (c : Nat) (B : Option Addr) (d : Nat) (xs ys : List Nat) (w : World) (hA : Fl32 w A xs) (hB : Fl32 w B ys) (hx : xs.length ≤ 1048576) (hy : ys.length ≤ 1048576) :
    Calls Try.prog 10 #[.agg #[.int .i64 wide, .int .i64 high, .bool wrap, .slice A xs.length c, .slice B ys.length d]] w fun e w' => e = .returned (.bool (sheetV wide high xs ys)) ∧ Below w.heap.size w w' := by
  have hB0 : Below w.heap.size w (w.alloc (Obj.cells #[.int .i64 wide, .int .i64 high, .bool wrap, .slice A xs.length c, .slice B ys.length d] 27)) := (Below.refl _ _).alloc (Nat.le_refl _) _
  have H : Hid _ := c_l02Is w.heap.size wide high A c B d xs ys (w.alloc (Obj.cells #[.int .i64 wide, .int .i64 high, .bool wrap, .slice A xs.length c, .slice B ys.length d] 27)) (by simp [go_sem]) (by simp [go_sem]) (by simp [go_sem]) (by simp [go_sem]) (hA.keep hB0 (Nat.le_refl _)) (hB.keep hB0 (Nat.le_refl _)) hx hy
  go_enter Try.func10, Try.ntmps10
  go_wp2_with fail
  go_at_call 32
  refine Calls.mono H.out ?_
  rintro e w' ⟨rfl, m, rfl⟩
  go_wp2_with fail
  go_ret
  exact ⟨rfl, below_n hB0 _⟩

theorem c_implValid (wide high : Int) (wrap : Bool) (A : Option Addr) (c : Nat) (B : Option Addr) (d : Nat) (xs ys : List Nat) (w : World) (hA : Fl32 w A xs) (hB : Fl32 w B ys) (hx : xs.length ≤ 1048576) (hy : ys.length ≤ 1048576) :
    Calls Try.prog 12 #[.agg #[.int .i64 wide, .int .i64 high, .bool wrap, .slice A xs.length c, .slice B ys.length d]] w fun e w' => e = .returned (.bool (sheetV wide high xs ys)) ∧ Below w.heap.size w w' := by
  have hB0 : Below w.heap.size w (w.alloc (Obj.cells #[.int .i64 wide, .int .i64 high, .bool wrap, .slice A xs.length c, .slice B ys.length d] 27)) := (Below.refl _ _).alloc (Nat.le_refl _) _
  have W1 : Hid _ := c_within wide 3 16
  have W2 : Hid _ := c_within high 3 16
  have X1 : Hid _ := c_areBetween A c 1056964608 xs _ (hA.keep hB0 (Nat.le_refl _)) (by omega)
  have X2 : Hid _ := c_areBetween B d 1065353216 ys _ (hB.keep hB0 (Nat.le_refl _)) (by omega)
  clear hA hB
  cases h1 : inV wide 3 16
  · have hv : sheetV wide high xs ys = false := by unfold sheetV sidesV; rw [h1]; rfl
    rw [hv]
    go_enter Try.func12, Try.ntmps12
    go_wp2_with (go_at_call 34; (with_reducible refine (W1.out _).mono ?_); rw [h1]; rintro e w' ⟨rfl, rfl⟩)
    go_ret
    exact ⟨rfl, hB0⟩
  · cases h2 : inV high 3 16
    · have hv : sheetV wide high xs ys = false := by unfold sheetV sidesV; rw [h1, h2]; rfl
      rw [hv]
      go_enter Try.func12, Try.ntmps12
      go_wp2_with (go_at_call 34; first | ((with_reducible refine (W1.out _).mono ?_); rw [h1]; rintro e w' ⟨rfl, rfl⟩) | ((with_reducible refine (W2.out _).mono ?_); rw [h2]; rintro e w' ⟨rfl, rfl⟩))
      go_ret
      exact ⟨rfl, hB0⟩
    · have hsd : sidesV wide high = true := by unfold sidesV; rw [h1, h2]; rfl
      obtain ⟨a1, a2, a3, a4⟩ := sides_iff.1 hsd
      obtain ⟨m1, m2⟩ := mul_bound a1 a2 a3 a4
      by_cases hlx : (xs.length : Int) = wide * high
      · by_cases hly : (ys.length : Int) = wide * high
        · have hv : sheetV wide high xs ys = (allV 1056964608 xs && allV 1065353216 ys) := by unfold sheetV; rw [hsd, decide_eq_true hlx, decide_eq_true hly]; rfl
          rw [hv]
          clear hv
          cases hb : allV 1056964608 xs
          · go_enter Try.func12, Try.ntmps12
            go_wp2_with (first | (go_at_call 34; first | ((with_reducible refine (W1.out _).mono ?_); rw [h1]; rintro e w' ⟨rfl, rfl⟩) | ((with_reducible refine (W2.out _).mono ?_); rw [h2]; rintro e w' ⟨rfl, rfl⟩)) | (go_at_call 35; refine Calls.mono X1.out ?_; rw [hb]; rintro e w' ⟨rfl, rfl⟩))
            go_ret
            exact ⟨rfl, hB0⟩
          · go_enter Try.func12, Try.ntmps12
            go_wp2_with (go_at_call 34; first | ((with_reducible refine (W1.out _).mono ?_); rw [h1]; rintro e w' ⟨rfl, rfl⟩) | ((with_reducible refine (W2.out _).mono ?_); rw [h2]; rintro e w' ⟨rfl, rfl⟩))
            go_at_call 35
            refine Calls.mono X1.out ?_
            rw [hb]
            rintro e w' ⟨rfl, rfl⟩
            go_wp2_with fail
            go_at_call 35
            refine Calls.mono X2.out ?_
            rintro e w' ⟨rfl, rfl⟩
            go_wp2_with fail
            go_ret
            exact ⟨rfl, hB0⟩
        · have hv : sheetV wide high xs ys = false := by unfold sheetV; rw [hsd, decide_eq_true hlx, decide_eq_false hly]; rfl
          rw [hv]
          go_enter Try.func12, Try.ntmps12
          go_wp2_with (go_at_call 34; first | ((with_reducible refine (W1.out _).mono ?_); rw [h1]; rintro e w' ⟨rfl, rfl⟩) | ((with_reducible refine (W2.out _).mono ?_); rw [h2]; rintro e w' ⟨rfl, rfl⟩))
          go_ret
          exact ⟨by first | rfl | (exact ret_bool (by simpa using hly)), hB0⟩
      · have hv : sheetV wide high xs ys = false := by unfold sheetV; rw [hsd, decide_eq_false hlx]; rfl
        rw [hv]
        go_enter Try.func12, Try.ntmps12
        go_wp2_with (go_at_call 34; first | ((with_reducible refine (W1.out _).mono ?_); rw [h1]; rintro e w' ⟨rfl, rfl⟩) | ((with_reducible refine (W2.out _).mono ?_); rw [h2]; rintro e w' ⟨rfl, rfl⟩))
        go_ret
        exact ⟨by first | rfl | (exact ret_bool (by simpa using hlx)), hB0⟩


theorem law_valid (wide high : Int) (wrap : Bool) (A : Option Addr) (c : Nat) (B : Option Addr) (d : Nat) (xs ys : List Nat) (w : World) (hA : Fl32 w A xs) (hB : Fl32 w B ys) (ax : All32 xs) (ay : All32 ys) (hx : xs.length ≤ 9223372036854775807) (hy : ys.length ≤ 9223372036854775807) :
    Calls Try.prog 3 #[.agg #[.int .i64 wide, .int .i64 high, .bool wrap, .slice A xs.length c, .slice B ys.length d]] w (Law w) := by
  have HZ : Hid _ := c_szSheet wide high wrap A c B d xs.length ys.length 1048576 hx hy (by decide) (by decide)
  have hB0 : Below w.heap.size w (w.alloc (Obj.cells #[.int .i64 wide, .int .i64 high, .bool wrap, .slice A xs.length c, .slice B ys.length d] 24)) := (Below.refl _ _).alloc (Nat.le_refl _) _
  by_cases hneg : szL (szL 1048576 xs.length) ys.length < 0
  · go_enter Try.func3, Try.ntmps3
    go_wp2_with fail
    go_at_call 9
    refine (HZ.out _).mono ?_
    rintro e w1 ⟨rfl, hB1⟩
    go_wp2_with fail
    go_ret
    exact ⟨rfl, hB0.trans (hB1.mono hB0.size)⟩
  · have hx2 : xs.length ≤ 1048576 := by
      unfold szL at hneg
      split at hneg <;> split at hneg <;> omega
    have hy2 : ys.length ≤ 1048576 := by
      unfold szL at hneg
      split at hneg <;> split at hneg <;> omega
    have hA0 := hA.keep hB0 (Nat.le_refl _)
    have hC0 := hB.keep hB0 (Nat.le_refl _)
    go_enter Try.func3, Try.ntmps3
    go_wp2_with fail
    go_at_call 9
    refine (HZ.out _).mono ?_
    rintro e w1 ⟨rfl, hB1⟩
    obtain ⟨hc1, hf1⟩ := bcell hB1
    have HB1 : Hid (∀ (j : Nat) (v : Value), (w.alloc (Obj.cells #[.int .i64 wide, .int .i64 high, .bool wrap, .slice A xs.length c, .slice B ys.length d] 24)).cell? ⟨w.heap.size, j, none⟩ = some v → w1.cell? ⟨w.heap.size, j, none⟩ = some v) := fun j v h => keepC hB1 (by simp) h
    have hB1' := hB0.trans (hB1.mono hB0.size)
    have hA1 := hA0.keep hB1 (Nat.le_refl _)
    have hC1 := hC0.keep hB1 (Nat.le_refl _)
    have k1 : w.heap.size < w1.heap.size := by have := hB1.size; simp at this; omega
    clear hB0 hA0 hC0 hB1
    go_wp2_with fail
    go_at_call 11
    refine (c_toSheet wide high wrap A c B d xs ys _ hA1 hC1 hx2 hy2).mono ?_
    rintro e w2 ⟨A2, B2, rfl, hB2, hs2, hA2, hC2⟩
    obtain ⟨hc2, hf2⟩ := bcell hB2
    go_wp2_with fail
    go_at_call 10
    refine (c_specValid wide high wrap A2 _ B2 _ xs ys _ hA2 hC2 hx2 hy2).mono ?_
    rintro e w3 ⟨rfl, hB3⟩
    obtain ⟨hc3, hf3⟩ := bcell hB3
    have k2 : w.heap.size < w2.heap.size := by omega
    have k3 : w.heap.size < w3.heap.size := by have := hB3.size; omega
    have hB3' := hB1'.trans ((hB2.mono (Nat.le_of_lt k1)).trans (hB3.mono (Nat.le_of_lt k2)))
    have hA3 := (hA1.keep hB2 (Nat.le_refl _)).keep hB3 (Nat.le_refl _)
    have hC3 := (hC1.keep hB2 (Nat.le_refl _)).keep hB3 (Nat.le_refl _)
    clear hA1 hC1 hA2 hC2
    go_wp2_with fail
    go_at_call 11
    refine (c_toSheet wide high wrap A c B d xs ys _ hA3 hC3 hx2 hy2).mono ?_
    rintro e w4 ⟨A4, B4, rfl, hB4, hs4, hA4, hC4⟩
    obtain ⟨hc4, hf4⟩ := bcell hB4
    have k4 : w.heap.size < w4.heap.size := by omega
    go_wp2_with fail
    go_at_call 12
    have hB4' := hB3'.trans (hB4.mono (Nat.le_of_lt k3))
    have k40 : w.heap.size < (w4.alloc (Obj.cells #[.int .i64 wide, .int .i64 high, .bool wrap, .slice A4 xs.length xs.length, .slice B4 ys.length ys.length] 27)).heap.size := by simp; omega
    have hW4 : Below w4.heap.size w4 (w4.alloc (Obj.cells #[.int .i64 wide, .int .i64 high, .bool wrap, .slice A4 xs.length xs.length, .slice B4 ys.length ys.length] 27)) := (Below.refl _ _).alloc (Nat.le_refl _) _
    refine (c_implValid wide high wrap A4 _ B4 _ xs ys _ (hA4.keep hW4 (Nat.le_refl _)) (hC4.keep hW4 (Nat.le_refl _)) hx2 hy2).mono ?_
    rintro e w5 ⟨rfl, hB5⟩
    obtain ⟨hc5, hf5⟩ := bcell hB5
    have hX : ∀ (j : Nat) (v : Value), (w4.alloc (Obj.cells #[.int .i64 wide, .int .i64 high, .bool wrap, .slice A4 xs.length xs.length, .slice B4 ys.length ys.length] 27)).cell? ⟨w4.heap.size, j, none⟩ = some v → w5.cell? ⟨w4.heap.size, j, none⟩ = some v := fun j v h => keepC hB5 (by simp) h
    have hY : ∀ (j : Nat) (v : Value), (w.alloc (Obj.cells #[.int .i64 wide, .int .i64 high, .bool wrap, .slice A xs.length c, .slice B ys.length d] 24)).cell? ⟨w.heap.size, j, none⟩ = some v → w5.cell? ⟨w.heap.size, j, none⟩ = some v := fun j v h => keepC hB5 (by simp; omega) (keepC hW4 k4 (keepC hB4 k3 (keepC hB3 k2 (keepC hB2 k1 (HB1.out j v h)))))
    have y0 := hY 0 _ (by simp [go_sem]; rfl)
    have y1 := hY 1 _ (by simp [go_sem]; rfl)
    have y2 := hY 2 _ (by simp [go_sem]; rfl)
    have y3 := hY 3 _ (by simp [go_sem]; rfl)
    have y4 := hY 4 _ (by simp [go_sem]; rfl)
    have x0 := hX 0 _ (by simp [go_sem]; rfl)
    have x1 := hX 1 _ (by simp [go_sem]; rfl)
    have x2 := hX 2 _ (by simp [go_sem]; rfl)
    have x3 := hX 3 _ (by simp [go_sem]; rfl)
    have x4 := hX 4 _ (by simp [go_sem]; rfl)
    have z0 : w.heap.size < w5.heap.size := by have := hB5.size; simp at this; omega
    have z4 : w4.heap.size < w5.heap.size := by have := hB5.size; simp at this; omega
    have hB5' := hB4'.trans ((hW4.mono (Nat.le_of_lt k4)).trans (hB5.mono (Nat.le_of_lt k40)))
    have hA5 := ((hA3.keep hB4 (Nat.le_refl _)).keep hW4 (Nat.le_refl _)).keep hB5 (Nat.le_refl _)
    have hC5 := ((hC3.keep hB4 (Nat.le_refl _)).keep hW4 (Nat.le_refl _)).keep hB5 (Nat.le_refl _)
    have hD5 := (hA4.keep hW4 (Nat.le_refl _)).keep hB5 (Nat.le_refl _)
    have hE5 := (hC4.keep hW4 (Nat.le_refl _)).keep hB5 (Nat.le_refl _)
    clear hX hY hc1 hc2 hc3 hc4 hc5 hf1 hf2 hf3 hf4 hf5 hB5 hW4 hB4 hB3 hB2 hB1' hB3' hB4' hA3 hC3 hA4 hC4
    go_wp2_with fail
    go_region_held3 (fun w' => w'.cell? ⟨w.heap.size, 0, none⟩ = some (.int .i64 wide) ∧ w'.cell? ⟨w.heap.size, 1, none⟩ = some (.int .i64 high) ∧ w'.cell? ⟨w.heap.size, 2, none⟩ = some (.bool wrap) ∧ w'.cell? ⟨w.heap.size, 3, none⟩ = some (.slice A xs.length c) ∧ w'.cell? ⟨w.heap.size, 4, none⟩ = some (.slice B ys.length d) ∧ w'.cell? ⟨w4.heap.size, 0, none⟩ = some (.int .i64 wide) ∧ w'.cell? ⟨w4.heap.size, 1, none⟩ = some (.int .i64 high) ∧ w'.cell? ⟨w4.heap.size, 2, none⟩ = some (.bool wrap) ∧ w'.cell? ⟨w4.heap.size, 3, none⟩ = some (.slice A4 xs.length xs.length) ∧ w'.cell? ⟨w4.heap.size, 4, none⟩ = some (.slice B4 ys.length ys.length))
      (first | assumption | exact ⟨y0, y1, y2, y3, y4, x0, x1, x2, x3, x4⟩)
      (first
        | (go_at_call 11; refine (c_toSheet wide high wrap A c B d xs ys _ (show Fl32 w5.drew A xs from hA5) (show Fl32 w5.drew B ys from hC5) hx2 hy2).mono ?_; rintro e w6 ⟨A6, B6, rfl, hB6, hs6, hA6, hC6⟩; have s6 : w6.cell? ⟨w.heap.size, 0, none⟩ = some (.int .i64 wide) ∧ w6.cell? ⟨w.heap.size, 1, none⟩ = some (.int .i64 high) ∧ w6.cell? ⟨w.heap.size, 2, none⟩ = some (.bool wrap) ∧ w6.cell? ⟨w.heap.size, 3, none⟩ = some (.slice A xs.length c) ∧ w6.cell? ⟨w.heap.size, 4, none⟩ = some (.slice B ys.length d) ∧ w6.cell? ⟨w4.heap.size, 0, none⟩ = some (.int .i64 wide) ∧ w6.cell? ⟨w4.heap.size, 1, none⟩ = some (.int .i64 high) ∧ w6.cell? ⟨w4.heap.size, 2, none⟩ = some (.bool wrap) ∧ w6.cell? ⟨w4.heap.size, 3, none⟩ = some (.slice A4 xs.length xs.length) ∧ w6.cell? ⟨w4.heap.size, 4, none⟩ = some (.slice B4 ys.length ys.length) := ⟨keepC hB6 z0 y0, keepC hB6 z0 y1, keepC hB6 z0 y2, keepC hB6 z0 y3, keepC hB6 z0 y4, keepC hB6 z4 x0, keepC hB6 z4 x1, keepC hB6 z4 x2, keepC hB6 z4 x3, keepC hB6 z4 x4⟩)
        | (go_at_call 13; refine (c_eqSheet wide high wrap A4 A6 _ _ B4 B6 _ _ xs ys _ (Fl32.keep (show Fl32 w5.drew A4 xs from hD5) hB6 (Nat.le_refl _)) hA6 (Fl32.keep (show Fl32 w5.drew B4 ys from hE5) hB6 (Nat.le_refl _)) hC6 ax ay hx2 hy2).mono ?_; rintro e w7 ⟨rfl, hB7⟩; have zz0 : w.heap.size < w6.heap.size := Nat.lt_trans z0 hs6; have zz4 : w4.heap.size < w6.heap.size := Nat.lt_trans z4 hs6; have s7 : w7.cell? ⟨w.heap.size, 0, none⟩ = some (.int .i64 wide) ∧ w7.cell? ⟨w.heap.size, 1, none⟩ = some (.int .i64 high) ∧ w7.cell? ⟨w.heap.size, 2, none⟩ = some (.bool wrap) ∧ w7.cell? ⟨w.heap.size, 3, none⟩ = some (.slice A xs.length c) ∧ w7.cell? ⟨w.heap.size, 4, none⟩ = some (.slice B ys.length d) ∧ w7.cell? ⟨w4.heap.size, 0, none⟩ = some (.int .i64 wide) ∧ w7.cell? ⟨w4.heap.size, 1, none⟩ = some (.int .i64 high) ∧ w7.cell? ⟨w4.heap.size, 2, none⟩ = some (.bool wrap) ∧ w7.cell? ⟨w4.heap.size, 3, none⟩ = some (.slice A4 xs.length xs.length) ∧ w7.cell? ⟨w4.heap.size, 4, none⟩ = some (.slice B4 ys.length ys.length) := ⟨keepC hB7 zz0 (keepC hB6 z0 y0), keepC hB7 zz0 (keepC hB6 z0 y1), keepC hB7 zz0 (keepC hB6 z0 y2), keepC hB7 zz0 (keepC hB6 z0 y3), keepC hB7 zz0 (keepC hB6 z0 y4), keepC hB7 zz4 (keepC hB6 z4 x0), keepC hB7 zz4 (keepC hB6 z4 x1), keepC hB7 zz4 (keepC hB6 z4 x2), keepC hB7 zz4 (keepC hB6 z4 x3), keepC hB7 zz4 (keepC hB6 z4 x4)⟩))
    go_wp2_with fail
    go_ret
    exact ⟨rfl, hB5'.trans (Below.trans (Below.mono ((Below.refl w5.heap.size w5).drew.trans (show Below w5.heap.size w5.drew w6 from hB6)) (Nat.le_of_lt z0)) (hB7.mono (Nat.le_of_lt zz0)))⟩
theorem walk_FnExactValidSheet (wide high : Int) (wrap : Bool) (A : Option Addr) (c : Nat) (B : Option Addr) (d : Nat) (xs ys : List Nat) (w : World) (hA : Fl32 w A xs) (hB : Fl32 w B ys) (ax : All32 xs) (ay : All32 ys) (hx : xs.length ≤ maxLen) (hy : ys.length ≤ maxLen) :
    Calls Try.prog 3 #[.agg #[.int .i64 wide, .int .i64 high, .bool wrap, .slice A xs.length c, .slice B ys.length d]] w (Law w) := by
  unfold maxLen at hx hy
  exact law_valid wide high wrap A c B d xs ys w hA hB ax ay (by omega) (by omega)

end Go.Proofs.Ytbfilganggllkaa
