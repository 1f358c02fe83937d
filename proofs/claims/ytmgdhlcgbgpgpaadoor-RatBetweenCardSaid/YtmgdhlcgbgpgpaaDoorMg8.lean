/- Texts of ours, laid together: Ym, Vz. -/
import Derived.Test.YtmgdhlcgbgpgpaaDoorMg7
/- RatNews: every two numbers: the fraction in lowest terms, or the error; every whole number. -/
namespace Go.Proofs.YtmgdhlcgbgpgpaaDoor
open Go Go.RowKit
set_option linter.unusedVariables false
set_option linter.unusedSimpArgs false

def tbNewA (g7 g9 g11 : Nat) (s1 s2 ea x y n : Int) (rb : Bool) : List (Nat × Nat × Value) :=
  [(0, 27, .bool true), (1, 28, .bool true), (2, 29, .agg #[.int .i64 s1, .int .i64 s2]), (3, 30, .agg #[.int .i64 s1, .int .i64 s2]), (4, 31, .bool true), (5, 32, .bool true), (6, 33, .bool true), (7, 34, .int .i64 ea), (8, 35, .int .i64 ea), (9, 36, .bool true), (10, 37, .bool true), (11, 38, .bool true), (12, 39, .int .i64 n), (13, 40, .agg #[.int .i64 n, .int .i64 1]), (14, 41, .int .i64 n), (15, 42, .agg #[.int .i64 n, .int .i64 1]), (16, 43, .bool true), (17, 44, .bool true), (18, 45, .bool true), (19, 46, .agg #[.int .i64 x, .int .i64 y]), (20, 47, .bool rb), (21, 48, .agg #[.int .i64 x, .int .i64 y]), (22, 49, .bool rb), (23, 50, .bool true), (24, 51, .bool true), (25, 52, .bool true), (26, 53, .int .i64 ea), (27, 54, .bool false), (28, 55, .bool false), (29, 56, .agg #[.int .i64 s1, .int .i64 s2]), (30, 57, .bool true), (31, 58, .bool true), (32, 59, .bool true), (33, 6, .bool true)]
def bsNewA (g7 g9 g11 : Nat) (s1 s2 ea x y n : Int) (rb : Bool) : List (Nat × Value) := [(2, .int .i64 n), (7, .pointer (some ⟨g7, 0, none⟩)), (8, .int .i64 ea), (9, .pointer (some ⟨g9, 0, none⟩)), (10, .int .i64 ea), (11, .pointer (some ⟨g11, 0, none⟩))]
def tbNewB (g7 g9 g11 : Nat) (s1 s2 ea x y n : Int) (rb : Bool) : List (Nat × Nat × Value) :=
  [(0, 27, .bool true), (1, 28, .bool true), (2, 29, .agg #[.int .i64 s1, .int .i64 s2]), (3, 30, .agg #[.int .i64 s1, .int .i64 s2]), (4, 31, .bool true), (5, 32, .bool true), (6, 33, .bool true), (7, 34, .int .i64 ea), (8, 35, .int .i64 ea), (9, 36, .bool true), (10, 37, .bool true), (11, 38, .bool true), (12, 39, .int .i64 n), (13, 40, .agg #[.int .i64 n, .int .i64 1]), (14, 41, .int .i64 n), (15, 42, .agg #[.int .i64 n, .int .i64 1]), (16, 43, .bool true), (17, 44, .bool true), (18, 45, .bool true), (19, 46, .agg #[.int .i64 x, .int .i64 y]), (20, 47, .bool rb), (21, 48, .agg #[.int .i64 x, .int .i64 y]), (22, 49, .bool rb), (23, 50, .bool true), (24, 51, .bool true), (25, 52, .bool true), (26, 53, .int .i64 ea), (27, 54, .bool true), (28, 55, .bool true), (29, 56, undef), (30, 57, undef), (31, 58, .bool true), (32, 59, .bool true), (33, 6, .bool true)]
def bsNewB (g7 g9 g11 : Nat) (s1 s2 ea x y n : Int) (rb : Bool) : List (Nat × Value) := [(2, .int .i64 n), (7, .pointer (some ⟨g7, 0, none⟩)), (8, .int .i64 ea), (9, .pointer (some ⟨g9, 0, none⟩)), (10, .int .i64 ea), (11, .pointer (some ⟨g11, 0, none⟩))]
theorem new_right {x y : Int} (h : (newP x y).2 = 0) : rightR (newP x y).1 = true := by
  unfold newP at h ⊢
  by_cases hy : y = 0
  · rw [if_pos hy] at h; exact absurd h (by decide)
  · rw [if_neg hy] at h ⊢; exact (frac_right hy h).1
theorem new64 (x y : Int) : I64 (newP x y).1.1 ∧ I64 (newP x y).1.2 := by
  unfold newP
  split
  · exact ⟨zero64, zero64⟩
  · exact frac64 _ _

set_option maxRecDepth 100000 in
set_option maxHeartbeats 16000000 in
theorem news_any (x y n : Int) (w : World) (hx : I64 x) (hy : I64 y) (ht : TabQ w) :
    Calls Tryd.prog 3 #[.int .i64 x, .int .i64 y, .int .i64 n] w fun e w' => e = .returned (.bool true) ∧ Below w.heap.size w w' := by
  obtain ⟨⟨⟨s1, s2⟩, ea⟩, hs⟩ : ∃ q, q = newP x y := ⟨_, rfl⟩
  have HA : Hid (∀ W, Calls Tryd.prog 12 #[.int .i64 x, .int .i64 y] W fun e w' => e = .returned (.tuple #[.agg #[.int .i64 s1, .int .i64 s2], .int .i64 ea]) ∧ Below W.heap.size W w') := Lib.hid (fun W => by have h := new_any x y hx hy W; rw [← hs] at h; exact h)
  have HD : Hid (∀ W, Calls Tryd.prog 13 #[.int .i64 x, .int .i64 y] W fun e w' => e = .returned (.tuple #[.agg #[.int .i64 s1, .int .i64 s2], .int .i64 ea]) ∧ Below W.heap.size W w') := Lib.hid (fun W => by have h := dnew_any x y hx hy W; rw [← hs] at h; exact h)
  have HRA := Lib.hid (fun W => right_any x y hx hy W)
  have HDR := Lib.hid (fun W => dright_any x y hx hy W)
  have h64 := new64 x y
  have hr := new_right (x := x) (y := y)
  rw [← hs] at h64 hr
  have HR2 := Lib.hid (fun W => right_any s1 s2 h64.1 h64.2 W)
  have HR3 := Lib.hid hr
  obtain ⟨rb, hrb⟩ : ∃ q, q = rightR (x, y) := ⟨_, rfl⟩
  rw [← hrb] at HRA HDR
  have K := Lib.hid (RtL.start ht)
  clear hs hrb hx hy ht h64 hr
  go_enter Tryd.func3, Tryd.ntmps3
  go_wp2_with fail
  refine (HA.out _).mono ?_
  rintro e w1 ⟨rfl, hb⟩
  replace K := Lib.hid (K.out.step hb)
  clear hb HA
  go_upto_region 2 with fail
  replace K := Lib.hid (K.out.new s1 s2)
  generalize w1.alloc (.cells #[.int .i64 s1, .int .i64 s2] 23) = w2 at *
  generalize w1.heap.size = g7 at *
  simp only [List.cons_append, List.nil_append] at K
  go_wp2_with fail
  refine (HD.out _).mono ?_
  rintro e w3 ⟨rfl, hb⟩
  replace K := Lib.hid (K.out.step hb)
  clear hb HD
  go_upto_region 3 with fail
  replace K := Lib.hid (K.out.new s1 s2)
  generalize w3.alloc (.cells #[.int .i64 s1, .int .i64 s2] 23) = w4 at *
  generalize w3.heap.size = g9 at *
  simp only [List.cons_append, List.nil_append] at K
  go_upto_region 4 with fail
  replace K := Lib.hid (K.out.new x y)
  generalize hw5 : w4.alloc (.cells #[.int .i64 x, .int .i64 y] 23) = w5 at *
  clear hw5
  generalize w4.heap.size = g11 at *
  simp only [List.cons_append, List.nil_append] at K
  by_cases he : ea = 0
  · have HRS : Hid (∀ W, Calls Tryd.prog 17 #[.agg #[.int .i64 s1, .int .i64 s2]] W fun e w' => e = .returned (.bool true) ∧ Below W.heap.size W w') := Lib.hid (fun W => by have h := HR2.out W; rw [HR3.out he] at h; exact h)
    subst he
    clear HR2 HR3
    refine wp_region_tab (by kernel_rfl) [2, 7, 8, 9, 10, 11, 27, 28, 29, 30, 31, 32, 33, 34, 35, 36, 37, 38, 39, 40, 41, 42, 43, 44, 45, 46, 47, 48, 49, 50, 51, 52, 53, 54, 55, 56, 57, 58, 59, 6] [[], [0], [1], [1], [1, 2, 3], [1, 4], [1, 5], [6], [6], [6, 7, 8], [6, 9], [6, 10], [11], [11, 12], [11], [11, 13, 14], [11, 13, 15], [11, 16], [15, 17], [18], [18, 19], [18], [18, 20, 21], [18, 20, 22], [18, 23], [22, 24], [25], [25, 26], [25, 27], [28], [28, 29], [25, 28, 30], [25, 31], [0, 1, 2, 3, 4, 5, 6, 7, 8, 9, 10, 11, 12, 13, 14, 15, 16, 17, 18, 19, 20, 21, 22, 23, 24, 25, 26, 27, 28, 29, 30, 31, 32]]
      (fun L vals wx => RtL w [(g7, s1, s2), (g9, s1, s2), (g11, x, y)] wx ∧ TabR (tbNewA g7 g9 g11 s1 s2 0 x y n rb) (bsNewA g7 g9 g11 s1 s2 0 x y n rb) L vals) (by kernel_rfl) rfl ?_ ?_ ?_
    · exact ⟨K.out.drew, TabR.start (by simp [bsNewA])⟩
    · intro i hi a L vals wx E hJ hLi hn K hK hK0
      obtain ⟨hI, hT⟩ := hJ
      match i, hi with
      | 0, _ =>
        exact op_goG (args := #[]) rfl rfl rfl rfl Tryd.func14 (by kernel_rfl) rfl (by simp) (live02_any _ hI.tab) (fun w' hb => hK 27 _ _ (by decide) ⟨hI.step hb, hT.set 0 rfl (by kernel_rfl) (by kernel_rfl)⟩)
      | 1, _ => exact op_moveG rfl rfl rfl rfl ((E 27 (by decide)).trans (hT.val 0 rfl (hn 0 (by decide)))) (hK 28 _ _ (by decide) ⟨hI, hT.set 1 rfl (by kernel_rfl) (by kernel_rfl)⟩)
      | 2, _ => exact op_loadG rfl (want_on (d := 28) (b := true) rfl rfl ((E 28 (by decide)).trans (hT.val 1 rfl (hn 1 (by decide))))) rfl rfl Tryd.underlying23 rfl (by kernel_rfl) ((E 7 (by decide)).trans (hT.rd 1 rfl)) (hI.l (g7, s1, s2) (by simp)) (hK 29 _ _ (by decide) ⟨hI, hT.set 2 rfl (by kernel_rfl) (by kernel_rfl)⟩)
      | 3, _ => exact op_loadG rfl (want_on (d := 28) (b := true) rfl rfl ((E 28 (by decide)).trans (hT.val 1 rfl (hn 1 (by decide))))) rfl rfl Tryd.underlying23 rfl (by kernel_rfl) ((E 9 (by decide)).trans (hT.rd 3 rfl)) (hI.l (g9, s1, s2) (by simp)) (hK 30 _ _ (by decide) ⟨hI, hT.set 3 rfl (by kernel_rfl) (by kernel_rfl)⟩)
      | 4, _ =>
        have e1 := (E 29 (by decide)).trans (hT.val 2 rfl (hn 2 (by decide)))
        have e2 := (E 30 (by decide)).trans (hT.val 3 rfl (hn 3 (by decide)))
        refine op_valueG (w' := wx) (v := .bool true) rfl (want_on (d := 28) (b := true) rfl rfl ((E 28 (by decide)).trans (hT.val 1 rfl (hn 1 (by decide))))) rfl ?_ (hK 31 _ _ (by decide) ⟨hI, hT.set 4 rfl (by kernel_rfl) (by kernel_rfl)⟩)
        clear hK hK0 hT E
        revert e1 e2
        generalize a.eval = ρ
        intro e1 e2
        go_simp
      | 5, _ =>
        have e1 := (E 28 (by decide)).trans (hT.val 1 rfl (hn 1 (by decide)))
        have e2 := (E 31 (by decide)).trans (hT.val 4 rfl (hn 4 (by decide)))
        have c1 : a.eval (.const (Value.bool false)) = Value.bool false := rfl
        refine op_valueG (w' := wx) (v := .bool true) rfl rfl rfl ?_ (hK 32 _ _ (by decide) ⟨hI, hT.set 5 rfl (by kernel_rfl) (by kernel_rfl)⟩)
        clear hK hK0 hT E
        revert e1 e2 c1
        generalize a.eval = ρ
        intro e1 e2 c1
        go_simp
      | 6, _ => exact op_moveG rfl rfl rfl rfl ((E 32 (by decide)).trans (hT.val 5 rfl (hn 5 (by decide)))) (hK 33 _ _ (by decide) ⟨hI, hT.set 6 rfl (by kernel_rfl) (by kernel_rfl)⟩)
      | 7, _ => exact op_moveG rfl (want_on (d := 33) (b := true) rfl rfl ((E 33 (by decide)).trans (hT.val 6 rfl (hn 6 (by decide))))) rfl rfl ((E 8 (by decide)).trans (hT.rd 2 rfl)) (hK 34 _ _ (by decide) ⟨hI, hT.set 7 rfl (by kernel_rfl) (by kernel_rfl)⟩)
      | 8, _ => exact op_moveG rfl (want_on (d := 33) (b := true) rfl rfl ((E 33 (by decide)).trans (hT.val 6 rfl (hn 6 (by decide))))) rfl rfl ((E 10 (by decide)).trans (hT.rd 4 rfl)) (hK 35 _ _ (by decide) ⟨hI, hT.set 8 rfl (by kernel_rfl) (by kernel_rfl)⟩)
      | 9, _ =>
        have e1 := (E 34 (by decide)).trans (hT.val 7 rfl (hn 7 (by decide)))
        have e2 := (E 35 (by decide)).trans (hT.val 8 rfl (hn 8 (by decide)))
        refine op_valueG (w' := wx) (v := .bool true) rfl (want_on (d := 33) (b := true) rfl rfl ((E 33 (by decide)).trans (hT.val 6 rfl (hn 6 (by decide))))) rfl ?_ (hK 36 _ _ (by decide) ⟨hI, hT.set 9 rfl (by kernel_rfl) (by kernel_rfl)⟩)
        clear hK hK0 hT E
        revert e1 e2
        generalize a.eval = ρ
        intro e1 e2
        go_simp
      | 10, _ =>
        have e1 := (E 33 (by decide)).trans (hT.val 6 rfl (hn 6 (by decide)))
        have e2 := (E 36 (by decide)).trans (hT.val 9 rfl (hn 9 (by decide)))
        have c1 : a.eval (.const (Value.bool false)) = Value.bool false := rfl
        refine op_valueG (w' := wx) (v := .bool true) rfl rfl rfl ?_ (hK 37 _ _ (by decide) ⟨hI, hT.set 10 rfl (by kernel_rfl) (by kernel_rfl)⟩)
        clear hK hK0 hT E
        revert e1 e2 c1
        generalize a.eval = ρ
        intro e1 e2 c1
        go_simp
      | 11, _ => exact op_moveG rfl rfl rfl rfl ((E 37 (by decide)).trans (hT.val 10 rfl (hn 10 (by decide)))) (hK 38 _ _ (by decide) ⟨hI, hT.set 11 rfl (by kernel_rfl) (by kernel_rfl)⟩)
      | 12, _ => exact op_moveG rfl (want_on (d := 38) (b := true) rfl rfl ((E 38 (by decide)).trans (hT.val 11 rfl (hn 11 (by decide))))) rfl rfl ((E 2 (by decide)).trans (hT.rd 0 rfl)) (hK 39 _ _ (by decide) ⟨hI, hT.set 12 rfl (by kernel_rfl) (by kernel_rfl)⟩)
      | 13, _ =>
        have e1 := (E 39 (by decide)).trans (hT.val 12 rfl (hn 12 (by decide)))
        exact op_goG rfl (want_on (d := 38) (b := true) rfl rfl ((E 38 (by decide)).trans (hT.val 11 rfl (hn 11 (by decide))))) rfl rfl Tryd.func15 (by kernel_rfl) rfl (by simp only [List.map_toArray, List.map_cons, List.map_nil, e1]) (rof2_any n _) (fun w' hb => hK 40 _ _ (by decide) ⟨hI.step hb, hT.set 13 rfl (by kernel_rfl) (by kernel_rfl)⟩)
      | 14, _ => exact op_moveG rfl (want_on (d := 38) (b := true) rfl rfl ((E 38 (by decide)).trans (hT.val 11 rfl (hn 11 (by decide))))) rfl rfl ((E 2 (by decide)).trans (hT.rd 0 rfl)) (hK 41 _ _ (by decide) ⟨hI, hT.set 14 rfl (by kernel_rfl) (by kernel_rfl)⟩)
      | 15, _ =>
        have e1 := (E 41 (by decide)).trans (hT.val 14 rfl (hn 14 (by decide)))
        exact op_goG rfl (want_on (d := 38) (b := true) rfl rfl ((E 38 (by decide)).trans (hT.val 11 rfl (hn 11 (by decide))))) rfl rfl Tryd.func16 (by kernel_rfl) rfl (by simp only [List.map_toArray, List.map_cons, List.map_nil, e1]) (dof_any n _) (fun w' hb => hK 42 _ _ (by decide) ⟨hI.step hb, hT.set 15 rfl (by kernel_rfl) (by kernel_rfl)⟩)
      | 16, _ =>
        have e1 := (E 40 (by decide)).trans (hT.val 13 rfl (hn 13 (by decide)))
        have e2 := (E 42 (by decide)).trans (hT.val 15 rfl (hn 15 (by decide)))
        refine op_valueG (w' := wx) (v := .bool true) rfl (want_on (d := 38) (b := true) rfl rfl ((E 38 (by decide)).trans (hT.val 11 rfl (hn 11 (by decide))))) rfl ?_ (hK 43 _ _ (by decide) ⟨hI, hT.set 16 rfl (by kernel_rfl) (by kernel_rfl)⟩)
        clear hK hK0 hT E
        revert e1 e2
        generalize a.eval = ρ
        intro e1 e2
        go_simp
      | 17, _ =>
        have e1 := (E 38 (by decide)).trans (hT.val 11 rfl (hn 11 (by decide)))
        have e2 := (E 43 (by decide)).trans (hT.val 16 rfl (hn 16 (by decide)))
        have c1 : a.eval (.const (Value.bool false)) = Value.bool false := rfl
        refine op_valueG (w' := wx) (v := .bool true) rfl rfl rfl ?_ (hK 44 _ _ (by decide) ⟨hI, hT.set 17 rfl (by kernel_rfl) (by kernel_rfl)⟩)
        clear hK hK0 hT E
        revert e1 e2 c1
        generalize a.eval = ρ
        intro e1 e2 c1
        go_simp
      | 18, _ => exact op_moveG rfl rfl rfl rfl ((E 44 (by decide)).trans (hT.val 17 rfl (hn 17 (by decide)))) (hK 45 _ _ (by decide) ⟨hI, hT.set 18 rfl (by kernel_rfl) (by kernel_rfl)⟩)
      | 19, _ => exact op_loadG rfl (want_on (d := 45) (b := true) rfl rfl ((E 45 (by decide)).trans (hT.val 18 rfl (hn 18 (by decide))))) rfl rfl Tryd.underlying23 rfl (by kernel_rfl) ((E 11 (by decide)).trans (hT.rd 5 rfl)) (hI.l (g11, x, y) (by simp)) (hK 46 _ _ (by decide) ⟨hI, hT.set 19 rfl (by kernel_rfl) (by kernel_rfl)⟩)
      | 20, _ =>
        have e1 := (E 46 (by decide)).trans (hT.val 19 rfl (hn 19 (by decide)))
        exact op_goG rfl (want_on (d := 45) (b := true) rfl rfl ((E 45 (by decide)).trans (hT.val 18 rfl (hn 18 (by decide))))) rfl rfl Tryd.func17 (by kernel_rfl) rfl (by simp only [List.map_toArray, List.map_cons, List.map_nil, e1]) (HRA.out _) (fun w' hb => hK 47 _ _ (by decide) ⟨hI.step hb, hT.set 20 rfl (by kernel_rfl) (by kernel_rfl)⟩)
      | 21, _ => exact op_loadG rfl (want_on (d := 45) (b := true) rfl rfl ((E 45 (by decide)).trans (hT.val 18 rfl (hn 18 (by decide))))) rfl rfl Tryd.underlying23 rfl (by kernel_rfl) ((E 11 (by decide)).trans (hT.rd 5 rfl)) (hI.l (g11, x, y) (by simp)) (hK 48 _ _ (by decide) ⟨hI, hT.set 21 rfl (by kernel_rfl) (by kernel_rfl)⟩)
      | 22, _ =>
        have e1 := (E 48 (by decide)).trans (hT.val 21 rfl (hn 21 (by decide)))
        exact op_goG rfl (want_on (d := 45) (b := true) rfl rfl ((E 45 (by decide)).trans (hT.val 18 rfl (hn 18 (by decide))))) rfl rfl Tryd.func18 (by kernel_rfl) rfl (by simp only [List.map_toArray, List.map_cons, List.map_nil, e1]) (HDR.out _) (fun w' hb => hK 49 _ _ (by decide) ⟨hI.step hb, hT.set 22 rfl (by kernel_rfl) (by kernel_rfl)⟩)
      | 23, _ =>
        have e1 := (E 47 (by decide)).trans (hT.val 20 rfl (hn 20 (by decide)))
        have e2 := (E 49 (by decide)).trans (hT.val 22 rfl (hn 22 (by decide)))
        refine op_valueG (w' := wx) (v := .bool true) rfl (want_on (d := 45) (b := true) rfl rfl ((E 45 (by decide)).trans (hT.val 18 rfl (hn 18 (by decide))))) rfl ?_ (hK 50 _ _ (by decide) ⟨hI, hT.set 23 rfl (by kernel_rfl) (by kernel_rfl)⟩)
        clear hK hK0 hT E
        revert e1 e2
        generalize a.eval = ρ
        intro e1 e2
        go_simp
      | 24, _ =>
        have e1 := (E 45 (by decide)).trans (hT.val 18 rfl (hn 18 (by decide)))
        have e2 := (E 50 (by decide)).trans (hT.val 23 rfl (hn 23 (by decide)))
        have c1 : a.eval (.const (Value.bool false)) = Value.bool false := rfl
        refine op_valueG (w' := wx) (v := .bool true) rfl rfl rfl ?_ (hK 51 _ _ (by decide) ⟨hI, hT.set 24 rfl (by kernel_rfl) (by kernel_rfl)⟩)
        clear hK hK0 hT E
        revert e1 e2 c1
        generalize a.eval = ρ
        intro e1 e2 c1
        go_simp
      | 25, _ => exact op_moveG rfl rfl rfl rfl ((E 51 (by decide)).trans (hT.val 24 rfl (hn 24 (by decide)))) (hK 52 _ _ (by decide) ⟨hI, hT.set 25 rfl (by kernel_rfl) (by kernel_rfl)⟩)
      | 26, _ => exact op_moveG rfl (want_on (d := 52) (b := true) rfl rfl ((E 52 (by decide)).trans (hT.val 25 rfl (hn 25 (by decide))))) rfl rfl ((E 8 (by decide)).trans (hT.rd 2 rfl)) (hK 53 _ _ (by decide) ⟨hI, hT.set 26 rfl (by kernel_rfl) (by kernel_rfl)⟩)
      | 27, _ =>
        have e1 := (E 53 (by decide)).trans (hT.val 26 rfl (hn 26 (by decide)))
        have c1 : a.eval (.const (Value.int IntKind.i64 0)) = Value.int IntKind.i64 0 := rfl
        refine op_valueG (w' := wx) (v := .bool false) rfl (want_on (d := 52) (b := true) rfl rfl ((E 52 (by decide)).trans (hT.val 25 rfl (hn 25 (by decide))))) rfl ?_ (hK 54 _ _ (by decide) ⟨hI, hT.set 27 rfl (by kernel_rfl) (by kernel_rfl)⟩)
        clear hK hK0 hT E
        revert e1 c1
        generalize a.eval = ρ
        intro e1 c1
        go_simp
      | 28, _ => exact op_moveG rfl (want_on (d := 52) (b := true) rfl rfl ((E 52 (by decide)).trans (hT.val 25 rfl (hn 25 (by decide))))) rfl rfl ((E 54 (by decide)).trans (hT.val 27 rfl (hn 27 (by decide)))) (hK 55 _ _ (by decide) ⟨hI, hT.set 28 rfl (by kernel_rfl) (by kernel_rfl)⟩)
      | 29, _ => exact op_loadG rfl (want_on (d := 55) (b := false) rfl rfl ((E 55 (by decide)).trans (hT.val 28 rfl (hn 28 (by decide))))) rfl rfl Tryd.underlying23 rfl (by kernel_rfl) ((E 7 (by decide)).trans (hT.rd 1 rfl)) (hI.l (g7, s1, s2) (by simp)) (hK 56 _ _ (by decide) ⟨hI, hT.set 29 rfl (by kernel_rfl) (by kernel_rfl)⟩)
      | 30, _ =>
        have e1 := (E 56 (by decide)).trans (hT.val 29 rfl (hn 29 (by decide)))
        exact op_goG rfl (want_on (d := 55) (b := false) rfl rfl ((E 55 (by decide)).trans (hT.val 28 rfl (hn 28 (by decide))))) rfl rfl Tryd.func17 (by kernel_rfl) rfl (by simp only [List.map_toArray, List.map_cons, List.map_nil, e1]) (HRS.out _) (fun w' hb => hK 57 _ _ (by decide) ⟨hI.step hb, hT.set 30 rfl (by kernel_rfl) (by kernel_rfl)⟩)
      | 31, _ =>
        have e1 := (E 55 (by decide)).trans (hT.val 28 rfl (hn 28 (by decide)))
        have e2 := (E 57 (by decide)).trans (hT.val 30 rfl (hn 30 (by decide)))
        have c1 : a.eval (.const (Value.bool true)) = Value.bool true := rfl
        refine op_valueG (w' := wx) (v := .bool true) rfl (want_on (d := 52) (b := true) rfl rfl ((E 52 (by decide)).trans (hT.val 25 rfl (hn 25 (by decide))))) rfl ?_ (hK 58 _ _ (by decide) ⟨hI, hT.set 31 rfl (by kernel_rfl) (by kernel_rfl)⟩)
        clear hK hK0 hT E
        revert e1 e2 c1
        generalize a.eval = ρ
        intro e1 e2 c1
        go_simp
      | 32, _ =>
        have e1 := (E 52 (by decide)).trans (hT.val 25 rfl (hn 25 (by decide)))
        have e2 := (E 58 (by decide)).trans (hT.val 31 rfl (hn 31 (by decide)))
        have c1 : a.eval (.const (Value.bool false)) = Value.bool false := rfl
        refine op_valueG (w' := wx) (v := .bool true) rfl rfl rfl ?_ (hK 59 _ _ (by decide) ⟨hI, hT.set 32 rfl (by kernel_rfl) (by kernel_rfl)⟩)
        clear hK hK0 hT E
        revert e1 e2 c1
        generalize a.eval = ρ
        intro e1 e2 c1
        go_simp
      | 33, _ => exact op_assignG rfl rfl rfl rfl ((E 59 (by decide)).trans (hT.val 32 rfl (hn 32 (by decide)))) (hK 6 _ _ (by decide) ⟨hI, hT.set 33 rfl (by kernel_rfl) (by kernel_rfl)⟩)
      | k + 34, h => exact absurd (show k + 34 < 34 from h) (by omega)
    · intro L vals wx hJ hall
      obtain ⟨hI, hT⟩ := hJ
      have HI := Lib.hid hI
      have v2 : vals 2 = .int .i64 n := hT.rd 0 rfl
      have v7 : vals 7 = .pointer (some ⟨g7, 0, none⟩) := hT.rd 1 rfl
      have v8 : vals 8 = .int .i64 0 := hT.rd 2 rfl
      have v9 : vals 9 = .pointer (some ⟨g9, 0, none⟩) := hT.rd 3 rfl
      have v10 : vals 10 = .int .i64 0 := hT.rd 4 rfl
      have v11 : vals 11 = .pointer (some ⟨g11, 0, none⟩) := hT.rd 5 rfl
      have v6 : vals 6 = .bool true := hT.val 33 rfl (hall 33 (by decide))
      simp only [overA, Act.put, List.setIfInBounds_toArray, List.set_cons_zero, List.set_cons_succ]
      rw [v2, v7, v8, v9, v10, v11, v6]
      clear hI hT hall v2 v7 v8 v9 v10 v11 v6
      go_wp2
      go_ret
      exact ⟨rfl, HI.out.below⟩
  · have q3 : (ea == 0) = false := by simp [he]
    have q4 : (ea != 0) = true := by simp [he]
    have q5 : (!(ea == 0)) = true := by simp [he]
    have q6 : decide (ea = 0) = false := by simp [he]
    clear HR2 HR3
    refine wp_region_tab (by kernel_rfl) [2, 7, 8, 9, 10, 11, 27, 28, 29, 30, 31, 32, 33, 34, 35, 36, 37, 38, 39, 40, 41, 42, 43, 44, 45, 46, 47, 48, 49, 50, 51, 52, 53, 54, 55, 56, 57, 58, 59, 6] [[], [0], [1], [1], [1, 2, 3], [1, 4], [1, 5], [6], [6], [6, 7, 8], [6, 9], [6, 10], [11], [11, 12], [11], [11, 13, 14], [11, 13, 15], [11, 16], [15, 17], [18], [18, 19], [18], [18, 20, 21], [18, 20, 22], [18, 23], [22, 24], [25], [25, 26], [25, 27], [28], [28, 29], [25, 28, 30], [25, 31], [0, 1, 2, 3, 4, 5, 6, 7, 8, 9, 10, 11, 12, 13, 14, 15, 16, 17, 18, 19, 20, 21, 22, 23, 24, 25, 26, 27, 28, 29, 30, 31, 32]]
      (fun L vals wx => RtL w [(g7, s1, s2), (g9, s1, s2), (g11, x, y)] wx ∧ TabR (tbNewB g7 g9 g11 s1 s2 ea x y n rb) (bsNewB g7 g9 g11 s1 s2 ea x y n rb) L vals) (by kernel_rfl) rfl ?_ ?_ ?_
    · exact ⟨K.out.drew, TabR.start (by simp [bsNewB])⟩
    · intro i hi a L vals wx E hJ hLi hn K hK hK0
      obtain ⟨hI, hT⟩ := hJ
      match i, hi with
      | 0, _ =>
        exact op_goG (args := #[]) rfl rfl rfl rfl Tryd.func14 (by kernel_rfl) rfl (by simp) (live02_any _ hI.tab) (fun w' hb => hK 27 _ _ (by decide) ⟨hI.step hb, hT.set 0 rfl (by kernel_rfl) (by kernel_rfl)⟩)
      | 1, _ => exact op_moveG rfl rfl rfl rfl ((E 27 (by decide)).trans (hT.val 0 rfl (hn 0 (by decide)))) (hK 28 _ _ (by decide) ⟨hI, hT.set 1 rfl (by kernel_rfl) (by kernel_rfl)⟩)
      | 2, _ => exact op_loadG rfl (want_on (d := 28) (b := true) rfl rfl ((E 28 (by decide)).trans (hT.val 1 rfl (hn 1 (by decide))))) rfl rfl Tryd.underlying23 rfl (by kernel_rfl) ((E 7 (by decide)).trans (hT.rd 1 rfl)) (hI.l (g7, s1, s2) (by simp)) (hK 29 _ _ (by decide) ⟨hI, hT.set 2 rfl (by kernel_rfl) (by kernel_rfl)⟩)
      | 3, _ => exact op_loadG rfl (want_on (d := 28) (b := true) rfl rfl ((E 28 (by decide)).trans (hT.val 1 rfl (hn 1 (by decide))))) rfl rfl Tryd.underlying23 rfl (by kernel_rfl) ((E 9 (by decide)).trans (hT.rd 3 rfl)) (hI.l (g9, s1, s2) (by simp)) (hK 30 _ _ (by decide) ⟨hI, hT.set 3 rfl (by kernel_rfl) (by kernel_rfl)⟩)
      | 4, _ =>
        have e1 := (E 29 (by decide)).trans (hT.val 2 rfl (hn 2 (by decide)))
        have e2 := (E 30 (by decide)).trans (hT.val 3 rfl (hn 3 (by decide)))
        refine op_valueG (w' := wx) (v := .bool true) rfl (want_on (d := 28) (b := true) rfl rfl ((E 28 (by decide)).trans (hT.val 1 rfl (hn 1 (by decide))))) rfl ?_ (hK 31 _ _ (by decide) ⟨hI, hT.set 4 rfl (by kernel_rfl) (by kernel_rfl)⟩)
        clear hK hK0 hT E
        revert e1 e2
        generalize a.eval = ρ
        intro e1 e2
        go_simp
      | 5, _ =>
        have e1 := (E 28 (by decide)).trans (hT.val 1 rfl (hn 1 (by decide)))
        have e2 := (E 31 (by decide)).trans (hT.val 4 rfl (hn 4 (by decide)))
        have c1 : a.eval (.const (Value.bool false)) = Value.bool false := rfl
        refine op_valueG (w' := wx) (v := .bool true) rfl rfl rfl ?_ (hK 32 _ _ (by decide) ⟨hI, hT.set 5 rfl (by kernel_rfl) (by kernel_rfl)⟩)
        clear hK hK0 hT E
        revert e1 e2 c1
        generalize a.eval = ρ
        intro e1 e2 c1
        go_simp
      | 6, _ => exact op_moveG rfl rfl rfl rfl ((E 32 (by decide)).trans (hT.val 5 rfl (hn 5 (by decide)))) (hK 33 _ _ (by decide) ⟨hI, hT.set 6 rfl (by kernel_rfl) (by kernel_rfl)⟩)
      | 7, _ => exact op_moveG rfl (want_on (d := 33) (b := true) rfl rfl ((E 33 (by decide)).trans (hT.val 6 rfl (hn 6 (by decide))))) rfl rfl ((E 8 (by decide)).trans (hT.rd 2 rfl)) (hK 34 _ _ (by decide) ⟨hI, hT.set 7 rfl (by kernel_rfl) (by kernel_rfl)⟩)
      | 8, _ => exact op_moveG rfl (want_on (d := 33) (b := true) rfl rfl ((E 33 (by decide)).trans (hT.val 6 rfl (hn 6 (by decide))))) rfl rfl ((E 10 (by decide)).trans (hT.rd 4 rfl)) (hK 35 _ _ (by decide) ⟨hI, hT.set 8 rfl (by kernel_rfl) (by kernel_rfl)⟩)
      | 9, _ =>
        have e1 := (E 34 (by decide)).trans (hT.val 7 rfl (hn 7 (by decide)))
        have e2 := (E 35 (by decide)).trans (hT.val 8 rfl (hn 8 (by decide)))
        refine op_valueG (w' := wx) (v := .bool true) rfl (want_on (d := 33) (b := true) rfl rfl ((E 33 (by decide)).trans (hT.val 6 rfl (hn 6 (by decide))))) rfl ?_ (hK 36 _ _ (by decide) ⟨hI, hT.set 9 rfl (by kernel_rfl) (by kernel_rfl)⟩)
        clear hK hK0 hT E
        revert e1 e2
        generalize a.eval = ρ
        intro e1 e2
        go_simp
      | 10, _ =>
        have e1 := (E 33 (by decide)).trans (hT.val 6 rfl (hn 6 (by decide)))
        have e2 := (E 36 (by decide)).trans (hT.val 9 rfl (hn 9 (by decide)))
        have c1 : a.eval (.const (Value.bool false)) = Value.bool false := rfl
        refine op_valueG (w' := wx) (v := .bool true) rfl rfl rfl ?_ (hK 37 _ _ (by decide) ⟨hI, hT.set 10 rfl (by kernel_rfl) (by kernel_rfl)⟩)
        clear hK hK0 hT E
        revert e1 e2 c1
        generalize a.eval = ρ
        intro e1 e2 c1
        go_simp
      | 11, _ => exact op_moveG rfl rfl rfl rfl ((E 37 (by decide)).trans (hT.val 10 rfl (hn 10 (by decide)))) (hK 38 _ _ (by decide) ⟨hI, hT.set 11 rfl (by kernel_rfl) (by kernel_rfl)⟩)
      | 12, _ => exact op_moveG rfl (want_on (d := 38) (b := true) rfl rfl ((E 38 (by decide)).trans (hT.val 11 rfl (hn 11 (by decide))))) rfl rfl ((E 2 (by decide)).trans (hT.rd 0 rfl)) (hK 39 _ _ (by decide) ⟨hI, hT.set 12 rfl (by kernel_rfl) (by kernel_rfl)⟩)
      | 13, _ =>
        have e1 := (E 39 (by decide)).trans (hT.val 12 rfl (hn 12 (by decide)))
        exact op_goG rfl (want_on (d := 38) (b := true) rfl rfl ((E 38 (by decide)).trans (hT.val 11 rfl (hn 11 (by decide))))) rfl rfl Tryd.func15 (by kernel_rfl) rfl (by simp only [List.map_toArray, List.map_cons, List.map_nil, e1]) (rof2_any n _) (fun w' hb => hK 40 _ _ (by decide) ⟨hI.step hb, hT.set 13 rfl (by kernel_rfl) (by kernel_rfl)⟩)
      | 14, _ => exact op_moveG rfl (want_on (d := 38) (b := true) rfl rfl ((E 38 (by decide)).trans (hT.val 11 rfl (hn 11 (by decide))))) rfl rfl ((E 2 (by decide)).trans (hT.rd 0 rfl)) (hK 41 _ _ (by decide) ⟨hI, hT.set 14 rfl (by kernel_rfl) (by kernel_rfl)⟩)
      | 15, _ =>
        have e1 := (E 41 (by decide)).trans (hT.val 14 rfl (hn 14 (by decide)))
        exact op_goG rfl (want_on (d := 38) (b := true) rfl rfl ((E 38 (by decide)).trans (hT.val 11 rfl (hn 11 (by decide))))) rfl rfl Tryd.func16 (by kernel_rfl) rfl (by simp only [List.map_toArray, List.map_cons, List.map_nil, e1]) (dof_any n _) (fun w' hb => hK 42 _ _ (by decide) ⟨hI.step hb, hT.set 15 rfl (by kernel_rfl) (by kernel_rfl)⟩)
      | 16, _ =>
        have e1 := (E 40 (by decide)).trans (hT.val 13 rfl (hn 13 (by decide)))
        have e2 := (E 42 (by decide)).trans (hT.val 15 rfl (hn 15 (by decide)))
        refine op_valueG (w' := wx) (v := .bool true) rfl (want_on (d := 38) (b := true) rfl rfl ((E 38 (by decide)).trans (hT.val 11 rfl (hn 11 (by decide))))) rfl ?_ (hK 43 _ _ (by decide) ⟨hI, hT.set 16 rfl (by kernel_rfl) (by kernel_rfl)⟩)
        clear hK hK0 hT E
        revert e1 e2
        generalize a.eval = ρ
        intro e1 e2
        go_simp
      | 17, _ =>
        have e1 := (E 38 (by decide)).trans (hT.val 11 rfl (hn 11 (by decide)))
        have e2 := (E 43 (by decide)).trans (hT.val 16 rfl (hn 16 (by decide)))
        have c1 : a.eval (.const (Value.bool false)) = Value.bool false := rfl
        refine op_valueG (w' := wx) (v := .bool true) rfl rfl rfl ?_ (hK 44 _ _ (by decide) ⟨hI, hT.set 17 rfl (by kernel_rfl) (by kernel_rfl)⟩)
        clear hK hK0 hT E
        revert e1 e2 c1
        generalize a.eval = ρ
        intro e1 e2 c1
        go_simp
      | 18, _ => exact op_moveG rfl rfl rfl rfl ((E 44 (by decide)).trans (hT.val 17 rfl (hn 17 (by decide)))) (hK 45 _ _ (by decide) ⟨hI, hT.set 18 rfl (by kernel_rfl) (by kernel_rfl)⟩)
      | 19, _ => exact op_loadG rfl (want_on (d := 45) (b := true) rfl rfl ((E 45 (by decide)).trans (hT.val 18 rfl (hn 18 (by decide))))) rfl rfl Tryd.underlying23 rfl (by kernel_rfl) ((E 11 (by decide)).trans (hT.rd 5 rfl)) (hI.l (g11, x, y) (by simp)) (hK 46 _ _ (by decide) ⟨hI, hT.set 19 rfl (by kernel_rfl) (by kernel_rfl)⟩)
      | 20, _ =>
        have e1 := (E 46 (by decide)).trans (hT.val 19 rfl (hn 19 (by decide)))
        exact op_goG rfl (want_on (d := 45) (b := true) rfl rfl ((E 45 (by decide)).trans (hT.val 18 rfl (hn 18 (by decide))))) rfl rfl Tryd.func17 (by kernel_rfl) rfl (by simp only [List.map_toArray, List.map_cons, List.map_nil, e1]) (HRA.out _) (fun w' hb => hK 47 _ _ (by decide) ⟨hI.step hb, hT.set 20 rfl (by kernel_rfl) (by kernel_rfl)⟩)
      | 21, _ => exact op_loadG rfl (want_on (d := 45) (b := true) rfl rfl ((E 45 (by decide)).trans (hT.val 18 rfl (hn 18 (by decide))))) rfl rfl Tryd.underlying23 rfl (by kernel_rfl) ((E 11 (by decide)).trans (hT.rd 5 rfl)) (hI.l (g11, x, y) (by simp)) (hK 48 _ _ (by decide) ⟨hI, hT.set 21 rfl (by kernel_rfl) (by kernel_rfl)⟩)
      | 22, _ =>
        have e1 := (E 48 (by decide)).trans (hT.val 21 rfl (hn 21 (by decide)))
        exact op_goG rfl (want_on (d := 45) (b := true) rfl rfl ((E 45 (by decide)).trans (hT.val 18 rfl (hn 18 (by decide))))) rfl rfl Tryd.func18 (by kernel_rfl) rfl (by simp only [List.map_toArray, List.map_cons, List.map_nil, e1]) (HDR.out _) (fun w' hb => hK 49 _ _ (by decide) ⟨hI.step hb, hT.set 22 rfl (by kernel_rfl) (by kernel_rfl)⟩)
      | 23, _ =>
        have e1 := (E 47 (by decide)).trans (hT.val 20 rfl (hn 20 (by decide)))
        have e2 := (E 49 (by decide)).trans (hT.val 22 rfl (hn 22 (by decide)))
        refine op_valueG (w' := wx) (v := .bool true) rfl (want_on (d := 45) (b := true) rfl rfl ((E 45 (by decide)).trans (hT.val 18 rfl (hn 18 (by decide))))) rfl ?_ (hK 50 _ _ (by decide) ⟨hI, hT.set 23 rfl (by kernel_rfl) (by kernel_rfl)⟩)
        clear hK hK0 hT E
        revert e1 e2
        generalize a.eval = ρ
        intro e1 e2
        go_simp
      | 24, _ =>
        have e1 := (E 45 (by decide)).trans (hT.val 18 rfl (hn 18 (by decide)))
        have e2 := (E 50 (by decide)).trans (hT.val 23 rfl (hn 23 (by decide)))
        have c1 : a.eval (.const (Value.bool false)) = Value.bool false := rfl
        refine op_valueG (w' := wx) (v := .bool true) rfl rfl rfl ?_ (hK 51 _ _ (by decide) ⟨hI, hT.set 24 rfl (by kernel_rfl) (by kernel_rfl)⟩)
        clear hK hK0 hT E
        revert e1 e2 c1
        generalize a.eval = ρ
        intro e1 e2 c1
        go_simp
      | 25, _ => exact op_moveG rfl rfl rfl rfl ((E 51 (by decide)).trans (hT.val 24 rfl (hn 24 (by decide)))) (hK 52 _ _ (by decide) ⟨hI, hT.set 25 rfl (by kernel_rfl) (by kernel_rfl)⟩)
      | 26, _ => exact op_moveG rfl (want_on (d := 52) (b := true) rfl rfl ((E 52 (by decide)).trans (hT.val 25 rfl (hn 25 (by decide))))) rfl rfl ((E 8 (by decide)).trans (hT.rd 2 rfl)) (hK 53 _ _ (by decide) ⟨hI, hT.set 26 rfl (by kernel_rfl) (by kernel_rfl)⟩)
      | 27, _ =>
        have e1 := (E 53 (by decide)).trans (hT.val 26 rfl (hn 26 (by decide)))
        have c1 : a.eval (.const (Value.int IntKind.i64 0)) = Value.int IntKind.i64 0 := rfl
        refine op_valueG (w' := wx) (v := .bool true) rfl (want_on (d := 52) (b := true) rfl rfl ((E 52 (by decide)).trans (hT.val 25 rfl (hn 25 (by decide))))) rfl ?_ (hK 54 _ _ (by decide) ⟨hI, hT.set 27 rfl (by kernel_rfl) (by kernel_rfl)⟩)
        clear hK hK0 hT E
        revert e1 c1
        generalize a.eval = ρ
        intro e1 c1
        go_simp
      | 28, _ => exact op_moveG rfl (want_on (d := 52) (b := true) rfl rfl ((E 52 (by decide)).trans (hT.val 25 rfl (hn 25 (by decide))))) rfl rfl ((E 54 (by decide)).trans (hT.val 27 rfl (hn 27 (by decide)))) (hK 55 _ _ (by decide) ⟨hI, hT.set 28 rfl (by kernel_rfl) (by kernel_rfl)⟩)
      | 29, _ => exact op_skip rfl (want_off (d := 55) (b := false) rfl rfl ((E 55 (by decide)).trans (hT.val 28 rfl (hn 28 (by decide))))) rfl (hK 56 _ _ (by decide) ⟨hI, hT.set 29 rfl (by kernel_rfl) (by kernel_rfl)⟩)
      | 30, _ => exact op_skip rfl (want_off (d := 55) (b := false) rfl rfl ((E 55 (by decide)).trans (hT.val 28 rfl (hn 28 (by decide))))) rfl (hK 57 _ _ (by decide) ⟨hI, hT.set 30 rfl (by kernel_rfl) (by kernel_rfl)⟩)
      | 31, _ =>
        have e1 := (E 55 (by decide)).trans (hT.val 28 rfl (hn 28 (by decide)))
        have e2 := (E 57 (by decide)).trans (hT.val 30 rfl (hn 30 (by decide)))
        have c1 : a.eval (.const (Value.bool true)) = Value.bool true := rfl
        refine op_valueG (w' := wx) (v := .bool true) rfl (want_on (d := 52) (b := true) rfl rfl ((E 52 (by decide)).trans (hT.val 25 rfl (hn 25 (by decide))))) rfl ?_ (hK 58 _ _ (by decide) ⟨hI, hT.set 31 rfl (by kernel_rfl) (by kernel_rfl)⟩)
        clear hK hK0 hT E
        revert e1 e2 c1
        generalize a.eval = ρ
        intro e1 e2 c1
        go_simp
      | 32, _ =>
        have e1 := (E 52 (by decide)).trans (hT.val 25 rfl (hn 25 (by decide)))
        have e2 := (E 58 (by decide)).trans (hT.val 31 rfl (hn 31 (by decide)))
        have c1 : a.eval (.const (Value.bool false)) = Value.bool false := rfl
        refine op_valueG (w' := wx) (v := .bool true) rfl rfl rfl ?_ (hK 59 _ _ (by decide) ⟨hI, hT.set 32 rfl (by kernel_rfl) (by kernel_rfl)⟩)
        clear hK hK0 hT E
        revert e1 e2 c1
        generalize a.eval = ρ
        intro e1 e2 c1
        go_simp
      | 33, _ => exact op_assignG rfl rfl rfl rfl ((E 59 (by decide)).trans (hT.val 32 rfl (hn 32 (by decide)))) (hK 6 _ _ (by decide) ⟨hI, hT.set 33 rfl (by kernel_rfl) (by kernel_rfl)⟩)
      | k + 34, h => exact absurd (show k + 34 < 34 from h) (by omega)
    · intro L vals wx hJ hall
      obtain ⟨hI, hT⟩ := hJ
      have HI := Lib.hid hI
      have v2 : vals 2 = .int .i64 n := hT.rd 0 rfl
      have v7 : vals 7 = .pointer (some ⟨g7, 0, none⟩) := hT.rd 1 rfl
      have v8 : vals 8 = .int .i64 ea := hT.rd 2 rfl
      have v9 : vals 9 = .pointer (some ⟨g9, 0, none⟩) := hT.rd 3 rfl
      have v10 : vals 10 = .int .i64 ea := hT.rd 4 rfl
      have v11 : vals 11 = .pointer (some ⟨g11, 0, none⟩) := hT.rd 5 rfl
      have v6 : vals 6 = .bool true := hT.val 33 rfl (hall 33 (by decide))
      simp only [overA, Act.put, List.setIfInBounds_toArray, List.set_cons_zero, List.set_cons_succ]
      rw [v2, v7, v8, v9, v10, v11, v6]
      clear hI hT hall v2 v7 v8 v9 v10 v11 v6
      go_wp2
      go_ret
      exact ⟨rfl, HI.out.below⟩

end Go.Proofs.YtmgdhlcgbgpgpaaDoor

/- Sums and differences of right fractions, as the document makes them. -/
namespace Go.Proofs.YtmgdhlcgbgpgpaaDoor
open Go Go.RowKit
set_option linter.unusedVariables false
set_option linter.unusedSimpArgs false

theorem Blk.drew {T : TypeId} {g n : Nat} {w : World} (h : Blk T g n w) : Blk T g n w.drew := h
theorem Blk.put {T : TypeId} {g n k : Nat} {w : World} (h : Blk T g n w) (hg : k < g) (u v : Value) : Blk T g n ((w.setCell ⟨k, 0, none⟩ u).setCell ⟨k, 1, none⟩ v) := heap_other _ (heap_other _ h (by omega)) (by omega)
theorem Rb.put {w0 wr : World} {x1 x2 y1 y2 : Int} (h : Rb w0 x1 x2 y1 y2 wr) {g : Nat} (hg : w0.heap.size + 1 + 1 < g) (u v : Value) : Rb w0 x1 x2 y1 y2 ((wr.setCell ⟨g, 0, none⟩ u).setCell ⟨g, 1, none⟩ v) := by
  have hl : w0.heap.size ≤ g := by omega
  exact ⟨(h.below.setCell (p := ⟨g, 0, none⟩) hl _).setCell (p := ⟨g, 1, none⟩) hl _, heap_other _ (heap_other _ h.ha (by omega)) (by omega), heap_other _ (heap_other _ h.hb (by omega)) (by omega), heap_other _ (heap_other _ h.h0 (by omega)) (by omega)⟩

set_option maxRecDepth 100000 in
set_option maxHeartbeats 16000000 in
theorem dsum_any (x1 x2 y1 y2 : Int) (hx1 : I64 x1) (hx2 : I64 x2) (hy1 : I64 y1) (hy2 : I64 y2) (px : 0 < x2) (py : 0 < y2) (w : World) :
    Calls Tryd.prog 56 #[.agg #[.int .i64 x1, .int .i64 x2], .agg #[.int .i64 y1, .int .i64 y2]] w fun e w' => e = .returned (.tuple #[rtV (dsumP (x1, x2) (y1, y2)).1, .int .i64 (dsumP (x1, x2) (y1, y2)).2]) ∧ Below w.heap.size w w' := by
  have a1 := abs64 hx1
  have a2 := abs64 hx2
  have a3 := abs64 hy1
  have a4 := abs64 hy2
  have HS1 := Lib.hid (fun W => dsize_any x1 hx1.1 hx1.2 W)
  have HS2 := Lib.hid (fun W => dsize_any y1 hy1.1 hy1.2 W)
  have hwx : IntKind.u64.wrap x2 = (x2.natAbs : Int) := by rw [IntKind.wrap_u64]; obtain ⟨_, _⟩ := hx2; omega
  have hwy : IntKind.u64.wrap y2 = (y2.natAbs : Int) := by rw [IntKind.wrap_u64]; obtain ⟨_, _⟩ := hy2; omega
  have HM1 : Hid (∀ W, Calls Tryd.prog 62 #[.int .u64 (x1.natAbs : Int), .int .u64 (y2.natAbs : Int)] W fun e w' => e = .returned (.agg #[.int .u64 (hiN (x1.natAbs * y2.natAbs)), .int .u64 (loN (x1.natAbs * y2.natAbs))]) ∧ Below W.heap.size W w') := Lib.hid (fun W => dmul_any x1.natAbs y2.natAbs (by omega) (by omega) W)
  have HM2 : Hid (∀ W, Calls Tryd.prog 62 #[.int .u64 (y1.natAbs : Int), .int .u64 (x2.natAbs : Int)] W fun e w' => e = .returned (.agg #[.int .u64 (hiN (y1.natAbs * x2.natAbs)), .int .u64 (loN (y1.natAbs * x2.natAbs))]) ∧ Below W.heap.size W w') := Lib.hid (fun W => dmul_any y1.natAbs x2.natAbs (by omega) (by omega) W)
  obtain ⟨X, hX⟩ : ∃ X, X = x1.natAbs * y2.natAbs := ⟨_, rfl⟩
  obtain ⟨Y, hY⟩ : ∃ Y, Y = y1.natAbs * x2.natAbs := ⟨_, rfl⟩
  rw [← hX] at HM1
  rw [← hY] at HM2
  have hden : x2.natAbs * y2.natAbs ≤ 85070591730234615865843651857942052864 := by have h := Nat.mul_le_mul a2 a4; omega
  have hXb : X ≤ 85070591730234615865843651857942052864 := by rw [hX]; have h := Nat.mul_le_mul a1 a4; omega
  have hYb : Y ≤ 85070591730234615865843651857942052864 := by rw [hY]; have h := Nat.mul_le_mul a3 a2; omega
  have HM3 : Hid (∀ W, Calls Tryd.prog 62 #[.int .u64 (x2.natAbs : Int), .int .u64 (y2.natAbs : Int)] W fun e w' => e = .returned (.agg #[.int .u64 (hiN (x2.natAbs * y2.natAbs)), .int .u64 (loN (x2.natAbs * y2.natAbs))]) ∧ Below W.heap.size W w') := Lib.hid (fun W => dmul_any x2.natAbs y2.natAbs (by omega) (by omega) W)
  have HAP0 := Lib.hid (show dsumP (x1, x2) (y1, y2) = dsumS (decide (x1 < 0)) (decide (y1 < 0)) X Y (x2.natAbs * y2.natAbs) by rw [hX, hY]; rfl)
  obtain ⟨D, hD⟩ : ∃ D, D = x2.natAbs * y2.natAbs := ⟨_, rfl⟩
  rw [← hD] at HM3 HAP0 hden
  obtain ⟨AP, hAP⟩ : ∃ AP, AP = dsumP (x1, x2) (y1, y2) := ⟨_, rfl⟩
  rw [← hAP] at HAP0 ⊢
  obtain ⟨sa, hsa⟩ : ∃ sa, decide (x1 < 0) = sa := ⟨_, rfl⟩
  obtain ⟨sb, hsb⟩ : ∃ sb, decide (y1 < 0) = sb := ⟨_, rfl⟩
  rw [hsa, hsb] at HAP0
  have HBD := Lib.hid (And.intro hXb (And.intro hYb hden))
  clear hD hAP hXb hYb hden
  have HXE := Lib.hid hX
  have HYE := Lib.hid hY
  clear hX hY a1 a2 a3 a4
  have HW2 := Lib.hid (Rb.made w x1 x2 y1 y2)
  go_enter Tryd.func56, Tryd.ntmps56
  go_upto_region 1 with fail
  generalize ((w.alloc (.cells #[.int .i64 x1, .int .i64 x2] 23)).alloc (.cells #[.int .i64 y1, .int .i64 y2] 23)).alloc (.cells #[.int .i64 0, .int .i64 0] 23) = w2 at *
  go_cut [6] (fun s6 wx => ∃ g : Nat, s6 = .pointer (some ⟨g, 0, none⟩) ∧ Hid (Blk 59 g X wx ∧ w.heap.size + 1 + 1 < g) ∧ Hid (Rb w x1 x2 y1 y2 wx))
  case first =>
    have kb := HW2.out.drew
    go_region_held3 (fun wr => wr.cell? ⟨w.heap.size, 0, none⟩ = some (.int .i64 x1) ∧ wr.cell? ⟨w.heap.size, 1, none⟩ = some (.int .i64 x2) ∧ wr.cell? ⟨w.heap.size + 1, 0, none⟩ = some (.int .i64 y1) ∧ wr.cell? ⟨w.heap.size + 1, 1, none⟩ = some (.int .i64 y2))
      (first | exact kb.four | exact (kb.step (below_one v7 _)).four | exact (kb.put hlt _ _).four | exact (HW2.out.step (below_one w2 _)).drew.four | exact (kb.step (below_one _ _)).four | go_keep)
      (first | (go_at_call 49; refine (HS1.out _).mono ?_; rintro e v6 ⟨rfl, rfl⟩) | (go_at_call 62; refine (HM1.out _).mono ?_; rintro e v7 ⟨rfl, hb⟩; have kb := kb.step hb; clear hb) | (go_at_call 62; refine (HM1.out _).mono ?_; rintro e v7 ⟨rfl, hb⟩; have hlt := heap_lt2 HW2.out.h0; have hz := heap_keep (w := (w2.alloc _).drew) (heap_alloc_new w2 _) hb; have kb := (HW2.out.step (below_one w2 _)).drew.step hb; obtain ⟨z1, z2, z3, z4⟩ := cell_two hz; clear hb))
    all_goals
      first
        | (have HX := (cell_set (cell_set hz (.int .u64 (hiN X))).1 (.int .u64 (loN X))).2
           have HY := Lib.hid (kb.put hlt (.int .u64 (hiN X)) (.int .u64 (loN X)))
           go_wp2_with fail
           go_meet
           exact ⟨_, rfl, ⟨HX, hlt⟩, HY⟩)
        | (have HX := heap_alloc_new v7 (.cells #[.int .u64 (hiN X), .int .u64 (loN X)] 59)
           have HY := Lib.hid (kb.step (below_one v7 (.cells #[.int .u64 (hiN X), .int .u64 (loN X)] 59)))
           have HL := heap_lt2 kb.h0
           go_wp2_with fail
           go_meet
           exact ⟨_, rfl, ⟨HX, HL⟩, HY⟩)
  case rest =>
    obtain ⟨g6, rfl, hx6, HW3⟩ := hcut
    have H6 := Lib.hid hx6.out.1
    have n6 := hx6.out.2
    clear hx6 HW2
    go_upto_region 2 with fail
    go_cut [7] (fun s7 wx => ∃ g : Nat, s7 = .pointer (some ⟨g, 0, none⟩) ∧ Hid (Blk 59 g Y wx ∧ w.heap.size + 1 + 1 < g) ∧ Hid (Rb w x1 x2 y1 y2 wx) ∧ Hid (Blk 59 g6 X wx))
    case first =>
      have kb := HW3.out.drew
      have kH6 : Blk 59 g6 X wc.drew := H6.out
      go_region_held3 (fun wr => wr.cell? ⟨w.heap.size, 0, none⟩ = some (.int .i64 x1) ∧ wr.cell? ⟨w.heap.size, 1, none⟩ = some (.int .i64 x2) ∧ wr.cell? ⟨w.heap.size + 1, 0, none⟩ = some (.int .i64 y1) ∧ wr.cell? ⟨w.heap.size + 1, 1, none⟩ = some (.int .i64 y2))
        (first | exact kb.four | exact (kb.step (below_one v7 _)).four | exact (kb.put hlt _ _).four | exact (HW3.out.step (below_one wc _)).drew.four | exact (kb.step (below_one _ _)).four | go_keep)
        (first | (go_at_call 49; refine (HS2.out _).mono ?_; rintro e v6 ⟨rfl, rfl⟩) | (go_at_call 62; refine (HM2.out _).mono ?_; rintro e v7 ⟨rfl, hb⟩; have kb := kb.step hb; have kH6 := Blk.below kH6 hb; clear hb) | (go_at_call 62; refine (HM2.out _).mono ?_; rintro e v7 ⟨rfl, hb⟩; have hlt := heap_lt2 HW3.out.h0; have hz := heap_keep (w := (wc.alloc _).drew) (heap_alloc_new wc _) hb; have kb := (HW3.out.step (below_one wc _)).drew.step hb; have kH6 := Blk.below (Blk.drew (Blk.below H6.out (below_one wc _))) hb; obtain ⟨z1, z2, z3, z4⟩ := cell_two hz; clear hb))
      all_goals
        first
          | (have HX := (cell_set (cell_set hz (.int .u64 (hiN Y))).1 (.int .u64 (loN Y))).2
             have HY := Lib.hid (kb.put hlt (.int .u64 (hiN Y)) (.int .u64 (loN Y)))
             have jH6 : Hid (Blk 59 g6 X ((v7.setCell ⟨wc.heap.size, 0, none⟩ (.int .u64 (hiN Y))).setCell ⟨wc.heap.size, 1, none⟩ (.int .u64 (loN Y)))) := Lib.hid (heap_other _ (heap_other _ kH6 (by have := Blk.lt H6.out; omega)) (by have := Blk.lt H6.out; omega))
             go_wp2_with fail
             go_meet
             exact ⟨_, rfl, ⟨HX, hlt⟩, HY, jH6⟩)
          | (have HX := heap_alloc_new v7 (.cells #[.int .u64 (hiN Y), .int .u64 (loN Y)] 59)
             have HY := Lib.hid (kb.step (below_one v7 (.cells #[.int .u64 (hiN Y), .int .u64 (loN Y)] 59)))
             have HL := heap_lt2 kb.h0
             have jH6 := Lib.hid (Blk.below kH6 (below_one v7 (.cells #[.int .u64 (hiN Y), .int .u64 (loN Y)] 59)))
             go_wp2_with fail
             go_meet
             exact ⟨_, rfl, ⟨HX, HL⟩, HY, jH6⟩)
    case rest =>
      clear H6 HW3
      obtain ⟨g7, rfl, hx7, HW4, H6⟩ := hcut
      have H7 := Lib.hid hx7.out.1
      have n7 := hx7.out.2
      clear hx7
      obtain ⟨w4, hw4⟩ : ∃ w4, w4 = wc := ⟨_, rfl⟩
      rw [← hw4] at HW4 H6 H7 ⊢
      clear hw4
      obtain ⟨k1, k2, k3, k4⟩ := HW4.out.four
      go_wp2_with fail
      refine (HM3.out _).mono ?_
      rintro e w5 ⟨rfl, hb⟩
      have HW5 := Lib.hid (HW4.out.step hb)
      have H65 := Lib.hid (H6.out.below hb)
      have H75 := Lib.hid (H7.out.below hb)
      clear hb k1 k2 k3 k4 HW4 H6 H7
      go_upto_region 4 with fail
      have HW6 := Lib.hid (HW5.out.step (below_one w5 (.cells #[.int .u64 (hiN D), .int .u64 (loN D)] 59)))
      have H66 := Lib.hid (H65.out.below (below_one w5 (.cells #[.int .u64 (hiN D), .int .u64 (loN D)] 59)))
      have H76 := Lib.hid (H75.out.below (below_one w5 (.cells #[.int .u64 (hiN D), .int .u64 (loN D)] 59)))
      have H86 := Lib.hid (show Blk 59 w5.heap.size D _ from heap_alloc_new w5 (.cells #[.int .u64 (hiN D), .int .u64 (loN D)] 59))
      have n8 : w.heap.size + 1 + 1 < w5.heap.size := heap_lt2 HW5.out.h0
      generalize w5.alloc (.cells #[.int .u64 (hiN D), .int .u64 (loN D)] 59) = w6 at *
      obtain ⟨g8, hg8⟩ : ∃ g, g = w5.heap.size := ⟨_, rfl⟩
      rw [← hg8] at H86 n8 ⊢
      clear hg8 HW5 H65 H75
      obtain ⟨k1, k2, k3, k4⟩ := HW6.out.four
      cases sa with
      | false =>
        cases sb with
        | false =>
          have HE := Lib.hid (show AP = heldP false (X + Y) D by rw [HAP0.out]; unfold dsumS; rw [if_pos rfl])
          have HCV : Hid (∀ W, Calls Tryd.prog 79 #[.agg #[.int .u64 (hiN X), .int .u64 (loN X)], .agg #[.int .u64 (hiN Y), .int .u64 (loN Y)]] W fun e w' => e = .returned (.agg #[.int .u64 (hiN (X + Y)), .int .u64 (loN (X + Y))]) ∧ Below W.heap.size W w') := Lib.hid (fun W => dplus_any X Y (by have h := HBD.out; omega) W)
          obtain ⟨M, hM⟩ : ∃ M, M = heldP false (X + Y) D := ⟨_, rfl⟩
          have HHD : Hid (∀ W, Calls Tryd.prog 48 #[.bool false, .agg #[.int .u64 (hiN (X + Y)), .int .u64 (loN (X + Y))], .agg #[.int .u64 (hiN D), .int .u64 (loN D)]] W fun e w' => e = .returned (.tuple #[.agg #[.int .i64 M.1.1, .int .i64 M.1.2], .int .i64 M.2]) ∧ Below W.heap.size W w') := Lib.hid (fun W => by rw [hM]; exact held_any false (X + Y) D W (by have h := HBD.out; omega) (by have h := HBD.out; omega))
          rw [← hM] at HE
          obtain ⟨V, hV⟩ : ∃ V, V = X + Y := ⟨_, rfl⟩
          rw [← hV] at HCV HHD
          clear hM hV
          go_upto_region 5 with fail
          have kb := HW6.out.drew
          have k6 := (H66.out).drew
          have k7 := (H76.out).drew
          have k8 := (H86.out).drew
          try clear k1 k2 k3 k4
          go_region_held3 (fun wr => wr.cell? ⟨w.heap.size, 0, none⟩ = some (.int .i64 x1) ∧ wr.cell? ⟨w.heap.size, 1, none⟩ = some (.int .i64 x2) ∧ wr.cell? ⟨w.heap.size + 1, 0, none⟩ = some (.int .i64 y1) ∧ wr.cell? ⟨w.heap.size + 1, 1, none⟩ = some (.int .i64 y2) ∧ wr.cell? ⟨g6, 0, none⟩ = some (.int .u64 (hiN X)) ∧ wr.cell? ⟨g6, 1, none⟩ = some (.int .u64 (loN X)) ∧ wr.cell? ⟨g7, 0, none⟩ = some (.int .u64 (hiN Y)) ∧ wr.cell? ⟨g7, 1, none⟩ = some (.int .u64 (loN Y)) ∧ wr.cell? ⟨g8, 0, none⟩ = some (.int .u64 (hiN D)) ∧ wr.cell? ⟨g8, 1, none⟩ = some (.int .u64 (loN D)))
            (first | exact ⟨kb.four.1, kb.four.2.1, kb.four.2.2.1, kb.four.2.2.2, (cell_two k6).1, (cell_two k6).2.1, (cell_two k7).1, (cell_two k7).2.1, (cell_two k8).1, (cell_two k8).2.1⟩ | exact ⟨(kb.fourT _ _).1, (kb.fourT _ _).2.1, (kb.fourT _ _).2.2.1, (kb.fourT _ _).2.2.2, (cell_two (k6.put n6 _ _)).1, (cell_two (k6.put n6 _ _)).2.1, (cell_two (k7.put n7 _ _)).1, (cell_two (k7.put n7 _ _)).2.1, (cell_two (k8.put n8 _ _)).1, (cell_two (k8.put n8 _ _)).2.1⟩ | go_keep)
            (first | (go_at_call 79; refine (HCV.out _).mono ?_; rintro e v1 ⟨rfl, hb⟩; have kb := kb.step hb; have k6 := k6.below hb; have k7 := k7.below hb; have k8 := k8.below hb; clear hb) | (go_at_call 48; refine (HHD.out _).mono ?_; rintro e v2 ⟨rfl, hb⟩; have kb := kb.step hb; have k6 := k6.below hb; have k7 := k7.below hb; have k8 := k8.below hb; clear hb; obtain ⟨z7, z8, z9, z10⟩ := kb.zero))
          obtain ⟨t1, t2⟩ := kb.told (.int .i64 M.1.1) (.int .i64 M.1.2)
          have T1 := Lib.hid t1
          have T2 := Lib.hid t2
          clear t1 t2 z7 z8 z9 z10
          go_wp2
          refine bodyPost_ret (results_row_tmp (fn := Tryd.f56) rfl _ _ (w.heap.size + 1 + 1) _ _ _ _ rfl T1.out Tryd.underlying23 rfl (by kernel_rfl)) rfl ?_
          exact ⟨by rw [HE.out]; rfl, T2.out⟩
        | true =>
          obtain ⟨j1, j2, _, _⟩ := cell_two H66.out
          obtain ⟨j3, j4, _, _⟩ := cell_two H76.out
          go_wp2_with fail
          refine (dbelow_any X Y _).mono ?_
          rintro e w7 ⟨rfl, hb⟩
          have HW7 := Lib.hid (HW6.out.step hb)
          have H67 := Lib.hid (H66.out.below hb)
          have H77 := Lib.hid (H76.out.below hb)
          have H87 := Lib.hid (H86.out.below hb)
          clear hb j1 j2 j3 j4 k1 k2 k3 k4 HW6 H66 H76 H86
          obtain ⟨k1, k2, k3, k4⟩ := HW7.out.four
          by_cases hlt : X < Y
          · rw [decide_eq_true hlt]
            have HE := Lib.hid (show AP = heldP true (Y - X) D by rw [HAP0.out]; unfold dsumS; rw [if_neg (by decide), if_pos hlt])
            have HCV : Hid (∀ W, Calls Tryd.prog 80 #[.agg #[.int .u64 (hiN Y), .int .u64 (loN Y)], .agg #[.int .u64 (hiN X), .int .u64 (loN X)]] W fun e w' => e = .returned (.agg #[.int .u64 (hiN (Y - X)), .int .u64 (loN (Y - X))]) ∧ Below W.heap.size W w') := Lib.hid (fun W => dminus_any Y X (by omega) (by have h := HBD.out; omega) W)
            obtain ⟨M, hM⟩ : ∃ M, M = heldP true (Y - X) D := ⟨_, rfl⟩
            have HHD : Hid (∀ W, Calls Tryd.prog 48 #[.bool true, .agg #[.int .u64 (hiN (Y - X)), .int .u64 (loN (Y - X))], .agg #[.int .u64 (hiN D), .int .u64 (loN D)]] W fun e w' => e = .returned (.tuple #[.agg #[.int .i64 M.1.1, .int .i64 M.1.2], .int .i64 M.2]) ∧ Below W.heap.size W w') := Lib.hid (fun W => by rw [hM]; exact held_any true (Y - X) D W (by have h := HBD.out; omega) (by have h := HBD.out; omega))
            rw [← hM] at HE
            obtain ⟨V, hV⟩ : ∃ V, V = Y - X := ⟨_, rfl⟩
            rw [← hV] at HCV HHD
            clear hM hV
            go_upto_region 7 with fail
            have kb := HW7.out.drew
            have k6 := (H67.out).drew
            have k7 := (H77.out).drew
            have k8 := (H87.out).drew
            try clear k1 k2 k3 k4
            go_region_held3 (fun wr => wr.cell? ⟨w.heap.size, 0, none⟩ = some (.int .i64 x1) ∧ wr.cell? ⟨w.heap.size, 1, none⟩ = some (.int .i64 x2) ∧ wr.cell? ⟨w.heap.size + 1, 0, none⟩ = some (.int .i64 y1) ∧ wr.cell? ⟨w.heap.size + 1, 1, none⟩ = some (.int .i64 y2) ∧ wr.cell? ⟨g6, 0, none⟩ = some (.int .u64 (hiN X)) ∧ wr.cell? ⟨g6, 1, none⟩ = some (.int .u64 (loN X)) ∧ wr.cell? ⟨g7, 0, none⟩ = some (.int .u64 (hiN Y)) ∧ wr.cell? ⟨g7, 1, none⟩ = some (.int .u64 (loN Y)) ∧ wr.cell? ⟨g8, 0, none⟩ = some (.int .u64 (hiN D)) ∧ wr.cell? ⟨g8, 1, none⟩ = some (.int .u64 (loN D)))
              (first | exact ⟨kb.four.1, kb.four.2.1, kb.four.2.2.1, kb.four.2.2.2, (cell_two k6).1, (cell_two k6).2.1, (cell_two k7).1, (cell_two k7).2.1, (cell_two k8).1, (cell_two k8).2.1⟩ | exact ⟨(kb.fourT _ _).1, (kb.fourT _ _).2.1, (kb.fourT _ _).2.2.1, (kb.fourT _ _).2.2.2, (cell_two (k6.put n6 _ _)).1, (cell_two (k6.put n6 _ _)).2.1, (cell_two (k7.put n7 _ _)).1, (cell_two (k7.put n7 _ _)).2.1, (cell_two (k8.put n8 _ _)).1, (cell_two (k8.put n8 _ _)).2.1⟩ | go_keep)
              (first | (go_at_call 80; refine (HCV.out _).mono ?_; rintro e v1 ⟨rfl, hb⟩; have kb := kb.step hb; have k6 := k6.below hb; have k7 := k7.below hb; have k8 := k8.below hb; clear hb) | (go_at_call 48; refine (HHD.out _).mono ?_; rintro e v2 ⟨rfl, hb⟩; have kb := kb.step hb; have k6 := k6.below hb; have k7 := k7.below hb; have k8 := k8.below hb; clear hb; obtain ⟨z7, z8, z9, z10⟩ := kb.zero))
            obtain ⟨t1, t2⟩ := kb.told (.int .i64 M.1.1) (.int .i64 M.1.2)
            have T1 := Lib.hid t1
            have T2 := Lib.hid t2
            clear t1 t2 z7 z8 z9 z10
            go_wp2
            refine bodyPost_ret (results_row_tmp (fn := Tryd.f56) rfl _ _ (w.heap.size + 1 + 1) _ _ _ _ rfl T1.out Tryd.underlying23 rfl (by kernel_rfl)) rfl ?_
            exact ⟨by rw [HE.out]; rfl, T2.out⟩
          · rw [decide_eq_false hlt]
            have HE := Lib.hid (show AP = heldP false (X - Y) D by rw [HAP0.out]; unfold dsumS; rw [if_neg (by decide), if_neg hlt])
            have HCV : Hid (∀ W, Calls Tryd.prog 80 #[.agg #[.int .u64 (hiN X), .int .u64 (loN X)], .agg #[.int .u64 (hiN Y), .int .u64 (loN Y)]] W fun e w' => e = .returned (.agg #[.int .u64 (hiN (X - Y)), .int .u64 (loN (X - Y))]) ∧ Below W.heap.size W w') := Lib.hid (fun W => dminus_any X Y (by omega) (by have h := HBD.out; omega) W)
            obtain ⟨M, hM⟩ : ∃ M, M = heldP false (X - Y) D := ⟨_, rfl⟩
            have HHD : Hid (∀ W, Calls Tryd.prog 48 #[.bool false, .agg #[.int .u64 (hiN (X - Y)), .int .u64 (loN (X - Y))], .agg #[.int .u64 (hiN D), .int .u64 (loN D)]] W fun e w' => e = .returned (.tuple #[.agg #[.int .i64 M.1.1, .int .i64 M.1.2], .int .i64 M.2]) ∧ Below W.heap.size W w') := Lib.hid (fun W => by rw [hM]; exact held_any false (X - Y) D W (by have h := HBD.out; omega) (by have h := HBD.out; omega))
            rw [← hM] at HE
            obtain ⟨V, hV⟩ : ∃ V, V = X - Y := ⟨_, rfl⟩
            rw [← hV] at HCV HHD
            clear hM hV
            go_upto_region 8 with fail
            have kb := HW7.out.drew
            have k6 := (H67.out).drew
            have k7 := (H77.out).drew
            have k8 := (H87.out).drew
            try clear k1 k2 k3 k4
            go_region_held3 (fun wr => wr.cell? ⟨w.heap.size, 0, none⟩ = some (.int .i64 x1) ∧ wr.cell? ⟨w.heap.size, 1, none⟩ = some (.int .i64 x2) ∧ wr.cell? ⟨w.heap.size + 1, 0, none⟩ = some (.int .i64 y1) ∧ wr.cell? ⟨w.heap.size + 1, 1, none⟩ = some (.int .i64 y2) ∧ wr.cell? ⟨g6, 0, none⟩ = some (.int .u64 (hiN X)) ∧ wr.cell? ⟨g6, 1, none⟩ = some (.int .u64 (loN X)) ∧ wr.cell? ⟨g7, 0, none⟩ = some (.int .u64 (hiN Y)) ∧ wr.cell? ⟨g7, 1, none⟩ = some (.int .u64 (loN Y)) ∧ wr.cell? ⟨g8, 0, none⟩ = some (.int .u64 (hiN D)) ∧ wr.cell? ⟨g8, 1, none⟩ = some (.int .u64 (loN D)))
              (first | exact ⟨kb.four.1, kb.four.2.1, kb.four.2.2.1, kb.four.2.2.2, (cell_two k6).1, (cell_two k6).2.1, (cell_two k7).1, (cell_two k7).2.1, (cell_two k8).1, (cell_two k8).2.1⟩ | exact ⟨(kb.fourT _ _).1, (kb.fourT _ _).2.1, (kb.fourT _ _).2.2.1, (kb.fourT _ _).2.2.2, (cell_two (k6.put n6 _ _)).1, (cell_two (k6.put n6 _ _)).2.1, (cell_two (k7.put n7 _ _)).1, (cell_two (k7.put n7 _ _)).2.1, (cell_two (k8.put n8 _ _)).1, (cell_two (k8.put n8 _ _)).2.1⟩ | go_keep)
              (first | (go_at_call 80; refine (HCV.out _).mono ?_; rintro e v1 ⟨rfl, hb⟩; have kb := kb.step hb; have k6 := k6.below hb; have k7 := k7.below hb; have k8 := k8.below hb; clear hb) | (go_at_call 48; refine (HHD.out _).mono ?_; rintro e v2 ⟨rfl, hb⟩; have kb := kb.step hb; have k6 := k6.below hb; have k7 := k7.below hb; have k8 := k8.below hb; clear hb; obtain ⟨z7, z8, z9, z10⟩ := kb.zero))
            obtain ⟨t1, t2⟩ := kb.told (.int .i64 M.1.1) (.int .i64 M.1.2)
            have T1 := Lib.hid t1
            have T2 := Lib.hid t2
            clear t1 t2 z7 z8 z9 z10
            go_wp2
            refine bodyPost_ret (results_row_tmp (fn := Tryd.f56) rfl _ _ (w.heap.size + 1 + 1) _ _ _ _ rfl T1.out Tryd.underlying23 rfl (by kernel_rfl)) rfl ?_
            exact ⟨by rw [HE.out]; rfl, T2.out⟩
      | true =>
        cases sb with
        | false =>
          obtain ⟨j1, j2, _, _⟩ := cell_two H66.out
          obtain ⟨j3, j4, _, _⟩ := cell_two H76.out
          go_wp2_with fail
          refine (dbelow_any X Y _).mono ?_
          rintro e w7 ⟨rfl, hb⟩
          have HW7 := Lib.hid (HW6.out.step hb)
          have H67 := Lib.hid (H66.out.below hb)
          have H77 := Lib.hid (H76.out.below hb)
          have H87 := Lib.hid (H86.out.below hb)
          clear hb j1 j2 j3 j4 k1 k2 k3 k4 HW6 H66 H76 H86
          obtain ⟨k1, k2, k3, k4⟩ := HW7.out.four
          by_cases hlt : X < Y
          · rw [decide_eq_true hlt]
            have HE := Lib.hid (show AP = heldP false (Y - X) D by rw [HAP0.out]; unfold dsumS; rw [if_neg (by decide), if_pos hlt])
            have HCV : Hid (∀ W, Calls Tryd.prog 80 #[.agg #[.int .u64 (hiN Y), .int .u64 (loN Y)], .agg #[.int .u64 (hiN X), .int .u64 (loN X)]] W fun e w' => e = .returned (.agg #[.int .u64 (hiN (Y - X)), .int .u64 (loN (Y - X))]) ∧ Below W.heap.size W w') := Lib.hid (fun W => dminus_any Y X (by omega) (by have h := HBD.out; omega) W)
            obtain ⟨M, hM⟩ : ∃ M, M = heldP false (Y - X) D := ⟨_, rfl⟩
            have HHD : Hid (∀ W, Calls Tryd.prog 48 #[.bool false, .agg #[.int .u64 (hiN (Y - X)), .int .u64 (loN (Y - X))], .agg #[.int .u64 (hiN D), .int .u64 (loN D)]] W fun e w' => e = .returned (.tuple #[.agg #[.int .i64 M.1.1, .int .i64 M.1.2], .int .i64 M.2]) ∧ Below W.heap.size W w') := Lib.hid (fun W => by rw [hM]; exact held_any false (Y - X) D W (by have h := HBD.out; omega) (by have h := HBD.out; omega))
            rw [← hM] at HE
            obtain ⟨V, hV⟩ : ∃ V, V = Y - X := ⟨_, rfl⟩
            rw [← hV] at HCV HHD
            clear hM hV
            go_upto_region 7 with fail
            have kb := HW7.out.drew
            have k6 := (H67.out).drew
            have k7 := (H77.out).drew
            have k8 := (H87.out).drew
            try clear k1 k2 k3 k4
            go_region_held3 (fun wr => wr.cell? ⟨w.heap.size, 0, none⟩ = some (.int .i64 x1) ∧ wr.cell? ⟨w.heap.size, 1, none⟩ = some (.int .i64 x2) ∧ wr.cell? ⟨w.heap.size + 1, 0, none⟩ = some (.int .i64 y1) ∧ wr.cell? ⟨w.heap.size + 1, 1, none⟩ = some (.int .i64 y2) ∧ wr.cell? ⟨g6, 0, none⟩ = some (.int .u64 (hiN X)) ∧ wr.cell? ⟨g6, 1, none⟩ = some (.int .u64 (loN X)) ∧ wr.cell? ⟨g7, 0, none⟩ = some (.int .u64 (hiN Y)) ∧ wr.cell? ⟨g7, 1, none⟩ = some (.int .u64 (loN Y)) ∧ wr.cell? ⟨g8, 0, none⟩ = some (.int .u64 (hiN D)) ∧ wr.cell? ⟨g8, 1, none⟩ = some (.int .u64 (loN D)))
              (first | exact ⟨kb.four.1, kb.four.2.1, kb.four.2.2.1, kb.four.2.2.2, (cell_two k6).1, (cell_two k6).2.1, (cell_two k7).1, (cell_two k7).2.1, (cell_two k8).1, (cell_two k8).2.1⟩ | exact ⟨(kb.fourT _ _).1, (kb.fourT _ _).2.1, (kb.fourT _ _).2.2.1, (kb.fourT _ _).2.2.2, (cell_two (k6.put n6 _ _)).1, (cell_two (k6.put n6 _ _)).2.1, (cell_two (k7.put n7 _ _)).1, (cell_two (k7.put n7 _ _)).2.1, (cell_two (k8.put n8 _ _)).1, (cell_two (k8.put n8 _ _)).2.1⟩ | go_keep)
              (first | (go_at_call 80; refine (HCV.out _).mono ?_; rintro e v1 ⟨rfl, hb⟩; have kb := kb.step hb; have k6 := k6.below hb; have k7 := k7.below hb; have k8 := k8.below hb; clear hb) | (go_at_call 48; refine (HHD.out _).mono ?_; rintro e v2 ⟨rfl, hb⟩; have kb := kb.step hb; have k6 := k6.below hb; have k7 := k7.below hb; have k8 := k8.below hb; clear hb; obtain ⟨z7, z8, z9, z10⟩ := kb.zero))
            obtain ⟨t1, t2⟩ := kb.told (.int .i64 M.1.1) (.int .i64 M.1.2)
            have T1 := Lib.hid t1
            have T2 := Lib.hid t2
            clear t1 t2 z7 z8 z9 z10
            go_wp2
            refine bodyPost_ret (results_row_tmp (fn := Tryd.f56) rfl _ _ (w.heap.size + 1 + 1) _ _ _ _ rfl T1.out Tryd.underlying23 rfl (by kernel_rfl)) rfl ?_
            exact ⟨by rw [HE.out]; rfl, T2.out⟩
          · rw [decide_eq_false hlt]
            have HE := Lib.hid (show AP = heldP true (X - Y) D by rw [HAP0.out]; unfold dsumS; rw [if_neg (by decide), if_neg hlt])
            have HCV : Hid (∀ W, Calls Tryd.prog 80 #[.agg #[.int .u64 (hiN X), .int .u64 (loN X)], .agg #[.int .u64 (hiN Y), .int .u64 (loN Y)]] W fun e w' => e = .returned (.agg #[.int .u64 (hiN (X - Y)), .int .u64 (loN (X - Y))]) ∧ Below W.heap.size W w') := Lib.hid (fun W => dminus_any X Y (by omega) (by have h := HBD.out; omega) W)
            obtain ⟨M, hM⟩ : ∃ M, M = heldP true (X - Y) D := ⟨_, rfl⟩
            have HHD : Hid (∀ W, Calls Tryd.prog 48 #[.bool true, .agg #[.int .u64 (hiN (X - Y)), .int .u64 (loN (X - Y))], .agg #[.int .u64 (hiN D), .int .u64 (loN D)]] W fun e w' => e = .returned (.tuple #[.agg #[.int .i64 M.1.1, .int .i64 M.1.2], .int .i64 M.2]) ∧ Below W.heap.size W w') := Lib.hid (fun W => by rw [hM]; exact held_any true (X - Y) D W (by have h := HBD.out; omega) (by have h := HBD.out; omega))
            rw [← hM] at HE
            obtain ⟨V, hV⟩ : ∃ V, V = X - Y := ⟨_, rfl⟩
            rw [← hV] at HCV HHD
            clear hM hV
            go_upto_region 8 with fail
            have kb := HW7.out.drew
            have k6 := (H67.out).drew
            have k7 := (H77.out).drew
            have k8 := (H87.out).drew
            try clear k1 k2 k3 k4
            go_region_held3 (fun wr => wr.cell? ⟨w.heap.size, 0, none⟩ = some (.int .i64 x1) ∧ wr.cell? ⟨w.heap.size, 1, none⟩ = some (.int .i64 x2) ∧ wr.cell? ⟨w.heap.size + 1, 0, none⟩ = some (.int .i64 y1) ∧ wr.cell? ⟨w.heap.size + 1, 1, none⟩ = some (.int .i64 y2) ∧ wr.cell? ⟨g6, 0, none⟩ = some (.int .u64 (hiN X)) ∧ wr.cell? ⟨g6, 1, none⟩ = some (.int .u64 (loN X)) ∧ wr.cell? ⟨g7, 0, none⟩ = some (.int .u64 (hiN Y)) ∧ wr.cell? ⟨g7, 1, none⟩ = some (.int .u64 (loN Y)) ∧ wr.cell? ⟨g8, 0, none⟩ = some (.int .u64 (hiN D)) ∧ wr.cell? ⟨g8, 1, none⟩ = some (.int .u64 (loN D)))
              (first | exact ⟨kb.four.1, kb.four.2.1, kb.four.2.2.1, kb.four.2.2.2, (cell_two k6).1, (cell_two k6).2.1, (cell_two k7).1, (cell_two k7).2.1, (cell_two k8).1, (cell_two k8).2.1⟩ | exact ⟨(kb.fourT _ _).1, (kb.fourT _ _).2.1, (kb.fourT _ _).2.2.1, (kb.fourT _ _).2.2.2, (cell_two (k6.put n6 _ _)).1, (cell_two (k6.put n6 _ _)).2.1, (cell_two (k7.put n7 _ _)).1, (cell_two (k7.put n7 _ _)).2.1, (cell_two (k8.put n8 _ _)).1, (cell_two (k8.put n8 _ _)).2.1⟩ | go_keep)
              (first | (go_at_call 80; refine (HCV.out _).mono ?_; rintro e v1 ⟨rfl, hb⟩; have kb := kb.step hb; have k6 := k6.below hb; have k7 := k7.below hb; have k8 := k8.below hb; clear hb) | (go_at_call 48; refine (HHD.out _).mono ?_; rintro e v2 ⟨rfl, hb⟩; have kb := kb.step hb; have k6 := k6.below hb; have k7 := k7.below hb; have k8 := k8.below hb; clear hb; obtain ⟨z7, z8, z9, z10⟩ := kb.zero))
            obtain ⟨t1, t2⟩ := kb.told (.int .i64 M.1.1) (.int .i64 M.1.2)
            have T1 := Lib.hid t1
            have T2 := Lib.hid t2
            clear t1 t2 z7 z8 z9 z10
            go_wp2
            refine bodyPost_ret (results_row_tmp (fn := Tryd.f56) rfl _ _ (w.heap.size + 1 + 1) _ _ _ _ rfl T1.out Tryd.underlying23 rfl (by kernel_rfl)) rfl ?_
            exact ⟨by rw [HE.out]; rfl, T2.out⟩
        | true =>
          have HE := Lib.hid (show AP = heldP true (X + Y) D by rw [HAP0.out]; unfold dsumS; rw [if_pos rfl])
          have HCV : Hid (∀ W, Calls Tryd.prog 79 #[.agg #[.int .u64 (hiN X), .int .u64 (loN X)], .agg #[.int .u64 (hiN Y), .int .u64 (loN Y)]] W fun e w' => e = .returned (.agg #[.int .u64 (hiN (X + Y)), .int .u64 (loN (X + Y))]) ∧ Below W.heap.size W w') := Lib.hid (fun W => dplus_any X Y (by have h := HBD.out; omega) W)
          obtain ⟨M, hM⟩ : ∃ M, M = heldP true (X + Y) D := ⟨_, rfl⟩
          have HHD : Hid (∀ W, Calls Tryd.prog 48 #[.bool true, .agg #[.int .u64 (hiN (X + Y)), .int .u64 (loN (X + Y))], .agg #[.int .u64 (hiN D), .int .u64 (loN D)]] W fun e w' => e = .returned (.tuple #[.agg #[.int .i64 M.1.1, .int .i64 M.1.2], .int .i64 M.2]) ∧ Below W.heap.size W w') := Lib.hid (fun W => by rw [hM]; exact held_any true (X + Y) D W (by have h := HBD.out; omega) (by have h := HBD.out; omega))
          rw [← hM] at HE
          obtain ⟨V, hV⟩ : ∃ V, V = X + Y := ⟨_, rfl⟩
          rw [← hV] at HCV HHD
          clear hM hV
          go_upto_region 5 with fail
          have kb := HW6.out.drew
          have k6 := (H66.out).drew
          have k7 := (H76.out).drew
          have k8 := (H86.out).drew
          try clear k1 k2 k3 k4
          go_region_held3 (fun wr => wr.cell? ⟨w.heap.size, 0, none⟩ = some (.int .i64 x1) ∧ wr.cell? ⟨w.heap.size, 1, none⟩ = some (.int .i64 x2) ∧ wr.cell? ⟨w.heap.size + 1, 0, none⟩ = some (.int .i64 y1) ∧ wr.cell? ⟨w.heap.size + 1, 1, none⟩ = some (.int .i64 y2) ∧ wr.cell? ⟨g6, 0, none⟩ = some (.int .u64 (hiN X)) ∧ wr.cell? ⟨g6, 1, none⟩ = some (.int .u64 (loN X)) ∧ wr.cell? ⟨g7, 0, none⟩ = some (.int .u64 (hiN Y)) ∧ wr.cell? ⟨g7, 1, none⟩ = some (.int .u64 (loN Y)) ∧ wr.cell? ⟨g8, 0, none⟩ = some (.int .u64 (hiN D)) ∧ wr.cell? ⟨g8, 1, none⟩ = some (.int .u64 (loN D)))
            (first | exact ⟨kb.four.1, kb.four.2.1, kb.four.2.2.1, kb.four.2.2.2, (cell_two k6).1, (cell_two k6).2.1, (cell_two k7).1, (cell_two k7).2.1, (cell_two k8).1, (cell_two k8).2.1⟩ | exact ⟨(kb.fourT _ _).1, (kb.fourT _ _).2.1, (kb.fourT _ _).2.2.1, (kb.fourT _ _).2.2.2, (cell_two (k6.put n6 _ _)).1, (cell_two (k6.put n6 _ _)).2.1, (cell_two (k7.put n7 _ _)).1, (cell_two (k7.put n7 _ _)).2.1, (cell_two (k8.put n8 _ _)).1, (cell_two (k8.put n8 _ _)).2.1⟩ | go_keep)
            (first | (go_at_call 79; refine (HCV.out _).mono ?_; rintro e v1 ⟨rfl, hb⟩; have kb := kb.step hb; have k6 := k6.below hb; have k7 := k7.below hb; have k8 := k8.below hb; clear hb) | (go_at_call 48; refine (HHD.out _).mono ?_; rintro e v2 ⟨rfl, hb⟩; have kb := kb.step hb; have k6 := k6.below hb; have k7 := k7.below hb; have k8 := k8.below hb; clear hb; obtain ⟨z7, z8, z9, z10⟩ := kb.zero))
          obtain ⟨t1, t2⟩ := kb.told (.int .i64 M.1.1) (.int .i64 M.1.2)
          have T1 := Lib.hid t1
          have T2 := Lib.hid t2
          clear t1 t2 z7 z8 z9 z10
          go_wp2
          refine bodyPost_ret (results_row_tmp (fn := Tryd.f56) rfl _ _ (w.heap.size + 1 + 1) _ _ _ _ rfl T1.out Tryd.underlying23 rfl (by kernel_rfl)) rfl ?_
          exact ⟨by rw [HE.out]; rfl, T2.out⟩

end Go.Proofs.YtmgdhlcgbgpgpaaDoor
