/- Texts of ours, laid together: Yn. -/
import Derived.Test.YtmgdhlcgbgpgpaaDoorMg9
/- RatSums: every two fractions: sum, difference, product, quotient, which is greater, or the errors. -/
namespace Go.Proofs.YtmgdhlcgbgpgpaaDoor
open Go Go.RowKit
set_option linter.unusedVariables false
set_option linter.unusedSimpArgs false

/-- Fractions in blocks one behind another: each may be written anew. -/
structure RtS (w0 : World) (L : List (Nat × Int × Int)) (wr : World) : Prop where
  r : RtL w0 L wr
  s : L.Pairwise fun a b => a.1 < b.1
  lo : ∀ t ∈ L, w0.heap.size ≤ t.1
  t0 : TabQ w0
section
variable {w0 wr w' : World} {L : List (Nat × Int × Int)}
theorem RtS.start (h : TabQ w0) : RtS w0 [] w0 := ⟨RtL.start h, List.Pairwise.nil, (fun _ h => by cases h), h⟩
theorem RtS.step (h : RtS w0 L wr) (hb : Below wr.heap.size wr w') : RtS w0 L w' := ⟨h.r.step hb, h.s, h.lo, h.t0⟩
theorem RtS.drew (h : RtS w0 L wr) : RtS w0 L wr.drew := ⟨h.r.drew, h.s, h.lo, h.t0⟩
theorem RtS.new (h : RtS w0 L wr) (x y : Int) : RtS w0 (L ++ [(wr.heap.size, x, y)]) (wr.alloc (.cells #[.int .i64 x, .int .i64 y] 23)) := by
  refine ⟨h.r.new x y, List.pairwise_append.2 ⟨h.s, List.pairwise_singleton _ _, fun a ha b hb => ?_⟩, fun t ht => ?_, h.t0⟩
  · obtain rfl := List.mem_singleton.1 hb
    exact heap_lt2 (h.r.l a ha)
  · rcases List.mem_append.1 ht with ht | ht
    · exact h.lo t ht
    · obtain rfl := List.mem_singleton.1 ht
      exact h.r.below.size
theorem RtS.two (h : RtS w0 [] w0) (x y u v : Int) : RtS w0 [(w0.heap.size, x, y), (w0.heap.size + 1, u, v)] ((w0.alloc (.cells #[.int .i64 x, .int .i64 y] 23)).alloc (.cells #[.int .i64 u, .int .i64 v] 23)) := by
  have := (h.new x y).new u v
  rw [show (w0.alloc (.cells #[.int .i64 x, .int .i64 y] 23)).heap.size = w0.heap.size + 1 by simp] at this
  exact this
theorem RtS.cells (h : RtS w0 L wr) (j : Nat) {t : Nat × Int × Int} (ht : L[j]? = some t) : wr.cell? ⟨t.1, 0, none⟩ = some (.int .i64 t.2.1) ∧ wr.cell? ⟨t.1, 1, none⟩ = some (.int .i64 t.2.2) ∧ wr.frozen? ⟨t.1, 0, none⟩ = false ∧ wr.frozen? ⟨t.1, 1, none⟩ = false := cell_two (h.r.l t (List.mem_of_getElem? ht))
theorem RtS.put (h : RtS w0 L wr) (j : Nat) {g : Nat} {x y : Int} (hj : L[j]? = some (g, x, y)) (u v : Int) : RtS w0 (L.set j (g, u, v)) ((wr.setCell ⟨g, 0, none⟩ (.int .i64 u)).setCell ⟨g, 1, none⟩ (.int .i64 v)) := by
  have hjl : j < L.length := (List.getElem?_eq_some_iff.1 hj).1
  have hje : L[j] = (g, x, y) := (List.getElem?_eq_some_iff.1 hj).2
  have hl : w0.heap.size ≤ g := h.lo (g, x, y) (List.mem_of_getElem? hj)
  have hp := List.pairwise_iff_getElem.1 h.s
  have hb : Below w0.heap.size w0 ((wr.setCell ⟨g, 0, none⟩ (.int .i64 u)).setCell ⟨g, 1, none⟩ (.int .i64 v)) := (h.r.below.setCell (p := ⟨g, 0, none⟩) hl _).setCell (p := ⟨g, 1, none⟩) hl _
  have one : ∀ k (hk : k < (L.set j (g, u, v)).length), ((L.set j (g, u, v))[k]).1 = (L[k]'(by simpa using hk)).1 := fun k hk => by
    rw [List.getElem_set]
    split
    · rename_i e; subst e; rw [hje]
    · rfl
  refine ⟨⟨hb, fun t ht => ?_, h.t0.below hb⟩, ?_, fun t ht => ?_, h.t0⟩
  · obtain ⟨k, hk1, hk2⟩ := List.getElem_of_mem ht
    have hkl : k < L.length := by simpa using hk1
    rw [List.getElem_set] at hk2
    by_cases e : j = k
    · rw [if_pos e] at hk2
      subst hk2
      exact rat_cells (h.r.l (g, x, y) (List.mem_of_getElem? hj)) _ _
    · rw [if_neg e] at hk2
      subst hk2
      have hne : (L[k]).1 ≠ g := by
        rcases Nat.lt_or_gt_of_ne e with h1 | h1
        · have := hp j k hjl hkl h1; rw [hje] at this; exact Nat.ne_of_gt this
        · have := hp k j hkl hjl h1; rw [hje] at this; exact Nat.ne_of_lt this
      exact heap_other _ (heap_other _ (h.r.l _ (List.getElem_mem _)) hne) hne
  · refine List.pairwise_iff_getElem.2 (fun a b ha hb hab => ?_)
    rw [one a ha, one b hb]
    exact hp a b (by simpa using ha) (by simpa using hb) hab
  · obtain ⟨k, hk1, hk2⟩ := List.getElem_of_mem ht
    rw [← hk2, one k hk1]
    exact h.lo _ (List.getElem_mem _)
end

def tbSums (g2 g3 g5 g7 : Nat) (x1 x2 y1 y2 q1 q2 eq c : Int) : List (Nat × Nat × Value) :=
  [(0, 83, .agg #[.int .i64 q1, .int .i64 q2]), (1, 84, .agg #[.int .i64 q1, .int .i64 q2]), (2, 85, .bool true), (3, 86, .bool true), (4, 87, .int .i64 eq), (5, 88, .int .i64 eq), (6, 89, .bool true), (7, 90, .bool true), (8, 91, .bool true), (9, 92, .agg #[.int .i64 x1, .int .i64 x2]), (10, 93, .agg #[.int .i64 y1, .int .i64 y2]), (11, 94, .int .i64 c), (12, 95, .agg #[.int .i64 x1, .int .i64 x2]), (13, 96, .agg #[.int .i64 y1, .int .i64 y2]), (14, 97, .int .i64 c), (15, 98, .bool true), (16, 99, .bool true), (17, 4, .bool true)]
def bsSums (g2 g3 g5 g7 : Nat) (x1 x2 y1 y2 q1 q2 eq c : Int) : List (Nat × Value) := [(2, .pointer (some ⟨g2, 0, none⟩)), (3, .pointer (some ⟨g3, 0, none⟩)), (5, .pointer (some ⟨g5, 0, none⟩)), (6, .int .i64 eq), (7, .pointer (some ⟨g7, 0, none⟩)), (8, .int .i64 eq)]


set_option maxRecDepth 100000 in
set_option maxHeartbeats 16000000 in
theorem sums02_any (x1 x2 y1 y2 : Int) (w : World) (hx1 : I64 x1) (hx2 : I64 x2) (hy1 : I64 y1) (hy2 : I64 y2) (ht : TabQ w) :
    Calls Tryd.prog 7 #[.agg #[.int .i64 x1, .int .i64 x2], .agg #[.int .i64 y1, .int .i64 y2]] w fun e w' => e = .returned (.bool true) ∧ Below w.heap.size w w' := by
  obtain ⟨⟨⟨s1, s2⟩, es⟩, hs⟩ : ∃ q, q = addP (x1, x2) (y1, y2) := ⟨_, rfl⟩
  have HsA : Hid (∀ W, Calls Tryd.prog 24 #[.agg #[.int .i64 x1, .int .i64 x2], .agg #[.int .i64 y1, .int .i64 y2]] W fun e w' => e = .returned (.tuple #[.agg #[.int .i64 s1, .int .i64 s2], .int .i64 es]) ∧ Below W.heap.size W w') := Lib.hid (fun W => by have h := add_any x1 x2 y1 y2 hx1 hx2 hy1 hy2 W; rw [← hs] at h; exact h)
  have HsB : Hid (∀ W, Calls Tryd.prog 27 #[.agg #[.int .i64 x1, .int .i64 x2], .agg #[.int .i64 y1, .int .i64 y2]] W fun e w' => e = .returned (.tuple #[.agg #[.int .i64 s1, .int .i64 s2], .int .i64 es]) ∧ Below W.heap.size W w') := Lib.hid (fun W => by have h := dadd_any x1 x2 y1 y2 hx1 hx2 hy1 hy2 W; rw [← hs] at h; exact h)
  obtain ⟨⟨⟨d1, d2⟩, ed⟩, hd⟩ : ∃ q, q = subP (x1, x2) (y1, y2) := ⟨_, rfl⟩
  have HdA : Hid (∀ W, Calls Tryd.prog 22 #[.agg #[.int .i64 x1, .int .i64 x2], .agg #[.int .i64 y1, .int .i64 y2]] W fun e w' => e = .returned (.tuple #[.agg #[.int .i64 d1, .int .i64 d2], .int .i64 ed]) ∧ Below W.heap.size W w') := Lib.hid (fun W => by have h := sub_any x1 x2 y1 y2 hx1 hx2 hy1 hy2 W; rw [← hd] at h; exact h)
  have HdB : Hid (∀ W, Calls Tryd.prog 28 #[.agg #[.int .i64 x1, .int .i64 x2], .agg #[.int .i64 y1, .int .i64 y2]] W fun e w' => e = .returned (.tuple #[.agg #[.int .i64 d1, .int .i64 d2], .int .i64 ed]) ∧ Below W.heap.size W w') := Lib.hid (fun W => by have h := dsub_any x1 x2 y1 y2 hx1 hx2 hy1 hy2 W; rw [← hd] at h; exact h)
  obtain ⟨⟨⟨p1, p2⟩, ep⟩, hp⟩ : ∃ q, q = mulP (x1, x2) (y1, y2) := ⟨_, rfl⟩
  have HpA : Hid (∀ W, Calls Tryd.prog 29 #[.agg #[.int .i64 x1, .int .i64 x2], .agg #[.int .i64 y1, .int .i64 y2]] W fun e w' => e = .returned (.tuple #[.agg #[.int .i64 p1, .int .i64 p2], .int .i64 ep]) ∧ Below W.heap.size W w') := Lib.hid (fun W => by have h := mul_any x1 x2 y1 y2 hx1 hx2 hy1 hy2 W; rw [← hp] at h; exact h)
  have HpB : Hid (∀ W, Calls Tryd.prog 30 #[.agg #[.int .i64 x1, .int .i64 x2], .agg #[.int .i64 y1, .int .i64 y2]] W fun e w' => e = .returned (.tuple #[.agg #[.int .i64 p1, .int .i64 p2], .int .i64 ep]) ∧ Below W.heap.size W w') := Lib.hid (fun W => by have h := dmulr_any x1 x2 y1 y2 hx1 hx2 hy1 hy2 W; rw [← hp] at h; exact h)
  obtain ⟨⟨⟨q1, q2⟩, eq⟩, hq⟩ : ∃ q, q = divP (x1, x2) (y1, y2) := ⟨_, rfl⟩
  have HqA : Hid (∀ W, Calls Tryd.prog 31 #[.agg #[.int .i64 x1, .int .i64 x2], .agg #[.int .i64 y1, .int .i64 y2]] W fun e w' => e = .returned (.tuple #[.agg #[.int .i64 q1, .int .i64 q2], .int .i64 eq]) ∧ Below W.heap.size W w') := Lib.hid (fun W => by have h := div_any x1 x2 y1 y2 hx1 hx2 hy1 hy2 W; rw [← hq] at h; exact h)
  have HqB : Hid (∀ W, Calls Tryd.prog 32 #[.agg #[.int .i64 x1, .int .i64 x2], .agg #[.int .i64 y1, .int .i64 y2]] W fun e w' => e = .returned (.tuple #[.agg #[.int .i64 q1, .int .i64 q2], .int .i64 eq]) ∧ Below W.heap.size W w') := Lib.hid (fun W => by have h := ddiv_any x1 x2 y1 y2 hx1 hx2 hy1 hy2 W; rw [← hq] at h; exact h)
  have HC1 := Lib.hid (fun W => compare_any x1 x2 y1 y2 hx1 hx2 hy1 hy2 W)
  have HC2 := Lib.hid (fun W => dcompare_any x1 x2 y1 y2 hx1 hx2 hy1 hy2 W)
  obtain ⟨c, hc⟩ : ∃ q, q = cmpP (x1, x2) (y1, y2) := ⟨_, rfl⟩
  rw [← hc] at HC1 HC2
  have K := Lib.hid ((RtS.start ht).two x1 x2 y1 y2)
  clear hs hd hp hq hc hx1 hx2 hy1 hy2
  have HT := Lib.hid ht
  clear ht
  go_enter Tryd.func7, Tryd.ntmps7
  go_upto_region 1 with fail
  generalize (w.alloc (.cells #[.int .i64 x1, .int .i64 x2] 23)).alloc (.cells #[.int .i64 y1, .int .i64 y2] 23) = w1 at *
  go_wp2_with fail
  refine (live02_any _ K.out.r.tab).mono ?_
  rintro e wl ⟨rfl, hb⟩
  replace K := Lib.hid (K.out.step hb)
  clear hb
  obtain ⟨ka0, kb0, _, _⟩ := K.out.cells 0 rfl
  obtain ⟨ka1, kb1, _, _⟩ := K.out.cells 1 rfl
  go_wp2_with fail
  refine (HsA.out _).mono ?_
  rintro e u1 ⟨rfl, hb⟩
  replace K := Lib.hid (K.out.step hb)
  clear hb ka0 kb0 ka1 kb1 HsA
  go_upto_region 4 with fail
  replace K := Lib.hid (K.out.new s1 s2)
  generalize u1.alloc (.cells #[.int .i64 s1, .int .i64 s2] 23) = v1 at *
  generalize u1.heap.size = g5 at *
  simp only [List.cons_append, List.nil_append] at K
  obtain ⟨ka0, kb0, _, _⟩ := K.out.cells 0 rfl
  obtain ⟨ka1, kb1, _, _⟩ := K.out.cells 1 rfl
  go_wp2_with fail
  refine (HsB.out _).mono ?_
  rintro e u2 ⟨rfl, hb⟩
  replace K := Lib.hid (K.out.step hb)
  clear hb ka0 kb0 ka1 kb1 HsB
  go_upto_region 5 with fail
  replace K := Lib.hid (K.out.new s1 s2)
  generalize u2.alloc (.cells #[.int .i64 s1, .int .i64 s2] 23) = v2 at *
  generalize u2.heap.size = g7 at *
  simp only [List.cons_append, List.nil_append] at K
  obtain ⟨ka0, kb0, _, _⟩ := K.out.cells 0 rfl
  obtain ⟨ka1, kb1, _, _⟩ := K.out.cells 1 rfl
  obtain ⟨ka2, kb2, _, _⟩ := K.out.cells 2 rfl
  obtain ⟨ka3, kb3, _, _⟩ := K.out.cells 3 rfl
  go_wp2_with fail
  refine (HdA.out _).mono ?_
  rintro e u3 ⟨rfl, hb⟩
  replace K := Lib.hid (K.out.step hb)
  clear hb ka0 kb0 ka1 kb1 ka2 kb2 ka3 kb3 HdA
  obtain ⟨ka2, kb2, kc2, kd2⟩ := K.out.cells 2 rfl
  go_upto_region 8 with fail
  replace K := Lib.hid (K.out.put 2 rfl d1 d2)
  generalize (u3.setCell ⟨g5, 0, none⟩ (.int .i64 d1)).setCell ⟨g5, 1, none⟩ (.int .i64 d2) = v3 at *
  simp only [List.set_cons_zero, List.set_cons_succ] at K
  clear ka2 kb2 kc2 kd2
  obtain ⟨ka0, kb0, _, _⟩ := K.out.cells 0 rfl
  obtain ⟨ka1, kb1, _, _⟩ := K.out.cells 1 rfl
  go_wp2_with fail
  refine (HdB.out _).mono ?_
  rintro e u4 ⟨rfl, hb⟩
  replace K := Lib.hid (K.out.step hb)
  clear hb ka0 kb0 ka1 kb1 HdB
  obtain ⟨ka3, kb3, kc3, kd3⟩ := K.out.cells 3 rfl
  go_upto_region 9 with fail
  replace K := Lib.hid (K.out.put 3 rfl d1 d2)
  generalize (u4.setCell ⟨g7, 0, none⟩ (.int .i64 d1)).setCell ⟨g7, 1, none⟩ (.int .i64 d2) = v4 at *
  simp only [List.set_cons_zero, List.set_cons_succ] at K
  clear ka3 kb3 kc3 kd3
  obtain ⟨ka0, kb0, _, _⟩ := K.out.cells 0 rfl
  obtain ⟨ka1, kb1, _, _⟩ := K.out.cells 1 rfl
  obtain ⟨ka2, kb2, _, _⟩ := K.out.cells 2 rfl
  obtain ⟨ka3, kb3, _, _⟩ := K.out.cells 3 rfl
  go_wp2_with fail
  refine (HpA.out _).mono ?_
  rintro e u5 ⟨rfl, hb⟩
  replace K := Lib.hid (K.out.step hb)
  clear hb ka0 kb0 ka1 kb1 ka2 kb2 ka3 kb3 HpA
  obtain ⟨ka2, kb2, kc2, kd2⟩ := K.out.cells 2 rfl
  go_upto_region 12 with fail
  replace K := Lib.hid (K.out.put 2 rfl p1 p2)
  generalize (u5.setCell ⟨g5, 0, none⟩ (.int .i64 p1)).setCell ⟨g5, 1, none⟩ (.int .i64 p2) = v5 at *
  simp only [List.set_cons_zero, List.set_cons_succ] at K
  clear ka2 kb2 kc2 kd2
  obtain ⟨ka0, kb0, _, _⟩ := K.out.cells 0 rfl
  obtain ⟨ka1, kb1, _, _⟩ := K.out.cells 1 rfl
  go_wp2_with fail
  refine (HpB.out _).mono ?_
  rintro e u6 ⟨rfl, hb⟩
  replace K := Lib.hid (K.out.step hb)
  clear hb ka0 kb0 ka1 kb1 HpB
  obtain ⟨ka3, kb3, kc3, kd3⟩ := K.out.cells 3 rfl
  go_upto_region 13 with fail
  replace K := Lib.hid (K.out.put 3 rfl p1 p2)
  generalize (u6.setCell ⟨g7, 0, none⟩ (.int .i64 p1)).setCell ⟨g7, 1, none⟩ (.int .i64 p2) = v6 at *
  simp only [List.set_cons_zero, List.set_cons_succ] at K
  clear ka3 kb3 kc3 kd3
  obtain ⟨ka0, kb0, _, _⟩ := K.out.cells 0 rfl
  obtain ⟨ka1, kb1, _, _⟩ := K.out.cells 1 rfl
  obtain ⟨ka2, kb2, _, _⟩ := K.out.cells 2 rfl
  obtain ⟨ka3, kb3, _, _⟩ := K.out.cells 3 rfl
  go_wp2_with fail
  refine (HqA.out _).mono ?_
  rintro e u7 ⟨rfl, hb⟩
  replace K := Lib.hid (K.out.step hb)
  clear hb ka0 kb0 ka1 kb1 ka2 kb2 ka3 kb3 HqA
  obtain ⟨ka2, kb2, kc2, kd2⟩ := K.out.cells 2 rfl
  go_upto_region 16 with fail
  replace K := Lib.hid (K.out.put 2 rfl q1 q2)
  generalize (u7.setCell ⟨g5, 0, none⟩ (.int .i64 q1)).setCell ⟨g5, 1, none⟩ (.int .i64 q2) = v7 at *
  simp only [List.set_cons_zero, List.set_cons_succ] at K
  clear ka2 kb2 kc2 kd2
  obtain ⟨ka0, kb0, _, _⟩ := K.out.cells 0 rfl
  obtain ⟨ka1, kb1, _, _⟩ := K.out.cells 1 rfl
  go_wp2_with fail
  refine (HqB.out _).mono ?_
  rintro e u8 ⟨rfl, hb⟩
  replace K := Lib.hid (K.out.step hb)
  clear hb ka0 kb0 ka1 kb1 HqB
  obtain ⟨ka3, kb3, kc3, kd3⟩ := K.out.cells 3 rfl
  go_upto_region 17 with fail
  replace K := Lib.hid (K.out.put 3 rfl q1 q2)
  generalize (u8.setCell ⟨g7, 0, none⟩ (.int .i64 q1)).setCell ⟨g7, 1, none⟩ (.int .i64 q2) = v8 at *
  simp only [List.set_cons_zero, List.set_cons_succ] at K
  clear ka3 kb3 kc3 kd3
  refine wp_region_tab (by kernel_rfl) [2, 3, 5, 6, 7, 8, 83, 84, 85, 86, 87, 88, 89, 90, 91, 92, 93, 94, 95, 96, 97, 98, 99, 4] [[], [], [0, 1], [2], [3], [3], [3, 4, 5], [3, 6], [3, 7], [8], [8], [8, 9, 10], [8], [8], [8, 11, 12, 13], [8, 11, 14], [8, 15], [0, 1, 2, 3, 4, 5, 6, 7, 8, 9, 10, 11, 12, 13, 14, 15, 16]]
    (fun L vals wx => RtS w [(w.heap.size, x1, x2), (w.heap.size + 1, y1, y2), (g5, q1, q2), (g7, q1, q2)] wx ∧ TabR (tbSums w.heap.size (w.heap.size + 1) g5 g7 x1 x2 y1 y2 q1 q2 eq c) (bsSums w.heap.size (w.heap.size + 1) g5 g7 x1 x2 y1 y2 q1 q2 eq c) L vals) (by kernel_rfl) rfl ?_ ?_ ?_
  · exact ⟨K.out.drew, TabR.start (by simp [bsSums])⟩
  · intro i hi a L vals wx E hJ hLi hn K hK hK0
    obtain ⟨hI, hT⟩ := hJ
    match i, hi with
    | 0, _ => exact op_loadG rfl rfl rfl rfl Tryd.underlying23 rfl (by kernel_rfl) ((E 5 (by decide)).trans (hT.rd 2 rfl)) (hI.r.l (g5, q1, q2) (by simp)) (hK 83 _ _ (by decide) ⟨hI, hT.set 0 rfl (by kernel_rfl) (by kernel_rfl)⟩)
    | 1, _ => exact op_loadG rfl rfl rfl rfl Tryd.underlying23 rfl (by kernel_rfl) ((E 7 (by decide)).trans (hT.rd 4 rfl)) (hI.r.l (g7, q1, q2) (by simp)) (hK 84 _ _ (by decide) ⟨hI, hT.set 1 rfl (by kernel_rfl) (by kernel_rfl)⟩)
    | 2, _ =>
      have e1 := (E 83 (by decide)).trans (hT.val 0 rfl (hn 0 (by decide)))
      have e2 := (E 84 (by decide)).trans (hT.val 1 rfl (hn 1 (by decide)))
      refine op_valueG (w' := wx) (v := .bool true) rfl rfl rfl ?_ (hK 85 _ _ (by decide) ⟨hI, hT.set 2 rfl (by kernel_rfl) (by kernel_rfl)⟩)
      clear hK hK0 hT E
      revert e1 e2
      generalize a.eval = ρ
      intro e1 e2
      go_simp
    | 3, _ => exact op_moveG rfl rfl rfl rfl ((E 85 (by decide)).trans (hT.val 2 rfl (hn 2 (by decide)))) (hK 86 _ _ (by decide) ⟨hI, hT.set 3 rfl (by kernel_rfl) (by kernel_rfl)⟩)
    | 4, _ => exact op_moveG rfl (want_on (d := 86) (b := true) rfl rfl ((E 86 (by decide)).trans (hT.val 3 rfl (hn 3 (by decide))))) rfl rfl ((E 6 (by decide)).trans (hT.rd 3 rfl)) (hK 87 _ _ (by decide) ⟨hI, hT.set 4 rfl (by kernel_rfl) (by kernel_rfl)⟩)
    | 5, _ => exact op_moveG rfl (want_on (d := 86) (b := true) rfl rfl ((E 86 (by decide)).trans (hT.val 3 rfl (hn 3 (by decide))))) rfl rfl ((E 8 (by decide)).trans (hT.rd 5 rfl)) (hK 88 _ _ (by decide) ⟨hI, hT.set 5 rfl (by kernel_rfl) (by kernel_rfl)⟩)
    | 6, _ =>
      have e1 := (E 87 (by decide)).trans (hT.val 4 rfl (hn 4 (by decide)))
      have e2 := (E 88 (by decide)).trans (hT.val 5 rfl (hn 5 (by decide)))
      refine op_valueG (w' := wx) (v := .bool true) rfl (want_on (d := 86) (b := true) rfl rfl ((E 86 (by decide)).trans (hT.val 3 rfl (hn 3 (by decide))))) rfl ?_ (hK 89 _ _ (by decide) ⟨hI, hT.set 6 rfl (by kernel_rfl) (by kernel_rfl)⟩)
      clear hK hK0 hT E
      revert e1 e2
      generalize a.eval = ρ
      intro e1 e2
      go_simp
    | 7, _ =>
      have e1 := (E 86 (by decide)).trans (hT.val 3 rfl (hn 3 (by decide)))
      have e2 := (E 89 (by decide)).trans (hT.val 6 rfl (hn 6 (by decide)))
      have c1 : a.eval (.const (Value.bool false)) = Value.bool false := rfl
      refine op_valueG (w' := wx) (v := .bool true) rfl rfl rfl ?_ (hK 90 _ _ (by decide) ⟨hI, hT.set 7 rfl (by kernel_rfl) (by kernel_rfl)⟩)
      clear hK hK0 hT E
      revert e1 e2 c1
      generalize a.eval = ρ
      intro e1 e2 c1
      go_simp
    | 8, _ => exact op_moveG rfl rfl rfl rfl ((E 90 (by decide)).trans (hT.val 7 rfl (hn 7 (by decide)))) (hK 91 _ _ (by decide) ⟨hI, hT.set 8 rfl (by kernel_rfl) (by kernel_rfl)⟩)
    | 9, _ => exact op_loadG rfl (want_on (d := 91) (b := true) rfl rfl ((E 91 (by decide)).trans (hT.val 8 rfl (hn 8 (by decide))))) rfl rfl Tryd.underlying23 rfl (by kernel_rfl) ((E 2 (by decide)).trans (hT.rd 0 rfl)) (hI.r.l (w.heap.size, x1, x2) (by simp)) (hK 92 _ _ (by decide) ⟨hI, hT.set 9 rfl (by kernel_rfl) (by kernel_rfl)⟩)
    | 10, _ => exact op_loadG rfl (want_on (d := 91) (b := true) rfl rfl ((E 91 (by decide)).trans (hT.val 8 rfl (hn 8 (by decide))))) rfl rfl Tryd.underlying23 rfl (by kernel_rfl) ((E 3 (by decide)).trans (hT.rd 1 rfl)) (hI.r.l (w.heap.size + 1, y1, y2) (by simp)) (hK 93 _ _ (by decide) ⟨hI, hT.set 10 rfl (by kernel_rfl) (by kernel_rfl)⟩)
    | 11, _ =>
      have e1 := (E 92 (by decide)).trans (hT.val 9 rfl (hn 9 (by decide)))
      have e2 := (E 93 (by decide)).trans (hT.val 10 rfl (hn 10 (by decide)))
      exact op_goG rfl (want_on (d := 91) (b := true) rfl rfl ((E 91 (by decide)).trans (hT.val 8 rfl (hn 8 (by decide))))) rfl rfl Tryd.func21 (by kernel_rfl) rfl (by simp only [List.map_toArray, List.map_cons, List.map_nil, e1, e2]) (HC1.out _) (fun w' hb => hK 94 _ _ (by decide) ⟨hI.step hb, hT.set 11 rfl (by kernel_rfl) (by kernel_rfl)⟩)
    | 12, _ => exact op_loadG rfl (want_on (d := 91) (b := true) rfl rfl ((E 91 (by decide)).trans (hT.val 8 rfl (hn 8 (by decide))))) rfl rfl Tryd.underlying23 rfl (by kernel_rfl) ((E 2 (by decide)).trans (hT.rd 0 rfl)) (hI.r.l (w.heap.size, x1, x2) (by simp)) (hK 95 _ _ (by decide) ⟨hI, hT.set 12 rfl (by kernel_rfl) (by kernel_rfl)⟩)
    | 13, _ => exact op_loadG rfl (want_on (d := 91) (b := true) rfl rfl ((E 91 (by decide)).trans (hT.val 8 rfl (hn 8 (by decide))))) rfl rfl Tryd.underlying23 rfl (by kernel_rfl) ((E 3 (by decide)).trans (hT.rd 1 rfl)) (hI.r.l (w.heap.size + 1, y1, y2) (by simp)) (hK 96 _ _ (by decide) ⟨hI, hT.set 13 rfl (by kernel_rfl) (by kernel_rfl)⟩)
    | 14, _ =>
      have e1 := (E 95 (by decide)).trans (hT.val 12 rfl (hn 12 (by decide)))
      have e2 := (E 96 (by decide)).trans (hT.val 13 rfl (hn 13 (by decide)))
      exact op_goG rfl (want_on (d := 91) (b := true) rfl rfl ((E 91 (by decide)).trans (hT.val 8 rfl (hn 8 (by decide))))) rfl rfl Tryd.func33 (by kernel_rfl) rfl (by simp only [List.map_toArray, List.map_cons, List.map_nil, e1, e2]) (HC2.out _) (fun w' hb => hK 97 _ _ (by decide) ⟨hI.step hb, hT.set 14 rfl (by kernel_rfl) (by kernel_rfl)⟩)
    | 15, _ =>
      have e1 := (E 94 (by decide)).trans (hT.val 11 rfl (hn 11 (by decide)))
      have e2 := (E 97 (by decide)).trans (hT.val 14 rfl (hn 14 (by decide)))
      refine op_valueG (w' := wx) (v := .bool true) rfl (want_on (d := 91) (b := true) rfl rfl ((E 91 (by decide)).trans (hT.val 8 rfl (hn 8 (by decide))))) rfl ?_ (hK 98 _ _ (by decide) ⟨hI, hT.set 15 rfl (by kernel_rfl) (by kernel_rfl)⟩)
      clear hK hK0 hT E
      revert e1 e2
      generalize a.eval = ρ
      intro e1 e2
      go_simp
    | 16, _ =>
      have e1 := (E 91 (by decide)).trans (hT.val 8 rfl (hn 8 (by decide)))
      have e2 := (E 98 (by decide)).trans (hT.val 15 rfl (hn 15 (by decide)))
      have c1 : a.eval (.const (Value.bool false)) = Value.bool false := rfl
      refine op_valueG (w' := wx) (v := .bool true) rfl rfl rfl ?_ (hK 99 _ _ (by decide) ⟨hI, hT.set 16 rfl (by kernel_rfl) (by kernel_rfl)⟩)
      clear hK hK0 hT E
      revert e1 e2 c1
      generalize a.eval = ρ
      intro e1 e2 c1
      go_simp
    | 17, _ => exact op_assignG rfl rfl rfl rfl ((E 99 (by decide)).trans (hT.val 16 rfl (hn 16 (by decide)))) (hK 4 _ _ (by decide) ⟨hI, hT.set 17 rfl (by kernel_rfl) (by kernel_rfl)⟩)
    | k + 18, h => exact absurd (show k + 18 < 18 from h) (by omega)
  · intro L vals wx hJ hall
    obtain ⟨hI, hT⟩ := hJ
    have HI := Lib.hid hI
    have v2 : vals 2 = .pointer (some ⟨w.heap.size, 0, none⟩) := hT.rd 0 rfl
    have v3 : vals 3 = .pointer (some ⟨(w.heap.size + 1), 0, none⟩) := hT.rd 1 rfl
    have v5 : vals 5 = .pointer (some ⟨g5, 0, none⟩) := hT.rd 2 rfl
    have v6 : vals 6 = .int .i64 eq := hT.rd 3 rfl
    have v7 : vals 7 = .pointer (some ⟨g7, 0, none⟩) := hT.rd 4 rfl
    have v8 : vals 8 = .int .i64 eq := hT.rd 5 rfl
    have v4 : vals 4 = .bool true := hT.val 17 rfl (hall 17 (by decide))
    simp only [overA, Act.put, List.setIfInBounds_toArray, List.set_cons_zero, List.set_cons_succ]
    rw [v2, v3, v5, v6, v7, v8, v4]
    clear hI hT hall v2 v3 v5 v6 v7 v8 v4
    go_wp2
    go_ret
    exact ⟨rfl, HI.out.r.below⟩

end Go.Proofs.YtmgdhlcgbgpgpaaDoor
