/- Texts of ours, laid together: Rc, Rd, Re, Rf, Sa, Rg, Rh, Jx, Nf. -/
import Derived.Deep.AppendLies
import Derived.Deep.RegionLaw
import Derived.Deep.OwnRows
import Derived.Deep.RegionHeld3
import Derived.StillTailTactics
import Derived.Test.YtfegongaflekiaaMg14
/- The document's zones, made of bounds. -/
namespace Go.Proofs.Ytfegongaflekiaa
open Go Go.RowKit
set_option linter.unusedVariables false
set_option linter.unusedSimpArgs false

theorem infoI : (Try.prog.info? 2).map (fun i => (i.zero, i.size, i.bytes)) = some (some (.int .i64 0), 1, 8) := by kernel_rfl
theorem infoRB : (Try.prog.info? 88).map (fun i => (i.zero, i.size, i.bytes)) = some (some (.int .i32 0), 1, 4) := by kernel_rfl

/-- The wide row, so far. -/
def WideR (w0 : World) (l : List Int) (p : Nat) (v : Value) (wr : World) : Prop :=
  Below w0.heap.size w0 wr ∧ wr.ownsRow w0.heap.size 2 1 v p (vals .i64 (widUp l p)) ∧ p ≤ l.length
theorem WideR.next {w0 wr w1 : World} {l : List Int} {p : Nat} {v v' : Value} {o : Obj} (h : WideR w0 l p v wr) (hp : p < l.length) (x : Int) (hx : x = wid (l.getD p 0))
    (hown : w1.ownsRow w0.heap.size 2 1 v' (p + 1) (vals .i64 (widUp l p) ++ [.int .i64 x])) (hg : (wr.alloc o).grownBy w1 v.ownBlock) : WideR w0 l (p + 1) v' w1 := by
  refine ⟨(h.1.alloc h.1.size o).grown hg (by have := h.1.size; simp; omega) (fun k hk => (h.2.1.lt k hk).1), ?_, by omega⟩
  have e : vals .i64 (widUp l (p + 1)) = vals .i64 (widUp l p) ++ [.int .i64 x] := by rw [hx]; simp [vals, widUp]
  rw [e]; exact hown

set_option maxRecDepth 100000 in
set_option maxHeartbeats 2000000 in
theorem wide_any (A : Option Addr) (c : Nat) (l : List Int) (w : World) (hI : Ints w .i32 A l) (hl : l.length ≤ 1000) (hr : ∀ q, q < l.length → -2147483648 ≤ l.getD q 0 ∧ l.getD q 0 ≤ 2147483647) :
    Calls Try.prog 99 #[.slice A l.length c] w fun e w' => ∃ v, e = .returned v ∧ WideR w l l.length v w' := by
  have HI := Lib.hid hI
  have HR := Lib.hid hr
  clear hI hr
  obtain ⟨i0, hi, hz0, hz1, hz2⟩ := info_parts infoI
  have HInf := Lib.hid (And.intro hi (And.intro hz0 (And.intro hz1 hz2)))
  clear hi hz0 hz1 hz2
  have HS := Lib.hid (show WideR w l 0 (.slice none 0 0) w from ⟨Below.refl _ _, by simpa [widUp, vals] using World.ownsRow_nil w _ _ _, by omega⟩)
  go_enter Try.func99, Try.ntmps99
  go_wp2
  go_loopg [3, 4] l.length (fun g v x wr => ∃ p : Nat, x = .int .i64 p ∧ WideR w l p v wr ∧ Hid (g + p = l.length))
  case atStart => exact ⟨0, by simp, HS.out, by show _ = _; omega⟩
  case round =>
    clear HS
    obtain ⟨p, rfl, H, HG⟩ := hrel
    have HW := Lib.hid H
    clear H
    by_cases hp : p < l.length
    · obtain ⟨b, off, rfl, hc⟩ := HI.out.below HW.out.1 p hp
      have hb := HR.out p hp
      obtain ⟨x, hx⟩ : ∃ x, x = l.getD p 0 := ⟨_, rfl⟩
      rw [← hx] at hc hb
      have HX := Lib.hid hx
      clear hx
      obtain ⟨hb0, hb1⟩ := hb
      by_cases hinf : x = 2147483647
      · subst hinf
        go_wp2_with (at_builtin; refine wpList_append_own _ rfl _ _ 86 rfl w.heap.size 2 i0 (.int .i64 0) 1 8 Try.underlying86 HInf.out.1 HInf.out.2.1 HInf.out.2.2.1 HInf.out.2.2.2 rfl (by decide) _ _ _ rfl (HW.out.2.1.alloc _) ⟨wr.heap.size, 0, none⟩ 1 1 [.int .i64 4611686018427387904] rfl rfl (cell_one_new _ _ _) (by intro u hu; simp at hu; subst hu; rfl) ?c3 ?c4 ?c5 ?_)
        case c3 => unfold maxLen; omega
        case c4 => omega
        case c5 => have := HW.out.1.size; simp; omega
        intro v' w1 hown hgrow _
        have HN := Lib.hid (HW.out.next hp 4611686018427387904 (by rw [← HX.out]; rfl) hown hgrow)
        clear hown hgrow
        go_wp2
        go_roundg (gk - 1)
        case measure => have h := HG.out; omega
        case rel => exact ⟨p + 1, by go_num, HN.out, by have h := HG.out; show _ = _; omega⟩
      · have t1 : (x == 2147483647) = false := by simp [hinf]
        have HNI := Lib.hid hinf
        clear hinf
        go_wp2_with (at_builtin; refine wpList_append_own _ rfl _ _ 86 rfl w.heap.size 2 i0 (.int .i64 0) 1 8 Try.underlying86 HInf.out.1 HInf.out.2.1 HInf.out.2.2.1 HInf.out.2.2.2 rfl (by decide) _ _ _ rfl (HW.out.2.1.alloc _) ⟨wr.heap.size, 0, none⟩ 1 1 [.int .i64 x] rfl rfl (cell_one_new _ _ _) (by intro u hu; simp at hu; subst hu; rfl) ?c3 ?c4 ?c5 ?_)
        case c3 => unfold maxLen; omega
        case c4 => omega
        case c5 => have := HW.out.1.size; simp; omega
        intro v' w1 hown hgrow _
        have HN := Lib.hid (HW.out.next hp x (by rw [← HX.out]; unfold wid; rw [if_neg HNI.out]) hown hgrow)
        clear hown hgrow
        go_wp2
        go_roundg (gk - 1)
        case measure => have h := HG.out; omega
        case rel => exact ⟨p + 1, by go_num, HN.out, by have h := HG.out; show _ = _; omega⟩
    · have e : p = l.length := by have := HW.out.2.2; omega
      subst e
      go_wp2
      go_ret
      exact ⟨_, rfl, HW.out⟩

end Go.Proofs.Ytfegongaflekiaa

/- The document's zone: the empty one; the one of wide cells, or the error. -/
namespace Go.Proofs.Ytfegongaflekiaa
open Go Go.RowKit
set_option linter.unusedVariables false
set_option linter.unusedSimpArgs false

/-- A zone of the document's, or nil. -/
def RefZ (w : World) (v : Value) : Option (Nat × Mat) → Prop
  | none => v = .pointer none
  | some (n, m) => ∃ b g cap, v = .pointer (some ⟨b, 0, none⟩) ∧ n ≤ 8 ∧ RightM n m ∧
      w.heap[b]? = some (.cells #[.int .i64 n, .slice (some ⟨g, 0, none⟩) ((n + 1) * (n + 1)) cap] 156 (0, 0)) ∧ RowAt w g 88 .i32 (flat n m)
theorem RefZ.below {w w' : World} {v : Value} {z : Option (Nat × Mat)} (h : RefZ w v z) (hb : Below w.heap.size w w') : RefZ w' v z := by
  match z, h with
  | none, h => exact h
  | some (n, m), ⟨b, g, cap, h1, hn, hr, h2, h3⟩ => exact ⟨b, g, cap, h1, hn, hr, (hb.block b (Array.getElem?_eq_some_iff.1 h2).1).trans h2, h3.later hb⟩
/-- A function that makes a zone of the document's ends with this answer. -/
def MakesR (w0 : World) (n : Nat) (r : Option Mat × Int) (e : Ending) (w' : World) : Prop :=
  Below w0.heap.size w0 w' ∧ ∃ v, e = .returned (.tuple #[v, .int .i64 r.2]) ∧ RefZ w' v (r.1.map fun m => (n, m))

theorem zeros_row (w : World) (N : Nat) (xs : List Int) (hl : xs.length = N) (hx : ∀ p, p < N → xs.getD p 0 = 0) : RowAt (w.alloc (.cells (madeCells #[.int .i32 0] N) 88)) w.heap.size 88 .i32 xs := by
  refine ⟨_, heap_alloc_new _ _, ?_⟩
  subst hl
  apply List.ext_getElem?
  intro p
  by_cases hp : p < xs.length
  · have := hx p hp
    rw [List.getD_eq_getElem?_getD, List.getElem?_eq_getElem hp] at this
    have e : xs[p] = 0 := this
    simp [madeCells, vals, hp, e, Nat.mod_one]
  · simp [madeCells, vals, hp]

set_option maxRecDepth 100000 in
set_option maxHeartbeats 1000000 in
theorem empty1_any (n : Nat) (w : World) (hn : n ≤ 8) :
    Calls Try.prog 122 #[.int .i64 n] w fun e w' => ∃ v, e = .returned v ∧ Below w.heap.size w w' ∧ RefZ w' v (some (n, fun _ _ => 0)) := by
  obtain ⟨N, hN⟩ : ∃ N : Nat, N = (n + 1) * (n + 1) := ⟨_, rfl⟩
  have hNi : ((n : Int) + 1) * ((n : Int) + 1) = (N : Int) := by rw [hN]; simp
  have hN81 : N ≤ 81 := by
    have := Nat.mul_le_mul (show n + 1 ≤ 9 by omega) (show n + 1 ≤ 9 by omega)
    omega
  have HN := Lib.hid hN
  clear hN
  have hmk := run_make_row' (P := Try.prog) 22 88 (.int .i32 0) 4 Try.underlying22 infoRB rfl .i64 .i64 N (by omega) (by omega)
  go_enter Try.func122, Try.ntmps122
  go_wp2
  go_ret
  have hB : Below w.heap.size w (w.alloc (.cells (madeCells #[.int .i32 0] N) 88)) := (Below.refl _ _).alloc (Nat.le_refl _) _
  have hrow := zeros_row w N (flat n (fun _ _ => 0)) (by rw [flat_length, HN.out]) (fun p hp => by rw [flat_getD _ _ _ (by rw [← HN.out]; exact hp)])
  refine ⟨_, rfl, hB.alloc hB.size _, w.heap.size + 1, w.heap.size, N, rfl, hn, right_zero n, ?_, hrow.later ((Below.refl _ _).alloc (Nat.le_refl _) _)⟩
  rw [← HN.out]
  have := heap_alloc_new (w.alloc (.cells (madeCells #[.int .i32 0] N) 88)) (.cells #[.int .i64 n, .slice (some ⟨w.heap.size, 0, none⟩) N N] 156)
  simpa using this

/-! ### made -/
def ClR (w0 : World) (g n : Nat) (m : Mat) (q i : Nat) (wr : World) : Prop := RAt w0 g n (clUp m i) wr ∧ i ≤ n + 1 ∧ q + i = n + 1
def store1 (c : Bool) (w : World) (a : Addr) : World := if c then w.setCell a (.int .i64 1) else w
theorem RAt.store1 {w0 wr : World} {g n : Nat} {cur : Mat} (h : RAt w0 g n cur wr) {i j : Nat} (hi : i < n + 1) (hj : j < n + 1) (p : Nat) (hp : p = i * (n + 1) + j) (c : Bool) (hc : c = decide (1 < cur i j)) :
    RAt w0 g n (upd cur i j (min (cur i j) 1)) (store1 c wr ⟨g, p, none⟩) := by
  subst hc
  by_cases hlt : 1 < cur i j
  · rw [decide_eq_true hlt]
    have e : min (cur i j) 1 = 1 := by rw [Int.min_def, if_neg (by omega)]
    rw [e]
    exact h.step hi hj 1 p hp
  · rw [decide_eq_false hlt]
    have e : upd cur i j (min (cur i j) 1) = cur := by
      have : min (cur i j) 1 = cur i j := by rw [Int.min_def, if_pos (by omega)]
      rw [this]
      funext a c; simp only [upd]; split
      · rename_i h; rw [h.1, h.2]
      · rfl
    rw [e]
    exact h
theorem ClR.next {w0 wr : World} {g n : Nat} {m : Mat} {q i : Nat} (h : ClR w0 g n m q i wr) (hi : i < n + 1) (p : Nat) (hp : p = i * (n + 1) + i) (c1 c2 : Bool) (h1 : c1 = decide (1 < m i i)) (h2 : c2 = decide (1 < upd (clUp m i) i i (min (clUp m i i i) 1) 0 i)) :
    ClR w0 g n m (q - 1) (i + 1) (store1 c2 (store1 c1 wr ⟨g, p, none⟩) ⟨g, i, none⟩) := by
  have ha := h.1.store1 hi hi p hp c1 (by rw [clUp_at]; exact h1)
  have hb := ha.store1 (i := 0) (j := i) (by omega) hi i (by omega) c2 h2
  rw [clUp_step] at hb
  have := h.2.2
  exact ⟨hb, by omega, by omega⟩

/-- The zone's own cells, so far. -/
def BuildR (w1 : World) (zb g n N : Nat) (m : Mat) (p : Nat) (sv : Value) (wr : World) : Prop :=
  Below zb w1 wr ∧ zb < w1.heap.size ∧ w1.heap.size ≤ wr.heap.size ∧ wr.heap[zb]? = some (.cells #[.int .i64 n, sv] 156 (0, 0)) ∧ wr.ownsRow (zb + 1) 88 1 sv p (vals .i32 (narUp (flat n m) p)) ∧
  (∀ q, q < p → inR ((flat n m).getD q 0)) ∧ p ≤ N
theorem BuildR.cell {w1 wr : World} {zb g n N : Nat} {m : Mat} {p : Nat} {sv : Value} (h : BuildR w1 zb g n N m p sv wr) : wr.cell? ⟨zb, 1, none⟩ = some sv := by
  simp [World.cell?, h.2.2.2.1]
theorem BuildR.frozen {w1 wr : World} {zb g n N : Nat} {m : Mat} {p : Nat} {sv : Value} (h : BuildR w1 zb g n N m p sv wr) : wr.frozen? ⟨zb, 1, none⟩ = false := by
  simp [World.frozen?, h.2.2.2.1]
/-- What an append to the zone's cells leaves, ahead of the store into the field. -/
structure Appended (w1 : World) (zb g n N : Nat) (m : Mat) (p : Nat) (sv sv' : Value) (w2 : World) : Prop where
  below : Below zb w1 w2
  lt : zb < w1.heap.size
  size : w1.heap.size ≤ w2.heap.size
  cell : w2.heap[zb]? = some (.cells #[.int .i64 n, sv] 156 (0, 0))
  own : w2.ownsRow (zb + 1) 88 1 sv' (p + 1) (vals .i32 (narUp (flat n m) (p + 1)))
theorem BuildR.append {w1 wr w2 : World} {zb g n N : Nat} {m : Mat} {p : Nat} {sv sv' : Value} {o : Obj} (h : BuildR w1 zb g n N m p sv wr) (x : Int) (hx : x = nar ((flat n m).getD p 0)) (q : Nat)
    (hown : w2.ownsRow (zb + 1) 88 1 sv' (p + 1) (vals .i32 (narUp (flat n m) p) ++ [.int .i32 x])) (hg : ((wr.alloc o).drewN q).grownBy w2 sv.ownBlock) : Appended w1 zb g n N m p sv sv' w2 := by
  have hne : ∀ k, sv.ownBlock = some k → zb + 1 ≤ k := fun k hk => (h.2.2.2.2.1.lt k hk).1
  have hsz := h.2.2.1
  have hlt := h.2.1
  have hs2 := hg.size
  have hsa : ((wr.alloc o).drewN q).heap.size = wr.heap.size + 1 := by simp
  have ha : Below zb w1 ((wr.alloc o).drewN q) := belowN (h.1.alloc (by omega) o) q
  refine ⟨ha.grown hg (by omega) (fun k hk => by have := hne k hk; omega), hlt, by omega, ?_, ?_⟩
  · rw [hg.block zb (by omega) (fun e => by have := hne zb e.symm; omega)]
    show (wr.alloc o).heap[zb]? = _
    exact (heap_alloc_old wr o (show zb < wr.heap.size by omega)).trans h.2.2.2.1
  · have e : vals .i32 (narUp (flat n m) (p + 1)) = vals .i32 (narUp (flat n m) p) ++ [.int .i32 x] := by rw [hx]; simp [vals, narUp]
    rw [e]; exact hown
theorem Appended.store {w1 w2 : World} {zb g n N : Nat} {m : Mat} {p : Nat} {sv sv' : Value} (h : Appended w1 zb g n N m p sv sv' w2) (hin : ∀ q, q < p → inR ((flat n m).getD q 0)) (hp : inR ((flat n m).getD p 0)) (hN : p < N) :
    BuildR w1 zb g n N m (p + 1) sv' (w2.setCell ⟨zb, 1, none⟩ sv') := by
  refine ⟨h.below.setCell (p := ⟨zb, 1, none⟩) (Nat.le_refl _) _, h.lt, by simpa [World.setCell] using h.size, ?_, ownsRow_setCell_below h.own (by show zb < zb + 1; omega) _, fun q hq => ?_, by omega⟩
  · simp only [World.setCell, Array.getElem?_modify, if_true, h.cell, Option.map_some]
    simp
  · by_cases e : q = p
    · subst e; exact hp
    · exact hin q (by omega)
theorem Appended.at {w1 w2 : World} {zb g n N : Nat} {m : Mat} {p : Nat} {sv sv' : Value} (h : Appended w1 zb g n N m p sv sv' w2) : w2.cell? ⟨zb, 1, none⟩ = some sv ∧ w2.frozen? ⟨zb, 1, none⟩ = false ∧ zb < w2.heap.size := by
  have := h.size
  have := h.lt
  refine ⟨?_, ?_, by omega⟩
  · simp [World.cell?, h.cell]
  · simp [World.frozen?, h.cell]

end Go.Proofs.Ytfegongaflekiaa

/- The document's zone of wide cells. -/
namespace Go.Proofs.Ytfegongaflekiaa
open Go Go.RowKit
set_option linter.unusedVariables false
set_option linter.unusedSimpArgs false

set_option maxRecDepth 100000 in
set_option maxHeartbeats 2000000 in
theorem rmade_any (g n N cap : Nat) (m : Mat) (w : World) (hn : n ≤ 8) (hN : N = (n + 1) * (n + 1)) (h : RowAt w g 2 .i64 (flat n m)) (hf : ∀ i j, i ≤ n → j ≤ n → Bd 1073741824 (m i j)) (B : Nat) (hB : B ≤ g) (hBw : B ≤ w.heap.size) :
    Calls Try.prog 98 #[.int .i64 n, .slice (some ⟨g, 0, none⟩) N cap] w fun e w' => Below B w w' ∧ ∃ v, e = .returned (.tuple #[v, .int .i64 (zoneP n (clUp m (n + 1))).2]) ∧ RefZ w' v ((zoneP n (clUp m (n + 1))).1.map fun m => (n, m)) := by
  have H0 := Lib.hid (show ClR w g n m (n + 1) 0 w from ⟨⟨Only.refl _ _, by rw [clUp_zero]; exact h⟩, by omega, by omega⟩)
  have HN := Lib.hid hN
  have HF := Lib.hid (clUp_fit hf)
  have hN81 : N ≤ 81 := by
    have := Nat.mul_le_mul (show n + 1 ≤ 9 by omega) (show n + 1 ≤ 9 by omega)
    omega
  clear h hf hN
  go_enter Try.func98, Try.ntmps98
  go_wp2
  go_loopg [6] (n + 1) (fun q v wr => ∃ i : Nat, v = .int .i64 i ∧ ClR w g n m q i wr)
  case atStart => exact ⟨0, by simp, H0.out⟩
  case round =>
    clear H0
    obtain ⟨i, rfl, H⟩ := hrel
    have HI := Lib.hid H
    clear H
    by_cases hi : i ≤ n
    · by_cases i0 : i = 0
      · subst i0
        have c1 := HI.out.1.cell (i := 0) (j := 0) (by omega) (by omega) 0 (by omega)
        rw [clUp_at] at c1
        have f1 := HI.out.1.2.frozen 0
        have hN1 : 0 < N := by rw [HN.out]; exact Nat.mul_pos (by omega) (by omega)
        have HX := Lib.hid (HI.out.next (by omega) 0 (by omega))
        have hu : upd (clUp m 0) 0 0 (min (clUp m 0 0 0) 1) 0 0 = min (m 0 0) 1 := by simp [upd, clUp]
        have hu1 : ¬ 1 < min (m 0 0) 1 := by rw [Int.min_def]; split <;> omega
        by_cases a1 : 1 < m 0 0
        · have HS := Lib.hid (HX.out true false (decide_eq_true a1).symm (by rw [hu]; exact (decide_eq_false hu1).symm))
          clear hu hu1 HX
          go_wp2
          go_roundg (gk - 1)
          case measure => have h := HI.out.2.2; omega
          case rel => exact ⟨1, by simp, HS.out⟩
        · have HS := Lib.hid (HX.out false false (decide_eq_false a1).symm (by rw [hu]; exact (decide_eq_false hu1).symm))
          clear hu hu1 HX
          go_wp2
          go_roundg (gk - 1)
          case measure => have h := HI.out.2.2; omega
          case rel => exact ⟨1, by simp, HS.out⟩
      · have hii : (i : Int) ≤ (n : Int) := by omega
        obtain ⟨P, hP, hP1, hP2, hP3⟩ := prod_facts i n hi hn
        have hPN : P + n < N := by have := HN.out; omega
        have c1 := HI.out.1.cell (i := i) (j := i) (by omega) (by omega) (P + i) (by omega)
        rw [clUp_at] at c1
        have c2 := HI.out.1.cell (i := 0) (j := i) (by omega) (by omega) i (by omega)
        rw [clUp_top] at c2
        have f1 := HI.out.1.2.frozen (P + i)
        have f2 := HI.out.1.2.frozen i
        have hP0 : ¬ P = 0 := by
          intro h
          have := Nat.mul_pos (show 0 < i by omega) (show 0 < n + 1 by omega)
          omega
        have HP2 := Lib.hid hP2
        clear hP2 hP3
        have HX := Lib.hid (HI.out.next (by omega) (P + i) (by rw [HP2.out]))
        have hu : upd (clUp m i) i i (min (clUp m i i i) 1) 0 i = m 0 i := by
          unfold upd; rw [if_neg (fun h => i0 h.1.symm), clUp_top]
        have HU := Lib.hid hu
        clear hu
        by_cases a1 : 1 < m i i
        · by_cases a2 : 1 < m 0 i
          · have HS := Lib.hid (HX.out true true (decide_eq_true a1).symm (by rw [HU.out]; exact (decide_eq_true a2).symm))
            clear HX
            go_wp2
            go_roundg (gk - 1)
            case measure => have h := HI.out.2.2; omega
            case rel => exact ⟨i + 1, by go_num, HS.out⟩
          · have HS := Lib.hid (HX.out true false (decide_eq_true a1).symm (by rw [HU.out]; exact (decide_eq_false a2).symm))
            clear HX
            go_wp2
            go_roundg (gk - 1)
            case measure => have h := HI.out.2.2; omega
            case rel => exact ⟨i + 1, by go_num, HS.out⟩
        · by_cases a2 : 1 < m 0 i
          · have HS := Lib.hid (HX.out false true (decide_eq_false a1).symm (by rw [HU.out]; exact (decide_eq_true a2).symm))
            clear HX
            go_wp2
            go_roundg (gk - 1)
            case measure => have h := HI.out.2.2; omega
            case rel => exact ⟨i + 1, by go_num, HS.out⟩
          · have HS := Lib.hid (HX.out false false (decide_eq_false a1).symm (by rw [HU.out]; exact (decide_eq_false a2).symm))
            clear HX
            go_wp2
            go_roundg (gk - 1)
            case measure => have h := HI.out.2.2; omega
            case rel => exact ⟨i + 1, by go_num, HS.out⟩
    · have hii : ¬ (i : Int) ≤ (n : Int) := by omega
      have e : i = n + 1 := by have := HI.out.2.1; omega
      subst e
      go_wp2_with fail
      refine (rclose_any g n N cap (clUp m (n + 1)) wr hn HN.out HI.out.1.2 HF.out).mono ?_
      rintro e w1 ⟨ho, hcl⟩
      have HO := Lib.hid ((HI.out.1.1.trans ho).below hB hBw)
      clear ho
      rcases hcl with ⟨hc, rfl⟩ | ⟨m', hc, rfl, hm⟩
      · have hz : zoneP n (clUp m (n + 1)) = (some (fun _ _ => 0), 0) := by unfold zoneP; rw [hc]
        have HZ := Lib.hid hz
        clear hc hz
        go_wp2_with fail
        refine (empty1_any n _ hn).mono ?_
        rintro e w2 ⟨v, rfl, hb, hv⟩
        have HB := Lib.hid (HO.out.trans (hb.mono (Nat.le_trans hBw HO.out.size)))
        have HV := Lib.hid hv
        clear hb hv
        go_wp2
        go_ret2
        exact ⟨HB.out, v, by rw [HZ.out]; rfl, by rw [HZ.out]; exact HV.out⟩
      · have HC := Lib.hid hc
        have HM := Lib.hid hm
        clear hc hm
        obtain ⟨i0, hi1, hz0, hz1, hz2⟩ := info_parts infoRB
        have HInf := Lib.hid (And.intro hi1 (And.intro hz0 (And.intro hz1 hz2)))
        clear hi1 hz0 hz1 hz2
        have hg1 : g < w1.heap.size := HM.out.lt
        have HS := Lib.hid (show BuildR (w1.alloc (.cells #[.int .i64 n, .slice none 0 0] 156)) w1.heap.size g n N m' 0 (.slice none 0 0) (w1.alloc (.cells #[.int .i64 n, .slice none 0 0] 156)) from
          ⟨Below.refl _ _, by simp, Nat.le_refl _, heap_alloc_new _ _, by simpa [narUp, vals] using World.ownsRow_nil _ _ _ _, fun q h => by omega, by omega⟩)
        have HMA := Lib.hid (HM.out.later ((Below.refl w1.heap.size w1).alloc (Nat.le_refl _) (.cells #[.int .i64 n, .slice none 0 0] 156)))
        have HBA := Lib.hid (HO.out.alloc (Nat.le_trans hBw HO.out.size) (.cells #[.int .i64 n, .slice none 0 0] 156))
        have HlB : B ≤ w1.heap.size := Nat.le_trans hBw HO.out.size
        go_wp2
        generalize w1.alloc (.cells #[.int .i64 n, .slice none 0 0] 156) = w2 at *
        go_loopg [8] N (fun q v wr => ∃ p : Nat, ∃ sv, v = .int .i64 p ∧ BuildR w2 w1.heap.size g n N m' p sv wr ∧ Hid (q + p = N))
        case atStart => exact ⟨0, _, by simp, HS.out, by show _ = _; omega⟩
        case round =>
          clear HS
          obtain ⟨p, sv, rfl, H, HG⟩ := hrel
          have HR := Lib.hid H
          clear H
          by_cases hp : p < N
          · have hrow := (HMA.out.below HR.out.1 hg1)
            have c1 := hrow.cell p (by rw [flat_length, ← HN.out]; exact hp)
            have c2 := HR.out.cell
            have f2 := HR.out.frozen
            obtain ⟨x, hx⟩ : ∃ x, x = (flat n m').getD p 0 := ⟨_, rfl⟩
            rw [← hx] at c1
            have HX := Lib.hid hx
            clear hx hrow
            by_cases h1 : x = none62
            · have hx : x = 4611686018427387904 := h1
              clear h1
              subst hx
              go_wp2_with (at_builtin; refine wpList_append_lies _ rfl _ _ 22 rfl (w1.heap.size + 1) 88 i0 (.int .i32 0) 1 4 Try.underlying22 HInf.out.1 HInf.out.2.1 HInf.out.2.2.1 HInf.out.2.2.2 rfl (by decide) _ _ _ rfl (HR.out.2.2.2.2.1.alloc _) ⟨wr.heap.size, 0, none⟩ 1 1 [.int .i32 2147483647] rfl rfl (cell_one_new _ _ _) (by intro u hu; simp at hu; subst hu; rfl) (by decide) ?c3 ?c4 ?c5 _ rfl ?_)
              case c3 => unfold maxLen; omega
              case c4 => omega
              case c5 => have := HR.out.2.2.1; have := HR.out.2.1; simp; omega
              intro gg cp w3 hown hgrow _ _
              have HA := Lib.hid (HR.out.append 2147483647 (by rw [← HX.out]; rfl) 0 hown hgrow)
              obtain ⟨k1, k2, k3⟩ := HA.out.at
              clear hown hgrow
              have HN2 := Lib.hid (HA.out.store HR.out.2.2.2.2.2.1 (by rw [← HX.out]; exact .inl rfl) hp)
              go_wp2
              go_roundg (gk - 1)
              case measure => have h := HG.out; omega
              case rel => exact ⟨p + 1, _, by go_num, HN2.out, by have h := HG.out; show _ = _; omega⟩
            · have t1 : (x == 4611686018427387904) = false := by simpa [none62] using h1
              have H1 := Lib.hid h1
              clear h1
              by_cases h2 : x < -536870912
              · have d2 : decide (x < -536870912) = true := decide_eq_true h2
                have hall : ¬ allR n m' := fun ha => by have := allR_at ha (p := p) (by rw [← HN.out]; exact hp); rw [← HX.out] at this; rcases this with h | h; exact H1.out h; omega
                have hz : zoneP n (clUp m (n + 1)) = (none, 10) := by unfold zoneP; rw [HC.out]; simp only; rw [if_neg hall]
                have HZ := Lib.hid hz
                clear hz hall
                go_wp2
                go_ret2
                exact ⟨HBA.out.trans (HR.out.1.mono HlB), .pointer none, by rw [HZ.out]; rfl, by rw [HZ.out]; rfl⟩
              · have d2 : decide (x < -536870912) = false := decide_eq_false h2
                by_cases h3 : 536870913 < x
                · have d3 : decide (536870913 < x) = true := decide_eq_true h3
                  have hall : ¬ allR n m' := fun ha => by have := allR_at ha (p := p) (by rw [← HN.out]; exact hp); rw [← HX.out] at this; rcases this with h | h; exact H1.out h; omega
                  have hz : zoneP n (clUp m (n + 1)) = (none, 10) := by unfold zoneP; rw [HC.out]; simp only; rw [if_neg hall]
                  have HZ := Lib.hid hz
                  clear hz hall
                  go_wp2
                  go_ret2
                  exact ⟨HBA.out.trans (HR.out.1.mono HlB), .pointer none, by rw [HZ.out]; rfl, by rw [HZ.out]; rfl⟩
                · have d3 : decide (536870913 < x) = false := decide_eq_false h3
                  have hw : IntKind.i32.wrap x = x := by rw [IntKind.wrap_i32]; omega
                  have hne1 : wr.heap.size ≠ w1.heap.size := by have := HR.out.2.2.1; have := HR.out.2.1; omega
                  have hne2 : wr.heap.size ≠ g := by have := HR.out.2.2.1; have := HR.out.2.1; omega
                  have hpN : (p : Int) < (N : Int) := by omega
                  have hl1 : w1.heap.size < wr.heap.size := by have := HR.out.2.2.1; have := HR.out.2.1; omega
                  have hl2 : g < wr.heap.size := by omega
                  go_wp2_with fail
                  go_region_law (first | (refine step_append_lies _ rfl _ _ 22 rfl (w1.heap.size + 1) 88 i0 (.int .i32 0) 1 4 Try.underlying22 HInf.out.1 HInf.out.2.1 HInf.out.2.2.1 HInf.out.2.2.2 rfl (by decide) sv p (vals .i32 (narUp (flat n m') p)) rfl (by exact HR.out.2.2.2.2.1.alloc _) ⟨wr.heap.size, 0, none⟩ 1 1 [.int .i32 x] rfl rfl (by exact cell_one_new _ _ _) (by intro u hu; simp at hu; subst hu; rfl) (by decide) (by unfold maxLen; omega) (by omega) (by simp; omega) _ rfl ?_; intro gg cp w3 hown hgrow _ _; have HA := Lib.hid (HR.out.append x (by rw [← HX.out]; unfold nar; rw [if_neg H1.out]) 1 hown (by exact hgrow)); have k1 := HA.out.at.1; have k2 := HA.out.at.2.1; have k3 := HA.out.at.2.2; have k4 : w3.cell? ⟨g, p, none⟩ = some (.int .i64 x) := (by rw [HX.out]; exact (HMA.out.below HA.out.below hg1).cell p (by rw [flat_length, ← HN.out]; exact hp)); clear hown hgrow))
                  go_goals
                  all_goals
                    have HN2 := Lib.hid (HA.out.store HR.out.2.2.2.2.2.1 (by rw [← HX.out]; exact .inr (by omega)) hp)
                    go_wp2
                    go_roundg (gk - 1)
                    case measure => have h := HG.out; omega
                    case rel => exact ⟨p + 1, _, by go_num, HN2.out, by have h := HG.out; show _ = _; omega⟩
          · have e : p = N := by have := HR.out.2.2.2.2.2.2; omega
            subst e
            have hrow := HR.out.2.2.2.2.1
            obtain ⟨gg, cp, hv, hge, hlt⟩ := World.ownsRow.form hrow (by rw [HN.out]; exact Nat.mul_pos (by omega) (by omega))
            have hall : allR n m' := allR_flat fun q hq => HR.out.2.2.2.2.2.1 q (by rw [HN.out]; exact hq)
            have hz : zoneP n (clUp m (n + 1)) = (some (narM n m'), 0) := by unfold zoneP; rw [HC.out]; simp only; rw [if_pos hall]
            have HZ := Lib.hid hz
            have HV := Lib.hid hv
            have HA := Lib.hid hall
            clear hz hv hall hrow
            go_wp2
            go_ret2
            refine ⟨HBA.out.trans (HR.out.1.mono HlB), .pointer (some ⟨w1.heap.size, 0, none⟩), by rw [HZ.out]; rfl, ?_⟩
            rw [HZ.out]
            refine ⟨w1.heap.size, gg, cp, rfl, hn, narM_right HA.out, ?_, ?_⟩
            · have := HR.out.2.2.2.1
              rw [HV.out, HN.out] at this
              exact this
            · have h1 := HR.out.2.2.2.2.1
              rw [HV.out] at h1
              rw [HN.out, narUp_flat] at h1
              obtain ⟨_, h2⟩ := h1
              rcases h2 with ⟨h3, _⟩ | ⟨g2, cap2, cur, h3, _, h4, _, _, _, h5⟩
              · cases h3
              · simp only [Value.slice.injEq, Option.some.injEq, Addr.mk.injEq] at h3
                obtain ⟨⟨rfl, _⟩, _, rfl⟩ := h3
                exact ⟨cur, h4, by rw [flat_length]; simpa using h5⟩

end Go.Proofs.Ytfegongaflekiaa

/- The document's Of. -/
namespace Go.Proofs.Ytfegongaflekiaa
open Go Go.RowKit
set_option linter.unusedVariables false
set_option linter.unusedSimpArgs false

set_option maxRecDepth 100000 in
set_option maxHeartbeats 1000000 in
theorem rof_clock (n : Int) (A : Option Addr) (c : Nat) (cells : List Int) (w : World) (hn : ¬ (0 ≤ n ∧ n ≤ 8)) :
    Calls Try.prog 36 #[.int .i64 n, .slice A cells.length c] w (MakesR w n.toNat (ofP n cells)) := by
  have hz : ofP n cells = (none, 12) := by unfold ofP; rw [if_neg hn]
  rw [hz]
  clear hz
  by_cases h0 : n < 0
  · have d0 : decide (n < 0) = true := decide_eq_true h0
    go_enter Try.func36, Try.ntmps36
    go_wp2
    go_ret2
    exact ⟨Below.refl _ _, .pointer none, rfl, rfl⟩
  · have d0 : decide (n < 0) = false := decide_eq_false h0
    have h8 : 8 < n := by omega
    clear hn
    go_enter Try.func36, Try.ntmps36
    go_wp2
    go_ret2
    exact ⟨Below.refl _ _, .pointer none, rfl, rfl⟩

set_option maxRecDepth 100000 in
set_option maxHeartbeats 1000000 in
theorem rof_long (n : Nat) (A : Option Addr) (c : Nat) (cells : List Int) (w : World) (hn : n ≤ 8) (hlen : ¬ (cells.length : Int) = ((n : Int) + 1) * ((n : Int) + 1)) (hmax : cells.length ≤ 4611686018427387904) :
    Calls Try.prog 36 #[.int .i64 n, .slice A cells.length c] w (MakesR w n (ofP n cells)) := by
  have hz : ofP n cells = (none, 6) := by unfold ofP; rw [if_pos (by omega), if_neg hlen]
  rw [hz]
  clear hz
  have hm : ((n : Int) + 1) * ((n : Int) + 1) ≤ 9 * 9 := Int.mul_le_mul (by omega) (by omega) (by omega) (by omega)
  have hm0 : 0 ≤ ((n : Int) + 1) * ((n : Int) + 1) := Int.mul_nonneg (by omega) (by omega)
  have t1 : ((cells.length : Int) != ((n : Int) + 1) * ((n : Int) + 1)) = true := by simpa using hlen
  have d0 : decide ((n : Int) < 0) = false := decide_eq_false (by omega)
  clear hlen
  go_enter Try.func36, Try.ntmps36
  go_wp2
  go_ret2
  exact ⟨Below.refl _ _, .pointer none, rfl, rfl⟩

set_option maxRecDepth 100000 in
set_option maxHeartbeats 2000000 in
theorem rof_yes (n : Nat) (A : Option Addr) (c : Nat) (cells : List Int) (w : World) (hn : n ≤ 8) (hI : Ints w .i32 A cells) (hlen : (cells.length : Int) = ((n : Int) + 1) * ((n : Int) + 1))
    (hk : ∀ q, q < cells.length → -2147483648 ≤ cells.getD q 0 ∧ cells.getD q 0 ≤ 2147483647) :
    Calls Try.prog 36 #[.int .i64 n, .slice A cells.length c] w (MakesR w n (ofP n cells)) := by
  have hl81 : cells.length ≤ 81 := by
    have : ((n : Int) + 1) * ((n : Int) + 1) ≤ 9 * 9 := Int.mul_le_mul (by omega) (by omega) (by omega) (by omega)
    omega
  have hm : ((n : Int) + 1) * ((n : Int) + 1) ≤ 81 := by omega
  have hm0 : 0 ≤ ((n : Int) + 1) * ((n : Int) + 1) := by omega
  have HL := Lib.hid (show cells.length = (n + 1) * (n + 1) from by
    have : ((cells.length : Nat) : Int) = (((n + 1) * (n + 1) : Nat) : Int) := by rw [hlen]; simp
    omega)
  have HLI := Lib.hid hlen
  have HI := Lib.hid hI
  have HK := Lib.hid hk
  have t1 : ((cells.length : Int) != ((n : Int) + 1) * ((n : Int) + 1)) = false := by simp [hlen]
  have d0 : decide ((n : Int) < 0) = false := decide_eq_false (by omega)
  clear hlen hI hk
  go_enter Try.func36, Try.ntmps36
  go_wp2
  go_loopg [6] cells.length (fun g v wr => ∃ p : Nat, v = .int .i64 p ∧ w = wr ∧ Hid (p ≤ cells.length ∧ g + p = cells.length ∧ ∀ q, q < p → rightB (cells.getD q 0) = true))
  case atStart => exact ⟨0, by simp, rfl, by omega, by omega, fun q h => by omega⟩
  case round =>
    obtain ⟨p, rfl, rfl, HG⟩ := hrel
    by_cases hp : p < cells.length
    · obtain ⟨b, off, rfl, hc⟩ := HI.out p hp
      have hb := HK.out p hp
      obtain ⟨x, hx⟩ : ∃ x, x = cells.getD p 0 := ⟨_, rfl⟩
      rw [← hx] at hc hb
      have HX := Lib.hid hx
      clear hx
      obtain ⟨hb0, hb1⟩ := hb
      by_cases hr : rightB x = true
      · have HRR := Lib.hid hr
        clear hr
        go_wp2_with fail
        refine (rright_yes _ _ HRR.out hb0 hb1).mono ?_
        rintro e w' ⟨rfl, rfl⟩
        go_wp2
        go_roundg (gk - 1)
        case measure => have := HG.out; omega
        case rel =>
          refine ⟨p + 1, by go_num, rfl, by omega, by have := HG.out.2.1; omega, fun q hq => ?_⟩
          by_cases e : q = p
          · subst e; rw [← HX.out]; exact HRR.out
          · exact HG.out.2.2 q (by omega)
      · have hrf : rightB x = false := by simpa using hr
        have HRR := Lib.hid hrf
        clear hr hrf
        have hall : cells.all rightB = false := by
          rw [Bool.eq_false_iff]
          intro ha
          have := (all_getD cells rightB 0).1 ha p hp
          rw [← HX.out, HRR.out] at this
          cases this
        have hz : ofP n cells = (none, 7) := by
          unfold ofP; rw [if_pos (by omega), if_pos HLI.out, hall]; rfl
        have HZ := Lib.hid hz
        clear hz hall
        go_wp2_with fail
        refine (rright_no _ _ HRR.out hb0 hb1).mono ?_
        rintro e w' ⟨rfl, rfl⟩
        go_wp2
        go_ret2
        exact ⟨Below.refl _ _, .pointer none, by rw [HZ.out]; rfl, by rw [HZ.out]; rfl⟩
    · have e : p = cells.length := by have := HG.out.1; omega
      have hall : cells.all rightB = true := (all_getD cells rightB 0).2 (by rw [← e]; exact HG.out.2.2)
      have hr : ∀ q, q < (n + 1) * (n + 1) → rightB (cells.getD q 0) = true := fun q hq => HG.out.2.2 q (by rw [e, HL.out]; exact hq)
      have hz : ofP n cells = zoneP n (clUp (widM n cells) (n + 1)) := by
        unfold ofP; rw [if_pos (by omega), if_pos HLI.out, if_pos hall, Int.toNat_natCast, HL.out]
        exact (zoneP_agree (keep_wide hr)).symm
      have HZ := Lib.hid hz
      have HRR := Lib.hid hr
      clear hz hall hr e
      go_wp2_with fail
      refine (wide_any A c cells _ HI.out (by omega) HK.out).mono ?_
      rintro e w1 ⟨v, rfl, hw⟩
      have hown : OwnI w1 w.heap.size 2 .i64 v (widUp cells cells.length) := by
        unfold OwnI; rw [widUp_length]; exact hw.2.1
      obtain ⟨g, cp, hv, hge, hrow⟩ := hown.row (by rw [widUp_length, HL.out]; exact Nat.mul_pos (by omega) (by omega))
      rw [widUp_length] at hv
      have HW := Lib.hid hw.1
      have hrow2 : RowAt w1 g 2 .i64 (flat n (widM n cells)) := by
        rw [HL.out, widUp_flat] at hrow; exact hrow
      have HRow := Lib.hid hrow2
      clear hrow hrow2 hown hw
      rw [hv]
      clear hv
      go_wp2_with fail
      refine (rmade_any g n cells.length cp (widM n cells) _ hn HL.out HRow.out (widM_bd HRR.out) w.heap.size hge HW.out.size).mono ?_
      rintro e w2 ⟨hb, v2, rfl, hz2⟩
      have HB := Lib.hid hb
      have HZ2 := Lib.hid hz2
      clear hb hz2
      go_wp2
      go_ret2
      rw [HZ.out]
      exact ⟨HW.out.trans HB.out, v2, rfl, HZ2.out⟩

/-- The document's Of, whatever it is given. -/
theorem rof_any (n : Int) (A : Option Addr) (c : Nat) (cells : List Int) (w : World) (hI : Ints w .i32 A cells) (hmax : cells.length ≤ 4611686018427387904)
    (hk : ∀ q, q < cells.length → -2147483648 ≤ cells.getD q 0 ∧ cells.getD q 0 ≤ 2147483647) :
    Calls Try.prog 36 #[.int .i64 n, .slice A cells.length c] w (MakesR w n.toNat (ofP n cells)) := by
  by_cases hn : 0 ≤ n ∧ n ≤ 8
  · obtain ⟨k, rfl⟩ : ∃ k : Nat, n = k := ⟨n.toNat, by omega⟩
    by_cases hl : (cells.length : Int) = ((k : Int) + 1) * ((k : Int) + 1)
    · exact rof_yes k A c cells w (by omega) hI hl hk
    · exact rof_long k A c cells w (by omega) hl hmax
  · exact rof_clock n A c cells w hn

end Go.Proofs.Ytfegongaflekiaa

/- Rows held against one another. -/
namespace Go.Proofs.Ytfegongaflekiaa
open Go Go.RowKit
set_option linter.unusedVariables false
set_option linter.unusedSimpArgs false

/-- Are two rows the same? -/
def sameL (xs ys : List Int) : Bool := decide (xs = ys)
theorem sameL_len {xs ys : List Int} (h : ¬ xs.length = ys.length) : sameL xs ys = false := decide_eq_false fun e => h (by rw [e])
theorem sameL_no {xs ys : List Int} {p : Nat} (h : ¬ xs.getD p 0 = ys.getD p 0) : sameL xs ys = false := decide_eq_false fun e => h (by rw [e])
theorem sameL_yes {xs ys : List Int} (hl : xs.length = ys.length) (h : ∀ p, p < xs.length → xs.getD p 0 = ys.getD p 0) : sameL xs ys = true := decide_eq_true (list_ext0 hl h)

theorem sameL_self (xs : List Int) : sameL xs xs = true := decide_eq_true rfl

end Go.Proofs.Ytfegongaflekiaa

/- What is asked of the document's zones; rows held against one another. -/
namespace Go.Proofs.Ytfegongaflekiaa
open Go Go.RowKit
set_option linter.unusedVariables false
set_option linter.unusedSimpArgs false

/-! ### the document's zones -/
theorem RefZ.parts {w : World} {v : Value} {n : Nat} {m : Mat} (h : RefZ w v (some (n, m))) : ∃ b g cap, v = .pointer (some ⟨b, 0, none⟩) ∧ n ≤ 8 ∧ RightM n m ∧
    w.cell? ⟨b, 0, none⟩ = some (.int .i64 n) ∧ w.cell? ⟨b, 1, none⟩ = some (.slice (some ⟨g, 0, none⟩) ((n + 1) * (n + 1)) cap) ∧ RowAt w g 88 .i32 (flat n m) := by
  obtain ⟨b, g, cap, h1, h2, h3, h4, h5⟩ := h
  exact ⟨b, g, cap, h1, h2, h3, by simp [World.cell?, h4], by simp [World.cell?, h4], h5⟩

set_option maxRecDepth 100000 in
theorem rdim_any (v : Value) (z : Option (Nat × Mat)) (w : World) (h : RefZ w v z) : Calls Try.prog 41 #[v] w fun e w' => e = .returned (.int .i64 (dimP z)) ∧ w = w' := by
  match z, h with
  | none, h =>
    have h : v = .pointer none := h
    subst h
    show Calls Try.prog 41 _ _ fun e w' => e = .returned (.int .i64 0) ∧ w = w'
    go_enter Try.func41, Try.ntmps41
    go_wp2
    go_ret
    exact ⟨rfl, rfl⟩
  | some (n, m), h =>
    obtain ⟨b, g, cap, e, _, _, h0, _, _⟩ := h.parts
    clear h
    subst e
    show Calls Try.prog 41 _ _ fun e w' => e = .returned (.int .i64 n) ∧ w = w'
    go_enter Try.func41, Try.ntmps41
    go_wp2
    go_ret
    exact ⟨rfl, rfl⟩

/-- The document asks it so. -/
def emptyR (z : Option (Nat × Mat)) : Bool := match z with | some (_, m) => decide (m 0 0 ≠ 1) | none => false

set_option maxRecDepth 100000 in
theorem rempty_any (v : Value) (z : Option (Nat × Mat)) (w : World) (h : RefZ w v z) : Calls Try.prog 40 #[v] w fun e w' => e = .returned (.bool (emptyR z)) ∧ w = w' := by
  match z, h with
  | none, h =>
    have h : v = .pointer none := h
    subst h
    show Calls Try.prog 40 _ _ fun e w' => e = .returned (.bool false) ∧ w = w'
    go_enter Try.func40, Try.ntmps40
    go_wp2
    go_ret
    exact ⟨rfl, rfl⟩
  | some (n, m), h =>
    obtain ⟨b, g, cap, e, _, _, h0, h1, hr⟩ := h.parts
    clear h
    subst e
    have c0 := hr.cell 0 (by rw [flat_length]; exact Nat.mul_pos (by omega) (by omega))
    have e0 : (flat n m).getD 0 0 = m 0 0 := by have := flat_at m (show 0 < n + 1 by omega) (show 0 < n + 1 by omega); simpa using this
    rw [e0] at c0
    obtain ⟨N, hN⟩ : ∃ N, N = (n + 1) * (n + 1) := ⟨_, rfl⟩
    have hN0 : 0 < N := by rw [hN]; exact Nat.mul_pos (by omega) (by omega)
    have hN1 : (0 : Int) < (N : Int) := by omega
    rw [← hN] at h1
    clear hr e0 hN
    by_cases he : m 0 0 = 1
    · have hz : emptyR (some (n, m)) = false := decide_eq_false (fun h => h he)
      have t1 : (m 0 0 != 1) = false := by simp [he]
      rw [hz]
      clear hz he
      go_enter Try.func40, Try.ntmps40
      go_wp2
      go_ret
      exact ⟨by simp [t1], rfl⟩
    · have hz : emptyR (some (n, m)) = true := decide_eq_true he
      have t1 : (m 0 0 != 1) = true := by simp [he]
      rw [hz]
      clear hz he
      go_enter Try.func40, Try.ntmps40
      go_wp2
      go_ret
      exact ⟨by simp [t1], rfl⟩

end Go.Proofs.Ytfegongaflekiaa

/- Cell and Cells of the document's zones. -/
namespace Go.Proofs.Ytfegongaflekiaa
open Go Go.RowKit
set_option linter.unusedVariables false
set_option linter.unusedSimpArgs false

set_option maxRecDepth 100000 in
set_option maxHeartbeats 1000000 in
theorem rcell_nil (i j : Int) (w : World) : Calls Try.prog 42 #[.pointer none, .int .i64 i, .int .i64 j] w fun e w' => e = .returned (.tuple #[.int .i32 0, .int .i64 1]) ∧ ∃ q, w' = w.drewN q := by
  go_enter Try.func42, Try.ntmps42
  go_wp2
  go_ret2
  exact ⟨rfl, 0, rfl⟩

set_option maxRecDepth 100000 in
set_option maxHeartbeats 1000000 in
theorem rcell_zone (b g cap n : Nat) (m : Mat) (i j : Int) (w : World) (hn : n ≤ 8) (h0 : w.cell? ⟨b, 0, none⟩ = some (.int .i64 n)) (h1 : w.cell? ⟨b, 1, none⟩ = some (.slice (some ⟨g, 0, none⟩) ((n + 1) * (n + 1)) cap))
    (hr : RowAt w g 88 .i32 (flat n m)) :
    Calls Try.prog 42 #[.pointer (some ⟨b, 0, none⟩), .int .i64 i, .int .i64 j] w fun e w' => e = .returned (.tuple #[.int .i32 (cellP n m i j).1, .int .i64 (cellP n m i j).2]) ∧ ∃ q, w' = w.drewN q := by
  have HR := Lib.hid hr
  obtain ⟨N, hN⟩ : ∃ N, N = (n + 1) * (n + 1) := ⟨_, rfl⟩
  rw [← hN] at h1
  have HN := Lib.hid hN
  clear hr hN
  by_cases a1 : i < 0
  · have hz : cellP n m i j = (0, 12) := by unfold cellP; rw [if_neg (by omega)]
    rw [hz]
    clear hz
    have d1 : decide (i < 0) = true := decide_eq_true a1
    go_enter Try.func42, Try.ntmps42
    go_wp2
    go_ret2
    exact ⟨rfl, 0, rfl⟩
  · have d1 : decide (i < 0) = false := decide_eq_false a1
    by_cases a2 : (n : Int) < i
    · have hz : cellP n m i j = (0, 12) := by unfold cellP; rw [if_neg (by omega)]
      rw [hz]
      clear hz
      have d2 : decide ((n : Int) < i) = true := decide_eq_true a2
      go_enter Try.func42, Try.ntmps42
      go_wp2
      go_ret2
      exact ⟨rfl, 0, rfl⟩
    · have d2 : decide ((n : Int) < i) = false := decide_eq_false a2
      by_cases a3 : j < 0
      · have hz : cellP n m i j = (0, 12) := by unfold cellP; rw [if_neg (by omega)]
        rw [hz]
        clear hz
        have d3 : decide (j < 0) = true := decide_eq_true a3
        go_enter Try.func42, Try.ntmps42
        go_wp2
        go_ret2
        exact ⟨rfl, 0, rfl⟩
      · have d3 : decide (j < 0) = false := decide_eq_false a3
        by_cases a4 : (n : Int) < j
        · have hz : cellP n m i j = (0, 12) := by unfold cellP; rw [if_neg (by omega)]
          rw [hz]
          clear hz
          have d4 : decide ((n : Int) < j) = true := decide_eq_true a4
          go_enter Try.func42, Try.ntmps42
          go_wp2
          go_ret2
          exact ⟨rfl, 0, rfl⟩
        · have d4 : decide ((n : Int) < j) = false := decide_eq_false a4
          obtain ⟨p, rfl⟩ : ∃ p : Nat, i = p := ⟨i.toNat, by omega⟩
          obtain ⟨q, rfl⟩ : ∃ q : Nat, j = q := ⟨j.toNat, by omega⟩
          have hz : cellP n m p q = (m p q, 0) := by unfold cellP; rw [if_pos (by omega)]; rfl
          rw [hz]
          clear hz
          obtain ⟨P, hP, hP1, hP2, hP3⟩ := prod_facts p n (by omega) hn
          have hPN : P + n < N := by have := HN.out; omega
          have hc := HR.out.cell (P + q) (by rw [flat_length, ← HN.out]; omega)
          rw [hP2, flat_at m (by omega) (by omega), ← hP2] at hc
          clear hP2 hP3
          have g1 : IntKind.i64.wrap ((n : Int) + 1) = (n : Int) + 1 := IntWalk.i64_in _ (by omega)
          have g2 : IntKind.i64.wrap (P : Int) = (P : Int) := IntWalk.i64_in _ (by omega)
          have g3 : IntKind.i64.wrap ((P : Int) + (q : Int)) = (P : Int) + (q : Int) := IntWalk.i64_in _ (by omega)
          have l1 : (P : Int) + (q : Int) < (N : Int) := by omega
          have l3 : 0 ≤ (P : Int) + (q : Int) := by omega
          have n1 : ((P : Int) + (q : Int)).toNat = P + q := by omega
          go_enter Try.func42, Try.ntmps42
          go_wp2_with fail
          go_quiet (fail)
          go_wp2
          go_ret2
          exact ⟨rfl, _, rfl⟩

theorem rcell_any (v : Value) (z : Option (Nat × Mat)) (i j : Int) (w : World) (h : RefZ w v z) :
    Calls Try.prog 42 #[v, .int .i64 i, .int .i64 j] w fun e w' => e = .returned (.tuple #[.int .i32 (cellZ z i j).1, .int .i64 (cellZ z i j).2]) ∧ ∃ q, w' = w.drewN q := by
  match z, h with
  | none, h =>
    have h : v = .pointer none := h
    subst h
    exact rcell_nil i j w
  | some (n, m), h =>
    obtain ⟨b, g, cap, e, hn, _, h0, h1, hr⟩ := h.parts
    subst e
    exact rcell_zone b g cap n m i j w hn h0 h1 hr

end Go.Proofs.Ytfegongaflekiaa

/- The least valuation of a zone, as the document has it. -/
namespace Go.Proofs.Ytfegongaflekiaa
open Go Go.RowKit
set_option linter.unusedVariables false
set_option linter.unusedSimpArgs false

theorem dleast_nil (w : World) : Calls Try.prog 10 #[.pointer none] w (LstEnds w [] 1) := by
  have HB := Lib.hid (OwnQ.start w)
  go_enter Try.func10, Try.ntmps10
  go_wp2
  go_ret2
  exact ⟨_, rfl, HB.out⟩
theorem dleast_empty (b n : Nat) (m : Mat) (w : World) (hz : RefZ w (.pointer (some ⟨b, 0, none⟩)) (some (n, m))) (he : emptyR (some (n, m)) = true) : Calls Try.prog 10 #[.pointer (some ⟨b, 0, none⟩)] w (LstEnds w [] 14) := by
  have HB := Lib.hid (OwnQ.start w)
  have HE := Lib.hid (rempty_any _ _ w hz)
  rw [he] at HE
  clear hz he
  go_enter Try.func10, Try.ntmps10
  go_wp2_with fail
  refine HE.out.mono ?_
  rintro e w' ⟨rfl, rfl⟩
  go_wp2
  go_ret2
  exact ⟨_, rfl, HB.out⟩
theorem insR_sat {n : Nat} {g : Int} {m : Mat} {u0 : Nat → Int} (hs : Sol n g m u0) : insI n g m (insR n g m (n + 2)) (n + 1) = insR n g m (n + 2) := sol_round (inside_sol hs).1 (n + 1) (Nat.le_refl _)

set_option maxRecDepth 100000 in
set_option maxHeartbeats 8000000 in
theorem dleast_full (b n : Nat) (m : Mat) (w : World) (hn : n ≤ 8) (hz : RefZ w (.pointer (some ⟨b, 0, none⟩)) (some (n, m))) (hc : ClosedZ n m) : Calls Try.prog 10 #[.pointer (some ⟨b, 0, none⟩)] w (LstEnds w (leastV n m) 0) := by
  have HEm := Lib.hid (rempty_any _ _ w hz)
  rw [show emptyR (some (n, m)) = false from decide_eq_false (fun h => h (hc.full.one 0 (Nat.zero_le _)))] at HEm
  have HD := Lib.hid (rdim_any _ _ w hz)
  rw [show dimP (some (n, m)) = (n : Int) from rfl] at HD
  have HC := Lib.hid (fun W (hb : Below w.heap.size w W) (i j : Nat) (hi : i ≤ n) (hj : j ≤ n) => show Calls Try.prog 42 #[.pointer (some ⟨b, 0, none⟩), .int .i64 (i : Int), .int .i64 (j : Int)] W (fun e w' => e = .returned (.tuple #[.int .i32 (m i j), .int .i64 0]) ∧ ∃ q, w' = W.drewN q) from by
    have h := rcell_any (.pointer (some ⟨b, 0, none⟩)) (some (n, m)) i j W (hz.below hb)
    rw [show cellZ (some (n, m)) i j = (m i j, 0) by show cellP n m i j = _; unfold cellP; rw [if_pos (by omega)]; simp] at h
    exact h)
  obtain ⟨HU, h0, hub⟩ := place_bd hn hc
  have HU := Lib.hid HU
  have HUB := Lib.hid hub
  have HR := Lib.hid hc.full.right
  have hmk := run_make_row' (P := Try.prog) 86 2 (.int .i64 0) 8 Try.underlying86 infoT64 rfl .i64 .i64 (n + 1) (by omega) (by omega)
  have hcast : ((n + 1 : Nat) : Int) = (n : Int) + 1 := by omega
  rw [hcast] at hmk
  have HS := Lib.hid (show InT w n (insR n ((n : Int) + 1) (widW m) 0) (w.alloc (.cells (madeCells #[.int .i64 0] (n + 1)) 2)) from ⟨(Below.refl _ _).alloc (Nat.le_refl _) _, made_nums w _ _ (n + 1) _ (numsL_length _ _) (fun p hp => by rw [numsL_getD _ _ _ hp]; rfl)⟩)
  have HNW := Lib.hid (fun x (h : 0 ≤ x ∧ x ≤ 137438953472) W => dnew_any x ((n : Int) + 1) (by unfold I64; omega) (by unfold I64; omega) W)
  have g1 : IntKind.i64.wrap ((n : Int) + 1) = (n : Int) + 1 := IntWalk.i64_in _ (by omega)
  clear hz hc hcast h0 hub
  go_enter Try.func10, Try.ntmps10
  go_wp2_with fail
  refine HEm.out.mono ?_
  rintro e w' ⟨rfl, rfl⟩
  go_wp2_with fail
  refine HD.out.mono ?_
  rintro e w' ⟨rfl, rfl⟩
  clear HEm HD
  go_wp2
  generalize w.alloc (.cells (madeCells #[.int .i64 0] (n + 1)) 2) = w1 at *
  clear hmk
  go_loopg [7] (n + 3) (fun q x wr => ∃ (mv : Bool) (r : Nat), x = .bool mv ∧ Hid (InT w n (insR n ((n : Int) + 1) (widW m) r) wr) ∧ Hid ((mv = true → q + r = n + 3 ∧ r ≤ n + 2) ∧ (mv = false → insR n ((n : Int) + 1) (widW m) r = insR n ((n : Int) + 1) (widW m) (n + 2))))
  case atStart => exact ⟨true, 0, rfl, HS, Lib.hid ⟨fun _ => by omega, fun h => by cases h⟩⟩
  case round =>
    clear HS
    obtain ⟨mv, r, rfl, HT, HG⟩ := hrel
    cases mv with
    | true =>
      have HGA := Lib.hid (HG.out.1 rfl)
      have hle0 := Lib.hid (insR_le HU.out r)
      have hge0 := Lib.hid (insR_pos n ((n : Int) + 1) (widW m) r)
      obtain ⟨v0, hv0⟩ : ∃ v0, v0 = insR n ((n : Int) + 1) (widW m) r := ⟨_, rfl⟩
      rw [← hv0] at HT hle0 hge0
      have HV0 := Lib.hid hv0
      clear hv0
      go_wp2
      go_loopg [7, 8] (n + 1) (fun q x y wr => ∃ (mv : Bool) (i : Nat), x = .bool mv ∧ y = .int .i64 i ∧ Hid (InT w n (insI n ((n : Int) + 1) (widW m) v0 i) wr) ∧ Hid (q + i = n + 1 ∧ (mv = false → insI n ((n : Int) + 1) (widW m) v0 i = v0) ∧ (mv = true → ∃ a, a ≤ n ∧ v0 a < insI n ((n : Int) + 1) (widW m) v0 i a)))
      case atStart => exact ⟨false, 0, rfl, by simp, HT, Lib.hid ⟨by omega, fun _ => rfl, fun h => by cases h⟩⟩
      case round =>
        clear HT
        obtain ⟨mv, i, rfl, rfl, HT, HG2⟩ := hrel
        by_cases hi : i ≤ n
        · have hii : (i : Int) ≤ (n : Int) := by omega
          have w5 : IntKind.i64.wrap ((i : Int) + 1) = ((i + 1 : Nat) : Int) := by rw [IntWalk.i64_in _ (by omega)]; omega
          have hle1 := Lib.hid (insI_le HU.out hle0.out i (by omega))
          have hge1 := Lib.hid (fun a => show v0 a ≤ insI n ((n : Int) + 1) (widW m) v0 i a by have := insI_ge n ((n : Int) + 1) (widW m) v0 a 0 i; rw [Nat.zero_add] at this; exact this)
          obtain ⟨v1, hv1⟩ : ∃ v1, v1 = insI n ((n : Int) + 1) (widW m) v0 i := ⟨_, rfl⟩
          rw [← hv1] at HT hle1 hge1
          have HV1 := Lib.hid hv1
          have HM := Lib.hid HG2.out.2
          rw [← hv1] at HM
          clear hv1
          go_wp2
          go_loopg [7, 9] (n + 1) (fun q x y wr => ∃ (mv : Bool) (j : Nat), x = .bool mv ∧ y = .int .i64 j ∧ Hid (InT w n (insJ ((n : Int) + 1) (widW m) v1 i j) wr) ∧ Hid (q + j = n + 1 ∧ (mv = false → insJ ((n : Int) + 1) (widW m) v1 i j = v0) ∧ (mv = true → ∃ a, a ≤ n ∧ v0 a < insJ ((n : Int) + 1) (widW m) v1 i j a)))
          case atStart => exact ⟨mv, 0, rfl, by simp, HT, Lib.hid ⟨by omega, HM.out.1, HM.out.2⟩⟩
          case round =>
            clear HT HM
            obtain ⟨mv, j, rfl, rfl, HT, HG3⟩ := hrel
            by_cases hj : j ≤ n
            · have hjj : (j : Int) ≤ (n : Int) := by omega
              have w6 : IntKind.i64.wrap ((j : Int) + 1) = ((j + 1 : Nat) : Int) := by rw [IntWalk.i64_in _ (by omega)]; omega
              have hle2 := insJ_le HU.out hle1.out hi j (by omega)
              have hge2 : ∀ a, v0 a ≤ insJ ((n : Int) + 1) (widW m) v1 i j a := fun a => Int.le_trans (hge1.out a) (by have := insJ_ge ((n : Int) + 1) (widW m) v1 i a 0 j; rw [Nat.zero_add] at this; exact this)
              have hstep : insJ ((n : Int) + 1) (widW m) v1 i (j + 1) = insS ((n : Int) + 1) (widW m) (insJ ((n : Int) + 1) (widW m) v1 i j) i j := rfl
              have HM := Lib.hid HG3.out.2
              obtain ⟨v2, hv2⟩ : ∃ v2, v2 = insJ ((n : Int) + 1) (widW m) v1 i j := ⟨_, rfl⟩
              rw [← hv2] at HT hle2 hge2 hstep HM
              have HST := Lib.hid hstep
              have HGE := Lib.hid hge2
              have hvi := Int.le_trans (hge0.out i) (hge2 i)
              have hvi' := Int.le_trans (hle2 i hi) (HUB.out i hi).2
              have hvj := Int.le_trans (hge0.out j) (hge2 j)
              have hvj' := Int.le_trans (hle2 j hj) (HUB.out j hj).2
              have hrx := HR.out i j hi hj
              have HX := Lib.hid (show widW m i j = wid (m i j) from rfl)
              have HCC := Lib.hid (fun W hb => HC.out W hb i j hi hj)
              obtain ⟨x, hx⟩ : ∃ x, x = m i j := ⟨_, rfl⟩
              rw [← hx] at hrx HX HCC
              clear hstep hv2 hle2 hge2 hx
              go_wp2_with fail
              refine (HCC.out _ HT.out.1).mono ?_
              rintro e wq ⟨rfl, q0, rfl⟩
              replace HT := Lib.hid (HT.out.step (belowN (Below.refl _ _) q0))
              generalize wr.drewN q0 = wq at *
              clear HCC
              by_cases hinf : x = 2147483647
              · have hsame : insJ ((n : Int) + 1) (widW m) v1 i (j + 1) = v2 := by rw [HST.out]; exact insS_inf (by rw [HX.out, hinf]; decide)
                have HSM := Lib.hid (show InT w n (insJ ((n : Int) + 1) (widW m) v1 i (j + 1)) wq ∧ (mv = false → insJ ((n : Int) + 1) (widW m) v1 i (j + 1) = v0) ∧ (mv = true → ∃ a, a ≤ n ∧ v0 a < insJ ((n : Int) + 1) (widW m) v1 i (j + 1) a) from by
                  rw [hsame]; exact ⟨HT.out, HM.out.1, HM.out.2⟩)
                have HV := Lib.hid (fun W => rvalue_no x W (by simp [someB, hinf]) (by omega) (by omega))
                clear hinf hsame hrx HX HST
                go_wp2_with fail
                refine (HV.out _).mono ?_
                rintro e w' ⟨rfl, rfl⟩
                go_wp2
                go_roundg (gk - 1)
                case measure => have h := HG3.out.1; omega
                case rel => exact ⟨mv, j + 1, rfl, by go_num, Lib.hid HSM.out.1, Lib.hid ⟨by have h := HG3.out.1; omega, HSM.out.2⟩⟩
              · have hbd := rightB_bd hrx hinf
                have HV := Lib.hid (fun W => rvalue_yes x W (by simp [someB, hrx, hinf]))
                have hwx : wid x = x := by unfold wid; rw [if_neg hinf]
                have hnn : x ≠ none62 := by unfold none62; omega
                obtain ⟨q, hq⟩ : ∃ q, q = x / 2 := ⟨_, rfl⟩
                obtain ⟨r2, hr2⟩ : ∃ r2, r2 = x % 2 := ⟨_, rfl⟩
                have hr01 : r2 = 0 ∨ r2 = 1 := by omega
                have hq0 : -268435456 ≤ q := by omega
                have hq1 : q ≤ 268435456 := by omega
                have hm1 : q * ((n : Int) + 1) ≤ 268435456 * 9 := by
                  rcases (show 0 ≤ q ∨ q ≤ 0 by omega) with h | h
                  · exact Int.mul_le_mul (by omega) (by omega) (by omega) (by omega)
                  · have := Int.mul_le_mul_of_nonneg_right (a := q) (b := 0) (c := (n : Int) + 1) h (by omega)
                    omega
                have hm2 : -(268435456 * 9) ≤ q * ((n : Int) + 1) := by
                  have h1 : -268435456 * ((n : Int) + 1) ≤ q * ((n : Int) + 1) := Int.mul_le_mul_of_nonneg_right hq0 (by omega)
                  omega
                obtain ⟨T, hT⟩ : ∃ T, T = q * ((n : Int) + 1) := ⟨_, rfl⟩
                have HS0 := Lib.hid (show ¬ v2 j < v2 i - (T - (1 - r2)) → insJ ((n : Int) + 1) (widW m) v1 i (j + 1) = v2 from fun h => by
                  rw [HST.out]; unfold insS; rw [if_neg]; rintro ⟨_, b⟩; rw [HX.out, hwx, ← hq, ← hr2, ← hT] at b; exact h b)
                have HS1 := Lib.hid (show v2 j < v2 i - (T - (1 - r2)) → insJ ((n : Int) + 1) (widW m) v1 i (j + 1) = fun a => if a = j then v2 i - (T - (1 - r2)) else v2 a from fun h => by
                  rw [HST.out]; unfold insS; rw [if_pos ⟨by rw [HX.out, hwx]; exact hnn, by rw [HX.out, hwx, ← hq, ← hr2, ← hT]; exact h⟩, HX.out, hwx, ← hq, ← hr2, ← hT])
                rw [← hq, ← hr2] at HV
                rw [← hT] at hm1 hm2
                have hTr : q * ((n : Int) + 1) = T := hT.symm
                have c2 := HT.out.2.cell i (by rw [numsL_length]; omega)
                rw [numsL_getD _ _ _ (by omega)] at c2
                have c3 := HT.out.2.cell j (by rw [numsL_length]; omega)
                rw [numsL_getD _ _ _ (by omega)] at c3
                have f3 := HT.out.2.frozen j
                have l4 : (i : Int) < (n : Int) + 1 := by omega
                have l5 : (j : Int) < (n : Int) + 1 := by omega
                clear hinf hbd hwx hnn hq hr2 hrx hT HX HST
                obtain ⟨y, hy⟩ : ∃ y, y = v2 i := ⟨_, rfl⟩
                obtain ⟨z, hz⟩ : ∃ z, z = v2 j := ⟨_, rfl⟩
                rw [← hy] at c2 hvi hvi' HS0 HS1
                rw [← hz] at c3 hvj hvj' HS0 HS1
                have HZJ := Lib.hid hz
                clear hy hz
                have g0 : IntKind.i64.wrap T = T := IntWalk.i64_in _ (by omega)
                have g2 : IntKind.i64.wrap (T - 1) = T - 1 := IntWalk.i64_in _ (by omega)
                have g3 : IntKind.i64.wrap (y - z) = y - z := IntWalk.i64_in _ (by omega)
                have g4 : IntKind.i64.wrap (y - T) = y - T := IntWalk.i64_in _ (by omega)
                have g5 : IntKind.i64.wrap (y - (T - 1)) = y - (T - 1) := IntWalk.i64_in _ (by omega)
                have HPUT := Lib.hid (fun p X (hX : z < X) (he : insJ ((n : Int) + 1) (widW m) v1 i (j + 1) = fun a => if a = j then X else v2 a) => show InT w n (insJ ((n : Int) + 1) (widW m) v1 i (j + 1)) ((wq.drewN p).setCell ⟨w.heap.size, j, none⟩ (.int .i64 X)) ∧ (∃ a, a ≤ n ∧ v0 a < insJ ((n : Int) + 1) (widW m) v1 i (j + 1) a) from by
                  refine ⟨HT.out.set p j (by omega) X he, j, hj, ?_⟩
                  rw [he]
                  simp only [if_true]
                  have := HGE.out j
                  rw [← HZJ.out] at this
                  omega)
                have HSAM := Lib.hid (fun p (he : insJ ((n : Int) + 1) (widW m) v1 i (j + 1) = v2) => show InT w n (insJ ((n : Int) + 1) (widW m) v1 i (j + 1)) (wq.drewN p) ∧ (mv = false → insJ ((n : Int) + 1) (widW m) v1 i (j + 1) = v0) ∧ (mv = true → ∃ a, a ≤ n ∧ v0 a < insJ ((n : Int) + 1) (widW m) v1 i (j + 1) a) from by
                  rw [he]; exact ⟨HT.out.step (belowN (Below.refl _ _) p), HM.out⟩)
                clear HT
                rcases hr01 with rfl | rfl
                · have e1 : decide ((0 : Int) = 1) = false := rfl
                  rw [e1] at HV
                  clear e1
                  by_cases hlt : z < y - (T - 1)
                  · have t1 : T - 1 < y - z := by omega
                    have HE := Lib.hid (fun p => HPUT.out p (y - (T - 1)) hlt (by rw [HS1.out (by omega), show T - (1 - 0) = T - 1 by omega]))
                    clear hlt HS0 HS1 HPUT HSAM
                    go_wp2_with fail
                    refine (HV.out _).mono ?_
                    rintro e w' ⟨rfl, rfl⟩
                    go_wp2_with fail
                    go_quiet (fail)
                    go_wp2
                    go_roundg (gk - 1)
                    case measure => have h := HG3.out.1; omega
                    case rel => exact ⟨true, j + 1, rfl, by go_num, Lib.hid (HE.out _).1, Lib.hid ⟨by have h := HG3.out.1; omega, fun h => by simp at h, fun _ => (HE.out 0).2⟩⟩
                  · have t1 : ¬ T - 1 < y - z := by omega
                    have HE := Lib.hid (fun p => HSAM.out p (HS0.out (by omega)))
                    clear hlt HS0 HS1 HPUT HSAM
                    go_wp2_with fail
                    refine (HV.out _).mono ?_
                    rintro e w' ⟨rfl, rfl⟩
                    go_wp2_with fail
                    go_quiet (fail)
                    go_wp2
                    go_roundg (gk - 1)
                    case measure => have h := HG3.out.1; omega
                    case rel => exact ⟨mv, j + 1, rfl, by go_num, Lib.hid (HE.out _).1, Lib.hid ⟨by have h := HG3.out.1; omega, (HE.out 0).2⟩⟩
                · have e1 : decide ((1 : Int) = 1) = true := rfl
                  rw [e1] at HV
                  clear e1
                  by_cases hlt : z < y - T
                  · have t1 : T < y - z := by omega
                    have HE := Lib.hid (fun p => HPUT.out p (y - T) hlt (by rw [HS1.out (by omega), show T - (1 - 1) = T by omega]))
                    clear hlt HS0 HS1 HPUT HSAM
                    go_wp2_with fail
                    refine (HV.out _).mono ?_
                    rintro e w' ⟨rfl, rfl⟩
                    go_wp2_with fail
                    go_quiet (fail)
                    go_wp2
                    go_roundg (gk - 1)
                    case measure => have h := HG3.out.1; omega
                    case rel => exact ⟨true, j + 1, rfl, by go_num, Lib.hid (HE.out _).1, Lib.hid ⟨by have h := HG3.out.1; omega, fun h => by simp at h, fun _ => (HE.out 0).2⟩⟩
                  · have t1 : ¬ T < y - z := by omega
                    have HE := Lib.hid (fun p => HSAM.out p (HS0.out (by omega)))
                    clear hlt HS0 HS1 HPUT HSAM
                    go_wp2_with fail
                    refine (HV.out _).mono ?_
                    rintro e w' ⟨rfl, rfl⟩
                    go_wp2_with fail
                    go_quiet (fail)
                    go_wp2
                    go_roundg (gk - 1)
                    case measure => have h := HG3.out.1; omega
                    case rel => exact ⟨mv, j + 1, rfl, by go_num, Lib.hid (HE.out _).1, Lib.hid ⟨by have h := HG3.out.1; omega, (HE.out 0).2⟩⟩
            · have hjj : ¬ (j : Int) ≤ (n : Int) := by omega
              have HE := Lib.hid (show InT w n (insI n ((n : Int) + 1) (widW m) v0 (i + 1)) wr ∧ (mv = false → insI n ((n : Int) + 1) (widW m) v0 (i + 1) = v0) ∧ (mv = true → ∃ a, a ≤ n ∧ v0 a < insI n ((n : Int) + 1) (widW m) v0 (i + 1) a) from by
                have h1 := HT.out
                have h2 := HG3.out.2
                rw [show j = n + 1 by have := HG3.out.1; omega, HV1.out] at h1 h2
                exact ⟨h1, h2⟩)
              clear HT
              go_wp2
              go_roundg (n - i)
              case measure => have h := HG2.out.1; omega
              case rel => exact ⟨mv, i + 1, rfl, by go_num, Lib.hid HE.out.1, Lib.hid ⟨by omega, HE.out.2⟩⟩
        · have hii : ¬ (i : Int) ≤ (n : Int) := by omega
          have HE := Lib.hid (show InT w n (insR n ((n : Int) + 1) (widW m) (r + 1)) wr ∧ ((mv = true → r + 1 ≤ n + 2) ∧ (mv = false → insR n ((n : Int) + 1) (widW m) (r + 1) = insR n ((n : Int) + 1) (widW m) (n + 2))) from by
            have h1 := HT.out
            have h2 := HG2.out.2
            rw [show i = n + 1 by have := HG2.out.1; omega] at h1 h2
            have e : insR n ((n : Int) + 1) (widW m) (r + 1) = insI n ((n : Int) + 1) (widW m) v0 (n + 1) := by rw [HV0.out]; rfl
            rw [e]
            refine ⟨h1, fun hm => ?_, fun hm => ?_⟩
            · obtain ⟨a, ha, hlt⟩ := h2.2 hm
              by_cases hr : r = n + 2
              · exfalso
                have e2 : insI n ((n : Int) + 1) (widW m) v0 (n + 1) = v0 := by rw [HV0.out, hr]; exact insR_sat HU.out
                rw [e2] at hlt; omega
              · have := HGA.out.2; omega
            · have e2 := h2.1 hm
              rw [e2, HV0.out]
              exact insR_end HU.out (e.trans (e2.trans HV0.out)))
          clear HT
          go_wp2
          go_roundg (n + 2 - r)
          case measure => have h := HGA.out; omega
          case rel => exact ⟨mv, r + 1, rfl, Lib.hid HE.out.1, Lib.hid ⟨fun hm => by have h := HGA.out; have := HE.out.2.1 hm; omega, HE.out.2.2⟩⟩
    | false =>
      have HE := Lib.hid (show InT w n (placeU n m) wr from by
        have h := HT.out
        rw [HG.out.2 rfl] at h
        exact h)
      have HO := Lib.hid (OwnQ.start wr)
      have HB := Lib.hid HE.out.1
      have HLT := Lib.hid HE.out.2.lt
      have HL := Lib.hid (leastV_length n m)
      have HLV := Lib.hid (fun (p : Nat) (hp : p < n) (y : Int) (hy : y = placeU n m (p + 1)) => show (newP y ((n : Int) + 1)).1 = (leastV n m).getD p (0, 0) by rw [least_grid, gridV_getD hp, hy])
      clear HT HG HR HU HC
      go_wp2
      generalize wr = wE at *
      go_loopg [16, 17] n (fun g v x wr => ∃ p : Nat, x = .int .i64 ((p : Int) + 1) ∧ Hid (OwnQ wE ((leastV n m).take p) v wr) ∧ Hid (p ≤ n ∧ g + p = n))
      case atStart => exact ⟨0, by simp, Lib.hid HO.out, Lib.hid (by omega)⟩
      case round =>
        clear HO
        obtain ⟨p, rfl, HO, HG⟩ := hrel
        by_cases hp : p < n
        · have hpi : (p : Int) + 1 ≤ (n : Int) := by omega
          have hpj : (p : Int) + 1 < (n : Int) + 1 := by omega
          have hp0 : (0 : Int) ≤ (p : Int) + 1 := by omega
          have tn : ((p : Int) + 1).toNat = p + 1 := by omega
          have c1 := (HE.out.2.below HO.out.1 HLT.out).cell (p + 1) (by rw [numsL_length]; omega)
          rw [numsL_getD _ _ _ (by omega)] at c1
          have hx := HUB.out (p + 1) (by omega)
          have HLV := Lib.hid (fun y => HLV.out p hp y)
          obtain ⟨x, hxe⟩ : ∃ x, x = placeU n m (p + 1) := ⟨_, rfl⟩
          rw [← hxe] at c1 hx HLV
          have HLV := Lib.hid (HLV.out x rfl)
          have HNX := Lib.hid (fun W => HNW.out x hx W)
          obtain ⟨y, hy⟩ : ∃ y, y = newP x ((n : Int) + 1) := ⟨_, rfl⟩
          rw [← hy] at HLV HNX
          obtain ⟨⟨y1, y2⟩, ye⟩ := y
          unfold rtV at HNX
          have q5 : IntKind.i64.wrap ((p : Int) + 1 + 1) = ((p + 1 : Nat) : Int) + 1 := by rw [IntWalk.i64_in _ (by omega)]; omega
          have HTK : Hid ((leastV n m).take (p + 1) = (leastV n m).take p ++ [(y1, y2)]) := Lib.hid (by
            rw [List.take_add_one, show (leastV n m)[p]? = some ((leastV n m).getD p (0, 0)) by
              rw [List.getD_eq_getElem?_getD, List.getElem?_eq_getElem (by rw [HL.out]; exact hp)]; rfl, ← HLV.out]; rfl)
          have HLN : Hid (((leastV n m).take p).length ≤ 8) := Lib.hid (by rw [List.length_take]; omega)
          clear hxe hx hy
          go_wp2_with fail
          refine (HNX.out _).mono ?_
          rintro e w2 ⟨rfl, hb⟩
          replace HO := Lib.hid (HO.out.step hb)
          clear hb
          go_upto_region 31 with fail
          have K := Lib.hid ((Blx.start w2).new #[.int .i64 y1, .int .i64 y2] 59)
          replace HO := Lib.hid (HO.out.step (below_one w2 (.cells #[.int .i64 y1, .int .i64 y2] 59)))
          generalize w2.alloc (.cells #[.int .i64 y1, .int .i64 y2] 59) = w3 at *
          generalize w2.heap.size = g3 at *
          obtain ⟨k1, k2, _, _⟩ := K.out.cells2 0 rfl
          have K2 := Lib.hid ((Blx.start w3).new #[.int .i64 y1, .int .i64 y2] 59)
          replace HO := Lib.hid (HO.out.step (below_one w3 (.cells #[.int .i64 y1, .int .i64 y2] 59)))
          obtain ⟨k3, k4, _, _⟩ := K2.out.cells2 0 rfl
          obtain ⟨v', w', hrun, hnext⟩ := HO.out.next w3.heap.size 1 y1 y2 ⟨k3, k4⟩ (by have := HLN.out; omega)
          have HO := Lib.hid hnext
          rw [← HTK.out] at HO
          clear hnext k3 k4
          go_wp2_with (at_builtin; refine wpList_append_run rfl _ _ 27 rfl _ _ v' w' rfl rfl hrun ?_)
          clear hrun
          go_wp2
          go_roundg (gk - 1)
          case measure => have h := HG.out.2; omega
          case rel => exact ⟨p + 1, by go_num, HO, Lib.hid ⟨by omega, by have h := HG.out.2; omega⟩⟩
        · have hpi : ¬ (p : Int) + 1 ≤ (n : Int) := by omega
          have HF := Lib.hid (show OwnQ w (leastV n m) u16 wr from by
            have h := HO.out
            rw [show p = n by have := HG.out.1; omega, List.take_of_length_le (by rw [HL.out]; exact Nat.le_refl _)] at h
            exact h.from HB.out)
          go_wp2
          go_ret2
          exact ⟨_, rfl, HF.out⟩
theorem dleast_any (v : Value) (z : Option (Nat × Mat)) (w : World) (hz : RefZ w v z) (hk : ∀ n m, z = some (n, m) → m = (fun _ _ => 0) ∨ ClosedZ n m) : Calls Try.prog 10 #[v] w (LstEnds w (leastA z).1 (leastA z).2) := by
  match z, hz with
  | none, h =>
    have h : v = .pointer none := h
    subst h
    exact dleast_nil w
  | some (n, m), h =>
    have h' := h
    obtain ⟨b, g, cap, e, hn, _⟩ := h'
    subst e
    rcases hk n m rfl with rfl | hc
    · have he : emptyP (some (n, fun _ _ => 0)) = true := by show decide ((0 : Int) < 1) = true; decide
      unfold leastA
      simp only
      rw [if_pos he]
      exact dleast_empty b n _ w h (by show decide ((0 : Int) ≠ 1) = true; decide)
    · unfold leastA
      simp only
      rw [if_neg (by rw [hc.full.notEmpty]; decide)]
      exact dleast_full b n m w hn h hc

end Go.Proofs.Ytfegongaflekiaa

/- What a book tells of the lists it keeps; what PointLeast tells. -/
namespace Go.Proofs.Ytfegongaflekiaa
open Go Go.RowKit
set_option linter.unusedVariables false
set_option linter.unusedSimpArgs false

theorem cells14_at {w0 wr : World} {g : Nat} {T : TypeId} {a0 a1 a2 a3 a4 a5 a6 a7 a8 a9 a10 a11 a12 a13 : Value} (h : Blx w0 [(g, #[a0, a1, a2, a3, a4, a5, a6, a7, a8, a9, a10, a11, a12, a13], T)] wr) : (wr.cell? ⟨g, 0, none⟩ = some a0 ∧ wr.cell? ⟨g, 1, none⟩ = some a1 ∧ wr.cell? ⟨g, 2, none⟩ = some a2 ∧ wr.cell? ⟨g, 3, none⟩ = some a3 ∧ wr.cell? ⟨g, 4, none⟩ = some a4 ∧ wr.cell? ⟨g, 5, none⟩ = some a5 ∧ wr.cell? ⟨g, 6, none⟩ = some a6 ∧ wr.cell? ⟨g, 7, none⟩ = some a7 ∧ wr.cell? ⟨g, 8, none⟩ = some a8 ∧ wr.cell? ⟨g, 9, none⟩ = some a9 ∧ wr.cell? ⟨g, 10, none⟩ = some a10 ∧ wr.cell? ⟨g, 11, none⟩ = some a11 ∧ wr.cell? ⟨g, 12, none⟩ = some a12 ∧ wr.cell? ⟨g, 13, none⟩ = some a13) ∧ wr.frozen? ⟨g, 0, none⟩ = false ∧ wr.frozen? ⟨g, 1, none⟩ = false ∧ wr.frozen? ⟨g, 2, none⟩ = false ∧ wr.frozen? ⟨g, 3, none⟩ = false ∧ wr.frozen? ⟨g, 4, none⟩ = false ∧ wr.frozen? ⟨g, 5, none⟩ = false ∧ wr.frozen? ⟨g, 6, none⟩ = false ∧ wr.frozen? ⟨g, 7, none⟩ = false ∧ wr.frozen? ⟨g, 8, none⟩ = false ∧ wr.frozen? ⟨g, 9, none⟩ = false ∧ wr.frozen? ⟨g, 10, none⟩ = false ∧ wr.frozen? ⟨g, 11, none⟩ = false ∧ wr.frozen? ⟨g, 12, none⟩ = false ∧ wr.frozen? ⟨g, 13, none⟩ = false :=
  ⟨⟨(h.cell 0 rfl 0 rfl).1, (h.cell 0 rfl 1 rfl).1, (h.cell 0 rfl 2 rfl).1, (h.cell 0 rfl 3 rfl).1, (h.cell 0 rfl 4 rfl).1, (h.cell 0 rfl 5 rfl).1, (h.cell 0 rfl 6 rfl).1, (h.cell 0 rfl 7 rfl).1, (h.cell 0 rfl 8 rfl).1, (h.cell 0 rfl 9 rfl).1, (h.cell 0 rfl 10 rfl).1, (h.cell 0 rfl 11 rfl).1, (h.cell 0 rfl 12 rfl).1, (h.cell 0 rfl 13 rfl).1⟩, (h.cell 0 rfl 0 (v := a0) rfl).2, (h.cell 0 rfl 1 (v := a1) rfl).2, (h.cell 0 rfl 2 (v := a2) rfl).2, (h.cell 0 rfl 3 (v := a3) rfl).2, (h.cell 0 rfl 4 (v := a4) rfl).2, (h.cell 0 rfl 5 (v := a5) rfl).2, (h.cell 0 rfl 6 (v := a6) rfl).2, (h.cell 0 rfl 7 (v := a7) rfl).2, (h.cell 0 rfl 8 (v := a8) rfl).2, (h.cell 0 rfl 9 (v := a9) rfl).2, (h.cell 0 rfl 10 (v := a10) rfl).2, (h.cell 0 rfl 11 (v := a11) rfl).2, (h.cell 0 rfl 12 (v := a12) rfl).2, (h.cell 0 rfl 13 (v := a13) rfl).2⟩
theorem cells14_store {w0 wr : World} {g : Nat} {T : TypeId} {a0 a1 a2 a3 a4 a5 a6 a7 a8 a9 a10 a11 a12 a13 : Value} (h : Blx w0 [(g, #[a0, a1, a2, a3, a4, a5, a6, a7, a8, a9, a10, a11, a12, a13], T)] wr) (b0 b1 b2 b3 b4 b5 b6 b7 b8 b9 b10 b11 b12 b13 : Value) : Blx w0 [(g, #[b0, b1, b2, b3, b4, b5, b6, b7, b8, b9, b10, b11, b12, b13], T)] ((((((((((((((wr.setCell ⟨g, 0, none⟩ b0).setCell ⟨g, 1, none⟩ b1).setCell ⟨g, 2, none⟩ b2).setCell ⟨g, 3, none⟩ b3).setCell ⟨g, 4, none⟩ b4).setCell ⟨g, 5, none⟩ b5).setCell ⟨g, 6, none⟩ b6).setCell ⟨g, 7, none⟩ b7).setCell ⟨g, 8, none⟩ b8).setCell ⟨g, 9, none⟩ b9).setCell ⟨g, 10, none⟩ b10).setCell ⟨g, 11, none⟩ b11).setCell ⟨g, 12, none⟩ b12).setCell ⟨g, 13, none⟩ b13) := by
  have e0 : (#[a0, a1, a2, a3, a4, a5, a6, a7, a8, a9, a10, a11, a12, a13] : Array Value).setIfInBounds 0 b0 = #[b0, a1, a2, a3, a4, a5, a6, a7, a8, a9, a10, a11, a12, a13] := rfl
  have h1 := h.set 0 rfl 0 b0
  rw [e0] at h1
  simp only [List.set_cons_zero] at h1
  have e1 : (#[b0, a1, a2, a3, a4, a5, a6, a7, a8, a9, a10, a11, a12, a13] : Array Value).setIfInBounds 1 b1 = #[b0, b1, a2, a3, a4, a5, a6, a7, a8, a9, a10, a11, a12, a13] := rfl
  have h2 := h1.set 0 rfl 1 b1
  rw [e1] at h2
  simp only [List.set_cons_zero] at h2
  have e2 : (#[b0, b1, a2, a3, a4, a5, a6, a7, a8, a9, a10, a11, a12, a13] : Array Value).setIfInBounds 2 b2 = #[b0, b1, b2, a3, a4, a5, a6, a7, a8, a9, a10, a11, a12, a13] := rfl
  have h3 := h2.set 0 rfl 2 b2
  rw [e2] at h3
  simp only [List.set_cons_zero] at h3
  have e3 : (#[b0, b1, b2, a3, a4, a5, a6, a7, a8, a9, a10, a11, a12, a13] : Array Value).setIfInBounds 3 b3 = #[b0, b1, b2, b3, a4, a5, a6, a7, a8, a9, a10, a11, a12, a13] := rfl
  have h4 := h3.set 0 rfl 3 b3
  rw [e3] at h4
  simp only [List.set_cons_zero] at h4
  have e4 : (#[b0, b1, b2, b3, a4, a5, a6, a7, a8, a9, a10, a11, a12, a13] : Array Value).setIfInBounds 4 b4 = #[b0, b1, b2, b3, b4, a5, a6, a7, a8, a9, a10, a11, a12, a13] := rfl
  have h5 := h4.set 0 rfl 4 b4
  rw [e4] at h5
  simp only [List.set_cons_zero] at h5
  have e5 : (#[b0, b1, b2, b3, b4, a5, a6, a7, a8, a9, a10, a11, a12, a13] : Array Value).setIfInBounds 5 b5 = #[b0, b1, b2, b3, b4, b5, a6, a7, a8, a9, a10, a11, a12, a13] := rfl
  have h6 := h5.set 0 rfl 5 b5
  rw [e5] at h6
  simp only [List.set_cons_zero] at h6
  have e6 : (#[b0, b1, b2, b3, b4, b5, a6, a7, a8, a9, a10, a11, a12, a13] : Array Value).setIfInBounds 6 b6 = #[b0, b1, b2, b3, b4, b5, b6, a7, a8, a9, a10, a11, a12, a13] := rfl
  have h7 := h6.set 0 rfl 6 b6
  rw [e6] at h7
  simp only [List.set_cons_zero] at h7
  have e7 : (#[b0, b1, b2, b3, b4, b5, b6, a7, a8, a9, a10, a11, a12, a13] : Array Value).setIfInBounds 7 b7 = #[b0, b1, b2, b3, b4, b5, b6, b7, a8, a9, a10, a11, a12, a13] := rfl
  have h8 := h7.set 0 rfl 7 b7
  rw [e7] at h8
  simp only [List.set_cons_zero] at h8
  have e8 : (#[b0, b1, b2, b3, b4, b5, b6, b7, a8, a9, a10, a11, a12, a13] : Array Value).setIfInBounds 8 b8 = #[b0, b1, b2, b3, b4, b5, b6, b7, b8, a9, a10, a11, a12, a13] := rfl
  have h9 := h8.set 0 rfl 8 b8
  rw [e8] at h9
  simp only [List.set_cons_zero] at h9
  have e9 : (#[b0, b1, b2, b3, b4, b5, b6, b7, b8, a9, a10, a11, a12, a13] : Array Value).setIfInBounds 9 b9 = #[b0, b1, b2, b3, b4, b5, b6, b7, b8, b9, a10, a11, a12, a13] := rfl
  have h10 := h9.set 0 rfl 9 b9
  rw [e9] at h10
  simp only [List.set_cons_zero] at h10
  have e10 : (#[b0, b1, b2, b3, b4, b5, b6, b7, b8, b9, a10, a11, a12, a13] : Array Value).setIfInBounds 10 b10 = #[b0, b1, b2, b3, b4, b5, b6, b7, b8, b9, b10, a11, a12, a13] := rfl
  have h11 := h10.set 0 rfl 10 b10
  rw [e10] at h11
  simp only [List.set_cons_zero] at h11
  have e11 : (#[b0, b1, b2, b3, b4, b5, b6, b7, b8, b9, b10, a11, a12, a13] : Array Value).setIfInBounds 11 b11 = #[b0, b1, b2, b3, b4, b5, b6, b7, b8, b9, b10, b11, a12, a13] := rfl
  have h12 := h11.set 0 rfl 11 b11
  rw [e11] at h12
  simp only [List.set_cons_zero] at h12
  have e12 : (#[b0, b1, b2, b3, b4, b5, b6, b7, b8, b9, b10, b11, a12, a13] : Array Value).setIfInBounds 12 b12 = #[b0, b1, b2, b3, b4, b5, b6, b7, b8, b9, b10, b11, b12, a13] := rfl
  have h13 := h12.set 0 rfl 12 b12
  rw [e12] at h13
  simp only [List.set_cons_zero] at h13
  have e13 : (#[b0, b1, b2, b3, b4, b5, b6, b7, b8, b9, b10, b11, b12, a13] : Array Value).setIfInBounds 13 b13 = #[b0, b1, b2, b3, b4, b5, b6, b7, b8, b9, b10, b11, b12, b13] := rfl
  have h14 := h13.set 0 rfl 13 b13
  rw [e13] at h14
  simp only [List.set_cons_zero] at h14
  exact h14

set_option maxRecDepth 100000 in
set_option maxHeartbeats 4000000 in
theorem alone_any (w0 w : World) (g h cap n : Nat) (curh : Array Value) (A : Nat → Option Addr) (c : Nat → Nat) (l : List (Int × Int)) (hl : l.length = n) (hn : n ≤ 8) (H : AlR w0 g h cap curh n A c (fun _ => l) w)
    (hc : ∀ i, i < 2 → curh[i]? = some (.slice (A i) n (c i))) (hd : ∀ i j, i < 2 → j < 2 → i ≠ j → ∀ b, (Value.slice (A i) n (c i)).ownBlock = some b → (Value.slice (A j) n (c j)).ownBlock ≠ some b) (hlo : ∀ j, j < 2 → ∀ b, (Value.slice (A j) n (c j)).ownBlock = some b → w0.heap.size ≤ b) :
    Calls Try.prog 14 #[.pointer (some ⟨g, 0, none⟩)] w fun e w' => e = .returned (.bool true) ∧ Below w0.heap.size w0 w' := by
  have K := Lib.hid H.book
  have HRA := Lib.hid (aloneRats_any w0 w g h cap n curh A c l hl hn H hc hd hlo)
  obtain ⟨S, hS⟩ : ∃ S : Value, S = .slice (some ⟨h, 0, none⟩) 2 cap := ⟨_, rfl⟩
  rw [← hS] at K HRA
  clear hS H hc hd hlo
  go_enter Try.func14, Try.ntmps14
  go_wp2_with fail
  refine (aloneBytes_any w0 _ g S K.out).mono ?_
  rintro e w' ⟨rfl, rfl⟩
  go_wp2_with fail
  refine (aloneTexts_any w0 _ g S K.out).mono ?_
  rintro e w' ⟨rfl, rfl⟩
  go_wp2_with fail
  refine (aloneInts_any w0 _ g S K.out).mono ?_
  rintro e w' ⟨rfl, rfl⟩
  go_wp2_with fail
  refine (aloneInt64s_any w0 _ g S K.out).mono ?_
  rintro e w' ⟨rfl, rfl⟩
  go_wp2_with fail
  refine (aloneBounds_any w0 _ g S K.out).mono ?_
  rintro e w' ⟨rfl, rfl⟩
  go_wp2_with fail
  refine HRA.out.mono ?_
  rintro e w2 ⟨rfl, hk⟩
  have K := Lib.hid hk
  clear hk HRA
  go_wp2_with fail
  refine (aloneLimits_any w0 _ g S K.out).mono ?_
  rintro e w' ⟨rfl, rfl⟩
  go_wp2_with fail
  refine (aloneGuards_any w0 _ g S K.out).mono ?_
  rintro e w' ⟨rfl, rfl⟩
  go_wp2_with fail
  refine (aloneNodes_any w0 _ g S K.out).mono ?_
  rintro e w' ⟨rfl, rfl⟩
  go_wp2_with fail
  refine (aloneMoves_any w0 _ g S K.out).mono ?_
  rintro e w' ⟨rfl, rfl⟩
  go_wp2_with fail
  refine (aloneDiffs_any w0 _ g S K.out).mono ?_
  rintro e w' ⟨rfl, rfl⟩
  go_wp2_with fail
  refine (aloneSteps_any w0 _ g S K.out).mono ?_
  rintro e w' ⟨rfl, rfl⟩
  go_wp2_with fail
  refine (aloneAts_any w0 _ g S K.out).mono ?_
  rintro e w' ⟨rfl, rfl⟩
  go_wp2_with fail
  refine (aloneBools_any w0 _ g S K.out).mono ?_
  rintro e w' ⟨rfl, rfl⟩
  replace K := Lib.hid (show Blx w0 [(g, #[.slice none 0 0, .slice none 0 0, .slice none 0 0, .slice none 0 0, .slice none 0 0, S, .slice none 0 0, .slice none 0 0, .slice none 0 0, .slice none 0 0, .slice none 0 0, .slice none 0 0, .slice none 0 0, .slice none 0 0], 50)] w2 from K.out)
  obtain ⟨⟨x0, x1, x2, x3, x4, x5, x6, x7, x8, x9, x10, x11, x12, x13⟩, y0, y1, y2, y3, y4, y5, y6, y7, y8, y9, y10, y11, y12, y13⟩ := cells14_at K.out
  replace K := Lib.hid (cells14_store K.out (.slice none 0 0) (.slice none 0 0) (.slice none 0 0) (.slice none 0 0) (.slice none 0 0) (.slice none 0 0) (.slice none 0 0) (.slice none 0 0) (.slice none 0 0) (.slice none 0 0) (.slice none 0 0) (.slice none 0 0) (.slice none 0 0) (.slice none 0 0))
  go_wp2
  generalize World.setCell _ _ _ = wz at *
  go_ret
  exact ⟨rfl, K.out.below⟩

/-- A zone by the program and by the document. -/
def Both6Ends (w : World) (n : Int) (cells : List Int) (e : Ending) (w' : World) : Prop := Below w.heap.size w w' ∧ ∃ v v', e = .returned (.tuple #[v, v']) ∧ ZoneV 108 w' v (zOf n cells) ∧ RefZ w' v' (zOf n cells)
set_option maxRecDepth 100000 in
theorem both06_any (n : Int) (A : Option Addr) (c : Nat) (cells : List Int) (w : World) (hI : Ints w .i32 A cells) (hmax : cells.length ≤ 4611686018427387904)
    (hk : ∀ q, q < cells.length → -2147483648 ≤ cells.getD q 0 ∧ cells.getD q 0 ≤ 2147483647) :
    Calls Try.prog 8 #[.int .i64 n, .slice A cells.length c] w (Both6Ends w n cells) := by
  have HI := Lib.hid hI
  have HK := Lib.hid hk
  clear hI hk
  go_enter Try.func8, Try.ntmps8
  go_wp2_with fail
  refine (of_any n A c cells _ HI.out hmax HK.out).mono ?_
  rintro e w1 ⟨hb, v, rfl, hv⟩
  have HB1 := Lib.hid hb
  have HV1 := Lib.hid (show ZoneV 108 w1 v (zOf n cells) from hv)
  clear hb hv
  obtain ⟨ec, hec⟩ : ∃ ec, ec = (ofP n cells).2 := ⟨_, rfl⟩
  have HR := Lib.hid (fun w hI => rof_any n A c cells w hI hmax HK.out)
  rw [← hec]
  go_wp2_with fail
  refine (HR.out _ (HI.out.below HB1.out)).mono ?_
  rintro e w2 ⟨hb, v', rfl, hv⟩
  have HV2 := Lib.hid (show RefZ w2 v' (zOf n cells) from hv)
  have HVZ := Lib.hid (HV1.out.below hb)
  have HBB := Lib.hid (HB1.out.trans (hb.mono HB1.out.size))
  rw [← hec]
  clear hb hv hec
  go_wp2
  go_ret2
  exact ⟨HBB.out, _, _, rfl, HVZ.out, HV2.out⟩
theorem leastA_short {z : Option (Nat × Mat)} (h : ∀ k m, z = some (k, m) → k ≤ 8) : (leastA z).1.length ≤ 8 := by
  unfold leastA
  match z, h with
  | none, _ => exact Nat.zero_le _
  | some (k, m), h =>
    simp only
    split
    · exact Nat.zero_le _
    · rw [leastV_length]; exact h k m rfl
theorem ownQ_block {w0 wr : World} {l : List (Int × Int)} {v : Value} (h : OwnQ w0 l v wr) {b : Nat} (hb : v.ownBlock = some b) : w0.heap.size ≤ b ∧ b < wr.heap.size := rows_block h.2 hb

set_option maxRecDepth 100000 in
set_option maxHeartbeats 4000000 in
theorem pleast_any (n : Int) (A : Option Addr) (c : Nat) (cells : List Int) (w : World) (hI : Ints w .i32 A cells) (hmax : cells.length ≤ 4611686018427387904)
    (hk : ∀ q, q < cells.length → -2147483648 ≤ cells.getD q 0 ∧ cells.getD q 0 ≤ 2147483647) :
    Calls Try.prog 3 #[.int .i64 n, .slice A cells.length c] w fun e w' => e = .returned (.bool true) ∧ Below w.heap.size w w' := by
  have HBO := Lib.hid (both06_any n A c cells w hI hmax hk)
  have hkind : ∀ k m, zOf n cells = some (k, m) → m = (fun _ _ => 0) ∨ ClosedZ k m := fun k m e => zone_closed e
  have HL8 := Lib.hid (leastA_short (z := zOf n cells) (fun k m e => by have := (zone_kinds e).1; omega))
  have HLE := Lib.hid (fun v W hz => least_any v (zOf n cells) W hz hkind)
  have HDL := Lib.hid (fun v W hz => dleast_any v (zOf n cells) W hz hkind)
  have HLV := Lib.hid (fun W => live06_any W)
  obtain ⟨z, hz⟩ : ∃ z, z = zOf n cells := ⟨_, rfl⟩
  obtain ⟨⟨l, er⟩, hle⟩ : ∃ q, q = leastA z := ⟨_, rfl⟩
  rw [← hz] at HL8 HLE HDL
  rw [← hle] at HL8 HLE HDL
  have t1 : (er != er) = false := by simp
  clear hI hmax hk hkind hle
  go_enter Try.func3, Try.ntmps3
  go_wp2_with fail
  refine HBO.out.mono ?_
  rintro e w1 ⟨hb, v, v', rfl, hv, hv'⟩
  rw [← hz] at hv hv'
  have HB := Lib.hid hb
  have HZ := Lib.hid hv
  have HZ' := Lib.hid hv'
  clear hb hv hv' HBO hz
  go_wp2_with fail
  refine (HLE.out _ _ HZ.out).mono ?_
  rintro e w2 ⟨va, rfl, hq⟩
  have HA := Lib.hid hq
  replace HZ := Lib.hid (HZ.out.below hq.1)
  replace HZ' := Lib.hid (HZ'.out.below hq.1)
  have HBA := Lib.hid (HB.out.trans (hq.1.mono HB.out.size))
  clear hq
  go_wp2_with fail
  refine (HDL.out _ _ HZ'.out).mono ?_
  rintro e w3 ⟨vb, rfl, hq⟩
  have HQ := Lib.hid hq
  replace HZ := Lib.hid (HZ.out.below hq.1)
  replace HA := Lib.hid (HA.out.step hq.1)
  replace HBA := Lib.hid (HBA.out.trans (hq.1.mono HBA.out.size))
  clear hq HDL HZ'
  go_wp2_with fail
  refine (HLV.out _).mono ?_
  rintro e w4 ⟨rfl, hb⟩
  replace HZ := Lib.hid (HZ.out.below hb)
  replace HA := Lib.hid (HA.out.step hb)
  replace HQ := Lib.hid (HQ.out.step hb)
  replace HBA := Lib.hid (HBA.out.trans (hb.mono HBA.out.size))
  clear hb HLV
  obtain ⟨Aa, ca, ea, ra⟩ := HA.out.rats
  obtain ⟨Ab, cb, eb, rb⟩ := HQ.out.rats
  subst ea
  subst eb
  have HSM := Lib.hid (samerats_eq Aa ca Ab cb l w4 ra rb (by have := HL8.out; omega))
  clear ra rb
  go_wp2_with fail
  refine HSM.out.mono ?_
  rintro e w5 ⟨rfl, hb⟩
  replace HZ := Lib.hid (HZ.out.below hb)
  replace HA := Lib.hid (HA.out.step hb)
  replace HBA := Lib.hid (HBA.out.trans (hb.mono HBA.out.size))
  clear hb HSM HQ
  go_wp2_with fail
  refine (HLE.out _ _ HZ.out).mono ?_
  rintro e w6 ⟨vc, rfl, hq⟩
  have HCQ := Lib.hid hq
  have HBC := Lib.hid HBA.out.size
  have HLT := Lib.hid (fun b (hb : (Value.slice Aa l.length ca).ownBlock = some b) => (ownQ_block HA.out hb).2)
  replace HA := Lib.hid (HA.out.step hq.1)
  replace HBA := Lib.hid (HBA.out.trans (hq.1.mono HBA.out.size))
  have H15 := Lib.hid HB.out.size
  obtain ⟨Ac, cc, ec, -⟩ := hq.rats
  subst ec
  clear hq HLE HZ
  have HK := Lib.hid (show Blx w [(w6.heap.size, bookCs (.slice none 0 0), 50)] (w6.alloc (.cells #[.slice none 0 0, .slice none 0 0, .slice none 0 0, .slice none 0 0, .slice none 0 0, .slice none 0 0, .slice none 0 0, .slice none 0 0, .slice none 0 0, .slice none 0 0, .slice none 0 0, .slice none 0 0, .slice none 0 0, .slice none 0 0] 50)) from
    Blx.new (L := []) ⟨HBA.out, (fun _ h => by cases h), List.Pairwise.nil, (fun _ h => by cases h)⟩ (bookCs (.slice none 0 0)) 50)
  have hb7 := below_one w6 (.cells #[.slice none 0 0, .slice none 0 0, .slice none 0 0, .slice none 0 0, .slice none 0 0, .slice none 0 0, .slice none 0 0, .slice none 0 0, .slice none 0 0, .slice none 0 0, .slice none 0 0, .slice none 0 0, .slice none 0 0, .slice none 0 0] 50)
  have ra7 := (RowF.ofOwn HA.out).frame (fun q hq => hb7.block q (rowF_lt (RowF.ofOwn HA.out) hq))
  have rc7 := (RowF.ofOwn HCQ.out).frame (fun q hq => hb7.block q (rowF_lt (RowF.ofOwn HCQ.out) hq))
  have la : ∀ q, (Value.slice Aa l.length ca).ownBlock = some q → q < w6.heap.size := fun q hq => rowF_lt (RowF.ofOwn HA.out) hq
  have lc : ∀ q, (Value.slice Ac l.length cc).ownBlock = some q → q < w6.heap.size := fun q hq => rowF_lt (RowF.ofOwn HCQ.out) hq
  have hg7 : w6.heap.size < (w6.alloc (.cells #[.slice none 0 0, .slice none 0 0, .slice none 0 0, .slice none 0 0, .slice none 0 0, .slice none 0 0, .slice none 0 0, .slice none 0 0, .slice none 0 0, .slice none 0 0, .slice none 0 0, .slice none 0 0, .slice none 0 0, .slice none 0 0] 50)).heap.size := by simp
  have h07 : w.heap.size ≤ (w6.alloc (.cells #[.slice none 0 0, .slice none 0 0, .slice none 0 0, .slice none 0 0, .slice none 0 0, .slice none 0 0, .slice none 0 0, .slice none 0 0, .slice none 0 0, .slice none 0 0, .slice none 0 0, .slice none 0 0, .slice none 0 0, .slice none 0 0] 50)).heap.size := HK.out.below.size
  go_upto_region 8 with fail
  generalize w6.alloc (.cells #[.slice none 0 0, .slice none 0 0, .slice none 0 0, .slice none 0 0, .slice none 0 0, .slice none 0 0, .slice none 0 0, .slice none 0 0, .slice none 0 0, .slice none 0 0, .slice none 0 0, .slice none 0 0, .slice none 0 0, .slice none 0 0] 50) = w7 at *
  have HT1 := Lib.hid (take_any w w7 w6.heap.size w7.heap.size (.slice none 0 0) Aa l.length ca [] HK.out (World.ownsRow_nil _ _ _ _) hg7 (Nat.le_refl _) h07 (Nat.zero_le _))
  have HRA := Lib.hid (And.intro ra7 rc7)
  have HLL := Lib.hid (And.intro la lc)
  have HG7 := Lib.hid (And.intro hg7 h07)
  clear ra7 rc7 la lc hg7 h07 hb7 HK
  go_wp2_with fail
  refine HT1.out.mono ?_
  rintro e w8 ⟨rfl, v1, k1, o1, s1, f1⟩
  have ra8 := HRA.out.1.frame (fun q hq => f1 q (by have := HLL.out.1 q hq; have := HG7.out.1; omega) (fun e => by have := HLL.out.1 q hq; omega))
  have rc8 := HRA.out.2.frame (fun q hq => f1 q (by have := HLL.out.2 q hq; have := HG7.out.1; omega) (fun e => by have := HLL.out.2 q hq; omega))
  have HT2 := Lib.hid (take_any w w8 w6.heap.size w7.heap.size v1 Ac l.length cc [.slice Aa l.length ca] k1 o1 HG7.out.1 s1 HG7.out.2 (by simp))
  replace HRA := Lib.hid (And.intro ra8 rc8)
  clear ra8 rc8 k1 o1 s1 f1 HT1
  go_wp2_with fail
  refine HT2.out.mono ?_
  rintro e w9 ⟨rfl, v2, k2, o2, s2, f2⟩
  have ra9 := HRA.out.1.frame (fun q hq => f2 q (by have := HLL.out.1 q hq; have := HG7.out.1; omega) (fun e => by have := HLL.out.1 q hq; omega))
  have rc9 := HRA.out.2.frame (fun q hq => f2 q (by have := HLL.out.2 q hq; have := HG7.out.1; omega) (fun e => by have := HLL.out.2 q hq; omega))
  obtain ⟨_, ov⟩ := o2
  rcases ov with ⟨_, h0⟩ | ⟨hq, cap, curh, ev, hbq, hheap, _, _, _, htake⟩
  · simp at h0
  · subst ev
    have htk : curh.toList.take 2 = [.slice Aa l.length ca, .slice Ac l.length cc] := htake
    have hc0 : curh[0]? = some (.slice Aa l.length ca) := by
      have h1 : (curh.toList.take 2)[0]? = some (.slice Aa l.length ca) := by rw [htk]; rfl
      rw [List.getElem?_take, if_pos (by decide), Array.getElem?_toList] at h1
      exact h1
    have hc1 : curh[1]? = some (.slice Ac l.length cc) := by
      have h1 : (curh.toList.take 2)[1]? = some (.slice Ac l.length cc) := by rw [htk]; rfl
      rw [List.getElem?_take, if_pos (by decide), Array.getElem?_toList] at h1
      exact h1
    have HAL := Lib.hid (alone_any w w9 w6.heap.size hq cap l.length curh (fun i => if i = 0 then Aa else Ac) (fun i => if i = 0 then ca else cc) l rfl HL8.out
      ⟨k2, hheap, fun _ _ => rfl, fun j hj => by
        rcases (show j = 0 ∨ j = 1 by omega) with rfl | rfl
        · exact ra9
        · exact rc9⟩
      (fun i hi => by
        rcases (show i = 0 ∨ i = 1 by omega) with rfl | rfl
        · exact hc0
        · exact hc1)
      (fun i j hi hj hne b hb => by
        have q1 := HLT.out
        have q2 := fun b (hb : (Value.slice Ac l.length cc).ownBlock = some b) => (ownQ_block HCQ.out hb).1
        rcases (show (i = 0 ∧ j = 1) ∨ (i = 1 ∧ j = 0) by omega) with ⟨rfl, rfl⟩ | ⟨rfl, rfl⟩
        · intro e
          have h1 := q1 b hb
          have h2 := q2 b e
          omega
        · intro e
          have h1 := q1 b e
          have h2 := q2 b hb
          omega)
      (fun j hj b hb => by
        rcases (show j = 0 ∨ j = 1 by omega) with rfl | rfl
        · have := (ownQ_block HA.out hb).1; have := H15.out; omega
        · have := (ownQ_block HCQ.out hb).1; have := HBC.out; omega))
    clear ra9 rc9 k2 s2 f2 hbq hheap htake htk hc0 hc1 HT2 HRA HLL HG7
    go_wp2_with fail
    refine HAL.out.mono ?_
    rintro e wz ⟨rfl, hb⟩
    have HBZ := Lib.hid hb
    clear hb
    go_wp2
    go_ret
    exact ⟨rfl, HBZ.out⟩

end Go.Proofs.Ytfegongaflekiaa
