/- The document's zone: the empty one; the one of wide cells, or the error. -/
import Derived.Test.YtgpmfnahjepjjaaRc
import Derived.Deep.OwnRows
import Derived.Deep.RegionHeld3
namespace Go.Proofs.Ytgpmfnahjepjjaa
open Go Go.RowKit
set_option linter.unusedVariables false
set_option linter.unusedSimpArgs false

/-- A zone of the document's, or nil. -/
def RefZ (w : World) (v : Value) : Option (Nat × Mat) → Prop
  | none => v = .pointer none
  | some (n, m) => ∃ b g cap, v = .pointer (some ⟨b, 0, none⟩) ∧ n ≤ 8 ∧ RightM n m ∧
      w.heap[b]? = some (.cells #[.int .i64 n, .slice (some ⟨g, 0, none⟩) ((n + 1) * (n + 1)) cap] 78 (0, 0)) ∧ RowAt w g 37 .i32 (flat n m)
theorem RefZ.below {w w' : World} {v : Value} {z : Option (Nat × Mat)} (h : RefZ w v z) (hb : Below w.heap.size w w') : RefZ w' v z := by
  match z, h with
  | none, h => exact h
  | some (n, m), ⟨b, g, cap, h1, hn, hr, h2, h3⟩ => exact ⟨b, g, cap, h1, hn, hr, (hb.block b (Array.getElem?_eq_some_iff.1 h2).1).trans h2, h3.later hb⟩
/-- A function that makes a zone of the document's ends with this answer. -/
def MakesR (w0 : World) (n : Nat) (r : Option Mat × Int) (e : Ending) (w' : World) : Prop :=
  Below w0.heap.size w0 w' ∧ ∃ v, e = .returned (.tuple #[v, .int .i64 r.2]) ∧ RefZ w' v (r.1.map fun m => (n, m))

theorem zeros_row (w : World) (N : Nat) (xs : List Int) (hl : xs.length = N) (hx : ∀ p, p < N → xs.getD p 0 = 0) : RowAt (w.alloc (.cells (madeCells #[.int .i32 0] N) 37)) w.heap.size 37 .i32 xs := by
  refine ⟨_, heap_alloc_new _ _, ?_⟩
  subst hl
  apply List.ext_getElem?
  intro p
  by_cases hp : p < xs.length
  · have := hx p hp
    rw [List.getD_eq_getElem?_getD, List.getElem?_eq_getElem hp] at this
    have e : xs[p] = 0 := this
    simp [madeCells, vals, hp, e, Nat.mod_one]
  · simp [madeCells, vals, hp]

set_option maxRecDepth 100000 in
set_option maxHeartbeats 1000000 in
theorem empty1_any (n : Nat) (w : World) (hn : n ≤ 8) :
    Calls Try.prog 64 #[.int .i64 n] w fun e w' => ∃ v, e = .returned v ∧ Below w.heap.size w w' ∧ RefZ w' v (some (n, fun _ _ => 0)) := by
  obtain ⟨N, hN⟩ : ∃ N : Nat, N = (n + 1) * (n + 1) := ⟨_, rfl⟩
  have hNi : ((n : Int) + 1) * ((n : Int) + 1) = (N : Int) := by rw [hN]; simp
  have hN81 : N ≤ 81 := by
    have := Nat.mul_le_mul (show n + 1 ≤ 9 by omega) (show n + 1 ≤ 9 by omega)
    omega
  have HN := Lib.hid hN
  clear hN
  have hmk := run_make_row' (P := Try.prog) 22 37 (.int .i32 0) 4 Try.underlying22 infoRB rfl .i64 .i64 N (by omega) (by omega)
  go_enter Try.func64, Try.ntmps64
  go_wp2
  go_ret
  have hB : Below w.heap.size w (w.alloc (.cells (madeCells #[.int .i32 0] N) 37)) := (Below.refl _ _).alloc (Nat.le_refl _) _
  have hrow := zeros_row w N (flat n (fun _ _ => 0)) (by rw [flat_length, HN.out]) (fun p hp => by rw [flat_getD _ _ _ (by rw [← HN.out]; exact hp)])
  refine ⟨_, rfl, hB.alloc hB.size _, w.heap.size + 1, w.heap.size, N, rfl, hn, right_zero n, ?_, hrow.later ((Below.refl _ _).alloc (Nat.le_refl _) _)⟩
  rw [← HN.out]
  have := heap_alloc_new (w.alloc (.cells (madeCells #[.int .i32 0] N) 37)) (.cells #[.int .i64 n, .slice (some ⟨w.heap.size, 0, none⟩) N N] 78)
  simpa using this

/-! ### made -/
def ClR (w0 : World) (g n : Nat) (m : Mat) (q i : Nat) (wr : World) : Prop := RAt w0 g n (clUp m i) wr ∧ i ≤ n + 1 ∧ q + i = n + 1
def store1 (c : Bool) (w : World) (a : Addr) : World := if c then w.setCell a (.int .i64 1) else w
theorem RAt.store1 {w0 wr : World} {g n : Nat} {cur : Mat} (h : RAt w0 g n cur wr) {i j : Nat} (hi : i < n + 1) (hj : j < n + 1) (p : Nat) (hp : p = i * (n + 1) + j) (c : Bool) (hc : c = decide (1 < cur i j)) :
    RAt w0 g n (upd cur i j (min (cur i j) 1)) (store1 c wr ⟨g, p, none⟩) := by
  subst hc
  by_cases hlt : 1 < cur i j
  · rw [decide_eq_true hlt]
    have e : min (cur i j) 1 = 1 := by rw [Int.min_def, if_neg (by omega)]
    rw [e]
    exact h.step hi hj 1 p hp
  · rw [decide_eq_false hlt]
    have e : upd cur i j (min (cur i j) 1) = cur := by
      have : min (cur i j) 1 = cur i j := by rw [Int.min_def, if_pos (by omega)]
      rw [this]
      funext a c; simp only [upd]; split
      · rename_i h; rw [h.1, h.2]
      · rfl
    rw [e]
    exact h
theorem ClR.next {w0 wr : World} {g n : Nat} {m : Mat} {q i : Nat} (h : ClR w0 g n m q i wr) (hi : i < n + 1) (p : Nat) (hp : p = i * (n + 1) + i) (c1 c2 : Bool) (h1 : c1 = decide (1 < m i i)) (h2 : c2 = decide (1 < upd (clUp m i) i i (min (clUp m i i i) 1) 0 i)) :
    ClR w0 g n m (q - 1) (i + 1) (store1 c2 (store1 c1 wr ⟨g, p, none⟩) ⟨g, i, none⟩) := by
  have ha := h.1.store1 hi hi p hp c1 (by rw [clUp_at]; exact h1)
  have hb := ha.store1 (i := 0) (j := i) (by omega) hi i (by omega) c2 h2
  rw [clUp_step] at hb
  have := h.2.2
  exact ⟨hb, by omega, by omega⟩

/-- The zone's own cells, so far. -/
def BuildR (w1 : World) (zb g n N : Nat) (m : Mat) (p : Nat) (sv : Value) (wr : World) : Prop :=
  Below zb w1 wr ∧ zb < w1.heap.size ∧ w1.heap.size ≤ wr.heap.size ∧ wr.heap[zb]? = some (.cells #[.int .i64 n, sv] 78 (0, 0)) ∧ wr.ownsRow (zb + 1) 37 1 sv p (vals .i32 (narUp (flat n m) p)) ∧
  (∀ q, q < p → inR ((flat n m).getD q 0)) ∧ p ≤ N
theorem BuildR.cell {w1 wr : World} {zb g n N : Nat} {m : Mat} {p : Nat} {sv : Value} (h : BuildR w1 zb g n N m p sv wr) : wr.cell? ⟨zb, 1, none⟩ = some sv := by
  simp [World.cell?, h.2.2.2.1]
theorem BuildR.frozen {w1 wr : World} {zb g n N : Nat} {m : Mat} {p : Nat} {sv : Value} (h : BuildR w1 zb g n N m p sv wr) : wr.frozen? ⟨zb, 1, none⟩ = false := by
  simp [World.frozen?, h.2.2.2.1]
/-- What an append to the zone's cells leaves, ahead of the store into the field. -/
structure Appended (w1 : World) (zb g n N : Nat) (m : Mat) (p : Nat) (sv sv' : Value) (w2 : World) : Prop where
  below : Below zb w1 w2
  lt : zb < w1.heap.size
  size : w1.heap.size ≤ w2.heap.size
  cell : w2.heap[zb]? = some (.cells #[.int .i64 n, sv] 78 (0, 0))
  own : w2.ownsRow (zb + 1) 37 1 sv' (p + 1) (vals .i32 (narUp (flat n m) (p + 1)))
theorem BuildR.append {w1 wr w2 : World} {zb g n N : Nat} {m : Mat} {p : Nat} {sv sv' : Value} {o : Obj} (h : BuildR w1 zb g n N m p sv wr) (x : Int) (hx : x = nar ((flat n m).getD p 0)) (q : Nat)
    (hown : w2.ownsRow (zb + 1) 37 1 sv' (p + 1) (vals .i32 (narUp (flat n m) p) ++ [.int .i32 x])) (hg : ((wr.alloc o).drewN q).grownBy w2 sv.ownBlock) : Appended w1 zb g n N m p sv sv' w2 := by
  have hne : ∀ k, sv.ownBlock = some k → zb + 1 ≤ k := fun k hk => (h.2.2.2.2.1.lt k hk).1
  have hsz := h.2.2.1
  have hlt := h.2.1
  have hs2 := hg.size
  have hsa : ((wr.alloc o).drewN q).heap.size = wr.heap.size + 1 := by simp
  have ha : Below zb w1 ((wr.alloc o).drewN q) := belowN (h.1.alloc (by omega) o) q
  refine ⟨ha.grown hg (by omega) (fun k hk => by have := hne k hk; omega), hlt, by omega, ?_, ?_⟩
  · rw [hg.block zb (by omega) (fun e => by have := hne zb e.symm; omega)]
    show (wr.alloc o).heap[zb]? = _
    exact (heap_alloc_old wr o (show zb < wr.heap.size by omega)).trans h.2.2.2.1
  · have e : vals .i32 (narUp (flat n m) (p + 1)) = vals .i32 (narUp (flat n m) p) ++ [.int .i32 x] := by rw [hx]; simp [vals, narUp]
    rw [e]; exact hown
theorem Appended.store {w1 w2 : World} {zb g n N : Nat} {m : Mat} {p : Nat} {sv sv' : Value} (h : Appended w1 zb g n N m p sv sv' w2) (hin : ∀ q, q < p → inR ((flat n m).getD q 0)) (hp : inR ((flat n m).getD p 0)) (hN : p < N) :
    BuildR w1 zb g n N m (p + 1) sv' (w2.setCell ⟨zb, 1, none⟩ sv') := by
  refine ⟨h.below.setCell (p := ⟨zb, 1, none⟩) (Nat.le_refl _) _, h.lt, by simpa [World.setCell] using h.size, ?_, ownsRow_setCell_below h.own (by show zb < zb + 1; omega) _, fun q hq => ?_, by omega⟩
  · simp only [World.setCell, Array.getElem?_modify, if_true, h.cell, Option.map_some]
    simp
  · by_cases e : q = p
    · subst e; exact hp
    · exact hin q (by omega)
theorem Appended.at {w1 w2 : World} {zb g n N : Nat} {m : Mat} {p : Nat} {sv sv' : Value} (h : Appended w1 zb g n N m p sv sv' w2) : w2.cell? ⟨zb, 1, none⟩ = some sv ∧ w2.frozen? ⟨zb, 1, none⟩ = false ∧ zb < w2.heap.size := by
  have := h.size
  have := h.lt
  refine ⟨?_, ?_, by omega⟩
  · simp [World.cell?, h.cell]
  · simp [World.frozen?, h.cell]

end Go.Proofs.Ytgpmfnahjepjjaa
