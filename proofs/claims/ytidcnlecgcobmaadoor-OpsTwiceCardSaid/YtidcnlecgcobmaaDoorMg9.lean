/- Texts of ours, laid together: Gm, Gl, Gp, Af, Gg, Qg, Row5. -/
import Derived.Deep.OwnRows
import Derived.StillTailTactics
import Derived.Test.YtidcnlecgcobmaaDoorMg8
/- Guards in memory: a copy with marked room behind its end; it is as it was. -/
namespace Go.Proofs.YtidcnlecgcobmaaDoor
open Go Go.RowKit
set_option linter.unusedVariables false
set_option linter.unusedSimpArgs false

/-- A slice of guards that can be read: four cells each. -/
def Gds (w : World) (A : Option Addr) (xs : List (Int × Int × Int × Int)) : Prop :=
  ∀ j, j < xs.length → ∃ b off, A = some ⟨b, off, none⟩ ∧ w.cell? ⟨b, off + j * 4, none⟩ = some (.int .i64 (xs.getD j (0, 0, 0, 0)).1) ∧ w.cell? ⟨b, off + j * 4 + 1, none⟩ = some (.int .i64 (xs.getD j (0, 0, 0, 0)).2.1) ∧
    w.cell? ⟨b, off + j * 4 + 2, none⟩ = some (.int .u8 (xs.getD j (0, 0, 0, 0)).2.2.1) ∧ w.cell? ⟨b, off + j * 4 + 3, none⟩ = some (.int .i64 (xs.getD j (0, 0, 0, 0)).2.2.2)
theorem Gds.below {w w' : World} {A : Option Addr} {xs : List (Int × Int × Int × Int)} (h : Gds w A xs) (hb : Below w.heap.size w w') : Gds w' A xs := fun j hj => by
  obtain ⟨b, off, e, h1, h2, h3, h4⟩ := h j hj
  exact ⟨b, off, e, (hb.cell (p := ⟨b, _, none⟩) (World.block_lt_of_cell? w _ h1)).trans h1, (hb.cell (p := ⟨b, _, none⟩) (World.block_lt_of_cell? w _ h2)).trans h2, (hb.cell (p := ⟨b, _, none⟩) (World.block_lt_of_cell? w _ h3)).trans h3, (hb.cell (p := ⟨b, _, none⟩) (World.block_lt_of_cell? w _ h4)).trans h4⟩
theorem gds_at {w : World} {A : Option Addr} {l : List (Int × Int × Int × Int)} {p : Nat} (h : Gds w A l) (hp : p < l.length) : ∃ b off x y z t, A = some ⟨b, off, none⟩ ∧ l.getD p (0, 0, 0, 0) = (x, y, z, t) ∧ w.cell? ⟨b, off + p * 4, none⟩ = some (.int .i64 x) ∧ w.cell? ⟨b, off + p * 4 + 1, none⟩ = some (.int .i64 y) ∧ w.cell? ⟨b, off + p * 4 + 2, none⟩ = some (.int .u8 z) ∧ w.cell? ⟨b, off + p * 4 + 3, none⟩ = some (.int .i64 t) := by
  obtain ⟨b, off, e, a1, a2, a3, a4⟩ := h p hp
  exact ⟨b, off, _, _, _, _, e, rfl, a1, a2, a3, a4⟩

/-- Block g begins with N guards. -/
def GRow (w : World) (g : Nat) (e : TypeId) (N : Nat) (f : Nat → Int × Int × Int × Int) : Prop :=
  ∃ cur : Array Value, w.heap[g]? = some (.cells cur e (0, 0)) ∧ cur.size = N * 4 ∧ ∀ j, j < N → cur[j * 4]? = some (.int .i64 (f j).1) ∧ cur[j * 4 + 1]? = some (.int .i64 (f j).2.1) ∧ cur[j * 4 + 2]? = some (.int .u8 (f j).2.2.1) ∧ cur[j * 4 + 3]? = some (.int .i64 (f j).2.2.2)
section
variable {w w' : World} {g : Nat} {e : TypeId} {N : Nat} {f : Nat → Int × Int × Int × Int}
theorem GRow.lt (h : GRow w g e N f) : g < w.heap.size := by obtain ⟨cur, h1, _⟩ := h; exact (Array.getElem?_eq_some_iff.1 h1).1
theorem GRow.cell (h : GRow w g e N f) (j : Nat) (hj : j < N) : w.cell? ⟨g, j * 4, none⟩ = some (.int .i64 (f j).1) ∧ w.cell? ⟨g, j * 4 + 1, none⟩ = some (.int .i64 (f j).2.1) ∧ w.cell? ⟨g, j * 4 + 2, none⟩ = some (.int .u8 (f j).2.2.1) ∧ w.cell? ⟨g, j * 4 + 3, none⟩ = some (.int .i64 (f j).2.2.2) := by
  obtain ⟨cur, h1, _, h2⟩ := h
  obtain ⟨a, b, c, d⟩ := h2 j hj
  exact ⟨by simp [World.cell?, h1, a], by simp [World.cell?, h1, b], by simp [World.cell?, h1, c], by simp [World.cell?, h1, d]⟩
theorem GRow.frozen (h : GRow w g e N f) (o : Nat) : w.frozen? ⟨g, o, none⟩ = false := by
  obtain ⟨cur, h1, _⟩ := h
  simp [World.frozen?, h1]
theorem GRow.later (h : GRow w g e N f) (hb : Below w.heap.size w w') : GRow w' g e N f := by
  have hlt := h.lt
  obtain ⟨cur, h1, h2⟩ := h
  exact ⟨cur, (hb.block g hlt).trans h1, h2⟩
theorem GRow.drewN (h : GRow w g e N f) (q : Nat) : GRow (w.drewN q) g e N f := h
theorem GRow.congr {f' : Nat → Int × Int × Int × Int} (h : GRow w g e N f) (hf : ∀ j, j < N → f j = f' j) : GRow w g e N f' := by
  obtain ⟨cur, h1, h2, h3⟩ := h
  exact ⟨cur, h1, h2, fun j hj => by rw [← hf j hj]; exact h3 j hj⟩
theorem GRow.set (h : GRow w g e N f) (p : Nat) (hp : p < N) (x y z t : Int) :
    GRow ((((w.setCell ⟨g, p * 4, none⟩ (.int .i64 x)).setCell ⟨g, p * 4 + 1, none⟩ (.int .i64 y)).setCell ⟨g, p * 4 + 2, none⟩ (.int .u8 z)).setCell ⟨g, p * 4 + 3, none⟩ (.int .i64 t)) g e N (fun j => if j = p then (x, y, z, t) else f j) := by
  obtain ⟨cur, h1, h2, h3⟩ := h
  refine ⟨(((cur.setIfInBounds (p * 4) (.int .i64 x)).setIfInBounds (p * 4 + 1) (.int .i64 y)).setIfInBounds (p * 4 + 2) (.int .u8 z)).setIfInBounds (p * 4 + 3) (.int .i64 t), ?_, by simpa using h2, fun j hj => ?_⟩
  · simp [World.setCell, Array.getElem?_modify, h1]
  · obtain ⟨a, b, c, d⟩ := h3 j hj
    by_cases e : j = p
    · subst e
      simp only [if_true]
      refine ⟨?_, ?_, ?_, ?_⟩
      · rw [Array.getElem?_setIfInBounds, if_neg (by omega), Array.getElem?_setIfInBounds, if_neg (by omega), Array.getElem?_setIfInBounds, if_neg (by omega), Array.getElem?_setIfInBounds, if_pos rfl, if_pos (by omega)]
      · rw [Array.getElem?_setIfInBounds, if_neg (by omega), Array.getElem?_setIfInBounds, if_neg (by omega), Array.getElem?_setIfInBounds, if_pos rfl, if_pos (by simp; omega)]
      · rw [Array.getElem?_setIfInBounds, if_neg (by omega), Array.getElem?_setIfInBounds, if_pos rfl, if_pos (by simp; omega)]
      · rw [Array.getElem?_setIfInBounds, if_pos rfl, if_pos (by simp; omega)]
    · simp only [if_neg e]
      refine ⟨?_, ?_, ?_, ?_⟩ <;>
        rw [Array.getElem?_setIfInBounds, if_neg (by omega), Array.getElem?_setIfInBounds, if_neg (by omega), Array.getElem?_setIfInBounds, if_neg (by omega), Array.getElem?_setIfInBounds, if_neg (by omega)] <;> assumption
theorem GRow.gds (h : GRow w g e N f) (l : List (Int × Int × Int × Int)) (hl : l.length ≤ N) (hf : ∀ j, j < l.length → f j = l.getD j (0, 0, 0, 0)) : Gds w (some ⟨g, 0, none⟩) l := fun j hj => by
  obtain ⟨a, b, c, d⟩ := h.cell j (by omega)
  rw [hf j hj] at a b c d
  exact ⟨g, 0, rfl, by rw [Nat.zero_add]; exact a, by rw [Nat.zero_add]; exact b, by rw [Nat.zero_add]; exact c, by rw [Nat.zero_add]; exact d⟩
end
theorem infoG : (Tryd.prog.info? 50).map (fun i => (i.zero, i.size, i.bytes)) = some (some (.agg #[.int .i64 0, .int .i64 0, .int .u8 0, .int .i64 0]), 4, 32) := by kernel_rfl
theorem grow_made (w : World) (e : TypeId) (N : Nat) : GRow (w.alloc (.cells (madeCells #[.int .i64 0, .int .i64 0, .int .u8 0, .int .i64 0] (N * 4)) e)) w.heap.size e N (fun _ => (0, 0, 0, 0)) := by
  refine ⟨_, heap_alloc_new _ _, by simp [madeCells], fun j hj => ?_⟩
  have h0 : j * 4 < N * 4 := by omega
  have h1 : j * 4 + 1 < N * 4 := by omega
  have h2 : j * 4 + 2 < N * 4 := by omega
  have h3 : j * 4 + 3 < N * 4 := by omega
  have e0 : j * 4 % 4 = 0 := by omega
  have e1 : (j * 4 + 1) % 4 = 1 := by omega
  have e2 : (j * 4 + 2) % 4 = 2 := by omega
  have e3 : (j * 4 + 3) % 4 = 3 := by omega
  simp [madeCells, h0, h1, h2, h3, e0, e1, e2, e3]

/-- The copy, and its marks. -/
def handG (l : List (Int × Int × Int × Int)) (j : Nat) : Int × Int × Int × Int := if j < l.length then l.getD j (0, 0, 0, 0) else (0, 0, 0, -700 - j + l.length)
def handGUp (l : List (Int × Int × Int × Int)) (p j : Nat) : Int × Int × Int × Int := if j < p then handG l j else (0, 0, 0, 0)
def HandGR (w0 : World) (l : List (Int × Int × Int × Int)) (p : Nat) (wr : World) : Prop := Below w0.heap.size w0 wr ∧ GRow wr w0.heap.size 50 (l.length + 9) (handGUp l p)
theorem HandGR.next {w0 wr : World} {l : List (Int × Int × Int × Int)} {p : Nat} (h : HandGR w0 l p wr) (hp : p < l.length + 9) (x y z t : Int) (hx : handG l p = (x, y, z, t)) :
    HandGR w0 l (p + 1) ((((wr.setCell ⟨w0.heap.size, p * 4, none⟩ (.int .i64 x)).setCell ⟨w0.heap.size, p * 4 + 1, none⟩ (.int .i64 y)).setCell ⟨w0.heap.size, p * 4 + 2, none⟩ (.int .u8 z)).setCell ⟨w0.heap.size, p * 4 + 3, none⟩ (.int .i64 t)) := by
  refine ⟨(((h.1.setCell (p := ⟨w0.heap.size, _, none⟩) (Nat.le_refl _) _).setCell (p := ⟨w0.heap.size, _, none⟩) (Nat.le_refl _) _).setCell (p := ⟨w0.heap.size, _, none⟩) (Nat.le_refl _) _).setCell (p := ⟨w0.heap.size, _, none⟩) (Nat.le_refl _) _, (h.2.set p hp x y z t).congr fun j hj => ?_⟩
  unfold handGUp
  by_cases e : j = p
  · subst e; rw [if_pos rfl, if_pos (by omega), hx]
  · rw [if_neg e]
    by_cases e2 : j < p
    · rw [if_pos e2, if_pos (by omega)]
    · rw [if_neg e2, if_neg (by omega)]

set_option maxHeartbeats 1000000 in
set_option maxRecDepth 100000 in
theorem handgds_any (A : Option Addr) (c : Nat) (l : List (Int × Int × Int × Int)) (w : World) (hI : Gds w A l) (hmax : l.length ≤ 4398046510976) :
    Calls Tryd.prog 24 #[.slice A l.length c] w fun e w' => e = .returned (.slice (some ⟨w.heap.size, 0, none⟩) l.length (l.length + 9)) ∧ HandGR w l (l.length + 9) w' := by
  have HI := Lib.hid hI
  obtain ⟨i0, hi1, hz0, hz1, hz2⟩ := info_parts infoG
  have hmk := fun w => run_make (P := Tryd.prog) w 41 50 i0 (.agg #[.int .i64 0, .int .i64 0, .int .u8 0, .int .i64 0]) Tryd.underlying41 hi1 hz0 .i64 .i64 ((l.length : Int) + 9) ((l.length : Int) + 9) (by omega) (Int.le_refl _) (by rw [hz2]; omega) (by omega)
  rw [hz1, show ((l.length : Int) + 9).toNat = l.length + 9 by omega] at hmk
  have HS := Lib.hid (show HandGR w l 0 (w.alloc (.cells (madeCells #[.int .i64 0, .int .i64 0, .int .u8 0, .int .i64 0] ((l.length + 9) * 4)) 50)) from ⟨(Below.refl _ _).alloc (Nat.le_refl _) _, (grow_made w _ _).congr fun j _ => by unfold handGUp; rw [if_neg (by omega)]⟩)
  clear hI hi1 hz0 hz1 hz2
  go_enter Tryd.func24, Tryd.ntmps24
  go_wp2
  generalize w.alloc (.cells (madeCells #[.int .i64 0, .int .i64 0, .int .u8 0, .int .i64 0] ((l.length + 9) * 4)) 50) = w1 at *
  go_loopg [4] l.length (fun g v wr => ∃ p : Nat, v = .int .i64 p ∧ Hid (HandGR w l p wr) ∧ Hid (p ≤ l.length ∧ g + p = l.length))
  case atStart => exact ⟨0, by simp, HS.out, by omega, by omega⟩
  case round =>
    clear HS
    obtain ⟨p, rfl, HR, HG⟩ := hrel
    by_cases hp : p < l.length
    · obtain ⟨b, off, rfl, c1, c2, c3, c4⟩ := HI.out.below HR.out.1 p hp
      obtain ⟨x, hx⟩ : ∃ x, x = l.getD p (0, 0, 0, 0) := ⟨_, rfl⟩
      rw [← hx] at c1 c2 c3 c4
      have HX := Lib.hid hx
      clear hx
      obtain ⟨xi, xj, xb, xn⟩ := x
      simp only at c1 c2 c3 c4
      obtain ⟨d1, d2, d3, d4⟩ := HR.out.2.cell p (by omega)
      have f1 := HR.out.2.frozen (p * 4)
      have f2 := HR.out.2.frozen (p * 4 + 1)
      have f3 := HR.out.2.frozen (p * 4 + 2)
      have f4 := HR.out.2.frozen (p * 4 + 3)
      have hpi : (p : Int) < (l.length : Int) + 9 := by omega
      have hlt := HR.out.2.lt
      have HN := Lib.hid (HR.out.next (by omega) xi xj xb xn (by unfold handG; rw [if_pos hp, HX.out]))
      go_wp2
      go_roundg (gk - 1)
      case measure => have h := HG.out; omega
      case rel => exact ⟨p + 1, by go_num, HN.out, by omega, by have h := HG.out; omega⟩
    · have e : p = l.length := by have := HG.out.1; omega
      subst e
      have HR0 := Lib.hid HR.out
      clear HR HG
      go_wp2
      go_loopg [5] 9 (fun g v wr => ∃ p : Nat, v = .int .i64 p ∧ Hid (HandGR w l p wr) ∧ Hid (l.length ≤ p ∧ p ≤ l.length + 9 ∧ g + p = l.length + 9))
      case atStart => exact ⟨l.length, by simp, HR0.out, by omega, by omega, by omega⟩
      case round =>
        clear HR0
        obtain ⟨p, rfl, HR, HG⟩ := hrel
        by_cases hp : p < l.length + 9
        · obtain ⟨d1, d2, d3, d4⟩ := HR.out.2.cell p hp
          have f1 := HR.out.2.frozen (p * 4)
          have f2 := HR.out.2.frozen (p * 4 + 1)
          have f3 := HR.out.2.frozen (p * 4 + 2)
          have f4 := HR.out.2.frozen (p * 4 + 3)
          have hpi : (p : Int) < (l.length : Int) + 9 := by omega
          have hlt := HR.out.2.lt
          have g1 : IntKind.i64.wrap (-700 - (p : Int)) = -700 - (p : Int) := IntWalk.i64_in _ (by omega)
          have g2 : IntKind.i64.wrap (-700 - (p : Int) + (l.length : Int)) = -700 - (p : Int) + (l.length : Int) := IntWalk.i64_in _ (by omega)
          have HN := Lib.hid (HR.out.next hp 0 0 0 (-700 - (p : Int) + (l.length : Int)) (by unfold handG; rw [if_neg (by have := HG.out.1; omega)]))
          go_wp2
          go_roundg (gk - 1)
          case measure => have h := HG.out; omega
          case rel => exact ⟨p + 1, by go_num, HN.out, by have h := HG.out; omega, by omega, by have h := HG.out; omega⟩
        · have e : p = l.length + 9 := by have := HG.out; omega
          subst e
          have hpi : ¬ (((l.length + 9 : Nat) : Int) < (l.length : Int) + 9) := by omega
          go_wp2
          go_ret
          exact ⟨by first | rfl | (congr 2; omega), HR.out⟩
theorem HandGR.gds {w0 w : World} {l : List (Int × Int × Int × Int)} (h : HandGR w0 l (l.length + 9) w) : Gds w (some ⟨w0.heap.size, 0, none⟩) l :=
  h.2.gds l (by omega) fun j hj => by unfold handGUp handG; rw [if_pos (by omega), if_pos hj]

set_option maxRecDepth 100000 in
set_option maxHeartbeats 1000000 in
theorem samegds_eq (A : Option Addr) (c : Nat) (B : Option Addr) (d : Nat) (l : List (Int × Int × Int × Int)) (w : World) (hI : Gds w A l) (hI' : Gds w B l) (hmax : l.length ≤ 4398046510976) :
    Calls Tryd.prog 79 #[.slice A l.length c, .slice B l.length d] w fun e w' => e = .returned (.bool true) ∧ ∃ q, w' = w.drewN q := by
  have HI := Lib.hid hI
  have HI' := Lib.hid hI'
  have t1 : ((l.length : Int) != (l.length : Int)) = false := by simp
  clear hI hI'
  go_enter Tryd.func79, Tryd.ntmps79
  go_wp2
  go_loopg [5] l.length (fun g v wr => ∃ p : Nat, v = .int .i64 p ∧ (∃ q, wr = w.drewN q) ∧ Hid (p ≤ l.length ∧ g + p = l.length))
  case atStart => exact ⟨0, by simp, ⟨0, rfl⟩, by omega, by omega⟩
  case round =>
    obtain ⟨p, rfl, ⟨q, rfl⟩, HG⟩ := hrel
    by_cases hp : p < l.length
    · obtain ⟨b, off, rfl, c1, c2, c3, c4⟩ := HI.out p hp
      obtain ⟨b', off', rfl, d1, d2, d3, d4⟩ := HI'.out p hp
      have hpi : (p : Int) < (l.length : Int) := by omega
      obtain ⟨x, hx⟩ : ∃ x, x = l.getD p (0, 0, 0, 0) := ⟨_, rfl⟩
      rw [← hx] at c1 c2 c3 c4 d1 d2 d3 d4
      clear hx
      obtain ⟨xi, xj, xb, xn⟩ := x
      simp only at c1 c2 c3 c4 d1 d2 d3 d4
      go_wp2_with fail
      go_quiet (fail)
      go_wp2
      go_roundg (gk - 1)
      case measure => have h := HG.out; omega
      case rel => exact ⟨p + 1, by go_num, ⟨_, rfl⟩, by omega, by have h := HG.out; omega⟩
    · have e : p = l.length := by have := HG.out.1; omega
      subst e
      go_wp2
      go_ret
      exact ⟨rfl, ⟨_, rfl⟩⟩

set_option maxRecDepth 100000 in
set_option maxHeartbeats 1000000 in
theorem keptgds_any (B : Option Addr) (d : Nat) (l : List (Int × Int × Int × Int)) (w0 : World) (w : World) (hh : HandGR w0 l (l.length + 9) w) (hI : Gds w B l) (hmax : l.length ≤ 4398046510976) :
    Calls Tryd.prog 27 #[.slice (some ⟨w0.heap.size, 0, none⟩) l.length (l.length + 9), .slice B l.length d] w fun e w' => e = .returned (.bool true) ∧ Below w.heap.size w w' := by
  have HH := Lib.hid hh
  have HS := Lib.hid (samegds_eq (some ⟨w0.heap.size, 0, none⟩) (l.length + 9) B d l w hh.gds hI hmax)
  clear hh hI
  go_enter Tryd.func27, Tryd.ntmps27
  go_wp2_with fail
  refine HS.out.mono ?_
  rintro e w1 ⟨rfl, q, rfl⟩
  have HT := Lib.hid (HH.out.2.drewN q)
  have HB := Lib.hid (belowN (Below.refl w.heap.size w) q)
  generalize w.drewN q = w1 at *
  clear HS HH
  go_wp2
  go_loopg [6] 9 (fun g v wr => ∃ p : Nat, v = .int .i64 p ∧ w1 = wr ∧ Hid (l.length ≤ p ∧ p ≤ l.length + 9 ∧ g + p = l.length + 9))
  case atStart => exact ⟨l.length, by simp, rfl, by omega, by omega, by omega⟩
  case round =>
    obtain ⟨p, rfl, rfl, HG⟩ := hrel
    by_cases hp : p < l.length + 9
    · obtain ⟨c1, c2, c3, c4⟩ := HT.out.cell p hp
      have hf : handGUp l (l.length + 9) p = (0, 0, 0, -700 - (p : Int) + (l.length : Int)) := by
        unfold handGUp handG; rw [if_pos hp, if_neg (by have := HG.out.1; omega)]
      rw [hf] at c1 c2 c3 c4
      simp only at c1 c2 c3 c4
      have hpi : (p : Int) < (l.length : Int) + 9 := by omega
      have g1 : IntKind.i64.wrap (-700 - (p : Int)) = -700 - (p : Int) := IntWalk.i64_in _ (by omega)
      have g2 : IntKind.i64.wrap (-700 - (p : Int) + (l.length : Int)) = -700 - (p : Int) + (l.length : Int) := IntWalk.i64_in _ (by omega)
      clear hf
      go_wp2
      go_roundg (gk - 1)
      case measure => have h := HG.out; omega
      case rel => exact ⟨p + 1, by go_num, rfl, by have h := HG.out; omega, by omega, by have h := HG.out; omega⟩
    · have e : p = l.length + 9 := by have := HG.out; omega
      subst e
      have hpi : ¬ (((l.length + 9 : Nat) : Int) < (l.length : Int) + 9) := by omega
      go_wp2
      go_ret
      exact ⟨rfl, HB.out⟩

end Go.Proofs.YtidcnlecgcobmaaDoor

/- What a guard says: the program's Limits and the document's. -/
namespace Go.Proofs.YtidcnlecgcobmaaDoor
open Go Go.RowKit
set_option linter.unusedVariables false
set_option linter.unusedSimpArgs false

/-- The bounds that a guard says, or the error. -/
def guardP (g : Int × Int × Int × Int) : List (Int × Int × Int) × Int :=
  if ¬ (0 ≤ g.1 ∧ g.1 ≤ 8 ∧ 0 ≤ g.2.1 ∧ g.2.1 ≤ 8) then ([], 12)
  else if ¬ (1 ≤ g.2.2.1 ∧ g.2.2.1 ≤ 5) then ([], 7)
  else if ¬ (-1048576 ≤ g.2.2.2 ∧ g.2.2.2 ≤ 1048576) then ([], 13)
  else if g.2.2.1 = 1 then ([(g.1, g.2.1, 2 * g.2.2.2)], 0)
  else if g.2.2.1 = 2 then ([(g.1, g.2.1, 2 * g.2.2.2 + 1)], 0)
  else if g.2.2.1 = 4 then ([(g.2.1, g.1, -2 * g.2.2.2 + 1)], 0)
  else if g.2.2.1 = 5 then ([(g.2.1, g.1, -2 * g.2.2.2)], 0)
  else ([(g.1, g.2.1, 2 * g.2.2.2 + 1), (g.2.1, g.1, -2 * g.2.2.2 + 1)], 0)
/-- A row of limits, and an error. -/
def MakesLm (w : World) (r : List (Int × Int × Int) × Int) (e : Ending) (w' : World) : Prop :=
  Below w.heap.size w w' ∧ ∃ A cap, e = .returned (.tuple #[.slice A r.1.length cap, .int .i64 r.2]) ∧ Lims w' A r.1
theorem limsA_one (w : World) (s : Nat) (e : TypeId) (a b c : Int) (hs : s = w.heap.size) : Lims (w.alloc (.cells #[.int .i64 a, .int .i64 b, .int .i32 c] e (0, 0))) (some ⟨s, 0, none⟩) [(a, b, c)] := by
  subst hs
  have h1 := heap_alloc_new w (.cells #[.int .i64 a, .int .i64 b, .int .i32 c] e (0, 0))
  intro j hj
  have e0 : j = 0 := by simp at hj; omega
  subst e0
  refine ⟨w.heap.size, 0, rfl, ?_, ?_, ?_⟩ <;> (unfold World.cell?; rw [h1]; rfl)
theorem limsA_two (w : World) (s : Nat) (e : TypeId) (a b c a' b' c' : Int) (hs : s = w.heap.size) : Lims (w.alloc (.cells #[.int .i64 a, .int .i64 b, .int .i32 c, .int .i64 a', .int .i64 b', .int .i32 c'] e (0, 0))) (some ⟨s, 0, none⟩) [(a, b, c), (a', b', c')] := by
  subst hs
  have h1 := heap_alloc_new w (.cells #[.int .i64 a, .int .i64 b, .int .i32 c, .int .i64 a', .int .i64 b', .int .i32 c'] e (0, 0))
  intro j hj
  rcases (show j = 0 ∨ j = 1 by simp at hj; omega) with e0 | e0
  · subst e0
    refine ⟨w.heap.size, 0, rfl, ?_, ?_, ?_⟩ <;> (unfold World.cell?; rw [h1]; rfl)
  · subst e0
    refine ⟨w.heap.size, 0, rfl, ?_, ?_, ?_⟩ <;> (unfold World.cell?; rw [h1]; rfl)
theorem belowA {w wr : World} (h : Below w.heap.size w wr) (o : Obj) : Below w.heap.size w (wr.alloc o) := h.alloc h.size o
theorem lims_none (w : World) : Lims w none [] := fun j hj => by simp at hj

set_option maxRecDepth 100000 in
set_option maxHeartbeats 2000000 in
theorem glim_any (c o k n : Int) (w : World) (hk : 0 ≤ k ∧ k ≤ 255) : Calls Tryd.prog 28 #[.agg #[.int .i64 c, .int .i64 o, .int .u8 k, .int .i64 n]] w (MakesLm w (guardP (c, o, k, n))) := by
  by_cases c0 : c < 0
  · have hz : guardP (c, o, k, n) = ([], 12) := by
      unfold guardP
      rw [if_pos (by simp only; omega)]
    rw [hz]
    clear hz
    have d0 : decide (c < 0) = true := decide_eq_true c0
    clear c0
    go_enter Tryd.func28, Tryd.ntmps28
    go_wp2
    go_ret2
    exact ⟨belowA (Below.refl _ _) _, none, 0, rfl, lims_none _⟩
  · have d0 : decide (c < 0) = false := decide_eq_false c0
    by_cases c1 : 8 < c
    · have hz : guardP (c, o, k, n) = ([], 12) := by
        unfold guardP
        rw [if_pos (by simp only; omega)]
      rw [hz]
      clear hz
      have d1 : decide (8 < c) = true := decide_eq_true c1
      clear c0 c1
      go_enter Tryd.func28, Tryd.ntmps28
      go_wp2
      go_ret2
      exact ⟨belowA (Below.refl _ _) _, none, 0, rfl, lims_none _⟩
    · have d1 : decide (8 < c) = false := decide_eq_false c1
      by_cases o0 : o < 0
      · have hz : guardP (c, o, k, n) = ([], 12) := by
          unfold guardP
          rw [if_pos (by simp only; omega)]
        rw [hz]
        clear hz
        have d2 : decide (o < 0) = true := decide_eq_true o0
        clear c0 c1 o0
        go_enter Tryd.func28, Tryd.ntmps28
        go_wp2
        go_ret2
        exact ⟨belowA (Below.refl _ _) _, none, 0, rfl, lims_none _⟩
      · have d2 : decide (o < 0) = false := decide_eq_false o0
        by_cases o1 : 8 < o
        · have hz : guardP (c, o, k, n) = ([], 12) := by
            unfold guardP
            rw [if_pos (by simp only; omega)]
          rw [hz]
          clear hz
          have d3 : decide (8 < o) = true := decide_eq_true o1
          clear c0 c1 o0 o1
          go_enter Tryd.func28, Tryd.ntmps28
          go_wp2
          go_ret2
          exact ⟨belowA (Below.refl _ _) _, none, 0, rfl, lims_none _⟩
        · have d3 : decide (8 < o) = false := decide_eq_false o1
          by_cases k0 : k < 1
          · have hz : guardP (c, o, k, n) = ([], 7) := by
              unfold guardP
              rw [if_neg (by simp only; omega)]; rw [if_pos (by simp only; omega)]
            rw [hz]
            clear hz
            have d4 : decide (k < 1) = true := decide_eq_true k0
            clear c0 c1 o0 o1 k0
            go_enter Tryd.func28, Tryd.ntmps28
            go_wp2
            go_ret2
            exact ⟨belowA (Below.refl _ _) _, none, 0, rfl, lims_none _⟩
          · have d4 : decide (k < 1) = false := decide_eq_false k0
            by_cases k1 : 5 < k
            · have hz : guardP (c, o, k, n) = ([], 7) := by
                unfold guardP
                rw [if_neg (by simp only; omega)]; rw [if_pos (by simp only; omega)]
              rw [hz]
              clear hz
              have d5 : decide (5 < k) = true := decide_eq_true k1
              clear c0 c1 o0 o1 k0 k1
              go_enter Tryd.func28, Tryd.ntmps28
              go_wp2
              go_ret2
              exact ⟨belowA (Below.refl _ _) _, none, 0, rfl, lims_none _⟩
            · have d5 : decide (5 < k) = false := decide_eq_false k1
              by_cases n0 : n < -1048576
              · have hz : guardP (c, o, k, n) = ([], 13) := by
                  unfold guardP
                  rw [if_neg (by simp only; omega)]; rw [if_neg (by simp only; omega)]; rw [if_pos (by simp only; omega)]
                rw [hz]
                clear hz
                have d6 : decide (n < -1048576) = true := decide_eq_true n0
                clear c0 c1 o0 o1 k0 k1 n0
                go_enter Tryd.func28, Tryd.ntmps28
                go_wp2
                go_ret2
                exact ⟨belowA (Below.refl _ _) _, none, 0, rfl, lims_none _⟩
              · have d6 : decide (n < -1048576) = false := decide_eq_false n0
                by_cases n1 : 1048576 < n
                · have hz : guardP (c, o, k, n) = ([], 13) := by
                    unfold guardP
                    rw [if_neg (by simp only; omega)]; rw [if_neg (by simp only; omega)]; rw [if_pos (by simp only; omega)]
                  rw [hz]
                  clear hz
                  have d7 : decide (1048576 < n) = true := decide_eq_true n1
                  clear c0 c1 o0 o1 k0 k1 n0 n1
                  go_enter Tryd.func28, Tryd.ntmps28
                  go_wp2
                  go_ret2
                  exact ⟨belowA (Below.refl _ _) _, none, 0, rfl, lims_none _⟩
                · have d7 : decide (1048576 < n) = false := decide_eq_false n1
                  have g1 : IntKind.i64.wrap (2 * n) = 2 * n := IntWalk.i64_in _ (by omega)
                  have g2 : IntKind.i64.wrap (2 * n + 1) = 2 * n + 1 := IntWalk.i64_in _ (by omega)
                  have g3 : IntKind.i64.wrap (-2 * n) = -2 * n := IntWalk.i64_in _ (by omega)
                  have g4 : IntKind.i64.wrap (-2 * n + 1) = -2 * n + 1 := IntWalk.i64_in _ (by omega)
                  have g5 : IntKind.i32.wrap (2 * n + 1) = 2 * n + 1 := by rw [IntKind.wrap_i32]; omega
                  have g6 : IntKind.i32.wrap (-2 * n + 1) = -2 * n + 1 := by rw [IntKind.wrap_i32]; omega
                  have g7 : IntKind.i32.wrap (2 * n + 1 - 1) = 2 * n + 1 - 1 := by rw [IntKind.wrap_i32]; omega
                  have g8 : IntKind.i32.wrap (-2 * n + 1 - 1) = -2 * n + 1 - 1 := by rw [IntKind.wrap_i32]; omega
                  have g9 : wrap32 (2 * n) = 2 * n := by unfold wrap32; omega
                  have g10 : wrap32 (-2 * n) = -2 * n := by unfold wrap32; omega
                  rcases (show k = 1 ∨ k = 2 ∨ k = 3 ∨ k = 4 ∨ k = 5 by omega) with rfl | rfl | rfl | rfl | rfl
                  · have hz : guardP (c, o, 1, n) = ([(c, o, 2 * n)], 0) := by
                      unfold guardP
                      rw [if_neg (by simp only; omega), if_neg (by simp), if_neg (by simp only; omega), if_pos rfl]
                    rw [hz]
                    clear hz hk c0 c1 o0 o1 k0 k1 n0 n1 d4 d5
                    go_enter Tryd.func28, Tryd.ntmps28
                    go_wp2
                    go_ret2
                    exact ⟨belowA (belowA (belowA (belowA (Below.refl _ _) _) _) _) _, _, _, rfl, by exact limsA_one _ _ _ _ _ _ (by first | rfl | simp)⟩
                  · have hz : guardP (c, o, 2, n) = ([(c, o, 2 * n + 1)], 0) := by
                      unfold guardP
                      rw [if_neg (by simp only; omega), if_neg (by simp), if_neg (by simp only; omega), if_neg (by simp), if_pos rfl]
                    rw [hz]
                    clear hz hk c0 c1 o0 o1 k0 k1 n0 n1 d4 d5
                    go_enter Tryd.func28, Tryd.ntmps28
                    go_wp2
                    go_ret2
                    exact ⟨belowA (belowA (belowA (belowA (Below.refl _ _) _) _) _) _, _, _, rfl, by exact limsA_one _ _ _ _ _ _ (by first | rfl | simp)⟩
                  · have hz : guardP (c, o, 3, n) = ([(c, o, 2 * n + 1), (o, c, -2 * n + 1)], 0) := by
                      unfold guardP
                      rw [if_neg (by simp only; omega), if_neg (by simp), if_neg (by simp only; omega), if_neg (by simp), if_neg (by simp), if_neg (by simp), if_neg (by simp)]
                    rw [hz]
                    clear hz hk c0 c1 o0 o1 k0 k1 n0 n1 d4 d5
                    go_enter Tryd.func28, Tryd.ntmps28
                    go_wp2
                    go_ret2
                    exact ⟨belowA (belowA (belowA (belowA (Below.refl _ _) _) _) _) _, _, _, rfl, by exact limsA_two _ _ _ _ _ _ _ _ _ (by first | rfl | simp)⟩
                  · have hz : guardP (c, o, 4, n) = ([(o, c, -2 * n + 1)], 0) := by
                      unfold guardP
                      rw [if_neg (by simp only; omega), if_neg (by simp), if_neg (by simp only; omega), if_neg (by simp), if_neg (by simp), if_pos rfl]
                    rw [hz]
                    clear hz hk c0 c1 o0 o1 k0 k1 n0 n1 d4 d5
                    go_enter Tryd.func28, Tryd.ntmps28
                    go_wp2
                    go_ret2
                    exact ⟨belowA (belowA (belowA (belowA (Below.refl _ _) _) _) _) _, _, _, rfl, by exact limsA_one _ _ _ _ _ _ (by first | rfl | simp)⟩
                  · have hz : guardP (c, o, 5, n) = ([(o, c, -2 * n)], 0) := by
                      unfold guardP
                      rw [if_neg (by simp only; omega), if_neg (by simp), if_neg (by simp only; omega), if_neg (by simp), if_neg (by simp), if_neg (by simp), if_pos rfl]
                    rw [hz]
                    clear hz hk c0 c1 o0 o1 k0 k1 n0 n1 d4 d5
                    go_enter Tryd.func28, Tryd.ntmps28
                    go_wp2
                    go_ret2
                    exact ⟨belowA (belowA (belowA (belowA (Below.refl _ _) _) _) _) _, _, _, rfl, by exact limsA_one _ _ _ _ _ _ (by first | rfl | simp)⟩

set_option maxRecDepth 100000 in
set_option maxHeartbeats 2000000 in
theorem glim4_any (c o k n : Int) (w : World) (hk : 0 ≤ k ∧ k ≤ 255) : Calls Tryd.prog 29 #[.agg #[.int .i64 c, .int .i64 o, .int .u8 k, .int .i64 n]] w (MakesLm w (guardP (c, o, k, n))) := by
  by_cases c0 : c < 0
  · have hz : guardP (c, o, k, n) = ([], 12) := by
      unfold guardP
      rw [if_pos (by simp only; omega)]
    rw [hz]
    clear hz
    have d0 : decide (c < 0) = true := decide_eq_true c0
    clear c0
    go_enter Tryd.func29, Tryd.ntmps29
    go_wp2
    go_ret2
    exact ⟨belowA (Below.refl _ _) _, none, 0, rfl, lims_none _⟩
  · have d0 : decide (c < 0) = false := decide_eq_false c0
    by_cases c1 : 8 < c
    · have hz : guardP (c, o, k, n) = ([], 12) := by
        unfold guardP
        rw [if_pos (by simp only; omega)]
      rw [hz]
      clear hz
      have d1 : decide (8 < c) = true := decide_eq_true c1
      clear c0 c1
      go_enter Tryd.func29, Tryd.ntmps29
      go_wp2
      go_ret2
      exact ⟨belowA (Below.refl _ _) _, none, 0, rfl, lims_none _⟩
    · have d1 : decide (8 < c) = false := decide_eq_false c1
      by_cases o0 : o < 0
      · have hz : guardP (c, o, k, n) = ([], 12) := by
          unfold guardP
          rw [if_pos (by simp only; omega)]
        rw [hz]
        clear hz
        have d2 : decide (o < 0) = true := decide_eq_true o0
        clear c0 c1 o0
        go_enter Tryd.func29, Tryd.ntmps29
        go_wp2
        go_ret2
        exact ⟨belowA (Below.refl _ _) _, none, 0, rfl, lims_none _⟩
      · have d2 : decide (o < 0) = false := decide_eq_false o0
        by_cases o1 : 8 < o
        · have hz : guardP (c, o, k, n) = ([], 12) := by
            unfold guardP
            rw [if_pos (by simp only; omega)]
          rw [hz]
          clear hz
          have d3 : decide (8 < o) = true := decide_eq_true o1
          clear c0 c1 o0 o1
          go_enter Tryd.func29, Tryd.ntmps29
          go_wp2
          go_ret2
          exact ⟨belowA (Below.refl _ _) _, none, 0, rfl, lims_none _⟩
        · have d3 : decide (8 < o) = false := decide_eq_false o1
          by_cases k0 : k < 1
          · have hz : guardP (c, o, k, n) = ([], 7) := by
              unfold guardP
              rw [if_neg (by simp only; omega)]; rw [if_pos (by simp only; omega)]
            rw [hz]
            clear hz
            have d4 : decide (k < 1) = true := decide_eq_true k0
            clear c0 c1 o0 o1 k0
            go_enter Tryd.func29, Tryd.ntmps29
            go_wp2
            go_ret2
            exact ⟨belowA (Below.refl _ _) _, none, 0, rfl, lims_none _⟩
          · have d4 : decide (k < 1) = false := decide_eq_false k0
            by_cases k1 : 5 < k
            · have hz : guardP (c, o, k, n) = ([], 7) := by
                unfold guardP
                rw [if_neg (by simp only; omega)]; rw [if_pos (by simp only; omega)]
              rw [hz]
              clear hz
              have d5 : decide (5 < k) = true := decide_eq_true k1
              clear c0 c1 o0 o1 k0 k1
              go_enter Tryd.func29, Tryd.ntmps29
              go_wp2
              go_ret2
              exact ⟨belowA (Below.refl _ _) _, none, 0, rfl, lims_none _⟩
            · have d5 : decide (5 < k) = false := decide_eq_false k1
              by_cases n0 : n < -1048576
              · have hz : guardP (c, o, k, n) = ([], 13) := by
                  unfold guardP
                  rw [if_neg (by simp only; omega)]; rw [if_neg (by simp only; omega)]; rw [if_pos (by simp only; omega)]
                rw [hz]
                clear hz
                have d6 : decide (n < -1048576) = true := decide_eq_true n0
                clear c0 c1 o0 o1 k0 k1 n0
                go_enter Tryd.func29, Tryd.ntmps29
                go_wp2
                go_ret2
                exact ⟨belowA (Below.refl _ _) _, none, 0, rfl, lims_none _⟩
              · have d6 : decide (n < -1048576) = false := decide_eq_false n0
                by_cases n1 : 1048576 < n
                · have hz : guardP (c, o, k, n) = ([], 13) := by
                    unfold guardP
                    rw [if_neg (by simp only; omega)]; rw [if_neg (by simp only; omega)]; rw [if_pos (by simp only; omega)]
                  rw [hz]
                  clear hz
                  have d7 : decide (1048576 < n) = true := decide_eq_true n1
                  clear c0 c1 o0 o1 k0 k1 n0 n1
                  go_enter Tryd.func29, Tryd.ntmps29
                  go_wp2
                  go_ret2
                  exact ⟨belowA (Below.refl _ _) _, none, 0, rfl, lims_none _⟩
                · have d7 : decide (1048576 < n) = false := decide_eq_false n1
                  have g1 : IntKind.i64.wrap (2 * n) = 2 * n := IntWalk.i64_in _ (by omega)
                  have g2 : IntKind.i64.wrap (2 * n + 1) = 2 * n + 1 := IntWalk.i64_in _ (by omega)
                  have g3 : IntKind.i64.wrap (-2 * n) = -2 * n := IntWalk.i64_in _ (by omega)
                  have g4 : IntKind.i64.wrap (-2 * n + 1) = -2 * n + 1 := IntWalk.i64_in _ (by omega)
                  have g5 : IntKind.i32.wrap (2 * n + 1) = 2 * n + 1 := by rw [IntKind.wrap_i32]; omega
                  have g6 : IntKind.i32.wrap (-2 * n + 1) = -2 * n + 1 := by rw [IntKind.wrap_i32]; omega
                  have g7 : IntKind.i32.wrap (2 * n + 1 - 1) = 2 * n + 1 - 1 := by rw [IntKind.wrap_i32]; omega
                  have g8 : IntKind.i32.wrap (-2 * n + 1 - 1) = -2 * n + 1 - 1 := by rw [IntKind.wrap_i32]; omega
                  have g9 : wrap32 (2 * n) = 2 * n := by unfold wrap32; omega
                  have g10 : wrap32 (-2 * n) = -2 * n := by unfold wrap32; omega
                  rcases (show k = 1 ∨ k = 2 ∨ k = 3 ∨ k = 4 ∨ k = 5 by omega) with rfl | rfl | rfl | rfl | rfl
                  · have hz : guardP (c, o, 1, n) = ([(c, o, 2 * n)], 0) := by
                      unfold guardP
                      rw [if_neg (by simp only; omega), if_neg (by simp), if_neg (by simp only; omega), if_pos rfl]
                    rw [hz]
                    clear hz hk c0 c1 o0 o1 k0 k1 n0 n1 d4 d5
                    go_enter Tryd.func29, Tryd.ntmps29
                    go_wp2
                    go_ret2
                    exact ⟨belowA (belowA (belowA (belowA (Below.refl _ _) _) _) _) _, _, _, rfl, by exact limsA_one _ _ _ _ _ _ (by first | rfl | simp)⟩
                  · have hz : guardP (c, o, 2, n) = ([(c, o, 2 * n + 1)], 0) := by
                      unfold guardP
                      rw [if_neg (by simp only; omega), if_neg (by simp), if_neg (by simp only; omega), if_neg (by simp), if_pos rfl]
                    rw [hz]
                    clear hz hk c0 c1 o0 o1 k0 k1 n0 n1 d4 d5
                    go_enter Tryd.func29, Tryd.ntmps29
                    go_wp2
                    go_ret2
                    exact ⟨belowA (belowA (belowA (belowA (Below.refl _ _) _) _) _) _, _, _, rfl, by exact limsA_one _ _ _ _ _ _ (by first | rfl | simp)⟩
                  · have hz : guardP (c, o, 3, n) = ([(c, o, 2 * n + 1), (o, c, -2 * n + 1)], 0) := by
                      unfold guardP
                      rw [if_neg (by simp only; omega), if_neg (by simp), if_neg (by simp only; omega), if_neg (by simp), if_neg (by simp), if_neg (by simp), if_neg (by simp)]
                    rw [hz]
                    clear hz hk c0 c1 o0 o1 k0 k1 n0 n1 d4 d5
                    go_enter Tryd.func29, Tryd.ntmps29
                    go_wp2
                    go_ret2
                    exact ⟨belowA (belowA (belowA (belowA (Below.refl _ _) _) _) _) _, _, _, rfl, by exact limsA_two _ _ _ _ _ _ _ _ _ (by first | rfl | simp)⟩
                  · have hz : guardP (c, o, 4, n) = ([(o, c, -2 * n + 1)], 0) := by
                      unfold guardP
                      rw [if_neg (by simp only; omega), if_neg (by simp), if_neg (by simp only; omega), if_neg (by simp), if_neg (by simp), if_pos rfl]
                    rw [hz]
                    clear hz hk c0 c1 o0 o1 k0 k1 n0 n1 d4 d5
                    go_enter Tryd.func29, Tryd.ntmps29
                    go_wp2
                    go_ret2
                    exact ⟨belowA (belowA (belowA (belowA (Below.refl _ _) _) _) _) _, _, _, rfl, by exact limsA_one _ _ _ _ _ _ (by first | rfl | simp)⟩
                  · have hz : guardP (c, o, 5, n) = ([(o, c, -2 * n)], 0) := by
                      unfold guardP
                      rw [if_neg (by simp only; omega), if_neg (by simp), if_neg (by simp only; omega), if_neg (by simp), if_neg (by simp), if_neg (by simp), if_pos rfl]
                    rw [hz]
                    clear hz hk c0 c1 o0 o1 k0 k1 n0 n1 d4 d5
                    go_enter Tryd.func29, Tryd.ntmps29
                    go_wp2
                    go_ret2
                    exact ⟨belowA (belowA (belowA (belowA (Below.refl _ _) _) _) _) _, _, _, rfl, by exact limsA_one _ _ _ _ _ _ (by first | rfl | simp)⟩

end Go.Proofs.YtidcnlecgcobmaaDoor

/- Rows of guards: what they say together. -/
namespace Go.Proofs.YtidcnlecgcobmaaDoor
set_option linter.unusedVariables false
set_option linter.unusedSimpArgs false

/-- The first error of guards; 0: none. -/
def gsE : List (Int × Int × Int × Int) → Int
  | [] => 0
  | g :: l => if (guardP g).2 = 0 then gsE l else (guardP g).2
/-- The limits of the first p guards. -/
def gsL (l : List (Int × Int × Int × Int)) : Nat → List (Int × Int × Int)
  | 0 => []
  | p + 1 => gsL l p ++ (guardP (l.getD p (0, 0, 0, 0))).1
theorem gsE_none : ∀ l : List (Int × Int × Int × Int), (∀ q, q < l.length → (guardP (l.getD q (0, 0, 0, 0))).2 = 0) → gsE l = 0
  | [], _ => rfl
  | g :: l, h => by
    have h0 := h 0 (by simp)
    unfold gsE
    rw [if_pos (by simpa using h0)]
    exact gsE_none l fun q hq => by have := h (q + 1) (by simpa using hq); simpa using this
theorem gsE_at : ∀ (l : List (Int × Int × Int × Int)) (p : Nat), p < l.length → (∀ q, q < p → (guardP (l.getD q (0, 0, 0, 0))).2 = 0) → (guardP (l.getD p (0, 0, 0, 0))).2 ≠ 0 → gsE l = (guardP (l.getD p (0, 0, 0, 0))).2
  | [], p, hp, _, _ => by simp at hp
  | g :: l, 0, _, _, hn => by
    have hn' : ¬ (guardP g).2 = 0 := by simpa using hn
    unfold gsE
    rw [if_neg hn']; simp
  | g :: l, p + 1, hp, h, hn => by
    have h0 := h 0 (by omega)
    unfold gsE
    rw [if_pos (by simpa using h0)]
    have := gsE_at l p (by simpa using hp) (fun q hq => by have := h (q + 1) (by omega); simpa using this) (by simpa using hn)
    rw [this]; simp
theorem guardP_len (g : Int × Int × Int × Int) : (guardP g).1.length ≤ 2 ∧ ((guardP g).2 = 0 → 1 ≤ (guardP g).1.length) := by
  unfold guardP
  split
  · simp
  · split
    · simp
    · split
      · simp
      · split
        · simp
        · split
          · simp
          · split
            · simp
            · split <;> simp
theorem gsL_len (l : List (Int × Int × Int × Int)) : ∀ p, (gsL l p).length ≤ 2 * p
  | 0 => by simp [gsL]
  | p + 1 => by
    have h1 := gsL_len l p
    have h2 := (guardP_len (l.getD p (0, 0, 0, 0))).1
    rw [gsL, List.length_append]; omega
theorem guardP_bits (g : Int × Int × Int × Int) : ∀ x ∈ (guardP g).1, -2147483648 ≤ x.2.2 ∧ x.2.2 ≤ 2147483647 := by
  intro x hx
  unfold guardP at hx
  split at hx
  · simp at hx
  · split at hx
    · simp at hx
    · split at hx
      · simp at hx
      · rename_i _ _ hn
        have hn' : -1048576 ≤ g.2.2.2 ∧ g.2.2.2 ≤ 1048576 := by
          by_cases h : -1048576 ≤ g.2.2.2 ∧ g.2.2.2 ≤ 1048576
          · exact h
          · exact absurd h hn
        split at hx
        · simp only [List.mem_singleton] at hx; subst hx; simp only; omega
        · split at hx
          · simp only [List.mem_singleton] at hx; subst hx; simp only; omega
          · split at hx
            · simp only [List.mem_singleton] at hx; subst hx; simp only; omega
            · split at hx
              · simp only [List.mem_singleton] at hx; subst hx; simp only; omega
              · simp only [List.mem_cons, List.mem_nil_iff, or_false] at hx
                rcases hx with rfl | rfl <;> (simp only; omega)
theorem gsL_bits (l : List (Int × Int × Int × Int)) : ∀ p, ∀ x ∈ gsL l p, -2147483648 ≤ x.2.2 ∧ x.2.2 ≤ 2147483647
  | 0, x, h => by simp [gsL] at h
  | p + 1, x, h => by
    rw [gsL, List.mem_append] at h
    rcases h with h | h
    · exact gsL_bits l p x h
    · exact guardP_bits _ x h
theorem gsL_bits' (l : List (Int × Int × Int × Int)) (p : Nat) : ∀ q, q < (gsL l p).length → -2147483648 ≤ ((gsL l p).getD q (0, 0, 0)).2.2 ∧ ((gsL l p).getD q (0, 0, 0)).2.2 ≤ 2147483647 := fun q hq => by
  refine gsL_bits l p _ ?_
  rw [List.getD_eq_getElem?_getD, List.getElem?_eq_getElem hq]
  exact List.getElem_mem hq

end Go.Proofs.YtidcnlecgcobmaaDoor

/- append onto a long row of limits of the call's own. -/
namespace Go.Proofs.YtidcnlecgcobmaaDoor
open Go Go.RowKit
set_option linter.unusedVariables false
set_option linter.unusedSimpArgs false

/-- What the runtime takes for a greater row is within its bound. -/
theorem far_fits {need old : Nat} (h : old < need) (hb : need * 24 ≤ 215000000000000) : Builtin.nextslicecap need old * 24 ≤ 281474976710656 := by
  unfold Builtin.nextslicecap
  split
  · omega
  · split
    · omega
    · rw [growBy_four]
      split
      · omega
      · split
        · omega
        · split
          · omega
          · split
            · omega
            · omega

theorem append_far {P : Program} (w : World) (base : Nat) (t ty e : TypeId) (i : TypeInfo) (z : Value) (ht : P.underlying t = some (.slice e)) (hi : P.info? e = some i) (hz : i.zero = some z)
    (hsize : i.size = 3) (hby : i.bytes = 24) (hzs : z.cells.size = 3) (v : Value) (n : Nat) (xs : List Value) (hown : w.ownsRow base e 3 v n xs)
    (a : Addr) (m c : Nat) (news : List Value) (hl : news.length = m * 3) (hnews : ∀ j u, news[j]? = some u → w.cell? (a.add j) = some u) (h1 : ∀ u ∈ news, u.oneCell' = true)
    (hm : m ≤ 1000) (hb : (n + m) * 24 ≤ 215000000000000) (hbase : base ≤ w.heap.size) :
    ∃ v' w', (Builtin.append_ #[t, t] ty #[v, .slice (some a) m c]).run P w = .ok v' w' ∧ w'.ownsRow base e 3 v' (n + m) (xs ++ news) ∧ w.grownBy w' v.ownBlock := by
  by_cases hs : (n + m) * 24 ≤ 140737488355328
  · obtain ⟨v', w', h1, h2, h3, _⟩ := run_append_own (P := P) w base t ty e i z 3 24 ht hi hz hsize hby hzs (by decide) v n xs hown a m c news hl hnews h1 (by simp only [maxLen]; omega) hs hbase
    exact ⟨v', w', h1, h2, h3⟩
  · obtain ⟨hxl, hform⟩ := hown
    have htot : (xs ++ news).length = (n + m) * 3 := by rw [List.length_append, hxl, hl]; omega
    rcases hform with ⟨_, h0⟩ | ⟨g, cap, cur, rfl, hbg, hg, hnc, hcm, hcs, htake⟩
    · omega
    · by_cases hroom : n + m ≤ cap
      · have hfit : n * i.size + news.length ≤ cur.size := by rw [hl, hcs, hsize]; omega
        have hr := run_append_room (P := P) w t ty e i ht hi g n cap cur hg a m c news (by rw [hsize]; exact hl) hnews h1 hroom hfit
        have hblk := setRow_heap w g cur (cur.toList.take (n * i.size) ++ news ++ cur.toList.drop (n * i.size + news.length)).toArray e _ hg
        have hoth := fun k (hk : k ≠ g) => setRow_other w g k (cur.toList.take (n * i.size) ++ news ++ cur.toList.drop (n * i.size + news.length)).toArray hk
        rw [hsize] at hr hblk hoth
        refine ⟨_, _, hr, ⟨htot, .inr ⟨g, cap, _, rfl, hbg, hblk, hroom, hcm, ?_, ?_⟩⟩, ?_⟩
        · have e1 : cur.toList.length = cap * 3 := by rw [Array.length_toList, hcs]
          simp only [List.size_toArray, List.length_append, List.length_take, List.length_drop, e1, hl]
          omega
        · have e2 : (cur.toList.take (n * 3) ++ news ++ cur.toList.drop (n * 3 + news.length)).toArray.toList = (xs ++ news) ++ cur.toList.drop (n * 3 + news.length) := by rw [htake]
          rw [e2, ← htot]
          exact List.take_left
        · exact ⟨rfl, rfl, rfl, by simp, fun k _ hk => hoth k (fun e => hk (by simp [Value.ownBlock, e]))⟩
      · have hcells : ∀ j u, xs[j]? = some u → w.cell? ((⟨g, 0, none⟩ : Addr).add j) = some u := World.ownsRow.cells (w := w) (base := base) (e := e) (size := 3) (v := .slice (some ⟨g, 0, none⟩) n cap) ⟨hxl, .inr ⟨g, cap, cur, rfl, hbg, hg, hnc, hcm, hcs, htake⟩⟩ rfl
        have hr := run_append_grow (P := P) w t ty e i z ht hi hz ⟨g, 0, none⟩ n cap xs (by rw [hsize]; exact hxl) hcells a m c news (by rw [hsize]; exact hl) hnews (by omega) (by omega) (by rw [hby]; exact far_fits (by omega) hb)
        have hge := grownCap_ge w (n + m) cap e
        have hle := grownCap_le_maxLen w (n + m) cap e (by simp only [maxLen]; omega)
        refine ⟨_, _, hr, ⟨htot, .inr ⟨w.heap.size, _, _, rfl, hbase, heap_alloc_new w.drew _, hge, hle, ?_, ?_⟩⟩, ?_⟩
        · rw [Array.size_append, Array.size_append, size_zeroCells, hzs, List.size_toArray, List.size_toArray, hxl, hl]
          omega
        · rw [Array.toList_append, Array.toList_append]
          show (xs ++ news ++ _).take _ = _
          rw [← htot]
          exact List.take_left
        · exact ⟨rfl, rfl, rfl, by simp, fun k hk _ => heap_alloc_old w.drew _ hk⟩

end Go.Proofs.YtidcnlecgcobmaaDoor

/- Where in a zone guards hold: the program's Guards, the document's. -/
namespace Go.Proofs.YtidcnlecgcobmaaDoor
open Go Go.RowKit
set_option linter.unusedVariables false
set_option linter.unusedSimpArgs false

/-- What Guards answers. -/
def gdA (z : Option (Nat × Mat)) (l : List (Int × Int × Int × Int)) : Option Mat × Int := match z with | none => (none, 1) | some p => if gsE l = 0 then conA (some p) (gsL l l.length) else (none, gsE l)
theorem infoGL : (Tryd.prog.info? 68).map (fun i => (i.zero, i.size, i.bytes)) = some (some (.agg #[.int .i64 0, .int .i64 0, .int .i32 0]), 3, 24) := by kernel_rfl
/-- The limits so far, a row of the call's own. -/
def GLim (w0 : World) (l : List (Int × Int × Int × Int)) (p : Nat) (v : Value) (wr : World) : Prop := Below w0.heap.size w0 wr ∧ OwnL wr w0.heap.size 68 v (gsL l p)
theorem lims_some {w : World} {A : Option Addr} {xs : List (Int × Int × Int)} (h : Lims w A xs) (h0 : 1 ≤ xs.length) : ∃ a, A = some a := by
  obtain ⟨b, off, e, _⟩ := h 0 (by omega)
  exact ⟨_, e⟩
/-- One append more. -/
theorem GLim.next {w0 wr w2 : World} {l : List (Int × Int × Int × Int)} {p : Nat} {v : Value} (h : GLim w0 l p v wr) (hb : Below wr.heap.size wr w2) {A : Option Addr} {c : Nat} {r : List (Int × Int × Int)} (hr : (guardP (l.getD p (0, 0, 0, 0))).1 = r)
    (hL : Lims w2 A r) (h1 : 1 ≤ r.length) (h2 : r.length ≤ 2) (hp : p < l.length) (hmax : l.length ≤ 4398046510976) :
    ∃ v' w', (Builtin.append_ #[23, 23] 23 #[v, .slice A r.length c]).run Tryd.prog w2 = .ok v' w' ∧ GLim w0 l (p + 1) v' w' := by
  obtain ⟨a, rfl⟩ := lims_some hL h1
  obtain ⟨i0, hi, hz0, hz1, hz2⟩ := info_parts infoGL
  have hlen := gsL_len l p
  have hown := h.2.later hb
  have hs2 := hb.size
  have hs1 := h.1.size
  unfold OwnL at hown
  obtain ⟨v', w', hrun, hown', hg⟩ := append_far (P := Tryd.prog) w2 w0.heap.size 23 23 68 i0 (.agg #[.int .i64 0, .int .i64 0, .int .i32 0]) Tryd.underlying23 hi hz0 hz1 hz2 rfl v (gsL l p).length (lcells (gsL l p)) hown a r.length c (lcells r) (lcells_length r) (lims_news hL a rfl) (lcells_one r) (by omega) (by omega) (by omega)
  refine ⟨v', w', hrun, (h.1.trans (hb.mono h.1.size)).grown hg (by omega) (fun k hk => (World.ownsRow.lt hown k hk).1), ?_⟩
  unfold OwnL
  have e : gsL l (p + 1) = gsL l p ++ r := by rw [gsL, hr]
  have e2 : lcells (gsL l p ++ r) = lcells (gsL l p) ++ lcells r := by unfold lcells; rw [List.flatMap_append]
  rw [e, e2, List.length_append]
  exact hown'

set_option maxRecDepth 100000 in
set_option maxHeartbeats 2000000 in
theorem guards_some (v : Value) (q : Nat × Mat) (A : Option Addr) (c : Nat) (l : List (Int × Int × Int × Int)) (w : World) (h : ZoneV 126 w v (some q)) (hI : Gds w A l) (hmax : l.length ≤ 4398046510976)
    (hk : ∀ p, p < l.length → 0 ≤ (l.getD p (0, 0, 0, 0)).2.2.1 ∧ (l.getD p (0, 0, 0, 0)).2.2.1 ≤ 255) :
    Calls Tryd.prog 25 #[v, .slice A l.length c] w (MakesZ w (dimN (some q)) (gdA (some q) l)) := by
  have HI := Lib.hid hI
  have HK := Lib.hid hk
  have HZ := Lib.hid h
  have HC := Lib.hid (fun A c w' h hI => con_any v (some q) A c (gsL l l.length) w' h hI (by have := gsL_len l l.length; omega) (gsL_bits' l l.length))
  have hv : ∃ b, v = .pointer (some b) := by obtain ⟨n, m⟩ := q; obtain ⟨b, e, _⟩ := h; exact ⟨_, e⟩
  obtain ⟨bv, rfl⟩ := hv
  have HS := Lib.hid (show GLim w l 0 (.slice none 0 0) w from ⟨Below.refl _ _, by show w.ownsRow _ _ 3 _ 0 []; exact World.ownsRow_nil _ _ _ _⟩)
  have HGD := Lib.hid (show gdA (some q) l = if gsE l = 0 then conA (some q) (gsL l l.length) else (none, gsE l) from rfl)
  clear h hI hk
  go_enter Tryd.func25, Tryd.ntmps25
  go_wp2
  go_loopg [6, 15] l.length (fun g v x wr => ∃ p : Nat, x = .int .i64 p ∧ Hid (GLim w l p v wr) ∧ Hid (p ≤ l.length ∧ g + p = l.length ∧ ∀ r, r < p → (guardP (l.getD r (0, 0, 0, 0))).2 = 0))
  case atStart => exact ⟨0, by simp, HS.out, by omega, by omega, fun r h => by omega⟩
  case round =>
    clear HS
    obtain ⟨p, rfl, HR, HG⟩ := hrel
    by_cases hp : p < l.length
    · obtain ⟨b, off, x, y, z, t, rfl, hx, c1, c2, c3, c4⟩ := gds_at (HI.out.below HR.out.1) hp
      have hz := HK.out p hp
      rw [hx] at hz
      have HX := Lib.hid hx
      have hpi : (p : Int) < (l.length : Int) := by omega
      have HL := Lib.hid (fun W => glim_any x y z t W hz)
      have HLN := Lib.hid (guardP_len (x, y, z, t))
      obtain ⟨r, hr⟩ : ∃ r, r = guardP (x, y, z, t) := ⟨_, rfl⟩
      rw [← hr] at HL HLN
      have HRR := Lib.hid hr
      obtain ⟨rl, re⟩ := r
      have HBX := Lib.hid (fun o => (Below.refl wr.heap.size wr).alloc (Nat.le_refl _) o)
      clear hr hx hz
      go_wp2_with fail
      refine (HL.out _).mono ?_
      rintro e w2 ⟨hb, B, cap, rfl, hlims⟩
      have HB2 := Lib.hid (show Below wr.heap.size wr w2 from (HBX.out _).trans (hb.mono (HBX.out _).size))
      have HLM := Lib.hid hlims
      clear hb hlims
      by_cases he : re = 0
      · subst he
        have hlen1 : 1 ≤ rl.length := HLN.out.2 rfl
        have hlen2 : rl.length ≤ 2 := HLN.out.1
        obtain ⟨v', w', hrun, hnext⟩ := HR.out.next HB2.out (c := cap) (r := rl) (by rw [HX.out, ← HRR.out]) HLM.out hlen1 hlen2 hp hmax
        have HN := Lib.hid hnext
        clear hnext
        go_wp2_with (at_builtin; refine wpList_append_run rfl _ _ 23 rfl _ _ v' w' rfl rfl hrun ?_)
        clear hrun
        go_wp2
        go_roundg (gk - 1)
        case measure => have h := HG.out; omega
        case rel =>
          refine ⟨p + 1, by go_num, HN.out, by omega, by have h := HG.out; omega, fun q hq => ?_⟩
          by_cases e : q = p
          · subst e; rw [HX.out, ← HRR.out]
          · exact HG.out.2.2 q (by omega)
      · have t1 : (re != 0) = true := by simp [he]
        have HE := Lib.hid (show gdA (some q) l = (none, re) by
          have e1 := gsE_at l p hp HG.out.2.2 (by rw [HX.out, ← HRR.out]; exact he)
          rw [HX.out, ← HRR.out] at e1
          rw [HGD.out, e1, if_neg he])
        clear he
        go_wp2
        go_ret2
        rw [HE.out]
        exact ⟨HR.out.1.trans (HB2.out.mono HR.out.1.size), .pointer none, rfl, rfl⟩
    · have e : p = l.length := by have := HG.out.1; omega
      subst e
      have HE := Lib.hid (show gdA (some q) l = conA (some q) (gsL l l.length) by rw [HGD.out, if_pos (gsE_none l HG.out.2.2)])
      obtain ⟨LA, lc, rfl, hlims⟩ := HR.out.2.lims
      have HLM := Lib.hid hlims
      have HB := Lib.hid HR.out.1
      have HZ2 := Lib.hid (HZ.out.below HR.out.1)
      clear hlims HR HG
      go_wp2_with fail
      refine (HC.out _ _ _ HZ2.out HLM.out).mono ?_
      rintro e w2 hz
      have HZ3 := Lib.hid hz
      obtain ⟨hb, v, rfl, hv⟩ := hz
      have HB3 := Lib.hid (HB.out.trans (hb.mono HB.out.size))
      clear hb hv
      go_wp2
      go_ret2
      rw [HE.out]
      exact ⟨HB3.out, HZ3.out.2⟩
theorem guards_none (l : Value) (w : World) : Calls Tryd.prog 25 #[.pointer none, l] w fun e w' => e = .returned (.tuple #[.pointer none, .int .i64 1]) ∧ w = w' := by
  go_enter Tryd.func25, Tryd.ntmps25
  go_wp2
  go_ret2
  exact ⟨rfl, rfl⟩

set_option maxRecDepth 100000 in
set_option maxHeartbeats 2000000 in
theorem guards4_some (v : Value) (q : Nat × Mat) (A : Option Addr) (c : Nat) (l : List (Int × Int × Int × Int)) (w : World) (h : RefZ w v (some q)) (hz : KindZ (some q)) (hI : Gds w A l) (hmax : l.length ≤ 4398046510976)
    (hk : ∀ p, p < l.length → 0 ≤ (l.getD p (0, 0, 0, 0)).2.2.1 ∧ (l.getD p (0, 0, 0, 0)).2.2.1 ≤ 255) :
    Calls Tryd.prog 26 #[v, .slice A l.length c] w (MakesR w (dimN (some q)) (gdA (some q) l)) := by
  have HI := Lib.hid hI
  have HK := Lib.hid hk
  have HZ := Lib.hid h
  have HC := Lib.hid (fun A c w' h hI => con4_any v (some q) A c (gsL l l.length) w' h hz hI (by have := gsL_len l l.length; omega) (gsL_bits' l l.length))
  have hv : ∃ b, v = .pointer (some b) := by obtain ⟨n, m⟩ := q; obtain ⟨b, _, _, e, _⟩ := h; exact ⟨_, e⟩
  obtain ⟨bv, rfl⟩ := hv
  have HS := Lib.hid (show GLim w l 0 (.slice none 0 0) w from ⟨Below.refl _ _, by show w.ownsRow _ _ 3 _ 0 []; exact World.ownsRow_nil _ _ _ _⟩)
  have HGD := Lib.hid (show gdA (some q) l = if gsE l = 0 then conA (some q) (gsL l l.length) else (none, gsE l) from rfl)
  clear h hI hk
  go_enter Tryd.func26, Tryd.ntmps26
  go_wp2
  go_loopg [6, 7] l.length (fun g v x wr => ∃ p : Nat, x = .int .i64 p ∧ Hid (GLim w l p v wr) ∧ Hid (p ≤ l.length ∧ g + p = l.length ∧ ∀ r, r < p → (guardP (l.getD r (0, 0, 0, 0))).2 = 0))
  case atStart => exact ⟨0, by simp, HS.out, by omega, by omega, fun r h => by omega⟩
  case round =>
    clear HS
    obtain ⟨p, rfl, HR, HG⟩ := hrel
    by_cases hp : p < l.length
    · obtain ⟨b, off, x, y, z, t, rfl, hx, c1, c2, c3, c4⟩ := gds_at (HI.out.below HR.out.1) hp
      have hz := HK.out p hp
      rw [hx] at hz
      have HX := Lib.hid hx
      have hpi : (p : Int) < (l.length : Int) := by omega
      have HL := Lib.hid (fun W => glim4_any x y z t W hz)
      have HLN := Lib.hid (guardP_len (x, y, z, t))
      obtain ⟨r, hr⟩ : ∃ r, r = guardP (x, y, z, t) := ⟨_, rfl⟩
      rw [← hr] at HL HLN
      have HRR := Lib.hid hr
      obtain ⟨rl, re⟩ := r
      have HBX := Lib.hid (fun o => (Below.refl wr.heap.size wr).alloc (Nat.le_refl _) o)
      clear hr hx hz
      go_wp2_with fail
      refine (HL.out _).mono ?_
      rintro e w2 ⟨hb, B, cap, rfl, hlims⟩
      have HB2 := Lib.hid (show Below wr.heap.size wr w2 from hb)
      have HLM := Lib.hid hlims
      clear hb hlims
      by_cases he : re = 0
      · subst he
        have hlen1 : 1 ≤ rl.length := HLN.out.2 rfl
        have hlen2 : rl.length ≤ 2 := HLN.out.1
        obtain ⟨v', w', hrun, hnext⟩ := HR.out.next HB2.out (c := cap) (r := rl) (by rw [HX.out, ← HRR.out]) HLM.out hlen1 hlen2 hp hmax
        have HN := Lib.hid hnext
        clear hnext
        go_wp2_with (at_builtin; refine wpList_append_run rfl _ _ 23 rfl _ _ v' w' rfl rfl hrun ?_)
        clear hrun
        go_wp2
        go_roundg (gk - 1)
        case measure => have h := HG.out; omega
        case rel =>
          refine ⟨p + 1, by go_num, HN.out, by omega, by have h := HG.out; omega, fun q hq => ?_⟩
          by_cases e : q = p
          · subst e; rw [HX.out, ← HRR.out]
          · exact HG.out.2.2 q (by omega)
      · have t1 : (re != 0) = true := by simp [he]
        have HE := Lib.hid (show gdA (some q) l = (none, re) by
          have e1 := gsE_at l p hp HG.out.2.2 (by rw [HX.out, ← HRR.out]; exact he)
          rw [HX.out, ← HRR.out] at e1
          rw [HGD.out, e1, if_neg he])
        clear he
        go_wp2
        go_ret2
        rw [HE.out]
        exact ⟨HR.out.1.trans (HB2.out.mono HR.out.1.size), .pointer none, rfl, rfl⟩
    · have e : p = l.length := by have := HG.out.1; omega
      subst e
      have HE := Lib.hid (show gdA (some q) l = conA (some q) (gsL l l.length) by rw [HGD.out, if_pos (gsE_none l HG.out.2.2)])
      obtain ⟨LA, lc, rfl, hlims⟩ := HR.out.2.lims
      have HLM := Lib.hid hlims
      have HB := Lib.hid HR.out.1
      have HZ2 := Lib.hid (HZ.out.below HR.out.1)
      clear hlims HR HG
      go_wp2_with fail
      refine (HC.out _ _ _ HZ2.out HLM.out).mono ?_
      rintro e w2 hz
      have HZ3 := Lib.hid hz
      obtain ⟨hb, v, rfl, hv⟩ := hz
      have HB3 := Lib.hid (HB.out.trans (hb.mono HB.out.size))
      clear hb hv
      go_wp2
      go_ret2
      rw [HE.out]
      exact ⟨HB3.out, HZ3.out.2⟩
theorem guards4_none (l : Value) (w : World) : Calls Tryd.prog 26 #[.pointer none, l] w fun e w' => e = .returned (.tuple #[.pointer none, .int .i64 1]) ∧ w = w' := by
  go_enter Tryd.func26, Tryd.ntmps26
  go_wp2
  go_ret2
  exact ⟨rfl, rfl⟩

theorem gds_any (v : Value) (z : Option (Nat × Mat)) (A : Option Addr) (c : Nat) (l : List (Int × Int × Int × Int)) (w : World) (h : ZoneV 126 w v z) (hI : Gds w A l) (hmax : l.length ≤ 4398046510976)
    (hk : ∀ p, p < l.length → 0 ≤ (l.getD p (0, 0, 0, 0)).2.2.1 ∧ (l.getD p (0, 0, 0, 0)).2.2.1 ≤ 255) : Calls Tryd.prog 25 #[v, .slice A l.length c] w (MakesZ w (dimN z) (gdA z l)) := by
  cases z with
  | none =>
    have h : v = .pointer none := h
    subst h
    exact (guards_none _ w).mono fun e w' ⟨he, hw⟩ => ⟨hw ▸ Below.refl _ _, .pointer none, he, rfl⟩
  | some q => exact guards_some v q A c l w h hI hmax hk
theorem gds4_any (v : Value) (z : Option (Nat × Mat)) (A : Option Addr) (c : Nat) (l : List (Int × Int × Int × Int)) (w : World) (h : RefZ w v z) (hz : KindZ z) (hI : Gds w A l) (hmax : l.length ≤ 4398046510976)
    (hk : ∀ p, p < l.length → 0 ≤ (l.getD p (0, 0, 0, 0)).2.2.1 ∧ (l.getD p (0, 0, 0, 0)).2.2.1 ≤ 255) : Calls Tryd.prog 26 #[v, .slice A l.length c] w (MakesR w (dimN z) (gdA z l)) := by
  cases z with
  | none =>
    have h : v = .pointer none := h
    subst h
    exact (guards4_none _ w).mono fun e w' ⟨he, hw⟩ => ⟨hw ▸ Below.refl _ _, .pointer none, he, rfl⟩
  | some q => exact guards4_some v q A c l w h hz hI hmax hk

end Go.Proofs.YtidcnlecgcobmaaDoor

/- What OpsGuards tells. -/
namespace Go.Proofs.YtidcnlecgcobmaaDoor
open Go Go.RowKit
set_option linter.unusedVariables false
set_option linter.unusedSimpArgs false

theorem stable_gds (A : Option Addr) (l : List (Int × Int × Int × Int)) : Stable fun w => Gds w A l := fun _ _ h hb => h.below hb
theorem stable_handg (w0 : World) (l : List (Int × Int × Int × Int)) (p : Nat) : Stable fun w => HandGR w0 l p w := fun _ _ h hb => ⟨h.1.trans (hb.mono h.1.size), h.2.later hb⟩

set_option maxRecDepth 100000 in
set_option maxHeartbeats 4000000 in
theorem opsguards_any (n : Int) (A : Option Addr) (c : Nat) (cells : List Int) (B : Option Addr) (d : Nat) (l : List (Int × Int × Int × Int)) (w : World) (hI : Ints w .i32 A cells) (hmax : cells.length ≤ 4611686018427387904)
    (hk : ∀ q, q < cells.length → -2147483648 ≤ cells.getD q 0 ∧ cells.getD q 0 ≤ 2147483647) (hL : Gds w B l) (hlmax : l.length ≤ 4398046510976)
    (hlk : ∀ p, p < l.length → 0 ≤ (l.getD p (0, 0, 0, 0)).2.2.1 ∧ (l.getD p (0, 0, 0, 0)).2.2.1 ≤ 255) (ht : Tab w) :
    Calls Tryd.prog 5 #[.int .i64 n, .slice A cells.length c, .slice B l.length d] w fun e w' => e = .returned (.bool true) ∧ Below w.heap.size w w' := by
  have HBO := Lib.hid (both04_any n A c cells w hI hmax hk)
  have HK := Lib.hid (kind_of n cells)
  have HT := Lib.hid ht
  have HL := Lib.hid hL
  have HLK := Lib.hid hlk
  unfold Both4Ends at HBO
  obtain ⟨z, hz⟩ : ∃ z, z = zOf n cells := ⟨_, rfl⟩
  rw [← hz] at HBO HK
  have HC := Lib.hid (fun v A c w h hI => gds_any v z A c l w h hI hlmax hlk)
  have HC4 := Lib.hid (fun v A c w h hI => gds4_any v z A c l w h HK.out hI hlmax hlk)
  generalize gdA z l = U at *
  obtain ⟨Um, Ue⟩ := U
  clear hI hk ht hz hL hlk
  go_enter Tryd.func5, Tryd.ntmps5
  go_wp2_with fail
  refine HBO.out.mono ?_
  rintro e w1 ⟨hb, v, v', rfl, hv, hv'⟩
  have HG1 := Lib.hid (((((Bag.start hb).add (HL.out.below hb) (stable_gds _ _)).add (HT.out.below hb) stable_tab).add hv' (stable_ref _ _)).add hv (stable_zone _ _ _))
  clear hb hv hv' HBO HT HL
  go_wp2_with fail
  refine (handgds_any B d l w1 (HG1.out.at 3 rfl) hlmax).mono ?_
  rintro e w2 ⟨rfl, hh⟩
  have HG2 := Lib.hid ((HG1.out.step hh.1).add hh (stable_handg _ _ _))
  clear hh HG1
  go_wp2_with fail
  refine (HC.out _ _ _ _ (HG2.out.at 1 rfl) (by exact ((HG2.out.at 0 rfl : HandGR w1 l (l.length + 9) w2).gds))).mono ?_
  rintro e w3 ⟨hb, a, rfl, ha⟩
  have HG3 := Lib.hid ((HG2.out.step hb).add ha (stable_zone _ _ _))
  clear hb ha HG2
  go_wp2_with fail
  refine (HC4.out _ _ _ _ (HG3.out.at 3 rfl) (HG3.out.at 5 rfl)).mono ?_
  rintro e w4 ⟨hb, b, rfl, ha⟩
  have HG4 := Lib.hid ((HG3.out.step hb).add ha (stable_ref _ _))
  clear hb ha HG3
  go_wp2_with fail
  refine (live04_any _ (HG4.out.at 5 rfl)).mono ?_
  rintro e w6 ⟨rfl, hb⟩
  have HG6 := Lib.hid (HG4.out.step hb)
  clear hb HG4
  go_wp2_with fail
  refine (same04_any _ _ _ _ (HG6.out.at 1 rfl) (HG6.out.at 0 rfl)).mono ?_
  rintro e w7 ⟨rfl, hb⟩
  have HG7 := Lib.hid (HG6.out.step hb)
  clear hb HG6
  go_wp2_with fail
  refine (same04_any _ _ _ _ (HG7.out.at 3 rfl) (HG7.out.at 4 rfl)).mono ?_
  rintro e w8 ⟨rfl, hb⟩
  have HG8 := Lib.hid (HG7.out.step hb)
  clear hb HG7
  go_wp2_with fail
  refine (keptgds_any B d l w1 _ (HG8.out.at 2 rfl) (HG8.out.at 6 rfl) hlmax).mono ?_
  rintro e w9 ⟨rfl, hb⟩
  have HG9 := Lib.hid (HG8.out.step hb)
  clear hb HG8
  go_wp2
  go_loopg [14] l.length (fun g x wr => ∃ p : Nat, x = .int .i64 p ∧ Hid (Below w9.heap.size w9 wr) ∧ Hid (p ≤ l.length ∧ g + p = l.length))
  case atStart => exact ⟨0, by simp, Below.refl _ _, by omega, by omega⟩
  case round =>
    obtain ⟨p, rfl, HR, HG⟩ := hrel
    by_cases hp : p < l.length
    · have HG10 := Lib.hid (HG9.out.step HR.out)
      obtain ⟨b', off, x, y, zz, t, rfl, hx, c1, c2, c3, c4⟩ := gds_at (HG10.out.at 6 rfl) hp
      have hzz := HLK.out p hp
      rw [hx] at hzz
      have hpi : (p : Int) < (l.length : Int) := by omega
      have HLL := Lib.hid (fun W => glim_any x y zz t W hzz)
      have HLL4 := Lib.hid (fun W => glim4_any x y zz t W hzz)
      have HLN := Lib.hid (guardP_len (x, y, zz, t))
      generalize guardP (x, y, zz, t) = r at *
      obtain ⟨rl, re⟩ := r
      clear hx hzz
      go_wp2_with fail
      refine (HLL.out _).mono ?_
      rintro e w10 ⟨hb, LA, lc, rfl, hl1⟩
      have HG11 := Lib.hid ((HG10.out.step hb).add hl1 (stable_lims _ _))
      have HB11 := Lib.hid (HR.out.trans (hb.mono HR.out.size))
      have cc : w10.cell? ⟨b', off + p * 4, none⟩ = some (.int .i64 x) ∧ w10.cell? ⟨b', off + p * 4 + 1, none⟩ = some (.int .i64 y) ∧ w10.cell? ⟨b', off + p * 4 + 2, none⟩ = some (.int .u8 zz) ∧ w10.cell? ⟨b', off + p * 4 + 3, none⟩ = some (.int .i64 t) :=
        ⟨(hb.cell (p := ⟨b', _, none⟩) (World.block_lt_of_cell? _ _ c1)).trans c1, (hb.cell (p := ⟨b', _, none⟩) (World.block_lt_of_cell? _ _ c2)).trans c2, (hb.cell (p := ⟨b', _, none⟩) (World.block_lt_of_cell? _ _ c3)).trans c3, (hb.cell (p := ⟨b', _, none⟩) (World.block_lt_of_cell? _ _ c4)).trans c4⟩
      obtain ⟨d1, d2, d3, d4⟩ := cc
      clear hb hl1 HG10 c1 c2 c3 c4
      go_wp2_with fail
      refine (HLL4.out _).mono ?_
      rintro e w11 ⟨hb, LB, lc', rfl, hl2⟩
      have HG12 := Lib.hid ((HG11.out.step hb).add hl2 (stable_lims _ _))
      have HB12 := Lib.hid (HB11.out.trans (hb.mono HB11.out.size))
      clear hb hl2 HG11 HB11 d1 d2 d3 d4
      go_wp2_with fail
      refine (samelims_eq LA lc LB lc' rl _ (HG12.out.at 1 rfl) (HG12.out.at 0 rfl) (by have := HLN.out.1; omega)).mono ?_
      rintro e w12 ⟨rfl, q, rfl⟩
      have HB13 := Lib.hid (belowN HB12.out q)
      go_wp2
      go_roundg (gk - 1)
      case measure => have h := HG.out; omega
      case rel => exact ⟨p + 1, by go_num, HB13.out, by omega, by have h := HG.out; omega⟩
    · have e : p = l.length := by have := HG.out.1; omega
      subst e
      have HE := Lib.hid (HG9.out.below.trans (HR.out.mono HG9.out.below.size))
      go_wp2
      go_ret
      exact ⟨rfl, HE.out⟩

end Go.Proofs.YtidcnlecgcobmaaDoor

/- A slice of guards that came in. -/
namespace Go.Proofs.YtidcnlecgcobmaaDoor
open Go Go.ChangeShapes Go.WideShapes Go.ChangeAt Go.RowKit
set_option linter.unusedVariables false
set_option linter.unusedSimpArgs false

section
variable {H : Type} {enc : TypeId × Value → H} {P : Program} {W W' : World}
/-- A slice of guards that came in. -/
theorem came_guards {t e : TypeId} {f0 f1 f2 f3 : Field} {v : Value} {d : DataW H} {ps : List MemPlace} {r : Reach} {base : Nat} (ht : P.underlying t = some (.slice e)) (he : P.underlying e = some (.struct #[f0, f1, f2, f3]))
    (k0 : P.underlying f0.type = some (.int .i64)) (k1 : P.underlying f1.type = some (.int .i64)) (k2 : P.underlying f2.type = some (.int .u8)) (k3 : P.underlying f3.type = some (.int .i64)) (hone : Deep.oneCellFields P #[f0, f1, f2, f3] = true) (hc : P.cellsOf e = 4)
    (hval : Value.okWide P W r base t v) (h : DataW.Trod enc P W 0 (fun _ => true) true t v d ps) :
    ∃ A c xs, v = .slice A xs.length c ∧ Gds W A xs ∧ (∀ q, q < xs.length → (Lit.int .i64 (xs.getD q (0, 0, 0, 0)).1).wf = true ∧ (Lit.int .i64 (xs.getD q (0, 0, 0, 0)).2.1).wf = true ∧ (Lit.int .u8 (xs.getD q (0, 0, 0, 0)).2.2.1).wf = true ∧ (Lit.int .i64 (xs.getD q (0, 0, 0, 0)).2.2.2).wf = true) ∧
      (xs = [] ∨ ∃ el sp, d = .slice el sp ∧ el.length = xs.length) := by
  obtain ⟨a0, len, cap, rfl⟩ := okWide_slice ht hval
  obtain ⟨fuel, hf⟩ := h
  rcases Deep.open_slice ht hf with ⟨hcs, hx⟩ | ⟨a, len', cap', m, n, D, Pl, hcs, _, hle, _, hmm, hx, hi⟩
  · simp [Value.cells] at hcs
    obtain ⟨rfl, rfl, rfl⟩ := hcs
    exact ⟨none, 0, [], rfl, fun j hj => by simp at hj, by simp, .inl rfl⟩
  · simp [Value.cells] at hcs
    obtain ⟨rfl, rfl, rfl⟩ := hcs
    have hlm : len ≤ m := by rw [hmm]; split <;> omega
    have each : ∀ i, i < m → ∃ q : Int × Int × Int × Int, W.cell? (a.add (i * 4)) = some (.int .i64 q.1) ∧ W.cell? (a.add (i * 4 + 1)) = some (.int .i64 q.2.1) ∧ W.cell? (a.add (i * 4 + 2)) = some (.int .u8 q.2.2.1) ∧ W.cell? (a.add (i * 4 + 3)) = some (.int .i64 q.2.2.2) ∧
        (Lit.int .i64 q.1).wf = true ∧ (Lit.int .i64 q.2.1).wf = true ∧ (Lit.int .u8 q.2.2.1).wf = true ∧ (Lit.int .i64 q.2.2.2).wf = true := by
      intro i him
      obtain ⟨cs', h1, h2⟩ := hi i him
      rw [hc] at h1
      obtain ⟨_, hlen, hcell⟩ := World.cells?_some h1
      obtain ⟨xs, k, _, hxy, _, hxl, hfd⟩ := DataW.trod_struct he h2
      obtain ⟨o0, c0⟩ := Deep.hone_of hone 0 f0 rfl
      obtain ⟨o1, c1⟩ := Deep.hone_of hone 1 f1 rfl
      obtain ⟨o2, c2⟩ := Deep.hone_of hone 2 f2 rfl
      obtain ⟨o3, c3⟩ := Deep.hone_of hone 3 f3 rfl
      match xs, hxl, cs', hlen with
      | [y0, y1, y2, y3], _, [v0, v1, v2, v3], _ =>
        have g0 := hfd 0 f0 rfl
        have g1 := hfd 1 f1 rfl
        have g2 := hfd 2 f2 rfl
        have g3 := hfd 3 f3 rfl
        simp [o0, o1, o2, o3, c0, c1, c2, c3] at g0 g1 g2 g3
        have e0 := hcell 0 (by omega)
        have e1 := hcell 1 (by omega)
        have e2 := hcell 2 (by omega)
        have e3 := hcell 3 (by omega)
        rw [Deep.add_add] at e0 e1 e2 e3
        obtain ⟨z0, q0, _, w0⟩ := DataW.trod_int k0 g0
        obtain ⟨z1, q1, _, w1⟩ := DataW.trod_int k1 g1
        obtain ⟨z2, q2, _, w2⟩ := DataW.trod_int k2 g2
        obtain ⟨z3, q3, _, w3⟩ := DataW.trod_int k3 g3
        simp at q0 q1 q2 q3
        subst q0 q1 q2 q3
        exact ⟨(z0, z1, z2, z3), by simpa using e0, by simpa using e1, by simpa using e2, by simpa using e3, w0, w1, w2, w3⟩
    obtain ⟨q, hq⟩ := Deep.choose_lt each
    simp only [Prod.mk.injEq] at hx
    refine ⟨some a, cap, (List.range len).map q, by simp, ?_, ?_, .inr ⟨_, _, hx.1, by simp⟩⟩
    · intro j hj
      simp only [List.length_map, List.length_range] at hj
      obtain ⟨h0, h1, h2, h3, _⟩ := hq j (by omega)
      have hsp : a.spot = none := by
        have := World.cell?_spot (hq 0 (by omega)).1
        simpa [Addr.add] using this
      obtain ⟨b, off, spot⟩ := a
      simp only at hsp
      subst hsp
      have eg : ((List.range len).map q).getD j (0, 0, 0, 0) = q j := by simp [List.getD_eq_getElem?_getD, hj]
      rw [eg]
      have ea : ∀ k, (⟨b, off, none⟩ : Addr).add k = ⟨b, off + k, none⟩ := fun k => by unfold Addr.add; split <;> simp_all
      rw [ea] at h0 h1 h2 h3
      exact ⟨b, off, rfl, h0, by rw [Nat.add_assoc]; exact h1, by rw [Nat.add_assoc]; exact h2, by rw [Nat.add_assoc]; exact h3⟩
    · intro j hj
      simp only [List.length_map, List.length_range] at hj
      have eg : ((List.range len).map q).getD j (0, 0, 0, 0) = q j := by simp [List.getD_eq_getElem?_getD, hj]
      rw [eg]
      exact (hq j (by omega)).2.2.2.2
theorem came_cmp {xs : List (Int × Int × Int × Int)} (h : ∀ q, q < xs.length → (Lit.int .i64 (xs.getD q (0, 0, 0, 0)).1).wf = true ∧ (Lit.int .i64 (xs.getD q (0, 0, 0, 0)).2.1).wf = true ∧ (Lit.int .u8 (xs.getD q (0, 0, 0, 0)).2.2.1).wf = true ∧ (Lit.int .i64 (xs.getD q (0, 0, 0, 0)).2.2.2).wf = true) :
    ∀ q, q < xs.length → 0 ≤ (xs.getD q (0, 0, 0, 0)).2.2.1 ∧ (xs.getD q (0, 0, 0, 0)).2.2.1 ≤ 255 := fun q hq => by
  exact bounds_u8 (h q hq).2.2.1
theorem came_short4 {ts : List TypeId} {ds : List (DataW H)} {j : Nat} {t e : TypeId} {d : DataW H} {xs : List (Int × Int × Int × Int)} {m : Nat} (hsz : (DataW.weightsEach P ts ds).all (· ≤ reachBytes) = true) (ht : ts[j]? = some t) (hd : ds[j]? = some d)
    (hu : P.underlying t = some (.slice e)) (hm : P.bytesOf e = m) (h : xs = [] ∨ ∃ el sp, d = .slice el sp ∧ el.length = xs.length) : xs.length * m ≤ 140737488351232 := by
  rcases h with rfl | ⟨el, sp, rfl, he⟩
  · simp
  · have h1 := sized_slice hsz ht hd hu
    rw [hm] at h1
    have h2 : el.length * m ≤ (el.length + sp.length) * m := Nat.mul_le_mul_right _ (by omega)
    rw [← he]
    exact Nat.le_trans h2 h1
end

end Go.Proofs.YtidcnlecgcobmaaDoor
