/- Texts of ours, laid together: Mi, Eh, Fe, Po, Pt, Pz, Ba, Bs, Bc, Bd, Bp, Pk, Bq, Ok. -/
import Derived.Deep.OwnRows
import Derived.StillTailTactics
import Derived.Lib.ItoaNum
import Derived.Lib.ItoaLen
import Derived.Lib.AtoiTie
import Derived.Lib.Strings
import Derived.Deep.RegionWith
import Derived.Deep.RegionHeld3
import Derived.Laws.Rows
import Derived.Laws.CopyOwn
import Derived.Test.YtncgapnooabdgaaDoorShelf
import Derived.Lib.AppendIntMem
import Derived.Lib.LaidTab
import Derived.Test.YtncgapnooabdgaaDoorMg5
/- Whole numbers in memory: a copy with marked room behind its end; it is as it was. -/
namespace Go.Proofs.YtncgapnooabdgaaDoor
open Go Go.RowKit
set_option linter.unusedVariables false
set_option linter.unusedSimpArgs false

theorem infoN : (Tryd.prog.info? 3).map (fun i => (i.zero, i.size, i.bytes)) = some (some (.int .i64 0), 1, 8) := by kernel_rfl
/-- The marks behind a copy. -/
def marksI : List Int := [-700, -701, -702, -703, -704, -705, -706, -707, -708]
/-- The copy while it is made: p places of it. -/
def handI (l : List Int) (p : Nat) : List Int := (l ++ marksI).take p ++ List.replicate (l.length + 9 - p) 0
theorem handI_length (l : List Int) (p : Nat) (hp : p ≤ l.length + 9) : (handI l p).length = l.length + 9 := by
  unfold handI
  rw [List.length_append, List.length_take, List.length_append, List.length_replicate, show marksI.length = 9 from rfl]
  omega
theorem handI_next (l : List Int) (p : Nat) (hp : p < l.length + 9) (x : Int) (hx : (l ++ marksI).getD p 0 = x) : (handI l p).set p x = handI l (p + 1) := by
  have hl : (l ++ marksI).length = l.length + 9 := by rw [List.length_append]; rfl
  have ht : ((l ++ marksI).take p).length = p := by rw [List.length_take]; omega
  unfold handI
  rw [List.set_append_right _ _ (by omega), ht, Nat.sub_self, show l.length + 9 - p = (l.length + 9 - (p + 1)) + 1 by omega, List.replicate_succ, List.set_cons_zero, List.take_add_one]
  have e : (l ++ marksI)[p]? = some x := by
    rw [← hx, List.getD_eq_getElem?_getD, List.getElem?_eq_getElem (by omega)]; rfl
  rw [e]
  simp
theorem handI_done (l : List Int) : handI l (l.length + 9) = l ++ marksI := by
  unfold handI
  rw [Nat.sub_self, List.take_of_length_le (by rw [List.length_append]; exact Nat.le_refl _)]
  simp
theorem hand_left (l : List Int) (p : Nat) (hp : p < l.length) : (l ++ marksI).getD p 0 = l.getD p 0 := by
  rw [List.getD_eq_getElem?_getD, List.getElem?_append_left hp, ← List.getD_eq_getElem?_getD]
theorem marks_at (d : Nat) (hd : d < 9) : marksI.getD d 0 = -700 - (d : Int) := by
  match d, hd with
  | 0, _ | 1, _ | 2, _ | 3, _ | 4, _ | 5, _ | 6, _ | 7, _ | 8, _ => rfl
theorem hand_right (l : List Int) (p : Nat) (hp : l.length ≤ p) (h9 : p < l.length + 9) : (l ++ marksI).getD p 0 = -700 - (p : Int) + (l.length : Int) := by
  rw [List.getD_eq_getElem?_getD, List.getElem?_append_right hp, ← List.getD_eq_getElem?_getD, marks_at _ (by omega)]
  omega
theorem made_row (w : World) (e : TypeId) (N : Nat) : RowAt (w.alloc (.cells (madeCells #[.int .i64 0] N) e)) w.heap.size e .i64 (List.replicate N 0) := by
  refine ⟨_, heap_alloc_new _ _, ?_⟩
  refine List.ext_getElem? fun i => ?_
  rw [List.length_replicate]
  by_cases h : i < N
  · simp [madeCells, vals, h, Nat.mod_one]
  · rw [List.getElem?_eq_none (by simp; omega), List.getElem?_eq_none (by simp [vals]; omega)]
def HandIR (w0 : World) (l : List Int) (p : Nat) (wr : World) : Prop := Below w0.heap.size w0 wr ∧ RowAt wr w0.heap.size 3 .i64 (handI l p)
theorem HandIR.next {w0 wr : World} {l : List Int} {p : Nat} (h : HandIR w0 l p wr) (hp : p < l.length + 9) (x : Int) (hx : (l ++ marksI).getD p 0 = x) : HandIR w0 l (p + 1) (wr.setCell ⟨w0.heap.size, p, none⟩ (.int .i64 x)) :=
  ⟨h.1.setCell (p := ⟨w0.heap.size, _, none⟩) (Nat.le_refl _) _, by rw [← handI_next l p hp x hx]; exact h.2.set p x⟩

set_option maxHeartbeats 1000000 in
set_option maxRecDepth 100000 in
theorem handints_any (A : Option Addr) (c : Nat) (l : List Int) (w : World) (hI : Ints w .i64 A l) (hmax : l.length ≤ 17592186043904) :
    Calls Tryd.prog 11 #[.slice A l.length c] w fun e w' => e = .returned (.slice (some ⟨w.heap.size, 0, none⟩) l.length (l.length + 9)) ∧ HandIR w l (l.length + 9) w' := by
  have HI := Lib.hid hI
  obtain ⟨i0, hi1, hz0, hz1, hz2⟩ := info_parts infoN
  have hmk := fun w => run_make (P := Tryd.prog) w 23 3 i0 (.int .i64 0) Tryd.underlying23 hi1 hz0 .i64 .i64 ((l.length : Int) + 9) ((l.length : Int) + 9) (by omega) (Int.le_refl _) (by rw [hz2]; omega) (by omega)
  rw [hz1, show ((l.length : Int) + 9).toNat = l.length + 9 by omega] at hmk
  have HS := Lib.hid (show HandIR w l 0 (w.alloc (.cells (madeCells #[.int .i64 0] ((l.length + 9))) 3)) from ⟨(Below.refl _ _).alloc (Nat.le_refl _) _, by unfold handI; simpa using made_row w 3 (l.length + 9)⟩)
  clear hI hi1 hz0 hz1 hz2
  go_enter Tryd.func11, Tryd.ntmps11
  go_wp2
  generalize w.alloc (.cells (madeCells #[.int .i64 0] ((l.length + 9))) 3) = w1 at *
  go_loopg [4] l.length (fun g v wr => ∃ p : Nat, v = .int .i64 p ∧ Hid (HandIR w l p wr) ∧ Hid (p ≤ l.length ∧ g + p = l.length))
  case atStart => exact ⟨0, by simp, HS.out, by omega, by omega⟩
  case round =>
    clear HS
    obtain ⟨p, rfl, HR, HG⟩ := hrel
    by_cases hp : p < l.length
    · obtain ⟨b, off, rfl, c1⟩ := HI.out.below HR.out.1 p hp
      obtain ⟨x, hx⟩ : ∃ x, x = l.getD p 0 := ⟨_, rfl⟩
      rw [← hx] at c1
      have d1 := HR.out.2.cell p (by rw [handI_length _ _ (by omega)]; omega)
      have f1 := HR.out.2.frozen p
      have hpi : (p : Int) < (l.length : Int) + 9 := by omega
      have hlt := HR.out.2.lt
      have HN := Lib.hid (HR.out.next (by omega) x (by rw [hand_left _ _ hp, hx]))
      clear hx
      go_wp2
      go_roundg (gk - 1)
      case measure => have h := HG.out; omega
      case rel => exact ⟨p + 1, by go_num, HN.out, by omega, by have h := HG.out; omega⟩
    · have e : p = l.length := by have := HG.out.1; omega
      subst e
      have HR0 := Lib.hid HR.out
      clear HR HG
      go_wp2
      go_loopg [5] 9 (fun g v wr => ∃ p : Nat, v = .int .i64 p ∧ Hid (HandIR w l p wr) ∧ Hid (l.length ≤ p ∧ p ≤ l.length + 9 ∧ g + p = l.length + 9))
      case atStart => exact ⟨l.length, by simp, HR0.out, by omega, by omega, by omega⟩
      case round =>
        clear HR0
        obtain ⟨p, rfl, HR, HG⟩ := hrel
        by_cases hp : p < l.length + 9
        · have d1 := HR.out.2.cell p (by rw [handI_length _ _ (by omega)]; omega)
          have f1 := HR.out.2.frozen p
          have hpi : (p : Int) < (l.length : Int) + 9 := by omega
          have hlt := HR.out.2.lt
          have g1 : IntKind.i64.wrap (-700 - (p : Int)) = -700 - (p : Int) := IntWalk.i64_in _ (by omega)
          have g2 : IntKind.i64.wrap (-700 - (p : Int) + (l.length : Int)) = -700 - (p : Int) + (l.length : Int) := IntWalk.i64_in _ (by omega)
          have HN := Lib.hid (HR.out.next hp (-700 - (p : Int) + (l.length : Int)) (hand_right _ _ (by have := HG.out.1; omega) hp))
          go_wp2
          go_roundg (gk - 1)
          case measure => have h := HG.out; omega
          case rel => exact ⟨p + 1, by go_num, HN.out, by have h := HG.out; omega, by omega, by have h := HG.out; omega⟩
        · have e : p = l.length + 9 := by have := HG.out; omega
          subst e
          have hpi : ¬ (((l.length + 9 : Nat) : Int) < (l.length : Int) + 9) := by omega
          go_wp2
          go_ret
          exact ⟨by first | rfl | (congr 2; omega), HR.out⟩
/-- A copy with its marks, in block g. -/
def HandN (w : World) (g : Nat) (l : List Int) : Prop := RowAt w g 3 .i64 (handI l (l.length + 9))
theorem HandN.ints {w : World} {g : Nat} {l : List Int} (h : HandN w g l) : Ints w .i64 (some ⟨g, 0, none⟩) l := fun j hj => by
  have h1 := h.cell j (by rw [handI_length _ _ (Nat.le_refl _)]; omega)
  rw [handI_done, hand_left _ _ hj] at h1
  exact ⟨g, 0, rfl, by rw [Nat.zero_add]; exact h1⟩
theorem stable_handn (g : Nat) (l : List Int) : ∀ w w' : World, HandN w g l → Below w.heap.size w w' → HandN w' g l := fun _ _ h hb => h.later hb
theorem HandIR.ints {w0 w : World} {l : List Int} (h : HandIR w0 l (l.length + 9) w) : Ints w .i64 (some ⟨w0.heap.size, 0, none⟩) l := HandN.ints h.2
/-- What HandInts tells. -/
def HandEnds (w0 : World) (l : List Int) (e : Ending) (w' : World) : Prop := ∃ g, e = .returned (.slice (some ⟨g, 0, none⟩) l.length (l.length + 9)) ∧ Below w0.heap.size w0 w' ∧ HandN w' g l
theorem hand_g (A : Option Addr) (c : Nat) (l : List Int) (w : World) (hI : Ints w .i64 A l) (hmax : l.length ≤ 17592186043904) : Calls Tryd.prog 11 #[.slice A l.length c] w (HandEnds w l) :=
  (handints_any A c l w hI hmax).mono fun e w' ⟨he, hh⟩ => ⟨_, he, hh.1, hh.2⟩
theorem HandIR.later {w0 w w' : World} {l : List Int} {p : Nat} (h : HandIR w0 l p w) (hb : Below w.heap.size w w') : HandIR w0 l p w' := ⟨h.1.trans (hb.mono h.1.size), h.2.later hb⟩

set_option maxRecDepth 100000 in
set_option maxHeartbeats 1000000 in
theorem sameints_eq (A : Option Addr) (c : Nat) (B : Option Addr) (d : Nat) (l : List Int) (w : World) (hI : Ints w .i64 A l) (hI' : Ints w .i64 B l) (hmax : l.length ≤ 4611686018427387904) :
    Calls Tryd.prog 25 #[.slice A l.length c, .slice B l.length d] w fun e w' => e = .returned (.bool true) ∧ ∃ q, w' = w.drewN q := by
  have HI := Lib.hid hI
  have HI' := Lib.hid hI'
  have t1 : ((l.length : Int) != (l.length : Int)) = false := by simp
  clear hI hI'
  go_enter Tryd.func25, Tryd.ntmps25
  go_wp2
  go_loopg [5] l.length (fun g v wr => ∃ p : Nat, v = .int .i64 p ∧ (∃ q, wr = w.drewN q) ∧ Hid (p ≤ l.length ∧ g + p = l.length))
  case atStart => exact ⟨0, by simp, ⟨0, rfl⟩, by omega, by omega⟩
  case round =>
    obtain ⟨p, rfl, ⟨q, rfl⟩, HG⟩ := hrel
    by_cases hp : p < l.length
    · obtain ⟨b, off, rfl, c1⟩ := HI.out p hp
      obtain ⟨b', off', rfl, d1⟩ := HI'.out p hp
      have hpi : (p : Int) < (l.length : Int) := by omega
      obtain ⟨x, hx⟩ : ∃ x, x = l.getD p 0 := ⟨_, rfl⟩
      rw [← hx] at c1 d1
      clear hx
      go_wp2_with fail
      go_quiet (fail)
      go_wp2
      go_roundg (gk - 1)
      case measure => have h := HG.out; omega
      case rel => exact ⟨p + 1, by go_num, ⟨_, rfl⟩, by omega, by have h := HG.out; omega⟩
    · have e : p = l.length := by have := HG.out.1; omega
      subst e
      go_wp2
      go_ret
      exact ⟨rfl, ⟨_, rfl⟩⟩

set_option maxRecDepth 100000 in
set_option maxHeartbeats 1000000 in
theorem kept_g (B : Option Addr) (d : Nat) (l : List Int) (g : Nat) (w : World) (hh : HandN w g l) (hI : Ints w .i64 B l) (hmax : l.length ≤ 17592186043904) :
    Calls Tryd.prog 20 #[.slice (some ⟨g, 0, none⟩) l.length (l.length + 9), .slice B l.length d] w fun e w' => e = .returned (.bool true) ∧ Below w.heap.size w w' := by
  have HH := Lib.hid hh
  have HS := Lib.hid (sameints_eq (some ⟨g, 0, none⟩) (l.length + 9) B d l w hh.ints hI (by omega))
  clear hh hI
  go_enter Tryd.func20, Tryd.ntmps20
  go_wp2_with fail
  refine HS.out.mono ?_
  rintro e w1 ⟨rfl, q, rfl⟩
  have HT := Lib.hid (show RowAt (w.drewN q) g 3 .i64 (handI l (l.length + 9)) from HH.out.drewN q)
  have HB := Lib.hid (belowN (Below.refl w.heap.size w) q)
  generalize w.drewN q = w1 at *
  clear HS HH
  go_wp2
  go_loopg [6] 9 (fun g v wr => ∃ p : Nat, v = .int .i64 p ∧ w1 = wr ∧ Hid (l.length ≤ p ∧ p ≤ l.length + 9 ∧ g + p = l.length + 9))
  case atStart => exact ⟨l.length, by simp, rfl, by omega, by omega, by omega⟩
  case round =>
    obtain ⟨p, rfl, rfl, HG⟩ := hrel
    by_cases hp : p < l.length + 9
    · have c1 := HT.out.cell p (by rw [handI_length _ _ (Nat.le_refl _)]; omega)
      rw [handI_done, hand_right _ _ (by have := HG.out.1; omega) hp] at c1
      have hpi : (p : Int) < (l.length : Int) + 9 := by omega
      have g1 : IntKind.i64.wrap (-700 - (p : Int)) = -700 - (p : Int) := IntWalk.i64_in _ (by omega)
      have g2 : IntKind.i64.wrap (-700 - (p : Int) + (l.length : Int)) = -700 - (p : Int) + (l.length : Int) := IntWalk.i64_in _ (by omega)
      go_wp2
      go_roundg (gk - 1)
      case measure => have h := HG.out; omega
      case rel => exact ⟨p + 1, by go_num, rfl, by have h := HG.out; omega, by omega, by have h := HG.out; omega⟩
    · have e : p = l.length + 9 := by have := HG.out; omega
      subst e
      have hpi : ¬ (((l.length + 9 : Nat) : Int) < (l.length : Int) + 9) := by omega
      go_wp2
      go_ret
      exact ⟨rfl, HB.out⟩
theorem keptints_any (B : Option Addr) (d : Nat) (l : List Int) (w0 : World) (w : World) (hh : HandIR w0 l (l.length + 9) w) (hI : Ints w .i64 B l) (hmax : l.length ≤ 17592186043904) :
    Calls Tryd.prog 20 #[.slice (some ⟨w0.heap.size, 0, none⟩) l.length (l.length + 9), .slice B l.length d] w fun e w' => e = .returned (.bool true) ∧ Below w.heap.size w w' := kept_g B d l _ w hh.2 hI hmax

end Go.Proofs.YtncgapnooabdgaaDoor

/- LU and Max of the program. -/
namespace Go.Proofs.YtncgapnooabdgaaDoor
open Go Go.RowKit
set_option linter.unusedVariables false
set_option linter.unusedSimpArgs false

/-- The clocks held against nothing, so far. -/
def LcR (w0 : World) (lo up : List Int) (p : Nat) (v : Value) (wr : World) : Prop := Below w0.heap.size w0 wr ∧ wr.ownsRow w0.heap.size 3 1 v (freeC lo up p).length (vals .i64 (freeC lo up p))
theorem LcR.own {w0 wr : World} {lo up : List Int} {p : Nat} {v : Value} (h : LcR w0 lo up p v wr) : OwnI wr w0.heap.size 3 .i64 v (freeC lo up p) := h.2
theorem freeC_short {lo up : List Int} : ∀ p, (freeC lo up p).length ≤ p
  | 0 => by simp [freeC]
  | p + 1 => by
    have := freeC_short (lo := lo) (up := up) p
    unfold freeC
    split
    · simp; exact this
    · omega
theorem LcR.next {w0 wr w1 : World} {lo up : List Int} {p : Nat} {v v' : Value} {o : Obj} (h : LcR w0 lo up p v wr) (hc : lo.getD p 0 < 0 ∧ up.getD p 0 < 0)
    (hown : w1.ownsRow w0.heap.size 3 1 v' ((freeC lo up p).length + 1) (vals .i64 (freeC lo up p) ++ [.int .i64 ((p : Int) + 1)])) (hg : (wr.alloc o).grownBy w1 v.ownBlock) : LcR w0 lo up (p + 1) v' w1 := by
  refine ⟨(h.1.alloc h.1.size o).grown hg (by have := h.1.size; simp; omega) (fun k hk => (h.own.lt k hk).1), ?_⟩
  have e : freeC lo up (p + 1) = freeC lo up p ++ [(p : Int) + 1] := by
    show (if lo.getD p 0 < 0 ∧ up.getD p 0 < 0 then freeC lo up p ++ [(p : Int) + 1] else freeC lo up p) = _
    rw [if_pos hc]
  rw [e, List.length_append, show vals .i64 (freeC lo up p ++ [(p : Int) + 1]) = vals .i64 (freeC lo up p) ++ [.int .i64 ((p : Int) + 1)] by simp [vals]]
  exact hown
theorem LcR.same {w0 wr : World} {lo up : List Int} {p : Nat} {v : Value} (h : LcR w0 lo up p v wr) (hc : ¬ (lo.getD p 0 < 0 ∧ up.getD p 0 < 0)) : LcR w0 lo up (p + 1) v wr := by
  have e : freeC lo up (p + 1) = freeC lo up p := by
    show (if lo.getD p 0 < 0 ∧ up.getD p 0 < 0 then freeC lo up p ++ [(p : Int) + 1] else freeC lo up p) = _
    rw [if_neg hc]
  unfold LcR
  rw [e]
  exact h

set_option maxRecDepth 100000 in
set_option maxHeartbeats 1000000 in
theorem lu_nil (A : Option Addr) (c : Nat) (lo : List Int) (B : Option Addr) (d : Nat) (up : List Int) (w : World) : Calls Tryd.prog 12 #[.pointer none, .slice A lo.length c, .slice B up.length d] w fun e w' => e = .returned (.tuple #[.pointer none, .int .i64 1]) ∧ w = w' := by
  go_enter Tryd.func12, Tryd.ntmps12
  go_wp2
  go_ret2
  exact ⟨rfl, rfl⟩
def luA (z : Option (Nat × Mat)) (lo up : List Int) : Option Mat × Int := match z with | none => (none, 1) | some (k, m) => luP k m lo up

set_option maxRecDepth 100000 in
set_option maxHeartbeats 2000000 in
theorem lu_zone (v : Value) (n : Nat) (m : Mat) (A : Option Addr) (c : Nat) (lo : List Int) (B : Option Addr) (d : Nat) (up : List Int) (w : World) (h : ZoneV 88 w v (some (n, m))) (hq : GoneK n m) (hI : Ints w .i64 A lo) (hJ : Ints w .i64 B up)
    (hl : lo.length ≤ 4611686018427387904) (hu : up.length ≤ 4611686018427387904) :
    Calls Tryd.prog 12 #[v, .slice A lo.length c, .slice B up.length d] w (MakesZ w n (luP n m lo up)) := by
  have HQ := Lib.hid hq
  have HI := Lib.hid hI
  have HJ := Lib.hid hJ
  have HZ := Lib.hid h
  have HE := Lib.hid (fun w h => xempty_any v (some (n, m)) w h)
  have HC := Lib.hid (fun w h => cells_any v (some (n, m)) w h)
  rw [show cellsP (some (n, m)) = flat n m from rfl] at HC
  have HD := Lib.hid (fun w h => odim_any v (some (n, m)) w h)
  rw [show dimN (some (n, m)) = n from rfl] at HD
  have hn : n ≤ 8 := by obtain ⟨_, _, h, _⟩ := h; exact h
  obtain ⟨b, rfl, _, hrm, hm⟩ := h
  have HRM := Lib.hid hrm
  have HR1 := Lib.hid (right5_any b n m A c lo w hm hI hl)
  have HR2 := Lib.hid (right5_any b n m B d up w hm hJ hu)
  obtain ⟨e1, he1⟩ : ∃ e1, e1 = rightE n lo := ⟨_, rfl⟩
  obtain ⟨e2, he2⟩ : ∃ e2, e2 = rightE n up := ⟨_, rfl⟩
  rw [← he1] at HR1
  rw [← he2] at HR2
  have HE1 := Lib.hid he1
  have HE2 := Lib.hid he2
  clear hq hI hJ hrm hm he1 he2
  by_cases h1 : e1 = 0
  · subst h1
    by_cases h2 : e2 = 0
    · subst h2
      have HL0 := Lib.hid (rightE_zero HE1.out.symm)
      have HU0 := Lib.hid (rightE_zero HE2.out.symm)
      rcases HQ.out with hz | hz
      · have HEQ := Lib.hid (show luP n m lo up = ofP n (flat n m) by unfold luP; rw [← HE1.out, ← HE2.out, if_neg (by omega), if_neg (by omega), if_pos (by rw [hz]; decide)])
        have HZE := Lib.hid (show emptyP (some (n, m)) = true by rw [hz]; rfl)
        have hlen : (flat n m).length = (n + 1) * (n + 1) := flat_length n m
        obtain ⟨N, hN⟩ : ∃ N, N = (n + 1) * (n + 1) := ⟨_, rfl⟩
        have hN81 : N ≤ 81 := by
          have := Nat.mul_le_mul (show n + 1 ≤ 9 by omega) (show n + 1 ≤ 9 by omega)
          omega
        have hN0 : 0 < N := by rw [hN]; exact Nat.mul_pos (by omega) (by omega)
        rw [← hN] at hlen
        have HLEN := Lib.hid hlen
        clear hz hlen hN
        go_enter Tryd.func12, Tryd.ntmps12
        go_wp2_with fail
        refine HR1.out.mono ?_
        rintro e w1 ⟨rfl, rfl⟩
        go_wp2_with fail
        refine HR2.out.mono ?_
        rintro e w1 ⟨rfl, rfl⟩
        go_wp2_with fail
        refine (HE.out _ HZ.out).mono ?_
        rw [HZE.out]
        rintro e w1 ⟨rfl, rfl⟩
        go_wp2_with fail
        refine (HD.out _ HZ.out).mono ?_
        rintro e w1 ⟨rfl, rfl⟩
        go_wp2_with fail
        refine (HC.out _ HZ.out).mono ?_
        rintro e w3 ⟨lv, rfl, hb, ho⟩
        obtain ⟨g1, cp1, hv, _, hrow⟩ := ho.row (by rw [HLEN.out]; exact hN0)
        rw [HLEN.out] at hv
        subst hv
        have HB3 := Lib.hid hb
        have HOF := Lib.hid (gone_of HRM.out HLEN.out hN81 (cap := cp1) hrow)
        clear hb ho hrow
        go_wp2_with fail
        refine HOF.out.mono ?_
        rintro e w4 hz
        have HZ4 := Lib.hid hz
        obtain ⟨hb, v, rfl, hv⟩ := hz
        have HB4 := Lib.hid (HB3.out.trans (hb.mono HB3.out.size))
        clear hb hv
        go_wp2
        go_ret2
        rw [HEQ.out]
        exact ⟨HB4.out, HZ4.out.2⟩
      · have hln := HL0.out.1
        have hun := HU0.out.1
        have hgf := gone_full (l := freeC lo up lo.length) hn (freeC_clk _ (by omega)) hz
        have HEQ := Lib.hid (show luP n m lo up = ofP n (flat n (offM (widP lo up) (baseM n m lo up))) by
          unfold luP
          rw [← HE1.out, ← HE2.out, if_neg (by omega), if_neg (by omega), if_neg (by rw [hz.full.one 0 (Nat.zero_le _)]; omega), hgf]
          rfl)
        have HZE := Lib.hid (show emptyP (some (n, m)) = false from hz.notEmpty)
        have hbc := base_closed (lo := lo) (up := up) hn (by omega) hz
        have HRW := Lib.hid (wide_ok HL0.out.2 HU0.out.2 hbc).1.right
        have HGO := Lib.hid (fun v A c w h hI => gone_any v (some (n, m)) A c (freeC lo up lo.length) w h (fun n' m' e => by cases e; exact .inr hz) hI (by have := freeC_short (lo := lo) (up := up) lo.length; omega))
        rw [show goneA (some (n, m)) (freeC lo up lo.length) = (some (baseM n m lo up), 0) from hgf, show dimN (some (n, m)) = n from rfl] at HGO
        have HEA := Lib.hid (fun v w h hI hJ => each_widened v n (baseM n m lo up) A c lo B d up w h hI hJ hln hun HL0.out.2 HU0.out.2 HRW.out)
        have HLL := Lib.hid hln
        have HUU := Lib.hid hun
        have hL8 : lo.length ≤ 8 := by omega
        have hU8 : up.length ≤ 8 := by omega
        have hLU : lo.length = up.length := by omega
        have HLU := Lib.hid hLU
        have hle : lo.length ≤ up.length := by omega
        have hle2 : (lo.length : Int) ≤ (up.length : Int) := by omega
        obtain ⟨i0, hi1, hz0, hz1, hz2⟩ := info_parts infoN
        have HInf := Lib.hid (And.intro hi1 (And.intro hz0 (And.intro hz1 hz2)))
        have HS := Lib.hid (show LcR w lo up 0 (.slice none 0 0) w from ⟨Below.refl _ _, World.ownsRow_nil _ _ _ _⟩)
        clear hi1 hz0 hz1 hz2 hln hun hgf hbc hz hLU
        go_enter Tryd.func12, Tryd.ntmps12
        go_wp2_with fail
        refine HR1.out.mono ?_
        rintro e w1 ⟨rfl, rfl⟩
        go_wp2_with fail
        refine HR2.out.mono ?_
        rintro e w1 ⟨rfl, rfl⟩
        go_wp2_with fail
        refine (HE.out _ HZ.out).mono ?_
        rw [HZE.out]
        rintro e w1 ⟨rfl, rfl⟩
        go_wp2
        go_loopg [10, 38] lo.length (fun q cv v wr => ∃ p : Nat, v = .int .i64 p ∧ Hid (LcR w lo up p cv wr) ∧ Hid (p ≤ lo.length ∧ q + p = lo.length))
        case atStart => exact ⟨0, by simp, HS.out, by omega, by omega⟩
        case round =>
          clear HS
          obtain ⟨p, rfl, HR, HP⟩ := hrel
          by_cases hp : p < lo.length
          · obtain ⟨b1, o1, rfl, c1⟩ := HI.out.below HR.out.1 p hp
            obtain ⟨b2, o2, rfl, c2⟩ := HJ.out.below HR.out.1 p (by omega)
            have hpi : (p : Int) < (lo.length : Int) := by omega
            have hpj : (p : Int) < (up.length : Int) := by omega
            have hp2 : p < up.length := by omega
            have HNY := Lib.hid (fun h v' w1 o hown hgrow => HR.out.next (v' := v') (w1 := w1) (o := o) h hown hgrow)
            have HNN := Lib.hid (fun h => HR.out.same h)
            have hfs := freeC_short (lo := lo) (up := up) p
            obtain ⟨x, hx⟩ : ∃ x, x = lo.getD p 0 := ⟨_, rfl⟩
            obtain ⟨y, hy⟩ : ∃ y, y = up.getD p 0 := ⟨_, rfl⟩
            rw [← hx] at c1 HNY HNN
            rw [← hy] at c2 HNY HNN
            clear hx hy
            by_cases hx : x < 0
            · have d1 : decide (x < 0) = true := decide_eq_true hx
              by_cases hy : y < 0
              · have d2 : decide (y < 0) = true := decide_eq_true hy
                have HXY := Lib.hid (And.intro hx hy)
                clear hx hy
                go_wp2_with (at_builtin; refine wpList_append_own _ rfl _ _ 23 rfl w.heap.size 3 i0 (.int .i64 0) 1 8 Tryd.underlying23 HInf.out.1 HInf.out.2.1 HInf.out.2.2.1 HInf.out.2.2.2 rfl (by decide) _ _ _ rfl (HR.out.2.alloc _) ⟨wr.heap.size, 0, none⟩ 1 1 [.int .i64 ((p : Int) + 1)] rfl rfl (cell_one_new _ _ _) (by intro u hu; simp at hu; subst hu; rfl) ?c3 ?c4 ?c5 ?_)
                case c3 => unfold maxLen; omega
                case c4 => omega
                case c5 => have := HR.out.1.size; simp; omega
                intro v' w1 hown hgrow _
                have HN := Lib.hid (HNY.out HXY.out _ _ _ hown hgrow)
                clear hown hgrow
                go_wp2
                go_roundg (gk - 1)
                case measure => have h := HP.out; omega
                case rel => exact ⟨p + 1, by go_num, HN.out, by omega, by have h := HP.out; omega⟩
              · have d2 : decide (y < 0) = false := decide_eq_false hy
                have HN := Lib.hid (HNN.out (by omega))
                clear hx hy
                go_wp2
                go_roundg (gk - 1)
                case measure => have h := HP.out; omega
                case rel => exact ⟨p + 1, by go_num, HN.out, by omega, by have h := HP.out; omega⟩
            · have d1 : decide (x < 0) = false := decide_eq_false hx
              have HN := Lib.hid (HNN.out (by omega))
              clear hx
              go_wp2
              go_roundg (gk - 1)
              case measure => have h := HP.out; omega
              case rel => exact ⟨p + 1, by go_num, HN.out, by omega, by have h := HP.out; omega⟩
          · have e : p = lo.length := by have := HP.out.1; omega
            subst e
            obtain ⟨A2, cap2, hv, hi2⟩ := HR.out.own.slice
            subst hv
            have HB := Lib.hid HR.out.1
            have HZ2 := Lib.hid (HZ.out.below HB.out)
            have HI2 := Lib.hid hi2
            clear hi2 HP HR
            go_wp2_with fail
            refine (HGO.out _ _ _ _ HZ2.out HI2.out).mono ?_
            rintro e w3 ⟨hb, v3, rfl, hv3⟩
            have HB3 := Lib.hid (HB.out.trans (hb.mono HB.out.size))
            have HV3 := Lib.hid (show ZoneV 88 w3 v3 (some (n, baseM n m lo up)) from hv3)
            clear hb hv3
            go_wp2_with fail
            refine (HEA.out _ _ HV3.out (HI.out.below HB3.out) (HJ.out.below HB3.out)).mono ?_
            rintro e w4 hz
            have HZ4 := Lib.hid hz
            obtain ⟨hb, v, rfl, hv⟩ := hz
            have HB4 := Lib.hid (HB3.out.trans (hb.mono HB3.out.size))
            clear hb hv
            go_wp2
            go_ret2
            rw [HEQ.out]
            exact ⟨HB4.out, HZ4.out.2⟩
    · have t1 : (e2 != 0) = true := by simp [h2]
      have HEQ := Lib.hid (show luP n m lo up = (none, e2) by unfold luP; rw [← HE1.out, ← HE2.out, if_neg (by omega), if_pos h2])
      clear h2
      go_enter Tryd.func12, Tryd.ntmps12
      go_wp2_with fail
      refine HR1.out.mono ?_
      rintro e w1 ⟨rfl, rfl⟩
      go_wp2_with fail
      refine HR2.out.mono ?_
      rintro e w1 ⟨rfl, rfl⟩
      go_wp2
      go_ret2
      rw [HEQ.out]
      exact ⟨Below.refl _ _, .pointer none, rfl, rfl⟩
  · have t1 : (e1 != 0) = true := by simp [h1]
    have HEQ := Lib.hid (show luP n m lo up = (none, e1) by unfold luP; rw [← HE1.out, if_pos h1])
    clear h1
    go_enter Tryd.func12, Tryd.ntmps12
    go_wp2_with fail
    refine HR1.out.mono ?_
    rintro e w1 ⟨rfl, rfl⟩
    go_wp2
    go_ret2
    rw [HEQ.out]
    exact ⟨Below.refl _ _, .pointer none, rfl, rfl⟩

theorem lu_any (v : Value) (z : Option (Nat × Mat)) (A : Option Addr) (c : Nat) (lo : List Int) (B : Option Addr) (d : Nat) (up : List Int) (w : World) (h : ZoneV 88 w v z) (hz : ∀ n m, z = some (n, m) → GoneK n m) (hI : Ints w .i64 A lo) (hJ : Ints w .i64 B up)
    (hl : lo.length ≤ 4611686018427387904) (hu : up.length ≤ 4611686018427387904) : Calls Tryd.prog 12 #[v, .slice A lo.length c, .slice B up.length d] w (MakesZ w (dimN z) (luA z lo up)) := by
  match z, h, hz with
  | none, h, _ =>
    have h : v = .pointer none := h
    subst h
    exact (lu_nil A c lo B d up w).mono fun e w' ⟨he, hw⟩ => ⟨hw ▸ Below.refl _ _, .pointer none, he, rfl⟩
  | some (n, m), h, hz => exact lu_zone v n m A c lo B d up w h (hz n m rfl) hI hJ hl hu

set_option maxRecDepth 100000 in
set_option maxHeartbeats 1000000 in
theorem max_any (v : Value) (z : Option (Nat × Mat)) (A : Option Addr) (c : Nat) (lo : List Int) (w : World) (h : ZoneV 88 w v z) (hz : ∀ n m, z = some (n, m) → GoneK n m) (hI : Ints w .i64 A lo)
    (hl : lo.length ≤ 4611686018427387904) : Calls Tryd.prog 14 #[v, .slice A lo.length c] w (MakesZ w (dimN z) (luA z lo lo)) := by
  have HL := Lib.hid (lu_any v z A c lo A c lo w h hz hI hI hl hl)
  clear h hz hI
  go_enter Tryd.func14, Tryd.ntmps14
  go_wp2_with fail
  refine HL.out.mono ?_
  rintro e w4 hz
  have HZ4 := Lib.hid hz
  obtain ⟨hb, v, rfl, hv⟩ := hz
  clear hb hv
  go_wp2
  go_ret2
  exact HZ4.out

end Go.Proofs.YtncgapnooabdgaaDoor

/- LU and Max of the document. -/
namespace Go.Proofs.YtncgapnooabdgaaDoor
open Go Go.RowKit
set_option linter.unusedVariables false
set_option linter.unusedSimpArgs false

theorem at_back2 {n i j : Nat} (hj : j ≤ n) : (i * (n + 1) + j) / (n + 1) = i ∧ (i * (n + 1) + j) % (n + 1) = j := at_row (by omega)
theorem EachR.put {w0 wr : World} {g n i j : Nat} {f : Nat → Nat → Int → Int} {m : Mat} (h : EachR w0 g n f m (i * (n + 1) + j) wr) (hg : w0.heap.size ≤ g) (hi : i ≤ n) (hj : j ≤ n) (hne : i ≠ j) (x : Int) (hx : f i j (m i j) = x) (P : Nat) (hP : P = i * (n + 1)) :
    EachR w0 g n f m (i * (n + 1) + (j + 1)) (wr.setCell ⟨g, P + j, none⟩ (.int .i32 x)) := by
  subst hP
  obtain ⟨e1, e2⟩ := at_back2 (n := n) (i := i) hj
  exact h.set hg (at_lt (by omega) (by omega)) (by rw [e1, e2]; exact hne) x (by rw [e1, e2]; exact hx)
theorem EachR.skip {w0 wr : World} {g n i j : Nat} {f : Nat → Nat → Int → Int} {m : Mat} (h : EachR w0 g n f m (i * (n + 1) + j) wr) (hj : j ≤ n) (he : i = j) : EachR w0 g n f m (i * (n + 1) + (j + 1)) wr := by
  obtain ⟨e1, e2⟩ := at_back2 (n := n) (i := i) hj
  refine ⟨h.1, ?_⟩
  have := done_same n f m (i * (n + 1) + j) (by rw [e1, e2]; exact he)
  rw [Nat.add_assoc] at this
  rw [← this]
  exact h.2
theorem EachR.row {w0 wr : World} {g n i : Nat} {f : Nat → Nat → Int → Int} {m : Mat} (h : EachR w0 g n f m (i * (n + 1) + (n + 1)) wr) : EachR w0 g n f m ((i + 1) * (n + 1) + 0) wr := by
  rw [Nat.add_zero, Nat.succ_mul]; exact h
theorem EachR.at {w0 wr : World} {g n i j : Nat} {f : Nat → Nat → Int → Int} {m : Mat} (h : EachR w0 g n f m (i * (n + 1) + j) wr) (hi : i ≤ n) (hj : j ≤ n) (P : Nat) (hP : P = i * (n + 1)) : wr.cell? ⟨g, P + j, none⟩ = some (.int .i32 (m i j)) := by
  subst hP
  obtain ⟨e1, e2⟩ := at_back2 (n := n) (i := i) hj
  have hlt := at_lt (n := n) (i := i) (j := j) (by omega) (by omega)
  have h1 := h.2.cell (i * (n + 1) + j) (by rw [flat_length]; exact hlt)
  rw [flat_getD _ _ _ hlt, e1, e2] at h1
  have h2 := done_here n f m (i * (n + 1) + j)
  rw [e1, e2] at h2
  rw [h2] at h1
  exact h1

set_option maxRecDepth 100000 in
set_option maxHeartbeats 1000000 in
theorem lu5_nil (A : Option Addr) (c : Nat) (lo : List Int) (B : Option Addr) (d : Nat) (up : List Int) (w : World) : Calls Tryd.prog 13 #[.pointer none, .slice A lo.length c, .slice B up.length d] w fun e w' => e = .returned (.tuple #[.pointer none, .int .i64 1]) ∧ w = w' := by
  go_enter Tryd.func13, Tryd.ntmps13
  go_wp2
  go_ret2
  exact ⟨rfl, rfl⟩

set_option maxRecDepth 100000 in
set_option maxHeartbeats 4000000 in
theorem lu5_zone (v : Value) (n : Nat) (m : Mat) (A : Option Addr) (c : Nat) (lo : List Int) (B : Option Addr) (d : Nat) (up : List Int) (w : World) (h : RefZ w v (some (n, m))) (hq : GoneQ n m) (hI : Ints w .i64 A lo) (hJ : Ints w .i64 B up)
    (hl : lo.length ≤ 4611686018427387904) (hu : up.length ≤ 4611686018427387904) :
    Calls Tryd.prog 13 #[v, .slice A lo.length c, .slice B up.length d] w (MakesR w n (luP n m lo up)) := by
  have HQ := Lib.hid hq
  have HI := Lib.hid hI
  have HJ := Lib.hid hJ
  have HZ := Lib.hid h
  have HE := Lib.hid (fun w h => rempty_any v (some (n, m)) w h)
  have HD := Lib.hid (fun w h => rdim_any v (some (n, m)) w h)
  rw [show dimP (some (n, m)) = n from rfl] at HD
  have hn : n ≤ 8 := by obtain ⟨_, _, _, _, h, _⟩ := h; exact h
  obtain ⟨b, g0, cap0, rfl, _⟩ := h
  have HR1 := Lib.hid (right_d n A c lo w hI hl)
  have HR2 := Lib.hid (right_d n B d up w hJ hu)
  obtain ⟨e1, he1⟩ : ∃ e1, e1 = rightE n lo := ⟨_, rfl⟩
  obtain ⟨e2, he2⟩ : ∃ e2, e2 = rightE n up := ⟨_, rfl⟩
  rw [← he1] at HR1
  rw [← he2] at HR2
  have HE1 := Lib.hid he1
  have HE2 := Lib.hid he2
  clear hq hI hJ he1 he2
  by_cases h1 : e1 = 0
  · subst h1
    by_cases h2 : e2 = 0
    · subst h2
      have HL0 := Lib.hid (rightE_zero HE1.out.symm)
      have HU0 := Lib.hid (rightE_zero HE2.out.symm)
      rcases HQ.out with hz | hz
      · have HEQ := Lib.hid (show luP n m lo up = (some m, 0) by unfold luP; rw [← HE1.out, ← HE2.out, if_neg (by omega), if_neg (by omega), if_pos (by rw [hz]; decide), hz]; exact zero_of hn)
        have HZE := Lib.hid (show emptyR (some (n, m)) = true by rw [hz]; rfl)
        clear hz
        go_enter Tryd.func13, Tryd.ntmps13
        go_wp2_with fail
        refine (HD.out _ HZ.out).mono ?_
        rintro e w1 ⟨rfl, rfl⟩
        go_wp2_with fail
        refine HR1.out.mono ?_
        rintro e w1 ⟨rfl, rfl⟩
        go_wp2_with fail
        refine HR2.out.mono ?_
        rintro e w1 ⟨rfl, rfl⟩
        go_wp2_with fail
        refine (HE.out _ HZ.out).mono ?_
        rw [HZE.out]
        rintro e w1 ⟨rfl, rfl⟩
        go_wp2
        go_ret2
        rw [HEQ.out]
        exact ⟨Below.refl _ _, _, rfl, HZ.out⟩
      · have hln := HL0.out.1
        have hun := HU0.out.1
        have hgf := gone_full (l := freeC lo up lo.length) hn (freeC_clk _ (by omega)) hz
        have HEQ := Lib.hid (show luP n m lo up = ofP n (flat n (offM (widP lo up) (baseM n m lo up))) by
          unfold luP
          rw [← HE1.out, ← HE2.out, if_neg (by omega), if_neg (by omega), if_neg (by rw [hz.full.one 0 (Nat.zero_le _)]; omega), hgf]
          rfl)
        have HZE := Lib.hid (show emptyR (some (n, m)) = false from decide_eq_false fun e => e (hz.full.one 0 (Nat.zero_le _)))
        have hbc := base_closed (lo := lo) (up := up) hn (by omega) hz
        have HRW := Lib.hid (flat_rng (wide_ok HL0.out.2 HU0.out.2 hbc).1.right)
        have HGO := Lib.hid (fun v A c w h hI => gone5_any v (some (n, m)) A c (freeC lo up lo.length) w h (fun n' m' e => by cases e; exact .inr hz) hI (by have := freeC_short (lo := lo) (up := up) lo.length; omega))
        rw [show goneA (some (n, m)) (freeC lo up lo.length) = (some (baseM n m lo up), 0) from hgf, show dimN (some (n, m)) = n from rfl] at HGO
        have HC := Lib.hid (fun v w h => rcells_any v (some (n, baseM n m lo up)) w h)
        rw [show cellsP (some (n, baseM n m lo up)) = flat n (baseM n m lo up) from rfl] at HC
        have hL8 : lo.length ≤ 8 := by omega
        have hU8 : up.length ≤ 8 := by omega
        have hle : lo.length ≤ up.length := by omega
        have hle3 : n ≤ lo.length := by omega
        have hle4 : lo.length ≤ n := by omega
        have HLN := Lib.hid hln
        have HUN := Lib.hid hun
        have a0 := atP_rng HL0.out.2
        have a1 := atP_rng HU0.out.2
        have HA0 := Lib.hid a0
        have HA1 := Lib.hid a1
        obtain ⟨i0, hi1, hz0, hz1, hz2⟩ := info_parts infoN
        have HInf := Lib.hid (And.intro hi1 (And.intro hz0 (And.intro hz1 hz2)))
        have HS := Lib.hid (show LcR w lo up 0 (.slice none 0 0) w from ⟨Below.refl _ _, World.ownsRow_nil _ _ _ _⟩)
        obtain ⟨M, hM⟩ : ∃ M, M = baseM n m lo up := ⟨_, rfl⟩
        rw [← hM] at HEQ HRW HGO HC
        clear hi1 hz0 hz1 hz2 hln hun hgf hbc hz a0 a1 hM
        go_enter Tryd.func13, Tryd.ntmps13
        go_wp2_with fail
        refine (HD.out _ HZ.out).mono ?_
        rintro e w1 ⟨rfl, rfl⟩
        go_wp2_with fail
        refine HR1.out.mono ?_
        rintro e w1 ⟨rfl, rfl⟩
        go_wp2_with fail
        refine HR2.out.mono ?_
        rintro e w1 ⟨rfl, rfl⟩
        go_wp2_with fail
        refine (HE.out _ HZ.out).mono ?_
        rw [HZE.out]
        rintro e w1 ⟨rfl, rfl⟩
        go_wp2
        go_loopg [11, 12] lo.length (fun q cv v wr => ∃ p : Nat, v = .int .i64 ((p : Int) + 1) ∧ Hid (LcR w lo up p cv wr) ∧ Hid (p ≤ lo.length ∧ q + p = lo.length))
        case atStart => exact ⟨0, by simp, HS.out, by omega, by omega⟩
        case round =>
          clear HS
          obtain ⟨p, rfl, HR, HP⟩ := hrel
          by_cases hp : p < lo.length
          · obtain ⟨b1, o1, rfl, c1⟩ := HI.out.below HR.out.1 p hp
            obtain ⟨b2, o2, rfl, c2⟩ := HJ.out.below HR.out.1 p (by omega)
            have hpi : (p : Int) < (lo.length : Int) := by omega
            have hpj : (p : Int) < (up.length : Int) := by omega
            have hp2 : p < up.length := by omega
            have hpn : (p : Int) + 1 ≤ (n : Int) := by omega
            have gp : IntKind.i64.wrap ((p : Int) + 1 - 1) = (p : Int) := by rw [show (p : Int) + 1 - 1 = p by omega]; exact IntWalk.i64_in _ (by omega)
            have HNY := Lib.hid (fun h v' w1 o hown hgrow => HR.out.next (v' := v') (w1 := w1) (o := o) h hown hgrow)
            have HNN := Lib.hid (fun h => HR.out.same h)
            have hfs := freeC_short (lo := lo) (up := up) p
            obtain ⟨x, hx⟩ : ∃ x, x = lo.getD p 0 := ⟨_, rfl⟩
            obtain ⟨y, hy⟩ : ∃ y, y = up.getD p 0 := ⟨_, rfl⟩
            rw [← hx] at c1 HNY HNN
            rw [← hy] at c2 HNY HNN
            clear hx hy
            by_cases hx : x < 0
            · have d1 : decide (x < 0) = true := decide_eq_true hx
              by_cases hy : y < 0
              · have d2 : decide (y < 0) = true := decide_eq_true hy
                have HXY := Lib.hid (And.intro hx hy)
                clear hx hy
                go_wp2_with (at_builtin; refine wpList_append_own _ rfl _ _ 23 rfl w.heap.size 3 i0 (.int .i64 0) 1 8 Tryd.underlying23 HInf.out.1 HInf.out.2.1 HInf.out.2.2.1 HInf.out.2.2.2 rfl (by decide) _ _ _ rfl (HR.out.2.alloc _) ⟨wr.heap.size, 0, none⟩ 1 1 [.int .i64 ((p : Int) + 1)] rfl rfl (cell_one_new _ _ _) (by intro u hu; simp at hu; subst hu; rfl) ?c3 ?c4 ?c5 ?_)
                case c3 => unfold maxLen; omega
                case c4 => omega
                case c5 => have := HR.out.1.size; simp; omega
                intro v' w1 hown hgrow _
                have HN := Lib.hid (HNY.out HXY.out _ _ _ hown hgrow)
                clear hown hgrow
                go_wp2
                go_roundg (gk - 1)
                case measure => have h := HP.out; omega
                case rel => exact ⟨p + 1, by go_num, HN.out, by omega, by have h := HP.out; omega⟩
              · have d2 : decide (y < 0) = false := decide_eq_false hy
                have HN := Lib.hid (HNN.out (by omega))
                clear hx hy
                go_wp2
                go_roundg (gk - 1)
                case measure => have h := HP.out; omega
                case rel => exact ⟨p + 1, by go_num, HN.out, by omega, by have h := HP.out; omega⟩
            · have d1 : decide (x < 0) = false := decide_eq_false hx
              have HN := Lib.hid (HNN.out (by omega))
              clear hx
              go_wp2
              go_roundg (gk - 1)
              case measure => have h := HP.out; omega
              case rel => exact ⟨p + 1, by go_num, HN.out, by omega, by have h := HP.out; omega⟩
          · have e : p = lo.length := by have := HP.out.1; omega
            subst e
            have hpn : ¬ ((lo.length : Int) + 1 ≤ (n : Int)) := by omega
            obtain ⟨A2, cap2, hv, hi2⟩ := HR.out.own.slice
            subst hv
            have HB := Lib.hid HR.out.1
            have HZ2 := Lib.hid (HZ.out.below HB.out)
            have HI2 := Lib.hid hi2
            clear hi2 HP HR
            go_wp2_with fail
            refine (HGO.out _ _ _ _ HZ2.out HI2.out).mono ?_
            rintro e w3 ⟨hb, v3, rfl, hv3⟩
            have HB3 := Lib.hid (HB.out.trans (hb.mono HB.out.size))
            have HV3 := Lib.hid (show RefZ w3 v3 (some (n, M)) from hv3)
            clear hb hv3
            go_wp2_with fail
            refine (HC.out _ _ HV3.out).mono ?_
            rintro e w4 ⟨lv, rfl, hb, ho⟩
            have hlen : (flat n M).length = (n + 1) * (n + 1) := flat_length n M
            obtain ⟨N, hN⟩ : ∃ N, N = (n + 1) * (n + 1) := ⟨_, rfl⟩
            have hN81 : N ≤ 81 := by
              have := Nat.mul_le_mul (show n + 1 ≤ 9 by omega) (show n + 1 ≤ 9 by omega)
              omega
            rw [← hN] at hlen
            obtain ⟨g1, cp1, hv, hge, hrow⟩ := ho.row (by rw [hlen, hN]; exact Nat.mul_pos (by omega) (by omega))
            rw [hlen] at hv
            subst hv
            have HN := Lib.hid hN
            have HGE := Lib.hid (show w.heap.size ≤ g1 from Nat.le_trans HB3.out.size hge)
            have HS2 := Lib.hid (show EachR w g1 n (widP lo up) M 0 w4 from ⟨HB3.out.trans (hb.mono HB3.out.size), by rw [done_zero]; exact hrow⟩)
            clear hb ho hrow hlen hN hge HB HZ2 HI2 HV3 hpn
            go_wp2
            go_loopg [14] (n + 1) (fun q v wr => ∃ i : Nat, v = .int .i64 i ∧ Hid (EachR w g1 n (widP lo up) M (i * (n + 1) + 0) wr) ∧ Hid (i ≤ n + 1 ∧ q + i = n + 1))
            case atStart => exact ⟨0, by simp, by rw [Nat.zero_mul]; exact HS2.out, by omega, by omega⟩
            case round =>
              clear HS2
              obtain ⟨i, rfl, HRi, HGi⟩ := hrel
              by_cases hi : i ≤ n
              · have hii : (i : Int) ≤ (n : Int) := by omega
                have hil : i ≤ lo.length := by omega
                obtain ⟨P, hP, hP1, hP2, hP3⟩ := prod_facts i n hi hn
                have hPN : P + n < N := by have := HN.out; omega
                have HP2 := Lib.hid hP2
                clear hP2 hP3
                go_wp2
                go_loopg [15] (n + 1) (fun q v wr => ∃ j : Nat, v = .int .i64 j ∧ Hid (EachR w g1 n (widP lo up) M (i * (n + 1) + j) wr) ∧ Hid (j ≤ n + 1 ∧ q + j = n + 1))
                case atStart => exact ⟨0, by simp, HRi.out, by omega, by omega⟩
                case round =>
                  clear HRi
                  obtain ⟨j, rfl, HRj, HGj⟩ := hrel
                  by_cases hj : j ≤ n
                  · have hjj : (j : Int) ≤ (n : Int) := by omega
                    by_cases e : i = j
                    · have t1 : ((i : Int) != (j : Int)) = false := by simp [e]
                      have HN2 := Lib.hid (HRj.out.skip hj e)
                      clear e
                      go_wp2
                      go_roundg (gk - 1)
                      case measure => have h := HGj.out; omega
                      case rel => exact ⟨j + 1, by go_num, HN2.out, by omega, by have h := HGj.out; omega⟩
                    · have t1 : ((i : Int) != (j : Int)) = true := by simp; omega
                      have hju : j ≤ up.length := by omega
                      have c1 := HRj.out.at hi hj P HP2.out
                      have f1 := HRj.out.2.frozen (P + j)
                      have hlt := HRj.out.2.lt
                      have HPU := Lib.hid (fun x hx (w' : World) (h : EachR w g1 n (widP lo up) M (i * (n + 1) + j) w') => h.put HGE.out hi hj e x hx P HP2.out)
                      have HAT := Lib.hid (fun i hi w' (hb : Below w.heap.size w w') => backC (at_d A c lo i w' (HI.out.below hb) hi hL8))
                      have HAU := Lib.hid (fun i hi w' (hb : Below w.heap.size w w') => backC (at_d B d up i w' (HJ.out.below hb) hi hU8))
                      have HWD := Lib.hid (fun b w' => backC (widened_d b i (atP lo i) (atP up j) w' (by omega) (HA0.out i) (HA1.out j)))
                      obtain ⟨x, hx⟩ : ∃ x, x = M i j := ⟨_, rfl⟩
                      rw [← hx] at c1
                      obtain ⟨y, hy⟩ : ∃ y, y = widP lo up i j x := ⟨_, rfl⟩
                      have HW := Lib.hid (fun w' => HWD.out x w')
                      rw [show widQ x i (atP lo i) (atP up j) = y from hy.symm] at HW
                      have HN2 := Lib.hid (HPU.out y (by rw [← hx, hy]) _ (HRj.out.step (Below.drew (Below.refl wr.heap.size wr))))
                      have HBD := Lib.hid (HRj.out.step (Below.drew (Below.refl wr.heap.size wr))).1
                      clear hx hy e HPU HWD
                      have g1' : IntKind.i64.wrap ((n : Int) + 1) = (n : Int) + 1 := IntWalk.i64_in _ (by omega)
                      have g2 : IntKind.i64.wrap (P : Int) = (P : Int) := IntWalk.i64_in _ (by omega)
                      have g4 : IntKind.i64.wrap ((P : Int) + (j : Int)) = (P : Int) + (j : Int) := IntWalk.i64_in _ (by omega)
                      have l1 : (P : Int) + (j : Int) < (N : Int) := by omega
                      have l3 : 0 ≤ (P : Int) + (j : Int) := by omega
                      have n1 : ((P : Int) + (j : Int)).toNat = P + j := by omega
                      have cd := Lib.hid (show wr.drew.cell? _ = _ from c1)
                      have fd := Lib.hid (show wr.drew.frozen? _ = _ from f1)
                      go_wp2_with fail
                      refine wp_region_still_tail 24 (by kernel_rfl) (by kernel_rfl) ?_
                      simp only [List.take_succ_cons, List.take_zero, List.drop_succ_cons, List.drop_zero]
                      change wpStill _ _ wr.drew _ _ _
                      have cd' := cd.out
                      repeat still_step
                      still_call (HAT.out i hil _ HBD.out)
                      repeat still_step
                      still_call (HAU.out j hju _ HBD.out)
                      repeat still_step
                      still_call (HW.out _)
                      repeat still_step
                      refine wpStill_nil ?_
                      have fd' := fd.out
                      go_wp2
                      go_roundg (gk - 1)
                      case measure => have h := HGj.out; omega
                      case rel => exact ⟨j + 1, by go_num, HN2.out, by omega, by have h := HGj.out; omega⟩
                  · have e : j = n + 1 := by have := HGj.out.1; omega
                    subst e
                    have hjj : ¬ (((n + 1 : Nat) : Int) ≤ (n : Int)) := by omega
                    have HN2 := Lib.hid HRj.out.row
                    go_wp2
                    go_roundg (n - i)
                    case measure => have h := HGi.out; omega
                    case rel => exact ⟨i + 1, by go_num, HN2.out, by omega, by omega⟩
              · have e : i = n + 1 := by have := HGi.out.1; omega
                subst e
                have hii : ¬ (((n + 1 : Nat) : Int) ≤ (n : Int)) := by omega
                have hcall := rof_any n (some ⟨g1, 0, none⟩) cp1 (flat n (offM (widP lo up) M)) wr (by rw [← flat_congr (done_all n (widP lo up) M)]; have := HRi.out.2; rw [Nat.add_zero] at this; exact this.ints) (by rw [flat_length, ← HN.out]; omega) HRW.out
                rw [flat_length, ← HN.out, Int.toNat_natCast] at hcall
                have HCL := Lib.hid hcall
                clear hcall
                go_wp2_with fail
                refine HCL.out.mono ?_
                rintro e w5 hz
                have HZ5 := Lib.hid hz
                obtain ⟨hb, v, rfl, hv⟩ := hz
                have HB5 := Lib.hid (HRi.out.1.trans (hb.mono HRi.out.1.size))
                clear hb hv
                go_wp2
                go_ret2
                rw [HEQ.out]
                exact ⟨HB5.out, HZ5.out.2⟩
    · have t1 : (e2 != 0) = true := by simp [h2]
      have HEQ := Lib.hid (show luP n m lo up = (none, e2) by unfold luP; rw [← HE1.out, ← HE2.out, if_neg (by omega), if_pos h2])
      clear h2
      go_enter Tryd.func13, Tryd.ntmps13
      go_wp2_with fail
      refine (HD.out _ HZ.out).mono ?_
      rintro e w1 ⟨rfl, rfl⟩
      go_wp2_with fail
      refine HR1.out.mono ?_
      rintro e w1 ⟨rfl, rfl⟩
      go_wp2_with fail
      refine HR2.out.mono ?_
      rintro e w1 ⟨rfl, rfl⟩
      go_wp2
      go_ret2
      rw [HEQ.out]
      exact ⟨Below.refl _ _, .pointer none, rfl, rfl⟩
  · have t1 : (e1 != 0) = true := by simp [h1]
    have HEQ := Lib.hid (show luP n m lo up = (none, e1) by unfold luP; rw [← HE1.out, if_pos h1])
    clear h1
    go_enter Tryd.func13, Tryd.ntmps13
    go_wp2_with fail
    refine (HD.out _ HZ.out).mono ?_
    rintro e w1 ⟨rfl, rfl⟩
    go_wp2_with fail
    refine HR1.out.mono ?_
    rintro e w1 ⟨rfl, rfl⟩
    go_wp2
    go_ret2
    rw [HEQ.out]
    exact ⟨Below.refl _ _, .pointer none, rfl, rfl⟩

theorem lu5_any (v : Value) (z : Option (Nat × Mat)) (A : Option Addr) (c : Nat) (lo : List Int) (B : Option Addr) (d : Nat) (up : List Int) (w : World) (h : RefZ w v z) (hz : ∀ n m, z = some (n, m) → GoneQ n m) (hI : Ints w .i64 A lo) (hJ : Ints w .i64 B up)
    (hl : lo.length ≤ 4611686018427387904) (hu : up.length ≤ 4611686018427387904) : Calls Tryd.prog 13 #[v, .slice A lo.length c, .slice B up.length d] w (MakesR w (dimN z) (luA z lo up)) := by
  match z, h, hz with
  | none, h, _ =>
    have h : v = .pointer none := h
    subst h
    exact (lu5_nil A c lo B d up w).mono fun e w' ⟨he, hw⟩ => ⟨hw ▸ Below.refl _ _, .pointer none, he, rfl⟩
  | some (n, m), h, hz => exact lu5_zone v n m A c lo B d up w h (hz n m rfl) hI hJ hl hu

set_option maxRecDepth 100000 in
set_option maxHeartbeats 1000000 in
theorem max5_any (v : Value) (z : Option (Nat × Mat)) (A : Option Addr) (c : Nat) (lo : List Int) (w : World) (h : RefZ w v z) (hz : ∀ n m, z = some (n, m) → GoneQ n m) (hI : Ints w .i64 A lo)
    (hl : lo.length ≤ 4611686018427387904) : Calls Tryd.prog 15 #[v, .slice A lo.length c] w (MakesR w (dimN z) (luA z lo lo)) := by
  have HL := Lib.hid (lu5_any v z A c lo A c lo w h hz hI hI hl hl)
  clear h hz hI
  go_enter Tryd.func15, Tryd.ntmps15
  go_wp2_with fail
  refine HL.out.mono ?_
  rintro e w4 hz
  have HZ4 := Lib.hid hz
  obtain ⟨hb, v, rfl, hv⟩ := hz
  clear hb hv
  go_wp2
  go_ret2
  exact HZ4.out

end Go.Proofs.YtncgapnooabdgaaDoor

/- Sums of bounds in any order: plain. -/
namespace Go.Proofs.YtncgapnooabdgaaDoor
open Go Go.RowKit
set_option linter.unusedVariables false
set_option linter.unusedSimpArgs false

theorem inf_right : rightB 2147483647 = true := by decide +kernel
theorem fin_some {a : Int} (h : rightB a = true) (h' : a ≠ 2147483647) : someB a = true := by simp [someB, h, h']
theorem sum_bad {l : List Int} (h : ¬ l.all rightB = true) : sumP l = (0, 7) := by unfold sumP; rw [if_neg h]
theorem sum_two {a b : Int} (ha : rightB a = true) (hb : rightB b = true) (ha' : a ≠ 2147483647) (hb' : b ≠ 2147483647) :
    sumP [a, b] = ofB (a / 2 + b / 2) (decide (a % 2 = 1) && decide (b % 2 = 1)) := by
  have h1 := rightB_bd ha ha'
  have h2 := rightB_bd hb hb'
  have e0 : infUp [a, b] 2 = false := by simp [infUp, ha', hb']
  have e1 : redUp [a, b] 2 = (decide (a % 2 = 1) && decide (b % 2 = 1)) := by simp [redUp]
  have e2 : sumUp [a, b] 2 = a / 2 + b / 2 := by simp [sumUp, wrap64]; omega
  unfold sumP
  rw [if_pos (by simp [ha, hb])]
  show (if infUp [a, b] 2 = true then _ else ofB (sumUp [a, b] 2) (redUp [a, b] 2)) = _
  rw [e0, e1, e2]
  rfl
theorem sum_two_inf {a b : Int} (ha : rightB a = true) (hb : rightB b = true) (h : a = 2147483647 ∨ b = 2147483647) : sumP [a, b] = (2147483647, 0) := by
  have e0 : infUp [a, b] 2 = true := by rcases h with h | h <;> simp [infUp, h]
  unfold sumP
  rw [if_pos (by simp [ha, hb])]
  show (if infUp [a, b] 2 = true then _ else _) = _
  rw [e0]
  rfl
theorem sum_three {a b c : Int} (ha : rightB a = true) (hb : rightB b = true) (hc : rightB c = true) (ha' : a ≠ 2147483647) (hb' : b ≠ 2147483647) (hc' : c ≠ 2147483647) :
    sumP [a, b, c] = ofB (a / 2 + b / 2 + c / 2) (decide (a % 2 = 1) && decide (b % 2 = 1) && decide (c % 2 = 1)) := by
  have h1 := rightB_bd ha ha'
  have h2 := rightB_bd hb hb'
  have h3 := rightB_bd hc hc'
  have e0 : infUp [a, b, c] 3 = false := by simp [infUp, ha', hb', hc']
  have e1 : redUp [a, b, c] 3 = (decide (a % 2 = 1) && decide (b % 2 = 1) && decide (c % 2 = 1)) := by simp [redUp]
  have e2 : sumUp [a, b, c] 3 = a / 2 + b / 2 + c / 2 := by simp [sumUp, wrap64]; omega
  unfold sumP
  rw [if_pos (by simp [ha, hb, hc])]
  show (if infUp [a, b, c] 3 = true then _ else ofB (sumUp [a, b, c] 3) (redUp [a, b, c] 3)) = _
  rw [e0, e1, e2]
  rfl
theorem sum_three_inf {a b c : Int} (ha : rightB a = true) (hb : rightB b = true) (hc : rightB c = true) (h : a = 2147483647 ∨ b = 2147483647 ∨ c = 2147483647) : sumP [a, b, c] = (2147483647, 0) := by
  have e0 : infUp [a, b, c] 3 = true := by rcases h with h | h | h <;> simp [infUp, h]
  unfold sumP
  rw [if_pos (by simp [ha, hb, hc])]
  show (if infUp [a, b, c] 3 = true then _ else _) = _
  rw [e0]
  rfl
/-- A bound that was made. -/
theorem ofB_ok {v : Int} {r : Bool} (h : (ofB v r).2 = 0) : -268435456 ≤ v ∧ v ≤ 268435456 ∧ (ofB v r).1 / 2 = v ∧ decide ((ofB v r).1 % 2 = 1) = r ∧ rightB (ofB v r).1 = true ∧ (ofB v r).1 ≠ 2147483647 := by
  unfold ofB at h ⊢
  by_cases c : v < -268435456 ∨ 268435456 < v
  · rw [if_pos c] at h; cases h
  · rw [if_neg c]
    cases r
    · have e : decide ((2 * v + 0) % 2 = 1) = false := decide_eq_false (by omega)
      refine ⟨by omega, by omega, ?_, e, ?_, ?_⟩
      · show (2 * v + 0) / 2 = v; omega
      · exact decide_eq_true (.inr (by show _ ≤ 2 * v + 0 ∧ 2 * v + 0 ≤ _; omega))
      · show 2 * v + 0 ≠ _; omega
    · have e : decide ((2 * v + 1) % 2 = 1) = true := decide_eq_true (by omega)
      refine ⟨by omega, by omega, ?_, e, ?_, ?_⟩
      · show (2 * v + 1) / 2 = v; omega
      · exact decide_eq_true (.inr (by show _ ≤ 2 * v + 1 ∧ 2 * v + 1 ≤ _; omega))
      · show 2 * v + 1 ≠ _; omega

theorem sum_comm2 (a b : Int) : sumP [a, b] = sumP [b, a] := by
  by_cases h : rightB a = true ∧ rightB b = true
  · by_cases i : a = 2147483647 ∨ b = 2147483647
    · rw [sum_two_inf h.1 h.2 i, sum_two_inf h.2 h.1 i.symm]
    · rw [sum_two h.1 h.2 (fun e => i (.inl e)) (fun e => i (.inr e)), sum_two h.2 h.1 (fun e => i (.inr e)) (fun e => i (.inl e)), Int.add_comm, Bool.and_comm]
  · rw [sum_bad (by simpa using fun x y => h ⟨x, y⟩), sum_bad (by simpa using fun x y => h ⟨y, x⟩)]
/-- What is known where a sum could be made. -/
theorem sum_ok {a b : Int} (h : (sumP [a, b]).2 = 0) : rightB a = true ∧ rightB b = true := by
  by_cases c : rightB a = true ∧ rightB b = true
  · exact c
  · rw [sum_bad (by simpa using fun x y => c ⟨x, y⟩)] at h; cases h
theorem sum_assoc {a b c : Int} (h1 : (sumP [a, b]).2 = 0) (h2 : (sumP [b, c]).2 = 0) : sumP [(sumP [a, b]).1, c] = sumP [a, b, c] ∧ sumP [a, (sumP [b, c]).1] = sumP [a, b, c] := by
  obtain ⟨ha, hb⟩ := sum_ok h1
  obtain ⟨_, hc⟩ := sum_ok h2
  by_cases ia : a = 2147483647
  · subst ia
    rw [sum_three_inf ha hb hc (.inl rfl), sum_two_inf ha hb (.inl rfl)]
    refine ⟨sum_two_inf inf_right hc (.inl rfl), sum_two_inf ha ?_ (.inl rfl)⟩
    by_cases i : b = 2147483647 ∨ c = 2147483647
    · rw [sum_two_inf hb hc i]; exact inf_right
    · rw [sum_two hb hc (fun e => i (.inl e)) (fun e => i (.inr e))] at h2 ⊢
      exact (ofB_ok h2).2.2.2.2.1
  · by_cases ic : c = 2147483647
    · subst ic
      rw [sum_three_inf ha hb hc (.inr (.inr rfl)), sum_two_inf hb hc (.inr rfl)]
      refine ⟨sum_two_inf ?_ hc (.inr rfl), sum_two_inf ha inf_right (.inr rfl)⟩
      by_cases i : b = 2147483647
      · rw [sum_two_inf ha hb (.inr i)]; exact inf_right
      · rw [sum_two ha hb ia i] at h1 ⊢
        exact (ofB_ok h1).2.2.2.2.1
    · by_cases ib : b = 2147483647
      · subst ib
        rw [sum_three_inf ha hb hc (.inr (.inl rfl)), sum_two_inf hb hc (.inl rfl), sum_two_inf ha hb (.inr rfl)]
        exact ⟨sum_two_inf inf_right hc (.inl rfl), by first | rfl | exact sum_two_inf ha inf_right (.inr rfl)⟩
      · rw [sum_three ha hb hc ia ib ic]
        rw [sum_two ha hb ia ib] at h1 ⊢
        rw [sum_two hb hc ib ic] at h2 ⊢
        obtain ⟨_, _, x1, x2, x3, x4⟩ := ofB_ok h1
        obtain ⟨_, _, y1, y2, y3, y4⟩ := ofB_ok h2
        rw [sum_two x3 hc x4 ic, sum_two ha y3 ia y4, x1, x2, y1, y2, Int.add_assoc, Bool.and_assoc]
        exact ⟨rfl, rfl⟩

end Go.Proofs.YtncgapnooabdgaaDoor

/- Bounds as texts: plain. -/
namespace Go.Proofs.YtncgapnooabdgaaDoor
open Go Go.RowKit
set_option linter.unusedVariables false
set_option linter.unusedSimpArgs false

theorem decFrom_app (l m : List UInt8) : ∀ acc, Lib.decFrom acc (l ++ m) = (Lib.decFrom acc l).bind fun n => Lib.decFrom n m := by
  induction l with
  | nil => intro acc; rfl
  | cons a t ih =>
    intro acc
    simp only [List.cons_append, Lib.decFrom]
    cases Lib.digitVal a with
    | none => rfl
    | some d => exact ih _
theorem digit_of (k : Nat) (h : k < 10) : Lib.digitVal (UInt8.ofNat (48 + k)) = some k := by
  have e : (UInt8.ofNat (48 + k)).toNat = 48 + k := by simp; omega
  unfold Lib.digitVal
  rw [if_pos (by omega), e]
  congr 1
  omega
/-- The digits of a number spell it. -/
theorem decFrom_digits (u : Nat) : Lib.decFrom 0 (Lib.decDigits u) = some u := by
  induction u using Nat.strongRecOn with
  | _ u ih =>
    by_cases h : u < 10
    · rw [Lib.decDigits, dif_pos h, Lib.decFrom, digit_of u h]
      show Lib.decFrom (0 * 10 + u) [] = _
      simp [Lib.decFrom]
    · rw [Lib.decDigits, dif_neg h, decFrom_app, ih (u / 10) (by omega)]
      show Lib.decFrom (u / 10) [UInt8.ofNat (48 + u % 10)] = _
      rw [Lib.decFrom, digit_of (u % 10) (by omega)]
      show Lib.decFrom (u / 10 * 10 + u % 10) [] = _
      simp only [Lib.decFrom]
      congr 1
      omega
theorem digits_some (u : Nat) : Lib.decDigits u ≠ [] := by
  intro e
  have := Lib.decDigits_length u
  rw [e] at this
  have := Lib.nDigits_pos u
  simp at *
  omega
/-- A digit stands first. -/
theorem digits_head (u : Nat) : ∃ d r, d < 10 ∧ Lib.decDigits u = UInt8.ofNat (48 + d) :: r := by
  induction u using Nat.strongRecOn with
  | _ u ih =>
    by_cases h : u < 10
    · exact ⟨u, [], h, by rw [Lib.decDigits, dif_pos h]⟩
    · obtain ⟨d, r, hd, e⟩ := ih (u / 10) (by omega)
      exact ⟨d, r ++ [UInt8.ofNat (48 + u % 10)], hd, by rw [Lib.decDigits, dif_neg h, e]; rfl⟩
theorem head_ne (d k : Nat) (h : d < 10) (hk : k < 48) : UInt8.ofNat (48 + d) ≠ UInt8.ofNat k := by
  intro e
  have := congrArg UInt8.toNat e
  simp at this
  omega
theorem atoi_itoa (n : Int) : Lib.atoi (Lib.itoa n) = some n := by
  unfold Lib.itoa
  by_cases h : n < 0
  · rw [if_pos h]
    have hn : Lib.decNat (Lib.decDigits n.natAbs) = some n.natAbs := by
      unfold Lib.decNat
      rw [if_neg (by simpa using digits_some n.natAbs), decFrom_digits]
    have h1 : ((45 : UInt8) == 45) = true := rfl
    simp only [Lib.atoi, h1, hn]
    simp
    omega
  · rw [if_neg h]
    obtain ⟨d, r, hd, e⟩ := digits_head n.toNat
    have hn : Lib.decNat (Lib.decDigits n.toNat) = some n.toNat := by
      unfold Lib.decNat
      rw [if_neg (by simpa using digits_some n.toNat), decFrom_digits]
    rw [e] at hn ⊢
    have h1 : (UInt8.ofNat (48 + d) == 45) = false := beq_eq_false_iff_ne.2 (head_ne d 45 hd (by omega))
    have h2 : (UInt8.ofNat (48 + d) == 43) = false := beq_eq_false_iff_ne.2 (head_ne d 43 hd (by omega))
    simp only [Lib.atoi, h1, h2, hn]
    simp
    omega
theorem itoa_short (n : Int) (h0 : -268435456 ≤ n) (h1 : n ≤ 268435456) : (Lib.itoa n).length ≤ 18 := by
  have hd : ∀ u : Nat, u ≤ 268435456 → (Lib.decDigits u).length ≤ 9 := fun u hu => by
    rw [Lib.decDigits_length]
    by_cases c : Lib.nDigits u ≤ 9
    · exact c
    · exfalso
      have := Lib.nDigits_pos u
      have hp : ∀ k u, k + 1 ≤ Lib.nDigits u → 0 < k → 10 ^ k ≤ u := fun k => by
        induction k with
        | zero => intro u _ h; omega
        | succ k ih =>
          intro u h _
          by_cases c : u < 10
          · rw [Lib.nDigits_small c] at h; omega
          · rw [Lib.nDigits_big c] at h
            by_cases hk : 0 < k
            · have := ih (u / 10) (by omega) hk
              rw [Nat.pow_succ]; omega
            · have : k = 0 := by omega
              subst this
              simpa using (show 10 ≤ u by omega)
      have := hp 9 u (by omega) (by omega)
      omega
  unfold Lib.itoa
  split
  · rw [List.length_cons]; have := hd n.natAbs (by omega); omega
  · have := hd n.toNat (by omega); omega
theorem atoiAll_itoa (n : Int) (h0 : -268435456 ≤ n) (h1 : n ≤ 268435456) : Lib.atoiAll (Lib.itoa n) = .ok n := by
  rw [Lib.atoiAll_short _ (itoa_short n h0 h1), atoi_itoa]
  rfl
/-- What stands first in a numeral: a digit, or '-'. -/
theorem itoa_head (n : Int) : ∃ c r, Lib.itoa n = c :: r ∧ c ≠ 61 ∧ c ≠ 60 := by
  unfold Lib.itoa
  split
  · exact ⟨45, _, rfl, by decide, by decide⟩
  · obtain ⟨d, r, hd, e⟩ := digits_head n.toNat
    refine ⟨_, r, e, ?_, ?_⟩
    · intro e
      have := congrArg UInt8.toNat e
      simp at this
      omega
    · intro e
      have := congrArg UInt8.toNat e
      simp at this
      omega

/-- A bound as a row of bytes. -/
def printL (b : Int) : List UInt8 := if b = 2147483647 then [105, 110, 102] else if someB b then (if b % 2 = 1 then [60, 61] else [60]) ++ Lib.itoa (b / 2) else []
theorem printL_some {b : Int} (h : someB b = true) : printL b = (if b % 2 = 1 then [60, 61] else [60]) ++ Lib.itoa (b / 2) := by
  have hn : b ≠ 2147483647 := by rintro rfl; exact absurd h (by decide +kernel)
  unfold printL
  rw [if_neg hn, if_pos h]
theorem printL_not_inf {b : Int} (h : someB b = true) : printL b ≠ [105, 110, 102] := by
  rw [printL_some h]
  split <;> intro e <;> cases e
/-- Texts of two bounds are two. -/
theorem printL_inj {a b : Int} (ha : someB a = true) (hb : someB b = true) (h : printL a = printL b) : a = b := by
  rw [printL_some ha, printL_some hb] at h
  have key : ∀ x y : Int, Lib.itoa x = Lib.itoa y → x = y := fun x y e => by
    have := atoi_itoa x
    rw [e, atoi_itoa] at this
    exact (Option.some.inj this).symm
  obtain ⟨c1, r1, e1, n1, _⟩ := itoa_head (a / 2)
  obtain ⟨c2, r2, e2, n2, _⟩ := itoa_head (b / 2)
  by_cases x : a % 2 = 1
  · by_cases y : b % 2 = 1
    · rw [if_pos x, if_pos y] at h
      have := key _ _ (by simpa using h)
      omega
    · rw [if_pos x, if_neg y, e2] at h
      simp at h
      exact absurd h.1.symm n2
  · by_cases y : b % 2 = 1
    · rw [if_neg x, if_pos y, e1] at h
      simp at h
      exact absurd h.1 n1
    · rw [if_neg x, if_neg y] at h
      have := key _ _ (by simpa using h)
      omega

/-- What a text tells of: no bound, a bound, or an error. -/
def ParsesTo (s : List UInt8) (r : Int × Int) : Prop :=
  (s = [105, 110, 102] ∧ r = (2147483647, 0)) ∨ (∃ b, someB b = true ∧ printL b = s ∧ r = (b, 0)) ∨ (s ≠ [105, 110, 102] ∧ (∀ b, someB b = true → printL b ≠ s) ∧ r = (0, 7))
theorem parses_one {s : List UInt8} {r r' : Int × Int} (h : ParsesTo s r) (h' : ParsesTo s r') : r = r' := by
  rcases h with ⟨h1, h2⟩ | ⟨b, h1, h2, h3⟩ | ⟨h1, h2, h3⟩ <;> rcases h' with ⟨k1, k2⟩ | ⟨c, k1, k2, k3⟩ | ⟨k1, k2, k3⟩
  · rw [h2, k2]
  · exact absurd (k2.trans h1) (printL_not_inf k1)
  · exact absurd h1 k1
  · exact absurd (h2.trans k1) (printL_not_inf h1)
  · rw [h3, k3, printL_inj h1 k1 (h2.trans k2.symm)]
  · exact absurd h2 (k2 b h1)
  · exact absurd k1 h1
  · exact absurd k2 (h2 c k1)
  · rw [h3, k3]

/-- A bound that was made is the one that is printed so. -/
theorem made_some {v : Int} {r : Bool} (h : (ofB v r).2 = 0) : someB (ofB v r).1 = true := by
  obtain ⟨_, _, _, _, h3, h4⟩ := ofB_ok h
  exact fin_some h3 h4
theorem made_back {b : Int} (h : someB b = true) : ofB (b / 2) (decide (b % 2 = 1)) = (b, 0) := by
  obtain ⟨hr, hn⟩ : rightB b = true ∧ b ≠ 2147483647 := by simpa [someB] using h
  have := rightB_bd hr hn
  unfold ofB
  rw [if_neg (by omega)]
  by_cases e : b % 2 = 1
  · simp [e]; omega
  · simp [e]; omega

end Go.Proofs.YtncgapnooabdgaaDoor

/- Zones as texts: plain. -/
namespace Go.Proofs.YtncgapnooabdgaaDoor
open Go Go.RowKit
set_option linter.unusedVariables false
set_option linter.unusedSimpArgs false

/-- What Print says of one difference. -/
def cellL (m : Mat) (i j : Nat) : List UInt8 :=
  if i ≠ j ∧ m i j ≠ 2147483647 ∧ (i ≠ 0 ∨ m i j < 1) then [32, 120] ++ Lib.itoa i ++ [45, 120] ++ Lib.itoa j ++ printL (m i j) else []
def rowT (m : Mat) (i : Nat) : Nat → List UInt8
  | 0 => []
  | j + 1 => rowT m i j ++ cellL m i j
def zoneT (n : Nat) (m : Mat) : Nat → List UInt8
  | 0 => Lib.itoa n ++ [58]
  | i + 1 => zoneT n m i ++ rowT m i (n + 1)
/-- A zone, or nil, as a text. -/
def printZ : Option (Nat × Mat) → List UInt8
  | none => []
  | some (n, m) => if m 0 0 < 1 then Lib.itoa n ++ [58] ++ [32, 101, 109, 112, 116, 121] else zoneT n m (n + 1)

theorem itoa_len (n : Nat) (h : n ≤ 8) : (Lib.itoa n).length ≤ 21 := Lib.itoa_length_le n (by omega) (by omega)
theorem printL_short (b : Int) (h0 : -2147483648 ≤ b) (h1 : b ≤ 2147483647) : (printL b).length ≤ 30 := by
  have hl := Lib.itoa_length_le (b / 2) (by omega) (by omega)
  unfold printL
  split
  · simp
  · split
    · rw [List.length_append]
      split <;> simp <;> omega
    · simp
theorem cellL_len (m : Mat) (i j : Nat) (hi : i ≤ 8) (hj : j ≤ 8) (h0 : -2147483648 ≤ m i j) (h1 : m i j ≤ 2147483647) : (cellL m i j).length ≤ 76 := by
  have a := itoa_len i hi
  have b := itoa_len j hj
  have c := printL_short (m i j) h0 h1
  unfold cellL
  split
  · simp only [List.length_append, List.length_cons, List.length_nil]; omega
  · simp

end Go.Proofs.YtncgapnooabdgaaDoor

/- Bounds: made, AtMost, LessThan, Value. -/
namespace Go.Proofs.YtncgapnooabdgaaDoor
open Go Go.RowKit
set_option linter.unusedVariables false
set_option linter.unusedSimpArgs false

/-- A function that hands on what made answers. -/
def Makes (r : Int × Int) (w : World) (e : Ending) (w' : World) : Prop := e = .returned (.tuple #[.int .i32 r.1, .int .i64 r.2]) ∧ w = w'


theorem i32_and1 (x : Int) : bits .and .i32 x 1 = x % 2 := by
  have e1 : bits .and .i32 x 1 = IntKind.i32.wrap ((BitVec.ofInt 32 x).toNat &&& 1 : Nat) := by rfl
  rw [e1, Nat.and_one_is_mod, BitVec.toNat_ofInt, IntKind.wrap_i32]
  omega

set_option maxRecDepth 100000 in
set_option maxHeartbeats 1000000 in
theorem value_yes (b : Int) (w : World) (h : someB b = true) :
    Calls Tryd.prog 72 #[.int .i32 b] w fun e w' => e = .returned (.tuple #[.int .i64 (b / 2), .bool (decide (b % 2 = 1)), .bool true]) ∧ w = w' := by
  obtain ⟨hr, hn⟩ : rightB b = true ∧ b ≠ 2147483647 := by simpa [someB] using h
  have hb := rightB_bd hr hn
  have t0 : (b == 2147483647) = false := by simp [hn]
  have HR := Lib.hid hr
  clear h hr hn
  go_enter Tryd.func72, Tryd.ntmps72
  go_wp2_with fail
  refine (right_yes b _ HR.out).mono ?_
  rintro e w' ⟨rfl, rfl⟩
  go_wp2
  go_ret3
  refine ⟨?_, rfl⟩
  rw [i32_and1]
  by_cases e : b % 2 = 1 <;> simp [e]
set_option maxRecDepth 100000 in
set_option maxHeartbeats 1000000 in
theorem value_no (b : Int) (w : World) (h : someB b = false) :
    Calls Tryd.prog 72 #[.int .i32 b] w fun e w' => e = .returned (.tuple #[.int .i64 0, .bool false, .bool false]) ∧ w = w' := by
  by_cases hn : b = 2147483647
  · subst hn
    clear h
    go_enter Tryd.func72, Tryd.ntmps72
    go_wp2
    go_ret3
    exact ⟨rfl, rfl⟩
  · have t0 : (b == 2147483647) = false := by simp [hn]
    have hr : rightB b = false := by simpa [someB, hn] using h
    have HR := Lib.hid hr
    clear h hn hr
    go_enter Tryd.func72, Tryd.ntmps72
    go_wp2_with fail
    refine (right_no b _ HR.out).mono ?_
    rintro e w' ⟨rfl, rfl⟩
    go_wp2
    go_ret3
    exact ⟨rfl, rfl⟩

end Go.Proofs.YtncgapnooabdgaaDoor

/- One bound more in a sum. -/
namespace Go.Proofs.YtncgapnooabdgaaDoor
open Go Go.RowKit
set_option linter.unusedVariables false
set_option linter.unusedSimpArgs false

/-- A sum under way, as the machine holds it. -/
def tot (v : Int) (r i x : Bool) : Array Value := #[.int .i64 v, .bool r, .bool i, .bool x]
/-- One bound more. -/
def SumEnds (w : World) (v : Int) (r i x : Bool) (e : Ending) (w' : World) : Prop := e = .returned (.agg (tot v r i x)) ∧ Below w.heap.size w w'

theorem two_new {w : World} {a b : Array Value} {t : TypeId} : Below w.heap.size w ((w.alloc (.cells a t)).alloc (.cells b t)) :=
  ((Below.refl _ w).alloc (Nat.le_refl _) _).alloc (by simp) _

end Go.Proofs.YtncgapnooabdgaaDoor

/- The sums of bounds. -/
namespace Go.Proofs.YtncgapnooabdgaaDoor
open Go Go.RowKit
set_option linter.unusedVariables false
set_option linter.unusedSimpArgs false

/-- What the fold holds behind p bounds. -/
def totUp (l : List Int) (p : Nat) : Array Value := tot (sumAll l p) (redAll l p) (infUp l p) (badUp l p)
theorem totUp_all (l : List Int) (p : Nat) : (totUp l p).all (·.oneCell') = true := by simp [totUp, tot, Value.oneCell']
theorem totUp_old (l : List Int) (p q : Nat) : (totUp l p).size = (totUp l q).size := by simp [totUp, tot]
theorem tot_old (l : List Int) (q : Nat) : (tot 0 false false false).size = (totUp l q).size := by simp [totUp, tot]
theorem lt_of_heap {w : World} {g : Nat} {o : Obj} (h : w.heap[g]? = some o) : g < w.heap.size := by
  by_cases c : g < w.heap.size
  · exact c
  · rw [Array.getElem?_eq_none (by omega)] at h; cases h
theorem wrap_sum (l : List Int) : ∀ p, wrap64 (sumAll l p) = sumAll l p
  | 0 => by show wrap64 0 = 0; decide +kernel
  | p + 1 => by unfold sumAll wrap64; omega
end Go.Proofs.YtncgapnooabdgaaDoor

/- Sum, Add, Not of the program. -/
namespace Go.Proofs.YtncgapnooabdgaaDoor
open Go Go.RowKit
set_option linter.unusedVariables false
set_option linter.unusedSimpArgs false

/-- A bound and an error, in a world with new blocks. -/
def Gives (w : World) (r : Int × Int) (e : Ending) (w' : World) : Prop := e = .returned (.tuple #[.int .i32 r.1, .int .i64 r.2]) ∧ Below w.heap.size w w'

/-- Two or three bounds in a block that was just laid. -/
theorem ints_two (w : World) (e : TypeId) (a b : Int) : Ints (w.alloc (.cells #[.int .i32 a, .int .i32 b] e (0, 0))) .i32 (some ⟨w.heap.size, 0, none⟩) [a, b] := by
  exact RowAt.ints (e := e) ⟨#[.int .i32 a, .int .i32 b], heap_alloc_new _ _, by simp [vals]⟩
theorem ints_three (w : World) (e : TypeId) (a b c : Int) : Ints (w.alloc (.cells #[.int .i32 a, .int .i32 b, .int .i32 c] e (0, 0))) .i32 (some ⟨w.heap.size, 0, none⟩) [a, b, c] := by
  exact RowAt.ints (e := e) ⟨#[.int .i32 a, .int .i32 b, .int .i32 c], heap_alloc_new _ _, by simp [vals]⟩
theorem Gives.on {w w1 : World} {r : Int × Int} {e : Ending} {w' : World} (h : Gives w1 r e w') (hb : Below w.heap.size w w1) : Gives w r e w' := ⟨h.1, hb.trans (h.2.mono hb.size)⟩

theorem notP_yes {b : Int} (h : someB b = true) : notP b = ofB (-(b / 2)) (!decide (b % 2 = 1)) := by unfold notP; rw [if_pos h]
end Go.Proofs.YtncgapnooabdgaaDoor

/- What Print tells of a bound; live. -/
namespace Go.Proofs.YtncgapnooabdgaaDoor
open Go Go.RowKit
set_option linter.unusedVariables false
set_option linter.unusedSimpArgs false

/-- The library's table of powers of ten lies as its package laid it. -/
def Tab (w : World) : Prop := Lib.TabIs Tryd.prog w "internal/strconv.uint64pow10" .u64 Lib.pow10Tab
theorem Tab.below {w w' : World} (h : Tab w) (hb : Below w.heap.size w w') : Tab w' := Lib.tabBelow_of_tabIs h w' hb

/-- A bound as a text. -/
def printB (b : Int) : ByteArray :=
  if b = 2147483647 then ⟨#[105, 110, 102]⟩ else if someB b then (if b % 2 = 1 then ⟨#[60, 61]⟩ else ⟨#[60]⟩) ++ ⟨(Lib.itoa (b / 2)).toArray⟩ else ⟨#[]⟩
/-- A text, in a world with new blocks. -/
def Says (w : World) (s : ByteArray) (e : Ending) (w' : World) : Prop := e = .returned (.string s) ∧ Below w.heap.size w w'

set_option maxRecDepth 100000 in
set_option maxHeartbeats 1000000 in
theorem itoa_any (n : Int) (h0 : -9223372036854775808 ≤ n) (h1 : n ≤ 9223372036854775807) (w : World) (ht : Tab w) : Calls Tryd.prog 63 #[.int .i64 n] w (Says w ⟨(Lib.itoa n).toArray⟩) :=
  (Tryd.strconv_Itoa n h0 h1 w ht).mono fun e w' ⟨h, k, os, hw⟩ => ⟨h, by rw [hw]; exact Lib.below_grow _ w (Nat.le_refl _) k os⟩

set_option maxRecDepth 100000 in
set_option maxHeartbeats 1000000 in
theorem print_any (b : Int) (w : World) (ht : Tab w) : Calls Tryd.prog 64 #[.int .i32 b] w (Says w (printB b)) := by
  by_cases hn : b = 2147483647
  · subst hn
    have HV := Lib.hid (fun w => value_no 2147483647 w (by decide))
    rw [show printB 2147483647 = ⟨#[105, 110, 102]⟩ from rfl]
    clear ht
    go_enter Tryd.func64, Tryd.ntmps64
    go_wp2_with fail
    refine (HV.out _).mono ?_
    rintro e w' ⟨rfl, rfl⟩
    go_wp2
    go_ret
    exact ⟨rfl, Below.refl _ _⟩
  · have t0 : (b == 2147483647) = false := by simp [hn]
    by_cases h : someB b = true
    · have HV := Lib.hid (fun w => value_yes b w h)
      have hb : -268435456 ≤ b / 2 ∧ b / 2 ≤ 268435456 := by
        obtain ⟨hr, hn⟩ : rightB b = true ∧ b ≠ 2147483647 := by simpa [someB] using h
        have := rightB_bd hr hn
        omega
      have HT := Lib.hid ht
      by_cases hz : b % 2 = 1
      · have e : printB b = ⟨#[60, 61]⟩ ++ ⟨(Lib.itoa (b / 2)).toArray⟩ := by unfold printB; rw [if_neg hn, if_pos h, if_pos hz]
        rw [decide_eq_true hz] at HV
        rw [e]
        obtain ⟨q, hq⟩ : ∃ q, q = b / 2 := ⟨_, rfl⟩
        rw [← hq] at hb HV ⊢
        have HQ := Lib.hid hb
        clear e h hz hq hb ht
        go_enter Tryd.func64, Tryd.ntmps64
        go_wp2_with fail
        refine (HV.out _).mono ?_
        rintro e w' ⟨rfl, rfl⟩
        go_wp2_with fail
        refine (itoa_any q (by have := HQ.out; omega) (by have := HQ.out; omega) _ HT.out).mono ?_
        rintro e w' ⟨rfl, hb⟩
        have HB := Lib.hid hb
        clear hb
        have hl := Lib.itoa_length_le q (by have := HQ.out; omega) (by have := HQ.out; omega)
        have hl2 : ¬ (9223372036854775807 < 2 + (Lib.itoa q).length) := by omega
        have hl1 : ¬ (9223372036854775807 < 1 + (Lib.itoa q).length) := by omega
        go_wp2
        go_ret
        exact ⟨rfl, HB.out⟩
      · have e : printB b = ⟨#[60]⟩ ++ ⟨(Lib.itoa (b / 2)).toArray⟩ := by unfold printB; rw [if_neg hn, if_pos h, if_neg hz]
        rw [decide_eq_false hz] at HV
        rw [e]
        obtain ⟨q, hq⟩ : ∃ q, q = b / 2 := ⟨_, rfl⟩
        rw [← hq] at hb HV ⊢
        have HQ := Lib.hid hb
        clear e h hz hq hb ht
        go_enter Tryd.func64, Tryd.ntmps64
        go_wp2_with fail
        refine (HV.out _).mono ?_
        rintro e w' ⟨rfl, rfl⟩
        go_wp2_with fail
        refine (itoa_any q (by have := HQ.out; omega) (by have := HQ.out; omega) _ HT.out).mono ?_
        rintro e w' ⟨rfl, hb⟩
        have HB := Lib.hid hb
        clear hb
        have hl := Lib.itoa_length_le q (by have := HQ.out; omega) (by have := HQ.out; omega)
        have hl2 : ¬ (9223372036854775807 < 2 + (Lib.itoa q).length) := by omega
        have hl1 : ¬ (9223372036854775807 < 1 + (Lib.itoa q).length) := by omega
        go_wp2
        go_ret
        exact ⟨rfl, HB.out⟩
    · have h : someB b = false := by simpa using h
      have HV := Lib.hid (fun w => value_no b w h)
      have e : printB b = ⟨#[]⟩ := by unfold printB; rw [if_neg hn, if_neg (by simp [h])]
      rw [e]
      clear e h hn ht
      go_enter Tryd.func64, Tryd.ntmps64
      go_wp2_with fail
      refine (HV.out _).mono ?_
      rintro e w' ⟨rfl, rfl⟩
      go_wp2
      go_ret
      exact ⟨rfl, Below.refl _ _⟩

/-- What live tells, whatever is asked. -/
theorem printB_five : printB (-5) = ⟨#[60, 61, 45, 51]⟩ := by decide +kernel
end Go.Proofs.YtncgapnooabdgaaDoor

/- What keeps bounds, and sums and opposites: plain. -/
namespace Go.Proofs.YtncgapnooabdgaaDoor
open Go Go.RowKit
set_option linter.unusedVariables false
set_option linter.unusedSimpArgs false

theorem keeps_inf {x d : Int} (hd : 1 ≤ d) : keepsB 2147483647 x d = true := decide_eq_true ⟨hd, .inl rfl⟩
theorem keeps_fin {b x d : Int} (h : someB b = true) (hd : 1 ≤ d) : keepsB b x d = decide (x < b / 2 * d + b % 2) := by
  have hn : b ≠ 2147483647 := by rintro rfl; exact absurd h (by decide +kernel)
  unfold keepsB
  congr 1
  simp [h, hn, hd]
theorem some_parts {b : Int} (h : someB b = true) : rightB b = true ∧ b ≠ 2147483647 := by simpa [someB] using h

/-- Two differences that keep both have a sum that keeps the sum's bound. -/
theorem plus_keeps {a b x y d : Int} (hd : 1 ≤ d) (h : (sumP [a, b]).2 = 0) (h1 : keepsB a x d = true) (h2 : keepsB b y d = true) : keepsB (sumP [a, b]).1 (x + y) d = true := by
  obtain ⟨ha, hb⟩ := sum_ok h
  by_cases i : a = 2147483647 ∨ b = 2147483647
  · rw [sum_two_inf ha hb i]; exact keeps_inf hd
  · have ia : a ≠ 2147483647 := fun e => i (.inl e)
    have ib : b ≠ 2147483647 := fun e => i (.inr e)
    rw [sum_two ha hb ia ib] at h ⊢
    obtain ⟨_, _, e1, e2, e3, e4⟩ := ofB_ok h
    rw [keeps_fin (fin_some ha ia) hd] at h1
    rw [keeps_fin (fin_some hb ib) hd] at h2
    rw [keeps_fin (fin_some e3 e4) hd, e1]
    have h1 := of_decide_eq_true h1
    have h2 := of_decide_eq_true h2
    rw [Int.add_mul]
    generalize a / 2 * d = P at *
    generalize b / 2 * d = Q at *
    generalize (ofB (a / 2 + b / 2) (decide (a % 2 = 1) && decide (b % 2 = 1))).1 = c at *
    apply decide_eq_true
    by_cases ra : a % 2 = 1
    · by_cases rb : b % 2 = 1
      · have : c % 2 = 1 := of_decide_eq_true (by rw [e2]; simp [ra, rb])
        omega
      · omega
    · omega

/-- The smaller bound is the stricter one. -/
theorem stricter_keeps {a b x d : Int} (ha : rightB a = true) (hb : rightB b = true) (hd : 1 ≤ d) (hab : a ≤ b) (h : keepsB a x d = true) : keepsB b x d = true := by
  by_cases ib : b = 2147483647
  · rw [ib]; exact keeps_inf hd
  · have h2 := rightB_bd hb ib
    have ia : a ≠ 2147483647 := by omega
    rw [keeps_fin (fin_some ha ia) hd] at h
    rw [keeps_fin (fin_some hb ib) hd]
    have h := of_decide_eq_true h
    apply decide_eq_true
    by_cases e : a / 2 = b / 2
    · rw [e] at h; omega
    · have hm := Int.mul_le_mul_of_nonneg_right (show a / 2 + 1 ≤ b / 2 by omega) (show (0 : Int) ≤ d by omega)
      rw [Int.add_mul, Int.one_mul] at hm
      generalize a / 2 * d = P at *
      generalize b / 2 * d = Q at *
      omega

theorem not_fin {a : Int} (h : someB a = true) : notP a = (1 - a, 0) := by
  obtain ⟨hr, hn⟩ := some_parts h
  have hb := rightB_bd hr hn
  unfold notP
  rw [if_pos h]
  unfold ofB
  rw [if_neg (by omega)]
  by_cases e : a % 2 = 1
  · simp [e]; omega
  · simp [e]; omega
theorem not_keeps {a x d : Int} (h : someB a = true) (hd : 1 ≤ d) : keepsB (1 - a) (-x) d = !keepsB a x d := by
  obtain ⟨hr, hn⟩ := some_parts h
  have hb := rightB_bd hr hn
  have hs : someB (1 - a) = true := fin_some (decide_eq_true (.inr (by omega))) (by omega)
  rw [keeps_fin h hd, keeps_fin hs hd]
  have e : (1 - a) / 2 = -(a / 2) := by omega
  rw [e, Int.neg_mul]
  generalize a / 2 * d = P
  by_cases c : x < P + a % 2
  · rw [decide_eq_true c, decide_eq_false (by omega)]; rfl
  · rw [decide_eq_false c, decide_eq_true (by omega)]; rfl

end Go.Proofs.YtncgapnooabdgaaDoor

/- Parse of the program: what a text tells of. -/
namespace Go.Proofs.YtncgapnooabdgaaDoor
open Go Go.RowKit
set_option linter.unusedVariables false
set_option linter.unusedSimpArgs false

theorem bytes_app (a b : List UInt8) : (⟨a.toArray⟩ : ByteArray) ++ ⟨b.toArray⟩ = ⟨(a ++ b).toArray⟩ := by
  have h : ((⟨a.toArray⟩ : ByteArray) ++ ⟨b.toArray⟩).data = (a ++ b).toArray := by simp
  cases hx : (⟨a.toArray⟩ : ByteArray) ++ ⟨b.toArray⟩ with
  | mk d => rw [hx] at h; exact congrArg ByteArray.mk h
theorem printB_L (b : Int) : printB b = ⟨(printL b).toArray⟩ := by
  unfold printB printL
  by_cases hn : b = 2147483647
  · rw [if_pos hn, if_pos hn]
  · rw [if_neg hn, if_neg hn]
    by_cases h : someB b = true
    · rw [if_pos h, if_pos h]
      by_cases e : b % 2 = 1
      · rw [if_pos e, if_pos e]; exact bytes_app [60, 61] _
      · rw [if_neg e, if_neg e]; exact bytes_app [60] _
    · rw [if_neg h, if_neg h]

/-- A package's variable holds an interface's value. -/
def Sent (name : String) (w : World) : Prop := ∃ tp p, w.var? Tryd.prog name = some #[.iface tp p]
theorem Sent.below {name : String} {w w' : World} (h : Sent name w) (hb : Below w.heap.size w w') : Sent name w' := by
  obtain ⟨tp, p, h⟩ := h
  refine ⟨tp, p, ?_⟩
  unfold World.var? at *
  cases hg : Tryd.prog.globalNamed name with
  | none => simp [hg] at h
  | some g =>
    simp only [hg, Option.bind_some] at h ⊢
    have hlt : g < w.heap.size := by
      rcases Nat.lt_or_ge g w.heap.size with h' | h'
      · exact h'
      · rw [Array.getElem?_eq_none h'] at h; simp at h
    rw [hb.block g hlt]
    exact h

/-- How Atoi ends. -/
def AtoiEnds (w : World) (l : List UInt8) (e : Ending) (w' : World) : Prop :=
  Below w.heap.size w w' ∧ ((∃ v, e = .returned (.tuple #[.int .i64 v, .nilIface]) ∧ Lib.atoiAll l = .ok v) ∨ (∃ v T N, e = .returned (.tuple #[.int .i64 v, .iface T (.pointer (some ⟨N, 0, none⟩))]) ∧ ∀ v', Lib.atoiAll l ≠ .ok v'))

/-- The steps of Parse at the text of a bound. -/
theorem steps_of {b : Int} (h : someB b = true) : Lib.hasPrefix (printL b) [60] = true ∧ Lib.hasPrefix (Lib.trimPrefix (printL b) [60]) [61] = decide (b % 2 = 1) ∧ Lib.trimPrefix (Lib.trimPrefix (printL b) [60]) [61] = Lib.itoa (b / 2) := by
  obtain ⟨c, r, e, n1, n2⟩ := itoa_head (b / 2)
  have hc : ((61 : UInt8) == c) = false := beq_eq_false_iff_ne.2 (Ne.symm n1)
  rw [printL_some h, e]
  by_cases x : b % 2 = 1
  · rw [if_pos x, decide_eq_true x]
    refine ⟨rfl, rfl, rfl⟩
  · rw [if_neg x, decide_eq_false x]
    have e1 : Lib.trimPrefix ([60] ++ c :: r) [60] = c :: r := rfl
    have e2 : Lib.hasPrefix (c :: r) [61] = false := by simp [Lib.hasPrefix, List.isPrefixOf, hc]
    exact ⟨rfl, by rw [e1, e2], by rw [e1, Lib.trimPrefix, e2]; rfl⟩

/-- What Parse answers, in a world with new blocks. -/
def Parses (w : World) (s : List UInt8) (e : Ending) (w' : World) : Prop := Below w.heap.size w w' ∧ ∃ r, ParsesTo s r ∧ e = .returned (.tuple #[.int .i32 r.1, .int .i64 r.2])

theorem trim_le (s p : List UInt8) : (Lib.trimPrefix s p).length ≤ s.length := by
  unfold Lib.trimPrefix
  split
  · rw [List.length_drop]; omega
  · omega
theorem wrong_no {s : List UInt8} (h0 : s ≠ [105, 110, 102]) (h : ∀ b, someB b = true → printL b ≠ s) : ParsesTo s (0, 7) := .inr (.inr ⟨h0, h, rfl⟩)

end Go.Proofs.YtncgapnooabdgaaDoor

/- Print of a zone. -/
namespace Go.Proofs.YtncgapnooabdgaaDoor
open Go Go.RowKit
set_option linter.unusedVariables false
set_option linter.unusedSimpArgs false

theorem zprint_nil (w : World) : Calls Tryd.prog 44 #[.pointer none] w (Says w ⟨(printZ none).toArray⟩) := by
  go_enter Tryd.func44, Tryd.ntmps44
  go_wp2
  go_ret
  exact ⟨rfl, Below.refl _ _⟩

set_option maxHeartbeats 1000000 in
set_option maxRecDepth 100000 in
theorem zprint_empty (b n : Nat) (m : Mat) (w : World) (hn : n ≤ 8) (hm : MatAt w b 88 .i32 n m) (he : m 0 0 < 1) (ht : Tab w) :
    Calls Tryd.prog 44 #[.pointer (some ⟨b, 0, none⟩)] w (Says w ⟨(printZ (some (n, m))).toArray⟩) := by
  have HM := Lib.hid hm
  have h0 := hm.head
  have hl := itoa_len n hn
  have HI := Lib.hid (fun w ht => itoa_any n (by omega) (by omega) w ht)
  have HT := Lib.hid ht
  have HE := Lib.hid (show printZ (some (n, m)) = Lib.itoa n ++ [58] ++ [32, 101, 109, 112, 116, 121] by show (if m 0 0 < 1 then Lib.itoa n ++ [58] ++ [32, 101, 109, 112, 116, 121] else zoneT n m (n + 1)) = _; rw [if_pos he])
  have HEM := Lib.hid (fun w hm => empty_zone b n m w hm)
  rw [decide_eq_true he] at HEM
  generalize Lib.itoa n = L at *
  have l1 : ¬ (9223372036854775807 < L.length + 1) := by omega
  have l2 : ¬ (9223372036854775807 < L.length + 1 + 6) := by omega
  clear hm he ht
  go_enter Tryd.func44, Tryd.ntmps44
  go_wp2_with fail
  refine (HI.out _ HT.out).mono ?_
  rintro e w1 ⟨rfl, hb⟩
  have HB := Lib.hid hb
  have HM1 := Lib.hid (HM.out.later hb)
  clear hb
  go_wp2_with fail
  refine (HEM.out _ HM1.out).mono ?_
  rintro e w2 ⟨rfl, rfl⟩
  go_wp2
  go_ret
  refine ⟨?_, HB.out⟩
  rw [HE.out, ← bytes_app, ← bytes_app]
  rfl

end Go.Proofs.YtncgapnooabdgaaDoor
