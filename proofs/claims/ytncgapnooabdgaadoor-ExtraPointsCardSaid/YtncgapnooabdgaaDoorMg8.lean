/- Texts of ours, laid together: Eg, Fg, Kg, Kn, Ew, Km. -/
import Derived.WalkKit
import Derived.BigQuiet
import Derived.Deep.RegionHeld3
import Derived.Sort.AtCall
import Derived.Test.YtncgapnooabdgaaDoorMg7
/- The greatest numbers of rows, place by place: the program. -/
namespace Go.Proofs.YtncgapnooabdgaaDoor
open Go Go.RowKit
set_option linter.unusedVariables false
set_option linter.unusedSimpArgs false
attribute [local go_sem] min_ints max_ints

/-- The greatest of a row so far and p places of another. -/
def gstUp (out row : List Int) : Nat → List Int
  | 0 => out
  | p + 1 => if (gstUp out row p).length = p then gstUp out row p ++ [row.getD p 0] else (gstUp out row p).set p (max ((gstUp out row p).getD p 0) (row.getD p 0))
/-- Of the first k rows. -/
def gstRows (ls : List (List Int)) : Nat → List Int
  | 0 => []
  | k + 1 => gstUp (gstRows ls k) (ls.getD k []) (ls.getD k []).length
theorem gstUp_length (out row : List Int) : ∀ p, p ≤ (gstUp out row p).length ∧ (gstUp out row p).length ≤ max out.length p
  | 0 => by simp [gstUp]
  | p + 1 => by
    obtain ⟨h1, h2⟩ := gstUp_length out row p
    unfold gstUp
    split
    · rw [List.length_append, List.length_singleton]; omega
    · rw [List.length_set]; omega
theorem gstRows_length {ls : List (List Int)} {B : Nat} (h : ∀ j, j < ls.length → (ls.getD j []).length ≤ B) : ∀ k, k ≤ ls.length → (gstRows ls k).length ≤ B
  | 0, _ => by simp [gstRows]
  | k + 1, hk => by
    have ih := gstRows_length h k (by omega)
    have h1 := h k (by omega)
    have h2 := (gstUp_length (gstRows ls k) (ls.getD k []) (ls.getD k []).length).2
    unfold gstRows
    omega
theorem gst_app {out row : List Int} {p : Nat} (h : (gstUp out row p).length = p) : gstUp out row (p + 1) = gstUp out row p ++ [row.getD p 0] := by
  rw [gstUp, if_pos h]
theorem gst_set {out row : List Int} {p : Nat} (h : ¬ (gstUp out row p).length = p) : gstUp out row (p + 1) = (gstUp out row p).set p (max ((gstUp out row p).getD p 0) (row.getD p 0)) := by
  rw [gstUp, if_neg h]
theorem set_last (xs : List Int) (x y : Int) : (xs ++ [x]).set xs.length y = xs ++ [y] := by
  rw [List.set_append_right _ _ (Nat.le_refl _), Nat.sub_self]; rfl
theorem set_here (xs : List Int) (p : Nat) (h : p < xs.length) : xs.set p (xs.getD p 0) = xs := by
  rw [List.getD_eq_getElem?_getD, List.getElem?_eq_getElem h]
  simp

/-- Rows of numbers that can be read. -/
def RowsG (w : World) (A : Option Addr) (ls : List (List Int)) : Prop :=
  ∀ j, j < ls.length → ∃ b off A' c', A = some ⟨b, off, none⟩ ∧ w.cell? ⟨b, off + j, none⟩ = some (.slice A' (ls.getD j []).length c') ∧ Ints w .i64 A' (ls.getD j [])
theorem RowsG.below {w w' : World} {A : Option Addr} {ls : List (List Int)} (h : RowsG w A ls) (hb : Below w.heap.size w w') : RowsG w' A ls := fun j hj => by
  obtain ⟨b, off, A', c', e, hc, hi⟩ := h j hj
  exact ⟨b, off, A', c', e, (hb.cell (p := ⟨b, off + j, none⟩) (World.block_lt_of_cell? w _ hc)).trans hc, hi.below hb⟩

/-- The greatest numbers under way: a row of the call's own. -/
def GsR (w0 : World) (xs : List Int) (v : Value) (wr : World) : Prop := Below w0.heap.size w0 wr ∧ OwnI wr w0.heap.size 3 .i64 v xs
theorem GsR.app {w0 wr w1 : World} {xs : List Int} {v v' : Value} {x : Int} {q : Nat} {o : Obj} (h : GsR w0 xs v wr) (hown : w1.ownsRow w0.heap.size 3 1 v' (xs.length + 1) (vals .i64 xs ++ [.int .i64 x])) (hg : ((wr.alloc o).drewN q).grownBy w1 v.ownBlock) : GsR w0 (xs ++ [x]) v' w1 := by
  refine ⟨(belowN (h.1.alloc h.1.size o) q).grown hg (by have := h.1.size; simp; omega) (fun k hk => (World.ownsRow.lt h.2 k hk).1), ?_⟩
  unfold OwnI
  rw [List.length_append, show vals .i64 (xs ++ [x]) = vals .i64 xs ++ [.int .i64 x] by simp [vals]]
  exact hown
theorem GsR.set {w0 wr : World} {xs : List Int} {g cap : Nat} (h : GsR w0 xs (.slice (some ⟨g, 0, none⟩) xs.length cap) wr) (p : Nat) (y : Int) : GsR w0 (xs.set p y) (.slice (some ⟨g, 0, none⟩) xs.length cap) (wr.setCell ⟨g, p, none⟩ (.int .i64 y)) := by
  have hlt := World.ownsRow.lt h.2 g rfl
  refine ⟨h.1.setCell (p := ⟨g, p, none⟩) hlt.1 _, ?_⟩
  have := (World.ownsRow.stored h.2 p (.int .i64 y)).1
  unfold OwnI
  rw [List.length_set, show vals .i64 (xs.set p y) = (vals .i64 xs).set p (.int .i64 y) by simp [vals, List.map_set]]
  exact this
theorem GsR.drewN {w0 wr : World} {xs : List Int} {v : Value} (h : GsR w0 xs v wr) (q : Nat) : GsR w0 xs v (wr.drewN q) := ⟨belowN h.1 q, h.2.later (belowN (Below.refl _ _) q)⟩
/-- It is a slice, with its cells. -/
theorem GsR.form {w0 wr : World} {xs : List Int} {v : Value} (h : GsR w0 xs v wr) (hne : 0 < xs.length) : ∃ g cap, v = .slice (some ⟨g, 0, none⟩) xs.length cap ∧ RowAt wr g 3 .i64 xs := by
  obtain ⟨g, cap, e, _, hr⟩ := h.2.row hne
  exact ⟨g, cap, e, hr⟩
/-- A function that tells a row of numbers ends with this answer. -/
def TellsI (w0 : World) (xs : List Int) (e : Ending) (w' : World) : Prop := ∃ v, e = .returned v ∧ GsR w0 xs v w'

set_option maxRecDepth 100000 in
set_option maxHeartbeats 2000000 in
theorem greatest_any (A : Option Addr) (c : Nat) (ls : List (List Int)) (w : World) (hR : RowsG w A ls) (hl : ls.length ≤ 4611686018427387904) (hb : ∀ j, j < ls.length → (ls.getD j []).length ≤ 17592186043904) :
    Calls Tryd.prog 26 #[.slice A ls.length c] w (TellsI w (gstRows ls ls.length)) := by
  have HR := Lib.hid hR
  have HB := Lib.hid hb
  obtain ⟨i0, hi1, hz0, hz1, hz2⟩ := info_parts infoN
  have HInf := Lib.hid (And.intro hi1 (And.intro hz0 (And.intro hz1 hz2)))
  have HS := Lib.hid (show GsR w (gstRows ls 0) (.slice none 0 0) w from ⟨Below.refl _ _, World.ownsRow_nil _ _ _ _⟩)
  clear hR hb hi1 hz0 hz1 hz2
  go_enter Tryd.func26, Tryd.ntmps26
  go_wp2
  go_loopg [3, 10] ls.length (fun q ov v wr => ∃ k : Nat, v = .int .i64 k ∧ Hid (GsR w (gstRows ls k) ov wr) ∧ Hid (k ≤ ls.length ∧ q + k = ls.length))
  case atStart => exact ⟨0, by simp, HS.out, by omega, by omega⟩
  case round =>
    clear HS
    obtain ⟨k, rfl, HK, HP⟩ := hrel
    by_cases hk : k < ls.length
    · have hki : (k : Int) < (ls.length : Int) := by omega
      obtain ⟨b, off, A', c', rfl, ck, _⟩ := HR.out.below HK.out.1 k hk
      have hrl := HB.out k hk
      have hol := gstRows_length HB.out k (by omega)
      obtain ⟨out, hout⟩ : ∃ out, out = gstRows ls k := ⟨_, rfl⟩
      obtain ⟨row, hrow⟩ : ∃ row, row = ls.getD k [] := ⟨_, rfl⟩
      rw [← hrow] at ck hrl
      rw [← hout] at hol HK
      have HO := Lib.hid hout
      have HRW := Lib.hid hrow
      have HI := Lib.hid (fun wx (hb : Below w.heap.size w wx) => show Ints wx .i64 A' row by
        obtain ⟨b2, off2, A2, c2, e2, ck2, hi2⟩ := HR.out.below hb k hk
        obtain ⟨b1, off1, A1, c1, e1, ck1, hi1⟩ := HR.out k hk
        cases e1
        cases e2
        have h1 := ((HK.out.1.cell (p := ⟨b, off + k, none⟩) (World.block_lt_of_cell? w _ ck1)).trans ck1).symm.trans ck
        have h2 := ((hb.cell (p := ⟨b, off + k, none⟩) (World.block_lt_of_cell? w _ ck1)).trans ck1).symm.trans ck2
        have h3 := h1.symm.trans h2
        simp only [Option.some.injEq, Value.slice.injEq] at h3
        rw [h3.1, HRW.out]
        exact hi2)
      have HS := Lib.hid (show GsR w (gstUp out row 0) _ wr from HK.out)
      clear hout hrow
      go_wp2
      go_loopg [3, 16] row.length (fun q ov v wr => ∃ p : Nat, v = .int .i64 p ∧ Hid (GsR w (gstUp out row p) ov wr) ∧ Hid (p ≤ row.length ∧ q + p = row.length))
      case atStart => exact ⟨0, by simp, HS.out, by omega, by omega⟩
      case round =>
        clear HS
        obtain ⟨p, rfl, HG, HQ⟩ := hrel
        by_cases hp : p < row.length
        · have hpi : (p : Int) < (row.length : Int) := by omega
          obtain ⟨b', off', rfl, c1⟩ := HI.out _ HG.out.1 p hp
          have hgl := gstUp_length out row p
          by_cases hc : (gstUp out row p).length = p
          · have HNX := Lib.hid (gst_app hc)
            have HC := Lib.hid hc
            obtain ⟨cur, hcur⟩ : ∃ cur, cur = gstUp out row p := ⟨_, rfl⟩
            obtain ⟨x, hx⟩ : ∃ x, x = row.getD p 0 := ⟨_, rfl⟩
            rw [← hcur] at HG HNX HC hgl
            rw [← hx] at c1 HNX
            obtain ⟨A3, cap3, hv, _⟩ := HG.out.2.slice
            rw [HC.out] at hv
            subst hv
            clear hcur hx hc
            have t1 : ((p : Int) == (p : Int)) = true := by simp
            go_wp2_with (at_builtin; refine wpList_append_own _ rfl _ _ 23 rfl w.heap.size 3 i0 (.int .i64 0) 1 8 Tryd.underlying23 HInf.out.1 HInf.out.2.1 HInf.out.2.2.1 HInf.out.2.2.2 rfl (by decide) _ _ _ rfl (HG.out.2.alloc _) ⟨wr.heap.size, 0, none⟩ 1 1 [.int .i64 x] rfl rfl (cell_one_new _ _ _) (by intro u hu; simp at hu; subst hu; rfl) ?c3 ?c4 ?c5 ?_)
            case c3 => unfold maxLen; omega
            case c4 => omega
            case c5 => have := HG.out.1.size; simp; omega
            intro v' w1 hown hgrow _
            have HN := Lib.hid (HG.out.app (q := 0) hown hgrow)
            clear hown hgrow
            have hlen : (cur ++ [x]).length = p + 1 := by rw [List.length_append, HC.out]; rfl
            obtain ⟨g, cap, hv, hr⟩ := HN.out.form (by omega)
            have d1 := hr.cell p (by omega)
            have d2 := hr.frozen p
            have d3 := hr.lt
            rw [show (cur ++ [x]).getD p 0 = x by rw [List.getD_eq_getElem?_getD, List.getElem?_append_right (by rw [HC.out]; exact Nat.le_refl _), HC.out, Nat.sub_self]; rfl] at d1
            subst hv
            have HN2 := Lib.hid (HN.out.set p x)
            rw [hlen] at HN2 ⊢
            rw [show (cur ++ [x]).set p x = cur ++ [x] by rw [show p = cur.length from HC.out.symm, set_last], ← HNX.out] at HN2
            clear HN hr hlen
            have hpp : (p : Int) < ((p + 1 : Nat) : Int) := by omega
            go_wp2
            go_roundg (gk - 1)
            case measure => have h := HQ.out; omega
            case rel => exact ⟨p + 1, by go_num, HN2.out, by omega, by have h := HQ.out; omega⟩
          · have hplt : p < (gstUp out row p).length := by omega
            have HNX := Lib.hid (gst_set hc)
            obtain ⟨cur, hcur⟩ : ∃ cur, cur = gstUp out row p := ⟨_, rfl⟩
            obtain ⟨x, hx⟩ : ∃ x, x = row.getD p 0 := ⟨_, rfl⟩
            rw [← hcur] at HG HNX hplt hgl
            rw [← hx] at c1 HNX
            have t1 : ((p : Int) == (cur.length : Int)) = false := by rw [hcur]; simp; omega
            have t2 : (p == cur.length) = false := by rw [hcur]; simp; omega
            obtain ⟨g, cap, hv, hr⟩ := HG.out.form (by omega)
            have d1 := hr.cell p hplt
            have d2 := hr.frozen p
            have d3 := hr.lt
            subst hv
            obtain ⟨y, hy⟩ : ∃ y, y = cur.getD p 0 := ⟨_, rfl⟩
            rw [← hy] at d1 HNX
            have HN2 := Lib.hid (HG.out.set p (max y x))
            rw [← HNX.out] at HN2
            clear hcur hx hy hc hr
            have hpp : (p : Int) < (cur.length : Int) := by omega
            go_wp2
            go_roundg (gk - 1)
            case measure => have h := HQ.out; omega
            case rel => exact ⟨p + 1, by go_num, HN2.out, by omega, by have h := HQ.out; omega⟩
        · have e : p = row.length := by have := HQ.out.1; omega
          subst e
          have HN := Lib.hid (show GsR w (gstRows ls (k + 1)) _ wr by rw [gstRows, ← HRW.out, ← HO.out]; exact HG.out)
          go_wp2
          go_roundg (ls.length - (k + 1))
          case measure => have h := HP.out; omega
          case rel => exact ⟨k + 1, by go_num, HN.out, by omega, by omega⟩
    · have e : k = ls.length := by have := HP.out.1; omega
      subst e
      go_wp2
      go_ret
      exact ⟨_, rfl, HK.out⟩

end Go.Proofs.YtncgapnooabdgaaDoor

/- The greatest numbers of rows, place by place: the document. -/
namespace Go.Proofs.YtncgapnooabdgaaDoor
open Go Go.RowKit
set_option linter.unusedVariables false
set_option linter.unusedSimpArgs false

set_option maxRecDepth 100000 in
set_option maxHeartbeats 2000000 in
theorem greatest5_any (A : Option Addr) (c : Nat) (ls : List (List Int)) (w : World) (hR : RowsG w A ls) (hl : ls.length ≤ 4611686018427387904) (hb : ∀ j, j < ls.length → (ls.getD j []).length ≤ 17592186043904) :
    Calls Tryd.prog 27 #[.slice A ls.length c] w (TellsI w (gstRows ls ls.length)) := by
  have HR := Lib.hid hR
  have HB := Lib.hid hb
  obtain ⟨i0, hi1, hz0, hz1, hz2⟩ := info_parts infoN
  have HInf := Lib.hid (And.intro hi1 (And.intro hz0 (And.intro hz1 hz2)))
  have HS := Lib.hid (show GsR w (gstRows ls 0) (.slice none 0 0) w from ⟨Below.refl _ _, World.ownsRow_nil _ _ _ _⟩)
  clear hR hb hi1 hz0 hz1 hz2
  go_enter Tryd.func27, Tryd.ntmps27
  go_wp2
  go_loopg [3, 4] ls.length (fun q ov v wr => ∃ k : Nat, v = .int .i64 k ∧ Hid (GsR w (gstRows ls k) ov wr) ∧ Hid (k ≤ ls.length ∧ q + k = ls.length))
  case atStart => exact ⟨0, by simp, HS.out, by omega, by omega⟩
  case round =>
    clear HS
    obtain ⟨k, rfl, HK, HP⟩ := hrel
    by_cases hk : k < ls.length
    · have hki : (k : Int) < (ls.length : Int) := by omega
      obtain ⟨b, off, A', c', rfl, ck, _⟩ := HR.out.below HK.out.1 k hk
      have hrl := HB.out k hk
      have hol := gstRows_length HB.out k (by omega)
      obtain ⟨out, hout⟩ : ∃ out, out = gstRows ls k := ⟨_, rfl⟩
      obtain ⟨row, hrow⟩ : ∃ row, row = ls.getD k [] := ⟨_, rfl⟩
      rw [← hrow] at ck hrl
      rw [← hout] at hol HK
      have HO := Lib.hid hout
      have HRW := Lib.hid hrow
      have HI := Lib.hid (fun wx (hb : Below w.heap.size w wx) => show Ints wx .i64 A' row by
        obtain ⟨b2, off2, A2, c2, e2, ck2, hi2⟩ := HR.out.below hb k hk
        obtain ⟨b1, off1, A1, c1, e1, ck1, hi1⟩ := HR.out k hk
        cases e1
        cases e2
        have h1 := ((HK.out.1.cell (p := ⟨b, off + k, none⟩) (World.block_lt_of_cell? w _ ck1)).trans ck1).symm.trans ck
        have h2 := ((hb.cell (p := ⟨b, off + k, none⟩) (World.block_lt_of_cell? w _ ck1)).trans ck1).symm.trans ck2
        have h3 := h1.symm.trans h2
        simp only [Option.some.injEq, Value.slice.injEq] at h3
        rw [h3.1, HRW.out]
        exact hi2)
      have HS := Lib.hid (show GsR w (gstUp out row 0) _ wr from HK.out)
      have HCK := Lib.hid (fun wx (hb : Below w.heap.size w wx) => show wx.cell? ⟨b, off + k, none⟩ = some (.slice A' row.length c') by
        obtain ⟨b1, off1, A1, c1, e1, ck1, hi1⟩ := HR.out k hk
        cases e1
        have h1 := ((HK.out.1.cell (p := ⟨b, off + k, none⟩) (World.block_lt_of_cell? w _ ck1)).trans ck1).symm.trans ck
        exact ((hb.cell (p := ⟨b, off + k, none⟩) (World.block_lt_of_cell? w _ ck1)).trans ck1).trans h1)
      clear hout hrow ck
      go_wp2
      go_loopg [3, 5] row.length (fun q ov v wr => ∃ p : Nat, v = .int .i64 p ∧ Hid (GsR w (gstUp out row p) ov wr) ∧ Hid (p ≤ row.length ∧ q + p = row.length))
      case atStart => exact ⟨0, by simp, HS.out, by omega, by omega⟩
      case round =>
        clear HS
        obtain ⟨p, rfl, HG, HQ⟩ := hrel
        have ck' := HCK.out _ HG.out.1
        by_cases hp : p < row.length
        · have hpi : (p : Int) < (row.length : Int) := by omega
          obtain ⟨b', off', rfl, c1⟩ := HI.out _ HG.out.1 p hp
          have hgl := gstUp_length out row p
          by_cases hc : (gstUp out row p).length = p
          · have HNX := Lib.hid (gst_app hc)
            have HC := Lib.hid hc
            obtain ⟨cur, hcur⟩ : ∃ cur, cur = gstUp out row p := ⟨_, rfl⟩
            obtain ⟨x, hx⟩ : ∃ x, x = row.getD p 0 := ⟨_, rfl⟩
            rw [← hcur] at HG HNX HC hgl
            rw [← hx] at c1 HNX
            obtain ⟨A3, cap3, hv, _⟩ := HG.out.2.slice
            rw [HC.out] at hv
            subst hv
            clear hcur hx hc
            have t1 : ((p : Int) == (p : Int)) = true := by simp
            go_wp2_with (at_builtin; refine wpList_append_own _ rfl _ _ 23 rfl w.heap.size 3 i0 (.int .i64 0) 1 8 Tryd.underlying23 HInf.out.1 HInf.out.2.1 HInf.out.2.2.1 HInf.out.2.2.2 rfl (by decide) _ _ _ rfl (HG.out.2.alloc _) ⟨wr.heap.size, 0, none⟩ 1 1 [.int .i64 x] rfl rfl (cell_one_new _ _ _) (by intro u hu; simp at hu; subst hu; rfl) ?c3 ?c4 ?c5 ?_)
            case c3 => unfold maxLen; omega
            case c4 => omega
            case c5 => have := HG.out.1.size; simp; omega
            intro v' w1 hown hgrow _
            have HN2 := Lib.hid (HG.out.app (q := 0) hown hgrow)
            rw [← HNX.out] at HN2
            clear hown hgrow
            go_wp2
            go_roundg (gk - 1)
            case measure => have h := HQ.out; omega
            case rel => exact ⟨p + 1, by go_num, HN2.out, by omega, by have h := HQ.out; omega⟩
          · have hplt : p < (gstUp out row p).length := by omega
            have HNX := Lib.hid (gst_set hc)
            obtain ⟨cur, hcur⟩ : ∃ cur, cur = gstUp out row p := ⟨_, rfl⟩
            obtain ⟨x, hx⟩ : ∃ x, x = row.getD p 0 := ⟨_, rfl⟩
            rw [← hcur] at HG HNX hplt hgl
            rw [← hx] at c1 HNX
            have t1 : ((p : Int) == (cur.length : Int)) = false := by rw [hcur]; simp; omega
            have t2 : (p == cur.length) = false := by rw [hcur]; simp; omega
            obtain ⟨g, cap, hv, hr⟩ := HG.out.form (by omega)
            have d1 := hr.cell p hplt
            have d2 := hr.frozen p
            have d3 := hr.lt
            subst hv
            obtain ⟨y, hy⟩ : ∃ y, y = cur.getD p 0 := ⟨_, rfl⟩
            rw [← hy] at d1 HNX
            have HST := Lib.hid (fun (W : World) (h : GsR w cur (.slice (some ⟨g, 0, none⟩) cur.length cap) W) => h.set p x)
            have HXY := Lib.hid (fun (h : y < x) => show cur.set p x = gstUp out row (p + 1) by rw [HNX.out, show max y x = x by omega])
            have HYX := Lib.hid (fun (h : ¬ y < x) => show cur = gstUp out row (p + 1) by rw [HNX.out, show max y x = y by omega, hy, set_here cur p hplt])
            clear hcur hx hy hc hr HNX
            have hpp : (p : Int) < (cur.length : Int) := by omega
            have ckd := Lib.hid (show ∀ q, (wr.drewN q).cell? _ = _ from fun q => ck')
            by_cases hlt : y < x
            · have d4 : decide (y < x) = true := decide_eq_true hlt
              have HQ2 := Lib.hid (fun q => HST.out _ (HG.out.drewN q))
              rw [HXY.out hlt] at HQ2
              clear hlt
              go_wp2_with fail
              go_quiet (fail)
              have HN2 := Lib.hid (HQ2.out nq)
              go_wp2
              go_roundg (gk - 1)
              case measure => have h := HQ.out; omega
              case rel => exact ⟨p + 1, by go_num, HN2.out, by omega, by have h := HQ.out; omega⟩
            · have d4 : decide (y < x) = false := decide_eq_false hlt
              have HE2 := Lib.hid (HYX.out hlt)
              clear hlt
              go_wp2_with fail
              go_quiet (fail)
              have HN2 := Lib.hid (show GsR w (gstUp out row (p + 1)) (.slice (some ⟨g, 0, none⟩) cur.length cap) (wr.drewN nq) by rw [← HE2.out]; exact HG.out.drewN nq)
              go_wp2
              go_roundg (gk - 1)
              case measure => have h := HQ.out; omega
              case rel => exact ⟨p + 1, by go_num, HN2.out, by omega, by have h := HQ.out; omega⟩
        · have e : p = row.length := by have := HQ.out.1; omega
          subst e
          have HN := Lib.hid (show GsR w (gstRows ls (k + 1)) _ wr by rw [gstRows, ← HRW.out, ← HO.out]; exact HG.out)
          go_wp2
          go_roundg (ls.length - (k + 1))
          case measure => have h := HP.out; omega
          case rel => exact ⟨k + 1, by go_num, HN.out, by omega, by omega⟩
    · have e : k = ls.length := by have := HP.out.1; omega
      subst e
      go_wp2
      go_ret
      exact ⟨_, rfl, HK.out⟩

end Go.Proofs.YtncgapnooabdgaaDoor

/- What ExtraGone tells. -/
namespace Go.Proofs.YtncgapnooabdgaaDoor
open Go Go.RowKit
set_option linter.unusedVariables false
set_option linter.unusedSimpArgs false

theorem triple_cells (w : World) (a b d : Value) (t : TypeId) : (w.alloc (.cells #[a, b, d] t)).cell? ⟨w.heap.size, 0, none⟩ = some a ∧ (w.alloc (.cells #[a, b, d] t)).cell? ⟨w.heap.size, 1, none⟩ = some b ∧ (w.alloc (.cells #[a, b, d] t)).cell? ⟨w.heap.size, 2, none⟩ = some d := by
  have h := heap_alloc_new w (.cells #[a, b, d] t)
  refine ⟨?_, ?_, ?_⟩ <;> (unfold World.cell?; rw [h]; rfl)
theorem rows_three {w : World} {g : Nat} {T : TypeId} {A0 A1 A2 : Option Addr} {c0 c1 c2 : Nat} {l0 l1 l2 : List Int} (h : w.heap[g]? = some (.cells #[.slice A0 l0.length c0, .slice A1 l1.length c1, .slice A2 l2.length c2] T (0, 0)))
    (h0 : Ints w .i64 A0 l0) (h1 : Ints w .i64 A1 l1) (h2 : Ints w .i64 A2 l2) : RowsG w (some ⟨g, 0, none⟩) [l0, l1, l2] := by
  intro j hj
  have e0 : j = 0 ∨ j = 1 ∨ j = 2 := by simp at hj; omega
  rcases e0 with rfl | rfl | rfl
  · exact ⟨g, 0, A0, c0, rfl, by unfold World.cell?; rw [h]; rfl, h0⟩
  · exact ⟨g, 0, A1, c1, rfl, by unfold World.cell?; rw [h]; rfl, h1⟩
  · exact ⟨g, 0, A2, c2, rfl, by unfold World.cell?; rw [h]; rfl, h2⟩
theorem two_blocks (w : World) (o o' : Obj) : ((w.alloc o).alloc o').heap[w.heap.size]? = some o ∧ ((w.alloc o).alloc o').heap[w.heap.size + 1]? = some o' := by
  refine ⟨(heap_alloc_old _ _ (by simp)).trans (heap_alloc_new _ _), ?_⟩
  have := heap_alloc_new (w.alloc o) o'
  rw [show (w.alloc o).heap.size = w.heap.size + 1 by simp] at this
  exact this
theorem rows_one {W : World} (T : TypeId) {A0 A1 A2 : Option Addr} (c0 c1 c2 : Nat) {l0 l1 l2 : List Int} (h0 : Ints W .i64 A0 l0) (h1 : Ints W .i64 A1 l1) (h2 : Ints W .i64 A2 l2) :
    RowsG (W.alloc (.cells #[.slice A0 l0.length c0, .slice A1 l1.length c1, .slice A2 l2.length c2] T)) (some ⟨W.heap.size, 0, none⟩) [l0, l1, l2] := by
  have hb : Below W.heap.size W (W.alloc (.cells #[.slice A0 l0.length c0, .slice A1 l1.length c1, .slice A2 l2.length c2] T)) := (Below.refl _ _).alloc (Nat.le_refl _) _
  exact rows_three (heap_alloc_new _ _) (h0.below hb) (h1.below hb) (h2.below hb)
theorem rows_two {W : World} (T : TypeId) {A0 A1 A2 : Option Addr} (c0 c1 c2 : Nat) {l0 l1 l2 : List Int} (h0 : Ints W .i64 A0 l0) (h1 : Ints W .i64 A1 l1) (h2 : Ints W .i64 A2 l2) :
    RowsG ((W.alloc (.cells #[.slice A0 l0.length c0, .slice A1 l1.length c1, .slice A2 l2.length c2] T)).alloc (.cells #[.slice A0 l0.length c0, .slice A1 l1.length c1, .slice A2 l2.length c2] T)) (some ⟨W.heap.size, 0, none⟩) [l0, l1, l2] ∧
    RowsG ((W.alloc (.cells #[.slice A0 l0.length c0, .slice A1 l1.length c1, .slice A2 l2.length c2] T)).alloc (.cells #[.slice A0 l0.length c0, .slice A1 l1.length c1, .slice A2 l2.length c2] T)) (some ⟨W.heap.size + 1, 0, none⟩) [l0, l1, l2] := by
  have hb1 : Below W.heap.size W (W.alloc (.cells #[.slice A0 l0.length c0, .slice A1 l1.length c1, .slice A2 l2.length c2] T)) := (Below.refl _ _).alloc (Nat.le_refl _) _
  have hb : Below W.heap.size W ((W.alloc (.cells #[.slice A0 l0.length c0, .slice A1 l1.length c1, .slice A2 l2.length c2] T)).alloc (.cells #[.slice A0 l0.length c0, .slice A1 l1.length c1, .slice A2 l2.length c2] T)) := hb1.alloc (by simp) _
  exact ⟨rows_three (two_blocks _ _ _).1 (h0.below hb) (h1.below hb) (h2.below hb), rows_three (two_blocks _ _ _).2 (h0.below hb) (h1.below hb) (h2.below hb)⟩
theorem rows_nil (w : World) : RowsG w none [] := fun j hj => by simp at hj
theorem three_len {l0 l1 l2 : List Int} {B : Nat} (h0 : l0.length ≤ B) (h1 : l1.length ≤ B) (h2 : l2.length ≤ B) : ∀ j, j < [l0, l1, l2].length → ([l0, l1, l2].getD j []).length ≤ B := fun j hj => by
  have e0 : j = 0 ∨ j = 1 ∨ j = 2 := by simp at hj; omega
  rcases e0 with rfl | rfl | rfl <;> assumption

set_option maxRecDepth 100000 in
set_option maxHeartbeats 8000000 in
theorem gonelaw_any (n : Int) (A : Option Addr) (c : Nat) (cells : List Int) (A0 : Option Addr) (c0 : Nat) (l0 : List Int) (A1 : Option Addr) (c1 : Nat) (l1 : List Int) (A2 : Option Addr) (c2 : Nat) (l2 : List Int) (w : World) (hI : Ints w .i32 A cells) (hmax : cells.length ≤ 4611686018427387904)
    (hk : ∀ q, q < cells.length → -2147483648 ≤ cells.getD q 0 ∧ cells.getD q 0 ≤ 2147483647) (h0 : Ints w .i64 A0 l0) (h1 : Ints w .i64 A1 l1) (h2 : Ints w .i64 A2 l2) (hm0 : l0.length ≤ 17592186043904) (hm1 : l1.length ≤ 17592186043904) (hm2 : l2.length ≤ 17592186043904) (ht : Tab w) :
    Calls Tryd.prog 5 #[.int .i64 n, .slice A cells.length c, .agg #[.slice A0 l0.length c0, .slice A1 l1.length c1, .slice A2 l2.length c2]] w fun e w' => e = .returned (.bool true) ∧ Below w.heap.size w w' := by
  have HK := Lib.hid hk
  obtain ⟨wb, hwb⟩ : ∃ wb, wb = w.alloc (.cells #[.slice A0 l0.length c0, .slice A1 l1.length c1, .slice A2 l2.length c2] 48) := ⟨_, rfl⟩
  have hbw : Below w.heap.size w wb := by rw [hwb]; exact (Below.refl _ _).alloc (Nat.le_refl _) _
  have hpc := triple_cells w (.slice A0 l0.length c0) (.slice A1 l1.length c1) (.slice A2 l2.length c2) 48
  rw [← hwb] at hpc
  obtain ⟨bx, hbx⟩ : ∃ bx, bx = w.heap.size := ⟨_, rfl⟩
  rw [← hbx] at hpc
  have HG0 := Lib.hid ((((((Bag.start hbw).add (hI.below hbw) (stable_ints _ _ _)).add (ht.below hbw) stable_tab5).add (h0.below hbw) (stable_ints _ _ _)).add (h1.below hbw) (stable_ints _ _ _)).add (h2.below hbw) (stable_ints _ _ _) |>.add hpc.1 (stable_cellv _ _) |>.add hpc.2.1 (stable_cellv _ _) |>.add hpc.2.2 (stable_cellv _ _))
  have HWB := Lib.hid hwb
  have HBX := Lib.hid hbx
  have HKD := Lib.hid (kind5 n cells)
  have HBO := Lib.hid (fun W hI => both05_any n A c cells W hI hmax HK.out)
  unfold Both5Ends at HBO
  obtain ⟨z, hz⟩ : ∃ z, z = zOf n cells := ⟨_, rfl⟩
  rw [← hz] at HBO HKD
  have HGP := Lib.hid (fun v W g c (h : ZoneV 88 W v z) (hh : HandN W g l0) => gone_any v z (some ⟨g, 0, none⟩) c l0 W h HKD.out hh.ints (by omega))
  have HGD := Lib.hid (fun v W (h : RefZ W v z) (hi : Ints W .i64 A0 l0) => gone5_any v z A0 c0 l0 W h HKD.out hi (by omega))
  obtain ⟨U, hU⟩ : ∃ U, U = goneA z l0 := ⟨_, rfl⟩
  obtain ⟨d, hd⟩ : ∃ d, d = dimN z := ⟨_, rfl⟩
  rw [← hU, ← hd] at HGP HGD
  obtain ⟨Um, Ue⟩ := U
  have HLN := Lib.hid (gstRows_length (three_len hm0 hm1 hm2) 3 (Nat.le_refl _))
  have HGR := Lib.hid (fun W g c (h : RowsG W (some ⟨g, 0, none⟩) [l0, l1, l2]) => show Calls _ _ #[.slice (some ⟨g, 0, none⟩) 3 c] W (TellsI W (gstRows [l0, l1, l2] 3)) from greatest_any (some ⟨g, 0, none⟩) c [l0, l1, l2] W h (by simp) (three_len hm0 hm1 hm2))
  have HGR5 := Lib.hid (fun W g c (h : RowsG W (some ⟨g, 0, none⟩) [l0, l1, l2]) => show Calls _ _ #[.slice (some ⟨g, 0, none⟩) 3 c] W (TellsI W (gstRows [l0, l1, l2] 3)) from greatest5_any (some ⟨g, 0, none⟩) c [l0, l1, l2] W h (by simp) (three_len hm0 hm1 hm2))
  have HGN := Lib.hid (fun W => show Calls _ _ #[.slice none 0 0] W (TellsI W []) from greatest_any none 0 [] W (rows_nil W) (by decide) (fun j hj => by simp at hj))
  clear hI hk h0 h1 h2 ht hbw hpc hz hwb hbx hU hd
  go_enter Tryd.func5, Tryd.ntmps5
  go_wp2_with fail
  rw [← HWB.out, ← HBX.out]
  refine (HBO.out _ (HG0.out.at 7 rfl)).mono ?_
  rintro e w1 ⟨hb, v, v', rfl, hv, hv'⟩
  have HG1 := Lib.hid (((HG0.out.step hb).add hv (stable_zone _ _ _)).add hv' (stable_ref5 _ _))
  clear hb hv hv' HG0
  have k0 := HG1.out.at 4 rfl
  go_wp2_with fail
  refine (hand_g A0 c0 l0 _ (HG1.out.at 7 rfl) hm0).mono ?_
  rintro e w2 ⟨g0, rfl, hb, hh⟩
  have HG2 := Lib.hid ((HG1.out.step hb).add hh (stable_hn _ _))
  clear hb hh HG1 k0
  go_wp2_with fail
  refine (HGP.out _ _ _ _ (HG2.out.at 2 rfl) (HG2.out.at 0 rfl)).mono ?_
  rintro e w3 ⟨hb, a, rfl, ha⟩
  have HG3 := Lib.hid ((HG2.out.step hb).add (show ZoneV 88 w3 a (ansZ d (Um, Ue)) from ha) (stable_zone _ _ _))
  clear hb ha HG2 HGP
  have k0 := HG3.out.at 6 rfl
  go_wp2_with fail
  refine (HGD.out _ _ (HG3.out.at 2 rfl) (HG3.out.at 9 rfl)).mono ?_
  rintro e w4 ⟨hb, b, rfl, ha⟩
  have HG4 := Lib.hid ((HG3.out.step hb).add (show RefZ w4 b (ansZ d (Um, Ue)) from ha) (stable_ref5 _ _))
  clear hb ha HG3 HGD k0
  have HSH := Lib.hid (zone_short (HG4.out.at 1 rfl))
  have k := HG4.out.drew
  clear HG4
  go_wp2_with fail
  go_region_held3 (fun w' => w'.cell? ⟨bx, 0, none⟩ = some (.slice A0 l0.length c0) ∧ w'.cell? ⟨bx, 1, none⟩ = some (.slice A1 l1.length c1) ∧ w'.cell? ⟨bx, 2, none⟩ = some (.slice A2 l2.length c2))
    (first | exact ⟨k.at 7 rfl, k.at 6 rfl, k.at 5 rfl⟩ | exact ⟨k.at 8 rfl, k.at 7 rfl, k.at 6 rfl⟩ | exact ⟨k.at 9 rfl, k.at 8 rfl, k.at 7 rfl⟩ | exact ⟨(k.alloc _).at 7 rfl, (k.alloc _).at 6 rfl, (k.alloc _).at 5 rfl⟩ | exact ⟨((k.alloc _).alloc _).at 7 rfl, ((k.alloc _).alloc _).at 6 rfl, ((k.alloc _).alloc _).at 5 rfl⟩ | exact ⟨(k.alloc _).at 8 rfl, (k.alloc _).at 7 rfl, (k.alloc _).at 6 rfl⟩ | go_keep)
    (first | (go_at_call 16; refine (live05_any _ (k.at 11 rfl)).mono ?_; rintro e w5 ⟨rfl, hb⟩; have k := k.step hb; clear hb) | (go_at_call 18; refine (cells_any _ _ _ (k.at 1 rfl)).mono ?_; rintro e w6 ⟨la, rfl, hb, ho⟩; have k := (k.step hb).add ho (stable_own _ _ _ _ _); clear hb ho) | (go_at_call 19; refine (rcells_any _ _ _ (k.at 1 rfl)).mono ?_; rintro e w7 ⟨lb, rfl, hb, ho⟩; have k := (k.step hb).add ho (stable_own _ _ _ _ _); clear hb ho) | (go_at_call 17; refine (same_own (k.at 1 rfl) (k.at 0 rfl) (by have := HSH.out; omega)).mono ?_; rintro e w8 ⟨rfl, q, rfl⟩; have k := k.tail.tail.drewN q) | (go_at_call 20; refine (kept_g A0 c0 l0 g0 _ (k.at 2 rfl) (k.at 10 rfl) hm0).mono ?_; rintro e w9 ⟨rfl, hb⟩; have k := k.step hb; clear hb) | (go_at_call_of 26 (Value.slice none 0 0); refine (HGN.out _).mono ?_; rintro e w13 ⟨v3, rfl, hgs⟩; have k := k.step hgs.1; obtain ⟨A3, c3, hv3, _⟩ := hgs.2.slice; subst hv3; clear hgs) | (go_at_call_has 26 (w9.heap.size + 1); have h2 := rows_two 23 c0 c1 c2 (k.at 10 rfl) (k.at 9 rfl) (k.at 8 rfl); refine (HGR.out _ _ _ h2.2).mono ?_; rintro e w10 ⟨v1, rfl, hgs⟩; have HR2 := h2.1.below hgs.1; have k := (((k.alloc _).alloc _).step hgs.1).add hgs.2 (stable_own _ _ _ _ _); clear hgs h2) | (go_at_call 26; have h2 := rows_one 23 c0 c1 c2 (k.at 10 rfl) (k.at 9 rfl) (k.at 8 rfl); refine (HGR.out _ _ _ h2).mono ?_; rintro e w10 ⟨v1, rfl, hgs⟩; have k := ((k.alloc _).step hgs.1).add hgs.2 (stable_own _ _ _ _ _); clear hgs h2) | (go_at_call 26; have h2 := rows_two 23 c0 c1 c2 (k.at 10 rfl) (k.at 9 rfl) (k.at 8 rfl); refine (HGR.out _ _ _ h2.1).mono ?_; rintro e w10 ⟨v1, rfl, hgs⟩; have HR2 := h2.2.below hgs.1; have k := (((k.alloc _).alloc _).step hgs.1).add hgs.2 (stable_own _ _ _ _ _); clear hgs h2) | (go_at_call 27; refine (HGR5.out _ _ _ HR2).mono ?_; rintro e w11 ⟨v2, rfl, hgs⟩; have k := (k.step hgs.1).add hgs.2 (stable_own _ _ _ _ _); clear hgs) | (go_at_call 27; have h2 := rows_one 23 c0 c1 c2 (k.at 11 rfl) (k.at 10 rfl) (k.at 9 rfl); refine (HGR5.out _ _ _ h2).mono ?_; rintro e w11 ⟨v2, rfl, hgs⟩; have k := ((k.alloc _).step hgs.1).add hgs.2 (stable_own _ _ _ _ _); clear hgs h2) | (go_at_call 25; refine (sameints_own (k.at 1 rfl) (k.at 0 rfl) (by have := HLN.out; omega)).mono ?_; rintro e w12 ⟨rfl, q, rfl⟩; have k := k.tail.tail.drewN q))
  all_goals
    have HB := Lib.hid k.below
    clear k
    go_wp2
    go_ret
    exact ⟨by simp, HB.out⟩

end Go.Proofs.YtncgapnooabdgaaDoor

/- What ExtraNone tells. -/
namespace Go.Proofs.YtncgapnooabdgaaDoor
open Go Go.RowKit
set_option linter.unusedVariables false
set_option linter.unusedSimpArgs false

theorem none_zone : limP 1 [(0, 0, 0)] = (some (fun _ _ => 0), 0) := by
  have h : (closed 1 (limUp 1 [((0 : Int), (0 : Int), (0 : Int))] 1)).isNone = true := by decide +kernel
  have e : closed 1 (limUp 1 [((0 : Int), (0 : Int), (0 : Int))] 1) = none := by simpa using h
  unfold limP
  rw [if_pos (by decide)]
  simp only [Int.toNat_one]
  rw [if_pos (by decide)]
  show zoneP 1 (limUp 1 [((0 : Int), (0 : Int), (0 : Int))] 1) = _
  unfold zoneP
  rw [e]
theorem lims_new1 (w : World) (e : TypeId) (a b c : Int) : Lims (w.alloc (.cells #[.int .i64 a, .int .i64 b, .int .i32 c] e (0, 0))) (some ⟨w.heap.size, 0, none⟩) [(a, b, c)] := by
  have h1 := heap_alloc_new w (.cells #[.int .i64 a, .int .i64 b, .int .i32 c] e (0, 0))
  intro j hj
  have e0 : j = 0 := by simp at hj; omega
  subst e0
  refine ⟨w.heap.size, 0, rfl, ?_, ?_, ?_⟩ <;> (unfold World.cell?; rw [h1]; rfl)

set_option maxRecDepth 100000 in
set_option maxHeartbeats 4000000 in
theorem none05_any (A : Option Addr) (c : Nat) (l : List Int) (w : World) (hI : Ints w .i64 A l) (hmax : l.length ≤ 4611686018427387904) (ht : Tab w) :
    Calls Tryd.prog 4 #[.slice A l.length c] w fun e w' => e = .returned (.bool true) ∧ Below w.heap.size w w' := by
  have HK0 := Lib.hid (show ∀ n m, (none : Option (Nat × Mat)) = some (n, m) → GoneK n m from fun n m e => by cases e)
  have HK1 := Lib.hid (show ∀ n m, some ((1 : Nat), (fun _ _ => 0 : Mat)) = some (n, m) → GoneK n m from fun n m e => by cases e; exact .inl rfl)
  have HM0 := Lib.hid (fun W (h : Ints W .i64 A l) => max_any (.pointer none) none A c l W rfl HK0.out h hmax)
  have HL0 := Lib.hid (fun W (h : Ints W .i64 A l) => lu_any (.pointer none) none A c l A c l W rfl HK0.out h h hmax hmax)
  have HG0 := Lib.hid (fun W B c (h : Ints W .i64 B [1]) => gone_any (.pointer none) none B c [1] W rfl HK0.out h (by simp))
  have HL := Lib.hid (fun A c w hI => limits_any 1 A c [(0, 0, 0)] w hI (by simp) (fun q hq => by
    have : q = 0 := by simp at hq; omega
    subst this; decide))
  rw [none_zone] at HL
  have HMX := Lib.hid (fun v W B c (hz : ZoneV 88 W v (some (1, fun _ _ => 0))) (h : Ints W .i64 B [5]) => max_any v (some (1, fun _ _ => 0)) B c [5] W hz HK1.out h (by simp))
  rw [show luA (some (1, fun _ _ => 0)) [5] [5] = (some (fun _ _ => 0), 0) from lu_zero (by omega) (by decide) (by decide), show dimN (some (1, (fun _ _ => 0 : Mat))) = 1 from rfl] at HMX
  have HGN := Lib.hid (fun v W B c (hz : ZoneV 88 W v (some (1, fun _ _ => 0))) (h : Ints W .i64 B [1]) => gone_any v (some (1, fun _ _ => 0)) B c [1] W hz HK1.out h (by simp))
  rw [show goneA (some (1, fun _ _ => 0)) [1] = (some (fun _ _ => 0), 0) from gone_zero (by omega) (by decide), show dimN (some (1, (fun _ _ => 0 : Mat))) = 1 from rfl] at HGN
  have HE := Lib.hid (fun v W (hz : ZoneV 88 W v (some (1, fun _ _ => 0))) => xempty_any v (some (1, fun _ _ => 0)) W hz)
  rw [show emptyP (some (1, (fun _ _ => 0 : Mat))) = true by decide] at HE
  have HB0 := Lib.hid (((Bag.start (Below.refl w.heap.size w)).add hI (stable_ints _ _ _)).add ht stable_tab5)
  clear hI ht
  go_enter Tryd.func4, Tryd.ntmps4
  go_wp2_with fail
  refine (HM0.out _ (HB0.out.at 1 rfl)).mono ?_
  rintro e w1 ⟨hb, v1, rfl, hv⟩
  have HB1 := Lib.hid (HB0.out.step hb)
  clear hb hv HB0
  go_wp2_with fail
  refine (HL0.out _ (HB1.out.at 1 rfl)).mono ?_
  rintro e w2 ⟨hb, v2, rfl, hv⟩
  have HB2 := Lib.hid (HB1.out.step hb)
  clear hb hv HB1
  go_wp2_with fail
  have HI2 := Lib.hid (ints_new1 w2 3 1)
  have HB3 := Lib.hid (HB2.out.alloc (.cells #[.int .i64 1] 3))
  generalize w2.alloc (.cells #[.int .i64 1] 3) = w3 at *
  refine (HG0.out _ _ _ HI2.out).mono ?_
  rintro e w4 ⟨hb, v4, rfl, hv⟩
  have HB4 := Lib.hid (HB3.out.step hb)
  clear hb hv HB3 HI2 HB2
  go_wp2_with fail
  have HI4 := Lib.hid (lims_new1 w4 46 0 0 0)
  have HB5 := Lib.hid (HB4.out.alloc (.cells #[.int .i64 0, .int .i64 0, .int .i32 0] 46))
  generalize w4.alloc (.cells #[.int .i64 0, .int .i64 0, .int .i32 0] 46) = w5 at *
  refine (HL.out _ _ _ HI4.out).mono ?_
  rintro e w6 ⟨hb, v6, rfl, hv⟩
  have HB6 := Lib.hid ((HB5.out.step hb).add (show ZoneV 88 w6 v6 (some (1, fun _ _ => 0)) from hv) (stable_zone _ _ _))
  obtain ⟨b6, e6, _⟩ := hv
  subst e6
  clear hb HB5 HI4 HB4
  go_wp2_with fail
  have HI6 := Lib.hid (ints_new1 w6 3 5)
  have HB7 := Lib.hid (HB6.out.alloc (.cells #[.int .i64 5] 3))
  generalize w6.alloc (.cells #[.int .i64 5] 3) = w7 at *
  refine (HMX.out _ _ _ _ (HB7.out.at 0 rfl) HI6.out).mono ?_
  rintro e w8 ⟨hb, v8, rfl, hv⟩
  have HB8 := Lib.hid ((HB7.out.step hb).add (show ZoneV 88 w8 v8 (some (1, fun _ _ => 0)) from hv) (stable_zone _ _ _))
  clear hb hv HB7 HI6 HB6
  go_wp2_with fail
  have HI8 := Lib.hid (ints_new1 w8 3 1)
  have HB9 := Lib.hid (HB8.out.alloc (.cells #[.int .i64 1] 3))
  generalize w8.alloc (.cells #[.int .i64 1] 3) = w9 at *
  refine (HGN.out _ _ _ _ (HB9.out.at 1 rfl) HI8.out).mono ?_
  rintro e w10 ⟨hb, v10, rfl, hv⟩
  have HB10 := Lib.hid ((HB9.out.step hb).add (show ZoneV 88 w10 v10 (some (1, fun _ _ => 0)) from hv) (stable_zone _ _ _))
  clear hb hv HB9 HI8 HB8
  go_wp2_with fail
  refine (live05_any _ (HB10.out.at 3 rfl)).mono ?_
  rintro e w11 ⟨rfl, hb⟩
  have HB11 := Lib.hid (HB10.out.step hb)
  clear hb HB10
  go_wp2_with fail
  refine (HE.out _ _ (HB11.out.at 1 rfl)).mono ?_
  rintro e w12 ⟨rfl, rfl⟩
  go_wp2_with fail
  refine (HE.out _ _ (HB11.out.at 0 rfl)).mono ?_
  rintro e w12 ⟨rfl, rfl⟩
  go_wp2
  go_ret
  exact ⟨by first | rfl | simp, HB11.out.below⟩

end Go.Proofs.YtncgapnooabdgaaDoor

/- Greater constants widen less: plain. -/
namespace Go.Proofs.YtncgapnooabdgaaDoor
set_option linter.unusedVariables false
set_option linter.unusedSimpArgs false

/-- Constants that are nowhere less. -/
def moreUp (a b : List Int) : Nat → List Int
  | 0 => []
  | p + 1 => moreUp a b p ++ [if p < b.length ∧ a.getD p 0 < b.getD p 0 then b.getD p 0 else a.getD p 0]
def moreP (a b : List Int) : List Int := moreUp a b a.length
theorem moreUp_length (a b : List Int) : ∀ p, (moreUp a b p).length = p
  | 0 => rfl
  | p + 1 => by simp [moreUp, moreUp_length a b p]
theorem moreUp_le (a b : List Int) (q : Nat) : ∀ p, q < p → a.getD q 0 ≤ (moreUp a b p).getD q 0
  | 0, h => by omega
  | p + 1, h => by
    unfold moreUp
    by_cases e : q = p
    · subst e
      rw [List.getD_eq_getElem?_getD (l := moreUp a b q ++ _), List.getElem?_append_right (by rw [moreUp_length]; exact Nat.le_refl _), moreUp_length, Nat.sub_self]
      show _ ≤ (if q < b.length ∧ a.getD q 0 < b.getD q 0 then b.getD q 0 else a.getD q 0)
      split <;> omega
    · rw [List.getD_eq_getElem?_getD (l := moreUp a b p ++ _), List.getElem?_append_left (by rw [moreUp_length]; omega), ← List.getD_eq_getElem?_getD]
      exact moreUp_le a b q p (by omega)
theorem moreP_length (a b : List Int) : (moreP a b).length = a.length := moreUp_length a b _
theorem moreP_le (a b : List Int) (q : Nat) : a.getD q 0 ≤ (moreP a b).getD q 0 := by
  by_cases h : q < a.length
  · exact moreUp_le a b q _ h
  · rw [List.getD_eq_getElem?_getD, List.getElem?_eq_none (by omega), List.getD_eq_getElem?_getD, List.getElem?_eq_none (by rw [moreP_length]; omega)]
    exact Int.le_refl _
theorem atP_mono {a b : List Int} (h : ∀ q, a.getD q 0 ≤ b.getD q 0) (i : Nat) : atP a i ≤ atP b i := by
  unfold atP
  split
  · exact Int.le_refl _
  · have := h (i - 1); omega
theorem base_mono {n : Nat} {m : Mat} {lo up lo' up' : List Int} (h0 : ∀ q, lo.getD q 0 ≤ lo'.getD q 0) (h1 : ∀ q, up.getD q 0 ≤ up'.getD q 0) (hl : lo'.length = lo.length) (h : ClosedZ n m) (i j : Nat) (hi : i ≤ n) (hj : j ≤ n) :
    offM (goneF (freeC lo' up' lo'.length) m) m i j ≤ offM (goneF (freeC lo up lo.length) m) m i j := by
  have hsub : ∀ x, goneB (freeC lo' up' lo'.length) x = true → goneB (freeC lo up lo.length) x = true := fun x hx => by
    rw [freeC_mem] at hx ⊢
    have := h0 (x - 1)
    have := h1 (x - 1)
    omega
  have hr := right_hi (h.full.right i j hi hj)
  have hr0 := right_hi (h.full.right i 0 hi (Nat.zero_le _))
  unfold offM goneF
  split
  · exact Int.le_refl _
  · by_cases a : goneB (freeC lo up lo.length) i = true
    · rw [if_pos a]
      split
      · exact Int.le_refl _
      · split
        · exact hr0.2
        · exact hr.2
    · have a' : ¬ goneB (freeC lo' up' lo'.length) i = true := fun x => a (hsub i x)
      rw [if_neg a, if_neg a']
      by_cases b : goneB (freeC lo up lo.length) j = true
      · rw [if_pos b]
        split
        · exact Int.le_refl _
        · exact (wid_le (h.full.right i j hi hj) (h.full.right i 0 hi (Nat.zero_le _))).1 (h.to0 hi hj)
      · rw [if_neg b, if_neg (fun x => b (hsub j x))]
        exact Int.le_refl _
theorem widP_mono {lo up lo' up' : List Int} (h0 : ∀ q, lo.getD q 0 ≤ lo'.getD q 0) (h1 : ∀ q, up.getD q 0 ≤ up'.getD q 0) (i j : Nat) {b b' : Int} (hb : b ≤ b') (hb' : b' ≤ 2147483647) (hup : 0 ≤ atP up' j) : widP lo' up' i j b ≤ widP lo up i j b' := by
  have a0 := atP_mono h0 i
  have a1 := atP_mono h1 j
  unfold widP
  by_cases c : i ≠ 0 ∧ 2 * atP lo i + 1 < b'
  · rw [if_pos c]
    split
    · exact Int.le_refl _
    · rw [if_neg c.1]; omega
  · rw [if_neg c]
    split
    · rename_i d; omega
    · split <;> omega
theorem atP_nonneg (l : List Int) (j : Nat) : 0 ≤ atP l j := by unfold atP; split <;> omega
theorem wide_mono {n : Nat} {m : Mat} {lo up lo' up' : List Int} (hn : n ≤ 8) (h0 : ∀ q, lo.getD q 0 ≤ lo'.getD q 0) (h1 : ∀ q, up.getD q 0 ≤ up'.getD q 0) (hl : lo'.length = lo.length) (hln : lo.length ≤ n) (h : ClosedZ n m) (i j : Nat) (hi : i ≤ n) (hj : j ≤ n) :
    offM (widP lo' up') (baseM n m lo' up') i j ≤ offM (widP lo up) (baseM n m lo up) i j := by
  have hm := base_mono h0 h1 hl h i j hi hj
  rw [← base_cell hn (by omega) h i j hi hj, ← base_cell hn hln h i j hi hj] at hm
  have hr := right_hi ((base_closed (lo := lo) (up := up) hn hln h).full.right i j hi hj)
  unfold offM
  split
  · exact hm
  · exact widP_mono h0 h1 i j hm hr.2 (atP_nonneg _ _)
/-- LU includes the zone, and widens less by greater constants. -/
theorem wider_law {n : Nat} {m : Mat} {lo up : List Int} (hn : n ≤ 8) (h : m = (fun _ _ => 0) ∨ ClosedZ n m) (h0 : rightE n lo = 0) (h1 : rightE n up = 0) :
    ∃ a, luP n m lo up = (some a, 0) ∧ inclM n a m = true ∧ (∃ x, luP n m lo lo = (some x, 0)) ∧
      ∀ c, (∃ e, e ≠ 0 ∧ luP n m (moreP lo c) (moreP up c) = (none, e)) ∨ ∃ b, luP n m (moreP lo c) (moreP up c) = (some b, 0) ∧ inclM n a b = true ∧ inclM n b m = true := by
  rcases h with rfl | h
  · refine ⟨_, lu_zero hn h0 h1, incl_zero n _, ⟨_, lu_zero hn h0 h0⟩, fun c => ?_⟩
    by_cases e0 : rightE n (moreP lo c) = 0
    · by_cases e1 : rightE n (moreP up c) = 0
      · exact .inr ⟨_, lu_zero hn e0 e1, incl_zero n _, incl_zero n _⟩
      · refine .inl ⟨_, e1, ?_⟩
        unfold luP
        rw [if_neg (by omega), if_pos e1]
    · refine .inl ⟨_, e0, ?_⟩
      unfold luP
      rw [if_pos e0]
  · obtain ⟨l0, _⟩ := rightE_zero h0
    obtain ⟨a, ha, hac, haw, hag⟩ := lu_full hn h h0 h1
    obtain ⟨x, hx, _⟩ := lu_full hn h h0 h0
    have hin : ∀ lo' up' : List Int, rightE n lo' = 0 → rightE n up' = 0 → ∀ i j, i ≤ n → j ≤ n → m i j ≤ offM (widP lo' up') (baseM n m lo' up') i j := fun lo' up' e0 e1 i j hi hj => by
      obtain ⟨l0, c0⟩ := rightE_zero e0
      obtain ⟨l1, c1⟩ := rightE_zero e1
      have hb := base_closed (lo := lo') (up := up') hn (by omega) h
      refine Int.le_trans ?_ ((wide_ok c0 c1 hb).2.1 i j hi hj)
      rw [base_cell hn (by omega) h i j hi hj]
      exact gone_ge h i j hi hj
    refine ⟨a, ha, incl_of (hag m h (hin lo up h0 h1)), ⟨x, hx⟩, fun c => ?_⟩
    by_cases e0 : rightE n (moreP lo c) = 0
    · by_cases e1 : rightE n (moreP up c) = 0
      · obtain ⟨b, hb, hbc, hbw, hbg⟩ := lu_full hn h e0 e1
        refine .inr ⟨b, hb, incl_of (hag b hbc fun i j hi hj => Int.le_trans (hbw i j hi hj) ?_), incl_of (hbg m h (hin _ _ e0 e1))⟩
        exact wide_mono hn (moreP_le lo c) (moreP_le up c) (moreP_length lo c) (by omega) h i j hi hj
      · refine .inl ⟨_, e1, ?_⟩
        unfold luP
        rw [if_neg (by omega), if_pos e1]
    · refine .inl ⟨_, e0, ?_⟩
      unfold luP
      rw [if_pos e0]

end Go.Proofs.YtncgapnooabdgaaDoor

/- Constants that are nowhere less; what ExtraWider tells. -/
namespace Go.Proofs.YtncgapnooabdgaaDoor
open Go Go.RowKit
set_option linter.unusedVariables false
set_option linter.unusedSimpArgs false

theorem moreUp_len2 (a b : List Int) (p : Nat) : (moreUp a b p).length = p := moreUp_length a b p
set_option maxRecDepth 100000 in
set_option maxHeartbeats 2000000 in
theorem more_any (A : Option Addr) (c : Nat) (a : List Int) (B : Option Addr) (d : Nat) (b : List Int) (w : World) (hI : Ints w .i64 A a) (hJ : Ints w .i64 B b) (ha : a.length ≤ 17592186043904) (hb : b.length ≤ 17592186043904) :
    Calls Tryd.prog 28 #[.slice A a.length c, .slice B b.length d] w (TellsI w (moreP a b)) := by
  have HI := Lib.hid hI
  have HJ := Lib.hid hJ
  obtain ⟨i0, hi1, hz0, hz1, hz2⟩ := info_parts infoN
  have HInf := Lib.hid (And.intro hi1 (And.intro hz0 (And.intro hz1 hz2)))
  have HS := Lib.hid (show GsR w (moreUp a b 0) (.slice none 0 0) w from ⟨Below.refl _ _, World.ownsRow_nil _ _ _ _⟩)
  clear hI hJ hi1 hz0 hz1 hz2
  go_enter Tryd.func28, Tryd.ntmps28
  go_wp2
  go_loopg [5, 6] a.length (fun q ov v wr => ∃ p : Nat, v = .int .i64 p ∧ Hid (GsR w (moreUp a b p) ov wr) ∧ Hid (p ≤ a.length ∧ q + p = a.length))
  case atStart => exact ⟨0, by simp, HS.out, by omega, by omega⟩
  case round =>
    clear HS
    obtain ⟨p, rfl, HG, HQ⟩ := hrel
    by_cases hp : p < a.length
    · have hpi : (p : Int) < (a.length : Int) := by omega
      obtain ⟨b1, o1, rfl, c1⟩ := HI.out.below HG.out.1 p hp
      have hml := moreUp_len2 a b p
      have HML := Lib.hid hml
      have HNX := Lib.hid (show moreUp a b (p + 1) = moreUp a b p ++ [if p < b.length ∧ a.getD p 0 < b.getD p 0 then b.getD p 0 else a.getD p 0] from rfl)
      obtain ⟨cur, hcur⟩ : ∃ cur, cur = moreUp a b p := ⟨_, rfl⟩
      obtain ⟨x, hx⟩ : ∃ x, x = a.getD p 0 := ⟨_, rfl⟩
      rw [← hcur] at HG HNX HML
      rw [← hx] at c1 HNX
      have HAP := Lib.hid (fun y v' w1 o hown hgrow => HG.out.app (v' := v') (w1 := w1) (x := y) (q := 0) (o := o) hown hgrow)
      clear hcur hx hml
      by_cases hpb : p < b.length
      · have hpbi : (p : Int) < (b.length : Int) := by omega
        obtain ⟨b2, o2, rfl, c2⟩ := HJ.out.below HG.out.1 p hpb
        obtain ⟨y, hy⟩ : ∃ y, y = b.getD p 0 := ⟨_, rfl⟩
        rw [← hy] at c2 HNX
        clear hy
        by_cases hlt : x < y
        · have d1 : decide (x < y) = true := decide_eq_true hlt
          rw [if_pos ⟨hpb, hlt⟩] at HNX
          clear hlt
          go_wp2_with (at_builtin; refine wpList_append_own _ rfl _ _ 23 rfl w.heap.size 3 i0 (.int .i64 0) 1 8 Tryd.underlying23 HInf.out.1 HInf.out.2.1 HInf.out.2.2.1 HInf.out.2.2.2 rfl (by decide) _ _ _ rfl (HG.out.2.alloc _) ⟨wr.heap.size, 0, none⟩ 1 1 [.int .i64 y] rfl rfl (cell_one_new _ _ _) (by intro u hu; simp at hu; subst hu; rfl) ?c3 ?c4 ?c5 ?_)
          case c3 => unfold maxLen; rw [HML.out]; omega
          case c4 => rw [HML.out]; omega
          case c5 => have := HG.out.1.size; simp; omega
          intro v' w1 hown hgrow _
          have HN := Lib.hid (HAP.out y _ _ _ hown hgrow)
          rw [← HNX.out] at HN
          clear hown hgrow
          go_wp2
          go_roundg (gk - 1)
          case measure => have h := HQ.out; omega
          case rel => exact ⟨p + 1, by go_num, HN.out, by omega, by have h := HQ.out; omega⟩
        · have d1 : decide (x < y) = false := decide_eq_false hlt
          rw [if_neg (fun h => hlt h.2)] at HNX
          clear hlt
          go_wp2_with (at_builtin; refine wpList_append_own _ rfl _ _ 23 rfl w.heap.size 3 i0 (.int .i64 0) 1 8 Tryd.underlying23 HInf.out.1 HInf.out.2.1 HInf.out.2.2.1 HInf.out.2.2.2 rfl (by decide) _ _ _ rfl (HG.out.2.alloc _) ⟨wr.heap.size, 0, none⟩ 1 1 [.int .i64 x] rfl rfl (cell_one_new _ _ _) (by intro u hu; simp at hu; subst hu; rfl) ?c3 ?c4 ?c5 ?_)
          case c3 => unfold maxLen; rw [HML.out]; omega
          case c4 => rw [HML.out]; omega
          case c5 => have := HG.out.1.size; simp; omega
          intro v' w1 hown hgrow _
          have HN := Lib.hid (HAP.out x _ _ _ hown hgrow)
          rw [← HNX.out] at HN
          clear hown hgrow
          go_wp2
          go_roundg (gk - 1)
          case measure => have h := HQ.out; omega
          case rel => exact ⟨p + 1, by go_num, HN.out, by omega, by have h := HQ.out; omega⟩
      · have hpbi : ¬ ((p : Int) < (b.length : Int)) := by omega
        have d0 : decide (p < b.length) = false := decide_eq_false hpb
        rw [if_neg (fun h => hpb h.1)] at HNX
        go_wp2_with (at_builtin; refine wpList_append_own _ rfl _ _ 23 rfl w.heap.size 3 i0 (.int .i64 0) 1 8 Tryd.underlying23 HInf.out.1 HInf.out.2.1 HInf.out.2.2.1 HInf.out.2.2.2 rfl (by decide) _ _ _ rfl (HG.out.2.alloc _) ⟨wr.heap.size, 0, none⟩ 1 1 [.int .i64 x] rfl rfl (cell_one_new _ _ _) (by intro u hu; simp at hu; subst hu; rfl) ?c3 ?c4 ?c5 ?_)
        case c3 => unfold maxLen; rw [HML.out]; omega
        case c4 => rw [HML.out]; omega
        case c5 => have := HG.out.1.size; simp; omega
        intro v' w1 hown hgrow _
        have HN := Lib.hid (HAP.out x _ _ _ hown hgrow)
        rw [← HNX.out] at HN
        clear hown hgrow
        go_wp2
        go_roundg (gk - 1)
        case measure => have h := HQ.out; omega
        case rel => exact ⟨p + 1, by go_num, HN.out, by omega, by have h := HQ.out; omega⟩
    · have e : p = a.length := by have := HQ.out.1; omega
      subst e
      go_wp2
      go_ret
      exact ⟨_, rfl, HG.out⟩

theorem luA_ok {z : Option (Nat × Mat)} {lo up : List Int} (h : (luA z lo up).2 = 0) : ∃ k m, z = some (k, m) ∧ rightE k lo = 0 ∧ rightE k up = 0 := by
  match z, h with
  | none, h => exact absurd h (by show (1 : Int) ≠ 0; decide)
  | some (k, m), h =>
    refine ⟨k, m, rfl, ?_⟩
    have h : (luP k m lo up).2 = 0 := h
    unfold luP at h
    by_cases h0 : rightE k lo = 0
    · by_cases h1 : rightE k up = 0
      · exact ⟨h0, h1⟩
      · rw [if_neg (by omega), if_pos h1] at h; exact absurd h h1
    · rw [if_pos h0] at h; exact absurd h h0
theorem moreP_short {a b : List Int} {B : Nat} (h : a.length ≤ B) : (moreP a b).length ≤ B := by rw [moreP_length]; exact h

set_option maxRecDepth 100000 in
set_option maxHeartbeats 8000000 in
theorem wider5_any (n : Int) (A : Option Addr) (c : Nat) (cells : List Int) (A0 : Option Addr) (c0 : Nat) (l0 : List Int) (A1 : Option Addr) (c1 : Nat) (l1 : List Int) (A2 : Option Addr) (c2 : Nat) (l2 : List Int) (w : World) (hI : Ints w .i32 A cells) (hmax : cells.length ≤ 4611686018427387904)
    (hk : ∀ q, q < cells.length → -2147483648 ≤ cells.getD q 0 ∧ cells.getD q 0 ≤ 2147483647) (h0 : Ints w .i64 A0 l0) (h1 : Ints w .i64 A1 l1) (h2 : Ints w .i64 A2 l2) (hm0 : l0.length ≤ 17592186043904) (hm1 : l1.length ≤ 17592186043904) (hm2 : l2.length ≤ 17592186043904) (ht : Tab w) :
    Calls Tryd.prog 6 #[.int .i64 n, .slice A cells.length c, .agg #[.slice A0 l0.length c0, .slice A1 l1.length c1, .slice A2 l2.length c2]] w fun e w' => e = .returned (.bool true) ∧ Below w.heap.size w w' := by
  have HK := Lib.hid hk
  obtain ⟨wb, hwb⟩ : ∃ wb, wb = w.alloc (.cells #[.slice A0 l0.length c0, .slice A1 l1.length c1, .slice A2 l2.length c2] 48) := ⟨_, rfl⟩
  have hbw : Below w.heap.size w wb := by rw [hwb]; exact (Below.refl _ _).alloc (Nat.le_refl _) _
  have hpc := triple_cells w (.slice A0 l0.length c0) (.slice A1 l1.length c1) (.slice A2 l2.length c2) 48
  rw [← hwb] at hpc
  obtain ⟨bx, hbx⟩ : ∃ bx, bx = w.heap.size := ⟨_, rfl⟩
  rw [← hbx] at hpc
  have HG0 := Lib.hid ((((((Bag.start hbw).add (hI.below hbw) (stable_ints _ _ _)).add (ht.below hbw) stable_tab5).add (h0.below hbw) (stable_ints _ _ _)).add (h1.below hbw) (stable_ints _ _ _)).add (h2.below hbw) (stable_ints _ _ _) |>.add hpc.1 (stable_cellv _ _) |>.add hpc.2.1 (stable_cellv _ _) |>.add hpc.2.2 (stable_cellv _ _))
  have HWB := Lib.hid hwb
  have HBX := Lib.hid hbx
  have HKD := Lib.hid (kind5 n cells)
  have HNK := Lib.hid (fun k m (e : zOf n cells = some (k, m)) => zone_kinds e)
  have HBO := Lib.hid (fun W hI => both05_any n A c cells W hI hmax HK.out)
  unfold Both5Ends at HBO
  obtain ⟨z, hz⟩ : ∃ z, z = zOf n cells := ⟨_, rfl⟩
  rw [← hz] at HBO HKD HNK
  have HLU := Lib.hid (fun v W (h : ZoneV 88 W v z) (hi : Ints W .i64 A0 l0) (hj : Ints W .i64 A1 l1) => lu_any v z A0 c0 l0 A1 c1 l1 W h HKD.out hi hj (by omega) (by omega))
  have HMX := Lib.hid (fun v W (h : ZoneV 88 W v z) (hi : Ints W .i64 A0 l0) => max_any v z A0 c0 l0 W h HKD.out hi (by omega))
  have HL0 := Lib.hid (fun v W (h : ZoneV 88 W v z) (hi : Ints W .i64 A0 l0) => lu_any v z A0 c0 l0 A0 c0 l0 W h HKD.out hi hi (by omega) (by omega))
  have HLM := Lib.hid (fun v W b1 e1 v1 b2 e2 v2 (h : ZoneV 88 W v z) (h1 : OwnI W b1 e1 .i64 v1 (moreP l0 l2)) (h2 : OwnI W b2 e2 .i64 v2 (moreP l1 l2)) => show Calls _ _ #[v, v1, v2] W (MakesZ W (dimN z) (luA z (moreP l0 l2) (moreP l1 l2))) by
    obtain ⟨Ax, cx, rfl, hx⟩ := h1.slice
    obtain ⟨Ay, cy, rfl, hy⟩ := h2.slice
    exact lu_any v z Ax cx (moreP l0 l2) Ay cy (moreP l1 l2) W h HKD.out hx hy (by rw [moreP_length]; omega) (by rw [moreP_length]; omega))
  have HOK := Lib.hid (fun h => luA_ok (z := z) (lo := l0) (up := l1) h)
  obtain ⟨U, hU⟩ : ∃ U, U = luA z l0 l1 := ⟨_, rfl⟩
  have HU := Lib.hid hU
  rw [← hU] at HLU HOK
  obtain ⟨d, hd⟩ : ∃ d, d = dimN z := ⟨_, rfl⟩
  have HD := Lib.hid hd
  rw [← hd] at HLU HMX HL0 HLM
  obtain ⟨Um, Ue⟩ := U
  have HMO1 := Lib.hid (fun W (h : Ints W .i64 A0 l0) (h' : Ints W .i64 A2 l2) => more_any A0 c0 l0 A2 c2 l2 W h h' hm0 hm2)
  have HMO2 := Lib.hid (fun W (h : Ints W .i64 A1 l1) (h' : Ints W .i64 A2 l2) => more_any A1 c1 l1 A2 c2 l2 W h h' hm1 hm2)
  clear hI hk h0 h1 h2 ht hbw hpc hz hwb hbx hU hd
  by_cases hue : Ue = 0
  · subst hue
    obtain ⟨k, m, hzk, hr0, hr1⟩ := HOK.out rfl
    have hkind := HKD.out k m hzk
    obtain ⟨⟨hn0, hn8, hkn⟩, _⟩ := HNK.out k m hzk
    have hk8 : k ≤ 8 := by omega
    obtain ⟨a, ha, hia, ⟨x, hx⟩, hmore⟩ := wider_law (up := l1) hk8 hkind hr0 hr1
    have hm2' := hmore l2
    obtain ⟨R, hR⟩ : ∃ R, R = luA z (moreP l0 l2) (moreP l1 l2) := ⟨_, rfl⟩
    have HRC := Lib.hid (show (∃ e, e ≠ 0 ∧ R = (none, e)) ∨ ∃ b, R = (some b, 0) ∧ inclM k a b = true ∧ inclM k b m = true by rw [hR, hzk]; exact hm2')
    rw [← hR] at HLM
    obtain ⟨Rm, Re⟩ := R
    have HA := Lib.hid (show Um = some a by have := HU.out; rw [hzk] at this; have e : (Um, (0 : Int)) = (some a, 0) := this.trans ha; exact (Prod.mk.inj e).1)
    have HIA := Lib.hid hia
    have HX := Lib.hid (show luA z l0 l0 = (some x, 0) by rw [hzk]; exact hx)
    rw [HX.out] at HMX HL0
    have HDK := Lib.hid (show d = k by rw [HD.out, hzk]; rfl)
    have HZK := Lib.hid hzk
    have d8 : decide (8 < n) = false := decide_eq_false (by omega)
    have HIN1 := Lib.hid (fun va vz W (h1 : ZoneV 88 W va (ansZ d (Um, 0))) (h2 : ZoneV 88 W vz z) => show Calls _ _ #[va, vz] W (fun e w' => e = .returned (.bool true) ∧ Below W.heap.size W w') by
      have := includes_any va vz (ansZ d (Um, 0)) z W h1 h2
      rw [show inclP (ansZ d (Um, 0)) z = true by rw [HA.out, HZK.out, HDK.out]; show (decide (k = k) && inclM k a m) = true; rw [HIA.out]; simp] at this
      exact this)
    have HEQ := Lib.hid (fun va vz W (h1 : ZoneV 88 W va (ansZ d (some x, 0))) (h2 : ZoneV 88 W vz (ansZ d (some x, 0))) => show Calls _ _ #[va, vz] W (fun e w' => e = .returned (.bool true) ∧ Below W.heap.size W w') by
      have := equal_any va vz (ansZ d (some x, 0)) (ansZ d (some x, 0)) W h1 h2
      rw [show equalP (ansZ d (some x, 0)) (ansZ d (some x, 0)) = true by show (decide (d = d) && eqM x x) = true; rw [eqM_self]; simp] at this
      exact this)
    clear hkind hn0 hn8 hkn hia ha hx hmore hr0 hr1 hzk hm2' hR
    go_enter Tryd.func6, Tryd.ntmps6
    go_wp2_with fail
    rw [← HWB.out, ← HBX.out]
    refine (HBO.out _ (HG0.out.at 7 rfl)).mono ?_
    rintro e w1 ⟨hb, v, v', rfl, hv, hv'⟩
    have HG1 := Lib.hid ((HG0.out.step hb).add hv (stable_zone _ _ _))
    clear hb hv hv' HG0
    have k0 := HG1.out.at 3 rfl
    have k1 := HG1.out.at 2 rfl
    go_wp2_with fail
    refine (HLU.out _ _ (HG1.out.at 0 rfl) (HG1.out.at 6 rfl) (HG1.out.at 5 rfl)).mono ?_
    rintro e w2 ⟨hb, va, rfl, hva⟩
    have HG2 := Lib.hid ((HG1.out.step hb).add (show ZoneV 88 w2 va (ansZ d (Um, 0)) from hva) (stable_zone _ _ _))
    clear hb hva HG1 k0 k1 HLU
    have kb := HG2.out.drew
    go_wp2_with fail
    go_region_held3 (fun w' => w'.cell? ⟨bx, 0, none⟩ = some (.slice A0 l0.length c0) ∧ w'.cell? ⟨bx, 1, none⟩ = some (.slice A1 l1.length c1) ∧ w'.cell? ⟨bx, 2, none⟩ = some (.slice A2 l2.length c2))
      (first | exact ⟨kb.at 4 rfl, kb.at 3 rfl, kb.at 2 rfl⟩ | exact ⟨kb.at 5 rfl, kb.at 4 rfl, kb.at 3 rfl⟩ | exact ⟨kb.at 6 rfl, kb.at 5 rfl, kb.at 4 rfl⟩ | exact ⟨kb.at 7 rfl, kb.at 6 rfl, kb.at 5 rfl⟩ | go_keep)
      (first | (go_at_call_of 28 A0; refine (HMO1.out _ (kb.at 7 rfl) (kb.at 5 rfl)).mono ?_; rintro e w3 ⟨v1, rfl, hgs⟩; have kb := (kb.step hgs.1).add hgs.2 (stable_own _ _ _ _ _); clear hgs) | (go_at_call_of 28 A1; refine (HMO2.out _ (kb.at 7 rfl) (kb.at 6 rfl)).mono ?_; rintro e w4 ⟨v2, rfl, hgs⟩; have kb := (kb.step hgs.1).add hgs.2 (stable_own _ _ _ _ _); clear hgs) | (go_at_call 12; refine (HLM.out _ _ _ _ _ _ _ _ (kb.at 3 rfl) (kb.at 1 rfl) (kb.at 0 rfl)).mono ?_; rintro e w5 ⟨hb, vb, rfl, hvb⟩; have kb := (kb.step hb).add hvb (stable_zone _ _ _); clear hb hvb))
    have HG5 := Lib.hid kb
    clear kb HG2
    have k0 := HG5.out.at 7 rfl
    go_wp2_with fail
    refine (HMX.out _ _ (HG5.out.at 4 rfl) (HG5.out.at 10 rfl)).mono ?_
    rintro e w6 ⟨hb, vx, rfl, hvx⟩
    have HG6 := Lib.hid ((HG5.out.step hb).add (show ZoneV 88 w6 vx (ansZ d (some x, 0)) from hvx) (stable_zone _ _ _))
    clear hb hvx HG5 k0
    have k0 := HG6.out.at 8 rfl
    go_wp2_with fail
    refine (HL0.out _ _ (HG6.out.at 5 rfl) (HG6.out.at 11 rfl)).mono ?_
    rintro e w7 ⟨hb, vy, rfl, hvy⟩
    have HG7 := Lib.hid ((HG6.out.step hb).add (show ZoneV 88 w7 vy (ansZ d (some x, 0)) from hvy) (stable_zone _ _ _))
    clear hb hvy HG6 k0
    go_wp2_with fail
    refine (live05_any _ (HG7.out.at 13 rfl)).mono ?_
    rintro e w8 ⟨rfl, hb⟩
    have HG8 := Lib.hid (HG7.out.step hb)
    clear hb HG7
    go_wp2_with fail
    refine (HIN1.out _ _ _ (HG8.out.at 5 rfl) (HG8.out.at 6 rfl)).mono ?_
    rintro e w9 ⟨rfl, hb⟩
    have HG9 := Lib.hid (HG8.out.step hb)
    clear hb HG8
    rcases HRC.out with ⟨er, her, hre⟩ | ⟨b, hre, hi1, hi2⟩
    · cases hre
      have t1 : (Re != 0) = true := by simp [her]
      clear her
      go_wp2_with fail
      refine (HEQ.out _ _ _ (HG9.out.at 1 rfl) (HG9.out.at 0 rfl)).mono ?_
      rintro e w10 ⟨rfl, hb⟩
      have HG10 := Lib.hid (HG9.out.step hb)
      clear hb HG9
      go_wp2
      go_ret
      exact ⟨by simp, HG10.out.below⟩
    · cases hre
      have HIN2 := Lib.hid (fun va vz W (h1 : ZoneV 88 W va (ansZ d (Um, 0))) (h2 : ZoneV 88 W vz (ansZ d (some b, 0))) => show Calls _ _ #[va, vz] W (fun e w' => e = .returned (.bool true) ∧ Below W.heap.size W w') by
        have := includes_any va vz (ansZ d (Um, 0)) (ansZ d (some b, 0)) W h1 h2
        rw [show inclP (ansZ d (Um, 0)) (ansZ d (some b, 0)) = true by rw [HA.out, HDK.out]; show (decide (k = k) && inclM k a b) = true; rw [hi1]; simp] at this
        exact this)
      have HIN3 := Lib.hid (fun va vz W (h1 : ZoneV 88 W va (ansZ d (some b, 0))) (h2 : ZoneV 88 W vz z) => show Calls _ _ #[va, vz] W (fun e w' => e = .returned (.bool true) ∧ Below W.heap.size W w') by
        have := includes_any va vz (ansZ d (some b, 0)) z W h1 h2
        rw [show inclP (ansZ d (some b, 0)) z = true by rw [HZK.out, HDK.out]; show (decide (k = k) && inclM k b m) = true; rw [hi2]; simp] at this
        exact this)
      clear hi1 hi2
      go_wp2_with fail
      refine (HIN2.out _ _ _ (HG9.out.at 5 rfl) (HG9.out.at 2 rfl)).mono ?_
      rintro e w10 ⟨rfl, hb⟩
      have HG10 := Lib.hid (HG9.out.step hb)
      clear hb HG9
      go_wp2_with fail
      refine (HIN3.out _ _ _ (HG10.out.at 2 rfl) (HG10.out.at 6 rfl)).mono ?_
      rintro e w11 ⟨rfl, hb⟩
      have HG11 := Lib.hid (HG10.out.step hb)
      clear hb HG10
      go_wp2_with fail
      refine (HEQ.out _ _ _ (HG11.out.at 1 rfl) (HG11.out.at 0 rfl)).mono ?_
      rintro e w12 ⟨rfl, hb⟩
      have HG12 := Lib.hid (HG11.out.step hb)
      clear hb HG11
      go_wp2
      go_ret
      exact ⟨by simp, HG12.out.below⟩
  · have t1 : (Ue != 0) = true := by simp [hue]
    clear hue
    go_enter Tryd.func6, Tryd.ntmps6
    go_wp2_with fail
    rw [← HWB.out, ← HBX.out]
    refine (HBO.out _ (HG0.out.at 7 rfl)).mono ?_
    rintro e w1 ⟨hb, v, v', rfl, hv, hv'⟩
    have HG1 := Lib.hid ((HG0.out.step hb).add hv (stable_zone _ _ _))
    clear hb hv hv' HG0
    have k0 := HG1.out.at 3 rfl
    have k1 := HG1.out.at 2 rfl
    go_wp2_with fail
    refine (HLU.out _ _ (HG1.out.at 0 rfl) (HG1.out.at 6 rfl) (HG1.out.at 5 rfl)).mono ?_
    rintro e w2 ⟨hb, va, rfl, hva⟩
    have HG2 := Lib.hid (HG1.out.step hb)
    clear hb hva HG1 k0 k1 HLU
    go_wp2_with fail
    refine (live05_any _ (HG2.out.at 7 rfl)).mono ?_
    rintro e w3 ⟨rfl, hb⟩
    have HG3 := Lib.hid (HG2.out.step hb)
    clear hb HG2
    go_wp2
    go_ret
    exact ⟨rfl, HG3.out.below⟩

end Go.Proofs.YtncgapnooabdgaaDoor
