/- Texts of ours, laid together: Eh, Nx, Row, Row3. -/
import Derived.Test.YtkgohhdenfnfpaaRows
import Derived.WalkKit
import Derived.ProofKit
import Derived.OpenShut
import Derived.Carry
import Derived.Deep.Slices
import Derived.Deep.Fields
import Derived.SizedLaws
import Derived.Test.YtkgohhdenfnfpaaMg9
/- LU and Max of the program. -/
namespace Go.Proofs.Ytkgohhdenfnfpaa
open Go Go.RowKit
set_option linter.unusedVariables false
set_option linter.unusedSimpArgs false

/-- The clocks held against nothing, so far. -/
def LcR (w0 : World) (lo up : List Int) (p : Nat) (v : Value) (wr : World) : Prop := Below w0.heap.size w0 wr ∧ wr.ownsRow w0.heap.size 3 1 v (freeC lo up p).length (vals .i64 (freeC lo up p))
theorem LcR.own {w0 wr : World} {lo up : List Int} {p : Nat} {v : Value} (h : LcR w0 lo up p v wr) : OwnI wr w0.heap.size 3 .i64 v (freeC lo up p) := h.2
theorem freeC_short {lo up : List Int} : ∀ p, (freeC lo up p).length ≤ p
  | 0 => by simp [freeC]
  | p + 1 => by
    have := freeC_short (lo := lo) (up := up) p
    unfold freeC
    split
    · simp; exact this
    · omega
theorem LcR.next {w0 wr w1 : World} {lo up : List Int} {p : Nat} {v v' : Value} {o : Obj} (h : LcR w0 lo up p v wr) (hc : lo.getD p 0 < 0 ∧ up.getD p 0 < 0)
    (hown : w1.ownsRow w0.heap.size 3 1 v' ((freeC lo up p).length + 1) (vals .i64 (freeC lo up p) ++ [.int .i64 ((p : Int) + 1)])) (hg : (wr.alloc o).grownBy w1 v.ownBlock) : LcR w0 lo up (p + 1) v' w1 := by
  refine ⟨(h.1.alloc h.1.size o).grown hg (by have := h.1.size; simp; omega) (fun k hk => (h.own.lt k hk).1), ?_⟩
  have e : freeC lo up (p + 1) = freeC lo up p ++ [(p : Int) + 1] := by
    show (if lo.getD p 0 < 0 ∧ up.getD p 0 < 0 then freeC lo up p ++ [(p : Int) + 1] else freeC lo up p) = _
    rw [if_pos hc]
  rw [e, List.length_append, show vals .i64 (freeC lo up p ++ [(p : Int) + 1]) = vals .i64 (freeC lo up p) ++ [.int .i64 ((p : Int) + 1)] by simp [vals]]
  exact hown
theorem LcR.same {w0 wr : World} {lo up : List Int} {p : Nat} {v : Value} (h : LcR w0 lo up p v wr) (hc : ¬ (lo.getD p 0 < 0 ∧ up.getD p 0 < 0)) : LcR w0 lo up (p + 1) v wr := by
  have e : freeC lo up (p + 1) = freeC lo up p := by
    show (if lo.getD p 0 < 0 ∧ up.getD p 0 < 0 then freeC lo up p ++ [(p : Int) + 1] else freeC lo up p) = _
    rw [if_neg hc]
  unfold LcR
  rw [e]
  exact h

set_option maxRecDepth 100000 in
set_option maxHeartbeats 1000000 in
theorem lu_nil (A : Option Addr) (c : Nat) (lo : List Int) (B : Option Addr) (d : Nat) (up : List Int) (w : World) : Calls Try.prog 23 #[.pointer none, .slice A lo.length c, .slice B up.length d] w fun e w' => e = .returned (.tuple #[.pointer none, .int .i64 1]) ∧ w = w' := by
  go_enter Try.func23, Try.ntmps23
  go_wp2
  go_ret2
  exact ⟨rfl, rfl⟩
def luA (z : Option (Nat × Mat)) (lo up : List Int) : Option Mat × Int := match z with | none => (none, 1) | some (k, m) => luP k m lo up

set_option maxRecDepth 100000 in
set_option maxHeartbeats 2000000 in
theorem lu_zone (v : Value) (n : Nat) (m : Mat) (A : Option Addr) (c : Nat) (lo : List Int) (B : Option Addr) (d : Nat) (up : List Int) (w : World) (h : ZoneV 62 w v (some (n, m))) (hq : GoneK n m) (hI : Ints w .i64 A lo) (hJ : Ints w .i64 B up)
    (hl : lo.length ≤ 4611686018427387904) (hu : up.length ≤ 4611686018427387904) :
    Calls Try.prog 23 #[v, .slice A lo.length c, .slice B up.length d] w (MakesZ w n (luP n m lo up)) := by
  have HQ := Lib.hid hq
  have HI := Lib.hid hI
  have HJ := Lib.hid hJ
  have HZ := Lib.hid h
  have HE := Lib.hid (fun w h => xempty_any v (some (n, m)) w h)
  have HC := Lib.hid (fun w h => cells_any v (some (n, m)) w h)
  rw [show cellsP (some (n, m)) = flat n m from rfl] at HC
  have HD := Lib.hid (fun w h => odim_any v (some (n, m)) w h)
  rw [show dimN (some (n, m)) = n from rfl] at HD
  have hn : n ≤ 8 := by obtain ⟨_, _, h, _⟩ := h; exact h
  obtain ⟨b, rfl, _, hrm, hm⟩ := h
  have HRM := Lib.hid hrm
  have HR1 := Lib.hid (right5_any b n m A c lo w hm hI hl)
  have HR2 := Lib.hid (right5_any b n m B d up w hm hJ hu)
  obtain ⟨e1, he1⟩ : ∃ e1, e1 = rightE n lo := ⟨_, rfl⟩
  obtain ⟨e2, he2⟩ : ∃ e2, e2 = rightE n up := ⟨_, rfl⟩
  rw [← he1] at HR1
  rw [← he2] at HR2
  have HE1 := Lib.hid he1
  have HE2 := Lib.hid he2
  clear hq hI hJ hrm hm he1 he2
  by_cases h1 : e1 = 0
  · subst h1
    by_cases h2 : e2 = 0
    · subst h2
      have HL0 := Lib.hid (rightE_zero HE1.out.symm)
      have HU0 := Lib.hid (rightE_zero HE2.out.symm)
      rcases HQ.out with hz | hz
      · have HEQ := Lib.hid (show luP n m lo up = ofP n (flat n m) by unfold luP; rw [← HE1.out, ← HE2.out, if_neg (by omega), if_neg (by omega), if_pos (by rw [hz]; decide)])
        have HZE := Lib.hid (show emptyP (some (n, m)) = true by rw [hz]; rfl)
        have hlen : (flat n m).length = (n + 1) * (n + 1) := flat_length n m
        obtain ⟨N, hN⟩ : ∃ N, N = (n + 1) * (n + 1) := ⟨_, rfl⟩
        have hN81 : N ≤ 81 := by
          have := Nat.mul_le_mul (show n + 1 ≤ 9 by omega) (show n + 1 ≤ 9 by omega)
          omega
        have hN0 : 0 < N := by rw [hN]; exact Nat.mul_pos (by omega) (by omega)
        rw [← hN] at hlen
        have HLEN := Lib.hid hlen
        clear hz hlen hN
        go_enter Try.func23, Try.ntmps23
        go_wp2_with fail
        refine HR1.out.mono ?_
        rintro e w1 ⟨rfl, rfl⟩
        go_wp2_with fail
        refine HR2.out.mono ?_
        rintro e w1 ⟨rfl, rfl⟩
        go_wp2_with fail
        refine (HE.out _ HZ.out).mono ?_
        rw [HZE.out]
        rintro e w1 ⟨rfl, rfl⟩
        go_wp2_with fail
        refine (HD.out _ HZ.out).mono ?_
        rintro e w1 ⟨rfl, rfl⟩
        go_wp2_with fail
        refine (HC.out _ HZ.out).mono ?_
        rintro e w3 ⟨lv, rfl, hb, ho⟩
        obtain ⟨g1, cp1, hv, _, hrow⟩ := ho.row (by rw [HLEN.out]; exact hN0)
        rw [HLEN.out] at hv
        subst hv
        have HB3 := Lib.hid hb
        have HOF := Lib.hid (gone_of HRM.out HLEN.out hN81 (cap := cp1) hrow)
        clear hb ho hrow
        go_wp2_with fail
        refine HOF.out.mono ?_
        rintro e w4 hz
        have HZ4 := Lib.hid hz
        obtain ⟨hb, v, rfl, hv⟩ := hz
        have HB4 := Lib.hid (HB3.out.trans (hb.mono HB3.out.size))
        clear hb hv
        go_wp2
        go_ret2
        rw [HEQ.out]
        exact ⟨HB4.out, HZ4.out.2⟩
      · have hln := HL0.out.1
        have hun := HU0.out.1
        have hgf := gone_full (l := freeC lo up lo.length) hn (freeC_clk _ (by omega)) hz
        have HEQ := Lib.hid (show luP n m lo up = ofP n (flat n (offM (widP lo up) (baseM n m lo up))) by
          unfold luP
          rw [← HE1.out, ← HE2.out, if_neg (by omega), if_neg (by omega), if_neg (by rw [hz.full.one 0 (Nat.zero_le _)]; omega), hgf]
          rfl)
        have HZE := Lib.hid (show emptyP (some (n, m)) = false from hz.notEmpty)
        have hbc := base_closed (lo := lo) (up := up) hn (by omega) hz
        have HRW := Lib.hid (wide_ok HL0.out.2 HU0.out.2 hbc).1.right
        have HGO := Lib.hid (fun v A c w h hI => gone_any v (some (n, m)) A c (freeC lo up lo.length) w h (fun n' m' e => by cases e; exact .inr hz) hI (by have := freeC_short (lo := lo) (up := up) lo.length; omega))
        rw [show goneA (some (n, m)) (freeC lo up lo.length) = (some (baseM n m lo up), 0) from hgf, show dimN (some (n, m)) = n from rfl] at HGO
        have HEA := Lib.hid (fun v w h hI hJ => each_widened v n (baseM n m lo up) A c lo B d up w h hI hJ hln hun HL0.out.2 HU0.out.2 HRW.out)
        have HLL := Lib.hid hln
        have HUU := Lib.hid hun
        have hL8 : lo.length ≤ 8 := by omega
        have hU8 : up.length ≤ 8 := by omega
        have hLU : lo.length = up.length := by omega
        have HLU := Lib.hid hLU
        have hle : lo.length ≤ up.length := by omega
        have hle2 : (lo.length : Int) ≤ (up.length : Int) := by omega
        obtain ⟨i0, hi1, hz0, hz1, hz2⟩ := info_parts infoN
        have HInf := Lib.hid (And.intro hi1 (And.intro hz0 (And.intro hz1 hz2)))
        have HS := Lib.hid (show LcR w lo up 0 (.slice none 0 0) w from ⟨Below.refl _ _, World.ownsRow_nil _ _ _ _⟩)
        clear hi1 hz0 hz1 hz2 hln hun hgf hbc hz hLU
        go_enter Try.func23, Try.ntmps23
        go_wp2_with fail
        refine HR1.out.mono ?_
        rintro e w1 ⟨rfl, rfl⟩
        go_wp2_with fail
        refine HR2.out.mono ?_
        rintro e w1 ⟨rfl, rfl⟩
        go_wp2_with fail
        refine (HE.out _ HZ.out).mono ?_
        rw [HZE.out]
        rintro e w1 ⟨rfl, rfl⟩
        go_wp2
        go_loopg [10, 38] lo.length (fun q cv v wr => ∃ p : Nat, v = .int .i64 p ∧ Hid (LcR w lo up p cv wr) ∧ Hid (p ≤ lo.length ∧ q + p = lo.length))
        case atStart => exact ⟨0, by simp, HS.out, by omega, by omega⟩
        case round =>
          clear HS
          obtain ⟨p, rfl, HR, HP⟩ := hrel
          by_cases hp : p < lo.length
          · obtain ⟨b1, o1, rfl, c1⟩ := HI.out.below HR.out.1 p hp
            obtain ⟨b2, o2, rfl, c2⟩ := HJ.out.below HR.out.1 p (by omega)
            have hpi : (p : Int) < (lo.length : Int) := by omega
            have hpj : (p : Int) < (up.length : Int) := by omega
            have hp2 : p < up.length := by omega
            have HNY := Lib.hid (fun h v' w1 o hown hgrow => HR.out.next (v' := v') (w1 := w1) (o := o) h hown hgrow)
            have HNN := Lib.hid (fun h => HR.out.same h)
            have hfs := freeC_short (lo := lo) (up := up) p
            obtain ⟨x, hx⟩ : ∃ x, x = lo.getD p 0 := ⟨_, rfl⟩
            obtain ⟨y, hy⟩ : ∃ y, y = up.getD p 0 := ⟨_, rfl⟩
            rw [← hx] at c1 HNY HNN
            rw [← hy] at c2 HNY HNN
            clear hx hy
            by_cases hx : x < 0
            · have d1 : decide (x < 0) = true := decide_eq_true hx
              by_cases hy : y < 0
              · have d2 : decide (y < 0) = true := decide_eq_true hy
                have HXY := Lib.hid (And.intro hx hy)
                clear hx hy
                go_wp2_with (at_builtin; refine wpList_append_own _ rfl _ _ 23 rfl w.heap.size 3 i0 (.int .i64 0) 1 8 Try.underlying23 HInf.out.1 HInf.out.2.1 HInf.out.2.2.1 HInf.out.2.2.2 rfl (by decide) _ _ _ rfl (HR.out.2.alloc _) ⟨wr.heap.size, 0, none⟩ 1 1 [.int .i64 ((p : Int) + 1)] rfl rfl (cell_one_new _ _ _) (by intro u hu; simp at hu; subst hu; rfl) ?c3 ?c4 ?c5 ?_)
                case c3 => unfold maxLen; omega
                case c4 => omega
                case c5 => have := HR.out.1.size; simp; omega
                intro v' w1 hown hgrow _
                have HN := Lib.hid (HNY.out HXY.out _ _ _ hown hgrow)
                clear hown hgrow
                go_wp2
                go_roundg (gk - 1)
                case measure => have h := HP.out; omega
                case rel => exact ⟨p + 1, by go_num, HN.out, by omega, by have h := HP.out; omega⟩
              · have d2 : decide (y < 0) = false := decide_eq_false hy
                have HN := Lib.hid (HNN.out (by omega))
                clear hx hy
                go_wp2
                go_roundg (gk - 1)
                case measure => have h := HP.out; omega
                case rel => exact ⟨p + 1, by go_num, HN.out, by omega, by have h := HP.out; omega⟩
            · have d1 : decide (x < 0) = false := decide_eq_false hx
              have HN := Lib.hid (HNN.out (by omega))
              clear hx
              go_wp2
              go_roundg (gk - 1)
              case measure => have h := HP.out; omega
              case rel => exact ⟨p + 1, by go_num, HN.out, by omega, by have h := HP.out; omega⟩
          · have e : p = lo.length := by have := HP.out.1; omega
            subst e
            obtain ⟨A2, cap2, hv, hi2⟩ := HR.out.own.slice
            subst hv
            have HB := Lib.hid HR.out.1
            have HZ2 := Lib.hid (HZ.out.below HB.out)
            have HI2 := Lib.hid hi2
            clear hi2 HP HR
            go_wp2_with fail
            refine (HGO.out _ _ _ _ HZ2.out HI2.out).mono ?_
            rintro e w3 ⟨hb, v3, rfl, hv3⟩
            have HB3 := Lib.hid (HB.out.trans (hb.mono HB.out.size))
            have HV3 := Lib.hid (show ZoneV 62 w3 v3 (some (n, baseM n m lo up)) from hv3)
            clear hb hv3
            go_wp2_with fail
            refine (HEA.out _ _ HV3.out (HI.out.below HB3.out) (HJ.out.below HB3.out)).mono ?_
            rintro e w4 hz
            have HZ4 := Lib.hid hz
            obtain ⟨hb, v, rfl, hv⟩ := hz
            have HB4 := Lib.hid (HB3.out.trans (hb.mono HB3.out.size))
            clear hb hv
            go_wp2
            go_ret2
            rw [HEQ.out]
            exact ⟨HB4.out, HZ4.out.2⟩
    · have t1 : (e2 != 0) = true := by simp [h2]
      have HEQ := Lib.hid (show luP n m lo up = (none, e2) by unfold luP; rw [← HE1.out, ← HE2.out, if_neg (by omega), if_pos h2])
      clear h2
      go_enter Try.func23, Try.ntmps23
      go_wp2_with fail
      refine HR1.out.mono ?_
      rintro e w1 ⟨rfl, rfl⟩
      go_wp2_with fail
      refine HR2.out.mono ?_
      rintro e w1 ⟨rfl, rfl⟩
      go_wp2
      go_ret2
      rw [HEQ.out]
      exact ⟨Below.refl _ _, .pointer none, rfl, rfl⟩
  · have t1 : (e1 != 0) = true := by simp [h1]
    have HEQ := Lib.hid (show luP n m lo up = (none, e1) by unfold luP; rw [← HE1.out, if_pos h1])
    clear h1
    go_enter Try.func23, Try.ntmps23
    go_wp2_with fail
    refine HR1.out.mono ?_
    rintro e w1 ⟨rfl, rfl⟩
    go_wp2
    go_ret2
    rw [HEQ.out]
    exact ⟨Below.refl _ _, .pointer none, rfl, rfl⟩

theorem lu_any (v : Value) (z : Option (Nat × Mat)) (A : Option Addr) (c : Nat) (lo : List Int) (B : Option Addr) (d : Nat) (up : List Int) (w : World) (h : ZoneV 62 w v z) (hz : ∀ n m, z = some (n, m) → GoneK n m) (hI : Ints w .i64 A lo) (hJ : Ints w .i64 B up)
    (hl : lo.length ≤ 4611686018427387904) (hu : up.length ≤ 4611686018427387904) : Calls Try.prog 23 #[v, .slice A lo.length c, .slice B up.length d] w (MakesZ w (dimN z) (luA z lo up)) := by
  match z, h, hz with
  | none, h, _ =>
    have h : v = .pointer none := h
    subst h
    exact (lu_nil A c lo B d up w).mono fun e w' ⟨he, hw⟩ => ⟨hw ▸ Below.refl _ _, .pointer none, he, rfl⟩
  | some (n, m), h, hz => exact lu_zone v n m A c lo B d up w h (hz n m rfl) hI hJ hl hu

set_option maxRecDepth 100000 in
set_option maxHeartbeats 1000000 in
theorem max_any (v : Value) (z : Option (Nat × Mat)) (A : Option Addr) (c : Nat) (lo : List Int) (w : World) (h : ZoneV 62 w v z) (hz : ∀ n m, z = some (n, m) → GoneK n m) (hI : Ints w .i64 A lo)
    (hl : lo.length ≤ 4611686018427387904) : Calls Try.prog 8 #[v, .slice A lo.length c] w (MakesZ w (dimN z) (luA z lo lo)) := by
  have HL := Lib.hid (lu_any v z A c lo A c lo w h hz hI hI hl hl)
  clear h hz hI
  go_enter Try.func8, Try.ntmps8
  go_wp2_with fail
  refine HL.out.mono ?_
  rintro e w4 hz
  have HZ4 := Lib.hid hz
  obtain ⟨hb, v, rfl, hv⟩ := hz
  clear hb hv
  go_wp2
  go_ret2
  exact HZ4.out

end Go.Proofs.Ytkgohhdenfnfpaa

/- What TopWidened tells. -/
namespace Go.Proofs.Ytkgohhdenfnfpaa
open Go Go.RowKit
set_option linter.unusedVariables false
set_option linter.unusedSimpArgs false

theorem lim_cases (n : Int) (l : List (Int × Int × Int)) : (∃ m, limP n l = (some m, 0)) ∨ ∃ e, e ≠ 0 ∧ limP n l = (none, e) := by
  unfold limP
  split
  · split
    · unfold zoneP
      split
      · exact .inl ⟨_, rfl⟩
      · split
        · exact .inl ⟨_, rfl⟩
        · exact .inr ⟨_, by decide, rfl⟩
    · exact .inr ⟨_, by decide, rfl⟩
  · exact .inr ⟨_, by decide, rfl⟩
/-- Is a constant from p on one that may not be? -/
def badCF (l : List Int) : Nat → Nat → Bool
  | 0, _ => false
  | g + 1, p => if cstB (l.getD p 0) = true then badCF l g (p + 1) else true
theorem badCF_some (l : List Int) : ∀ g p, p + g = l.length → badCF l g p = false → ∀ q, p ≤ q → q < l.length → cstB (l.getD q 0) = true
  | 0, p, h, _, q, h1, h2 => by omega
  | g + 1, p, h, hb, q, h1, h2 => by
    unfold badCF at hb
    by_cases e : cstB (l.getD p 0) = true
    · rw [if_pos e] at hb
      by_cases eq : q = p
      · rw [eq]; exact e
      · exact badCF_some l g (p + 1) (by omega) hb q (by omega) h2
    · rw [if_neg e] at hb; cases hb
theorem badCF_true {l : List Int} (h : l.all cstB = false) : badCF l l.length 0 = true := by
  cases e : badCF l l.length 0 with
  | true => rfl
  | false =>
    have := badCF_some l l.length 0 (by omega) e
    have h2 : l.all cstB = true := List.all_eq_true.2 fun x hx => by
      obtain ⟨q, hq, rfl⟩ := List.getElem_of_mem hx
      have h3 := this q (Nat.zero_le _) hq
      rw [List.getD_eq_getElem?_getD, List.getElem?_eq_getElem hq] at h3
      exact h3
    rw [h2] at h; cases h

set_option maxRecDepth 100000 in
set_option maxHeartbeats 2000000 in
theorem bad_any (A : Option Addr) (c : Nat) (l : List Int) (w : World) (hI : Ints w .i64 A l) (hmax : l.length ≤ 4611686018427387904) : Calls Try.prog 10 #[.slice A l.length c] w fun e w' => e = .returned (.bool (badCF l l.length 0)) ∧ Below w.heap.size w w' := by
  have HI := Lib.hid hI
  have HL := Lib.hid hmax
  have HB0 := Lib.hid (Below.refl w.heap.size w)
  obtain ⟨R, hR⟩ : ∃ q, q = badCF l l.length 0 := ⟨_, rfl⟩
  rw [← hR]
  have HR := Lib.hid hR
  clear hR hI hmax
  go_enter Try.func10, Try.ntmps10
  go_wp2
  go_loopg [3] l.length (fun g x wr => ∃ p : Nat, x = .int .i64 p ∧ Hid (Below w.heap.size w wr) ∧ Hid (p ≤ l.length ∧ g + p = l.length ∧ R = badCF l g p))
  case atStart => exact ⟨0, by simp, HB0, Lib.hid ⟨by omega, by omega, HR.out⟩⟩
  case round =>
    clear HB0 HR
    obtain ⟨p, rfl, HB, HG⟩ := hrel
    have w5 : IntKind.i64.wrap ((p : Int) + 1) = ((p + 1 : Nat) : Int) := by rw [IntWalk.i64_in _ (by have := HL.out; have := HG.out.1; omega)]; omega
    by_cases hp : p < l.length
    · have hpi : (p : Int) < (l.length : Int) := by omega
      obtain ⟨b, off, rfl, d1⟩ := HI.out.below HB.out p hp
      have HST : Hid (R = if cstB (l.getD p 0) = true then badCF l (l.length - (p + 1)) (p + 1) else true) := Lib.hid (by
        have h := HG.out.2.2
        rw [show gk = (l.length - (p + 1)) + 1 by have := HG.out.2.1; omega] at h
        exact h)
      have HCB : Hid (∀ x : Int, cstB x = true ↔ (-1 ≤ x ∧ x ≤ 1048576)) := Lib.hid (fun x => by unfold cstB; rw [decide_eq_true_iff])
      obtain ⟨x, hx⟩ : ∃ q, q = l.getD p 0 := ⟨_, rfl⟩
      rw [← hx] at d1 HST
      clear hx
      by_cases h1 : x < -1
      · have t1 : decide (x < -1) = true := decide_eq_true h1
        have HE := Lib.hid (HST.out.trans (if_neg (fun h => by have := (HCB.out x).1 h; omega)))
        clear h1
        go_wp2
        go_ret
        exact ⟨by rw [HE.out]; rfl, HB.out⟩
      · have t1 : decide (x < -1) = false := decide_eq_false h1
        by_cases h2 : 1048576 < x
        · have t2 : decide (1048576 < x) = true := decide_eq_true h2
          have HE := Lib.hid (HST.out.trans (if_neg (fun h => by have := (HCB.out x).1 h; omega)))
          clear h1 h2
          go_wp2
          go_ret
          exact ⟨by rw [HE.out]; rfl, HB.out⟩
        · have t2 : decide (1048576 < x) = false := decide_eq_false h2
          have HE := Lib.hid (HST.out.trans (if_pos ((HCB.out x).2 (by omega))))
          clear h1 h2
          go_wp2
          go_roundg (gk - 1)
          case measure => have h := HG.out.2.1; omega
          case rel => exact ⟨p + 1, by go_num, HB, Lib.hid ⟨by omega, by have h := HG.out.2.1; omega, by rw [show gk - 1 = l.length - (p + 1) by have h := HG.out.2.1; omega]; exact HE.out⟩⟩
    · have hpi : ¬ (p : Int) < (l.length : Int) := by omega
      have HE : Hid (R = false) := Lib.hid (by
        have h := HG.out.2.2
        rw [show gk = 0 by have := HG.out.2.1; omega] at h
        exact h)
      go_wp2
      go_ret
      exact ⟨by rw [HE.out]; rfl, HB.out⟩

set_option maxRecDepth 100000 in
set_option maxHeartbeats 8000000 in
theorem topwid_any (n : Int) (A : Option Addr) (c : Nat) (l : List (Int × Int × Int)) (B : Option Addr) (d : Nat) (lo : List Int) (w : World) (hI : Lims w A l) (hmax : l.length ≤ 4611686018427387904)
    (hk : ∀ q, q < l.length → -2147483648 ≤ (l.getD q (0, 0, 0)).2.2 ∧ (l.getD q (0, 0, 0)).2.2 ≤ 2147483647) (hJ : Ints w .i64 B lo) (hmax' : lo.length ≤ 4611686018427387904) :
    Calls Try.prog 3 #[.int .i64 n, .slice A l.length c, .slice B lo.length d] w fun e w' => e = .returned (.bool true) ∧ Below w.heap.size w w' := by
  have HLM := Lib.hid (limits_any n A c l w hI hmax hk)
  have HJ := Lib.hid hJ
  have HL' := Lib.hid hmax'
  rcases lim_cases n l with ⟨m, hm0⟩ | ⟨er, her, hm0⟩
  · obtain ⟨⟨hn0, hn8⟩, hkind⟩ := lim_closed (n := n) (l := l) (m := m) (by rw [hm0])
    rw [hm0] at HLM
    obtain ⟨k, rfl⟩ : ∃ k : Nat, n = k := ⟨n.toNat, by omega⟩
    rw [Int.toNat_natCast] at HLM hkind
    have hk8 : k ≤ 8 := by omega
    clear hI hmax hk hJ hmax' hm0 hn0 hn8
    go_enter Try.func3, Try.ntmps3
    go_wp2_with fail
    refine HLM.out.mono ?_
    rintro e w1 ⟨hb, v, rfl, hv⟩
    have HB := Lib.hid hb
    have HZ := Lib.hid (show ZoneV 62 w1 v (some (k, m)) from hv)
    clear hb hv HLM
    have hz := HZ.out
    obtain ⟨b, rfl, _, hr, hm⟩ := hz
    have HEM := Lib.hid (fun W (hb : Below w1.heap.size w1 W) => empty_zone b k m W (hm.later hb))
    have HLE := Lib.hid (fun W (hb : Below w1.heap.size w1 W) => least_any (.pointer (some ⟨b, 0, none⟩)) (some (k, m)) W (HZ.out.below hb) (fun k' m' e => by cases e; exact hkind))
    rcases hkind with rfl | hc
    · rw [show leastA (some (k, fun _ _ => 0)) = ([], 14) by unfold leastA; exact if_pos (show decide ((0 : Int) < 1) = true by decide)] at HLE
      clear hr hm
      go_wp2_with fail
      refine (HLE.out _ (Below.refl _ _)).mono ?_
      rintro e w3 ⟨v3, rfl, hq⟩
      have HB3 := Lib.hid hq.1
      clear hq
      go_wp2_with fail
      refine (HEM.out _ HB3.out).mono ?_
      rintro e w4 ⟨rfl, rfl⟩
      go_wp2
      go_ret
      exact ⟨rfl, HB.out.trans (HB3.out.mono HB.out.size)⟩
    · rw [show decide (m 0 0 < 1) = false from hc.full.notEmpty] at HEM
      rw [show leastA (some (k, m)) = (leastV k m, 0) by unfold leastA; exact if_neg (by rw [hc.full.notEmpty]; decide)] at HLE
      have HVL := Lib.hid (leastV_length k m)
      have g64 : ∀ u : Nat → Int, All64v (gridV k u) := fun u j hj => by
        rw [gridV_length] at hj
        rw [gridV_getD hj]
        unfold newP
        split
        · exact ⟨⟨by decide, by decide⟩, ⟨by decide, by decide⟩⟩
        · exact frac64 _ _
      have HIV := Lib.hid (fun A c W (hb : Below w1.heap.size w1 W) hR => in_any (.pointer (some ⟨b, 0, none⟩)) (some (k, m)) A c (leastV k m) W (HZ.out.below hb) hR (by rw [leastV_length]; omega) (by rw [least_grid]; exact g64 _))
      rw [show inZ (some (k, m)) (leastV k m) = true from least_in hk8 hc, HVL.out] at HIV
      have HMX := Lib.hid (fun W (hb : Below w1.heap.size w1 W) => max_any (.pointer (some ⟨b, 0, none⟩)) (some (k, m)) B d lo W (HZ.out.below hb) (fun k' m' e => by cases e; exact .inr hc) (HJ.out.below (HB.out.trans (hb.mono HB.out.size))) HL'.out)
      have HUP := Lib.hid (fun W (hb : Below w1.heap.size w1 W) => up_zone (.pointer (some ⟨b, 0, none⟩)) k m W (HZ.out.below hb))
      by_cases h0 : rightE k lo = 0
      · obtain ⟨a, u, hlu, hac, hinc, hup, huinc, hur, hain, huin, hxin⟩ := widened_law hk8 hc h0
        rw [show luA (some (k, m)) lo lo = (some a, 0) from hlu, show dimN (some (k, m)) = k from rfl] at HMX
        rw [hup] at HUP
        have HIA := Lib.hid (fun v A c W (hz : ZoneV 62 W v (some (k, a))) hR => in_any v (some (k, a)) A c (leastV k m) W hz hR (by rw [leastV_length]; omega) (by rw [least_grid]; exact g64 _))
        rw [show inZ (some (k, a)) (leastV k m) = true from hain, HVL.out] at HIA
        have HIU := Lib.hid (fun v A c W (hz : ZoneV 62 W v (some (k, u))) hR => in_any v (some (k, u)) A c (leastV k m) W hz hR (by rw [leastV_length]; omega) (by rw [least_grid]; exact g64 _))
        rw [show inZ (some (k, u)) (leastV k m) = true from huin, HVL.out] at HIU
        have HCU := Lib.hid (fun v v' W (h : ZoneV 62 W v (some (k, u))) (h' : ZoneV 62 W v' (some (k, m))) => includes_any v v' (some (k, u)) (some (k, m)) W h h')
        rw [show inclP (some (k, u)) (some (k, m)) = true by show (decide (k = k) && inclM k u m) = true; rw [huinc]; simp] at HCU
        have HCA := Lib.hid (fun v v' W (h : ZoneV 62 W v (some (k, a))) (h' : ZoneV 62 W v' (some (k, m))) => includes_any v v' (some (k, a)) (some (k, m)) W h h')
        rw [show inclP (some (k, a)) (some (k, m)) = true by show (decide (k = k) && inclM k a m) = true; rw [hinc]; simp] at HCA
        have HLA := Lib.hid (fun v W (h : ZoneV 62 W v (some (k, a))) => least_any v (some (k, a)) W h (fun k' m' e => by cases e; exact .inr hac))
        rw [show leastA (some (k, a)) = (leastV k a, 0) by unfold leastA; exact if_neg (by rw [hac.full.notEmpty]; decide)] at HLA
        have HXL := Lib.hid (leastV_length k a)
        have HIX := Lib.hid (fun v A c W (hz : ZoneV 62 W v (some (k, a))) hR => in_any v (some (k, a)) A c (leastV k a) W hz hR (by rw [leastV_length]; omega) (by rw [least_grid]; exact g64 _))
        rw [show inZ (some (k, a)) (leastV k a) = true from hxin, HXL.out] at HIX
        clear hr hm hc hlu hac hinc hup huinc hur hain huin hxin g64 h0
        go_wp2_with fail
        refine (HLE.out _ (Below.refl _ _)).mono ?_
        rintro e w2 ⟨v2, rfl, hq⟩
        have HB2 := Lib.hid hq.1
        obtain ⟨A2, c2, rfl, hr2⟩ := hq.rats
        rw [HVL.out]
        have HV := Lib.hid hr2
        clear hq hr2 HLE
        go_wp2_with fail
        refine (HEM.out _ HB2.out).mono ?_
        rintro e w4 ⟨rfl, rfl⟩
        clear HEM
        go_wp2_with fail
        refine (HIV.out _ _ _ HB2.out HV.out).mono ?_
        rintro e w3 ⟨rfl, hb⟩
        replace HB2 := Lib.hid (HB2.out.trans (hb.mono HB2.out.size))
        replace HV := Lib.hid (HV.out.below hb)
        clear hb HIV
        go_wp2_with fail
        refine (HMX.out _ HB2.out).mono ?_
        rintro e w4 ⟨hb, va, rfl, hva⟩
        replace HB2 := Lib.hid (HB2.out.trans (hb.mono HB2.out.size))
        replace HV := Lib.hid (HV.out.below hb)
        have HZA := Lib.hid (show ZoneV 62 w4 va (some (k, a)) from hva)
        clear hb hva HMX
        go_wp2_with fail
        refine (HUP.out _ HB2.out).mono ?_
        rintro e w5 ⟨hb, vu, rfl, hvu⟩
        replace HB2 := Lib.hid (HB2.out.trans (hb.mono HB2.out.size))
        replace HV := Lib.hid (HV.out.below hb)
        replace HZA := Lib.hid (HZA.out.below hb)
        have HZU := Lib.hid (show ZoneV 62 w5 vu (some (k, u)) from hvu)
        clear hb hvu HUP
        go_wp2_with fail
        refine (HIA.out _ _ _ _ HZA.out HV.out).mono ?_
        rintro e w6 ⟨rfl, hb⟩
        replace HB2 := Lib.hid (HB2.out.trans (hb.mono HB2.out.size))
        replace HV := Lib.hid (HV.out.below hb)
        replace HZA := Lib.hid (HZA.out.below hb)
        replace HZU := Lib.hid (HZU.out.below hb)
        clear hb HIA
        go_wp2_with fail
        refine (HIU.out _ _ _ _ HZU.out HV.out).mono ?_
        rintro e w7 ⟨rfl, hb⟩
        replace HB2 := Lib.hid (HB2.out.trans (hb.mono HB2.out.size))
        replace HZA := Lib.hid (HZA.out.below hb)
        replace HZU := Lib.hid (HZU.out.below hb)
        clear hb HIU HV
        go_wp2_with fail
        refine (HCU.out _ _ _ HZU.out (HZ.out.below HB2.out)).mono ?_
        rintro e w8 ⟨rfl, hb⟩
        replace HB2 := Lib.hid (HB2.out.trans (hb.mono HB2.out.size))
        replace HZA := Lib.hid (HZA.out.below hb)
        clear hb HCU HZU
        go_wp2_with fail
        refine (HCA.out _ _ _ HZA.out (HZ.out.below HB2.out)).mono ?_
        rintro e w9 ⟨rfl, hb⟩
        replace HB2 := Lib.hid (HB2.out.trans (hb.mono HB2.out.size))
        replace HZA := Lib.hid (HZA.out.below hb)
        clear hb HCA
        go_wp2_with fail
        refine (HLA.out _ _ HZA.out).mono ?_
        rintro e wa ⟨v3, rfl, hq⟩
        replace HB2 := Lib.hid (HB2.out.trans (hq.1.mono HB2.out.size))
        replace HZA := Lib.hid (HZA.out.below hq.1)
        obtain ⟨A3, c3, rfl, hr3⟩ := hq.rats
        rw [HXL.out]
        have HX := Lib.hid hr3
        clear hq hr3 HLA
        go_wp2_with fail
        refine (HIX.out _ _ _ _ HZA.out HX.out).mono ?_
        rintro e wb ⟨rfl, hb⟩
        replace HB2 := Lib.hid (HB2.out.trans (hb.mono HB2.out.size))
        go_wp2
        go_ret
        exact ⟨rfl, HB.out.trans (HB2.out.mono HB.out.size)⟩
      · obtain ⟨u, hup, _⟩ := up_twice hk8 (.inr hc)
        rw [show luA (some (k, m)) lo lo = (none, rightE k lo) from by show luP k m lo lo = _; unfold luP; rw [if_pos h0], show dimN (some (k, m)) = k from rfl] at HMX
        rw [hup] at HUP
        have hbc := bad_consts h0
        have HBD := Lib.hid (fun W (hb : Below w.heap.size w W) => bad_any B d lo W (HJ.out.below hb) HL'.out)
        obtain ⟨re, hre⟩ : ∃ q, q = rightE k lo := ⟨_, rfl⟩
        rw [← hre] at HMX h0
        have t1 : (re != 0) = true := by simp [h0]
        have HLB : Hid (lo.length ≠ k ∨ badCF lo lo.length 0 = true) := Lib.hid (hbc.imp id badCF_true)
        clear hr hm hc hup g64 h0 hre hbc
        go_wp2_with fail
        refine (HLE.out _ (Below.refl _ _)).mono ?_
        rintro e w2 ⟨v2, rfl, hq⟩
        have HB2 := Lib.hid hq.1
        obtain ⟨A2, c2, rfl, hr2⟩ := hq.rats
        rw [HVL.out]
        have HV := Lib.hid hr2
        clear hq hr2 HLE
        go_wp2_with fail
        refine (HEM.out _ HB2.out).mono ?_
        rintro e w4 ⟨rfl, rfl⟩
        clear HEM
        go_wp2_with fail
        refine (HIV.out _ _ _ HB2.out HV.out).mono ?_
        rintro e w3 ⟨rfl, hb⟩
        replace HB2 := Lib.hid (HB2.out.trans (hb.mono HB2.out.size))
        clear hb HIV HV
        go_wp2_with fail
        refine (HMX.out _ HB2.out).mono ?_
        rintro e w4 ⟨hb, va, rfl, hva⟩
        replace HB2 := Lib.hid (HB2.out.trans (hb.mono HB2.out.size))
        clear hb hva HMX
        go_wp2_with fail
        refine (HUP.out _ HB2.out).mono ?_
        rintro e w5 ⟨hb, vu, rfl, hvu⟩
        replace HB2 := Lib.hid (HB2.out.trans (hb.mono HB2.out.size))
        clear hb hvu HUP
        by_cases hl : lo.length = k
        · have hbt : badCF lo lo.length 0 = true := by
            rcases HLB.out with h | h
            · exact absurd hl h
            · exact h
          rw [hbt] at HBD
          rw [hl] at HBD
          have hlen : ((lo.length : Nat) : Int) = (k : Int) := by rw [hl]
          clear hbt
          go_wp2_with fail
          refine (HBD.out _ (HB.out.trans (HB2.out.mono HB.out.size))).mono ?_
          rintro e w6 ⟨rfl, hb⟩
          replace HB2 := Lib.hid (HB2.out.trans (hb.mono HB2.out.size))
          go_wp2
          go_ret
          exact ⟨rfl, HB.out.trans (HB2.out.mono HB.out.size)⟩
        · have hlen : ¬ ((lo.length : Nat) : Int) = (k : Int) := by omega
          clear hl
          go_wp2
          go_ret
          exact ⟨rfl, HB.out.trans (HB2.out.mono HB.out.size)⟩
  · rw [hm0] at HLM
    have t1 : (er != 0) = true := by simp [her]
    clear hI hmax hk hJ hmax' hm0 her
    go_enter Try.func3, Try.ntmps3
    go_wp2_with fail
    refine HLM.out.mono ?_
    rintro e w1 ⟨hb, v, rfl, hv⟩
    have HB := Lib.hid hb
    have hv : v = .pointer none := hv
    subst hv
    clear hb HLM
    go_wp2
    go_ret
    exact ⟨rfl, HB.out⟩

end Go.Proofs.Ytkgohhdenfnfpaa

/- How a law's call ends: it tells true, and what came in reads as before. -/
namespace Go.Proofs.Ytkgohhdenfnfpaa
open Go Go.ChangeShapes Go.WideShapes Go.ChangeAt Go.RowKit
set_option linter.unusedVariables false
set_option linter.unusedSimpArgs false

section
variable {H : Type} {enc : TypeId × Value → H} {P : Program} {W W' : World}
/-- All that came in reads as before, where below the old heap's size nothing has turned. -/
theorem stays_all (hl : laidOutB P = true) {sp : Nat → Bool} : ∀ {ts : List TypeId} {vs : List Value} {ds : List (DataW H)} {ps : List MemPlace},
    (∀ t ∈ ts, P.readableRec t = true ∧ t < P.types.size) → DataW.TrodAll enc P W 0 (fun _ => true) true ts vs ds ps → (∀ p ∈ ps, W.sameAt W' p) → (∀ p ∈ ps, sp p.block = true) →
    DataW.TrodAll enc P W' 0 sp true ts vs ds ps
  | [], [], [], _, _, h, _, _ => h
  | t :: _, _ :: _, _ :: _, _, ht, ⟨p, q, h1, h2, e⟩, hk, hs =>
    ⟨p, q, WideElems.Trod_stays hl (ht t (List.mem_cons.2 (.inl rfl))).1 (ht t (List.mem_cons.2 (.inl rfl))).2 h1 (fun x hx => hk x (by rw [e]; exact List.mem_append_left _ hx)) (fun x hx => hs x (by rw [e]; exact List.mem_append_left _ hx)),
      stays_all hl (fun t ht' => ht t (List.mem_cons.2 (.inr ht'))) h2 (fun x hx => hk x (by rw [e]; exact List.mem_append_right _ hx)) (fun x hx => hs x (by rw [e]; exact List.mem_append_right _ hx)), e⟩

/-- The post of a law's row, out of true and Below. -/
theorem law_post {f : Func} {s : ChangeSpec} {args : Array Value} {ds gs : List (DataW H)} {before : List MemPlace} {tb : TypeId} {apart fresh handsOn again : Bool}
    (hl : laidOutB P = true) (hr : ∀ t ∈ f.params.toList, P.readableRec t = true ∧ t < P.types.size) (hv : s.vars = [])
    (hres : f.resultTypes = #[tb]) (hb : P.underlying tb = some .bool) (hfn : s.fn H (ds ++ gs) = { results := [.lit (.bool true)], args := ds })
    (hW : DataW.Whole enc P f.params.toList s.vars apart W args.toList ds gs before) (hbel : Below W.heap.size W W') :
    s.post enc P f apart fresh handsOn again W args (.bool true) W' := by
  have hlt := hW.lt
  have hW' := hW
  obtain ⟨p, q, hA, hV, rfl, hz, hn⟩ := hW'
  rw [hv] at hV
  obtain ⟨rfl, rfl⟩ := trodVars_none hV
  simp only [List.append_nil] at hW hlt hz hn hfn
  have hargs : ∀ sp : Nat → Bool, (∀ x ∈ p, sp x.block = true) → DataW.TrodAll enc P W' 0 sp true f.params.toList args.toList ds p :=
    fun sp hs => stays_all hl hr hA (fun x hx => hbel.same (hlt x hx)) hs
  have hone : ∀ (b : Nat) (sp : Nat → Bool) (hd : Bool), DataW.TrodAll enc P W' b sp hd f.resultTypes.toList ((Value.bool true).resultList f.resultTypes.size) [.lit (.bool true)] [] := by
    intro b sp hd
    rw [hres]
    exact trodAll_mk1 (shut_bool hb true)
  have hvars : ∀ sp : Nat → Bool, DataW.TrodVars enc P W' sp s.vars ([] : List (DataW H)) [] := by
    intro sp
    rw [hv]
    rfl
  refine ⟨ds, [], p, [], p, [], hW, ?_, ?_, ?_, hbel.frame _, fun _ => ⟨ok_one hres rfl (okWide_bool_mk hb true), ?_⟩⟩
  · simp only [List.append_nil, hfn]; exact hone _ _ _
  · simp only [List.append_nil, hfn]; exact hargs _ (fun x hx => by simpa using hlt x hx)
  · simp only [List.append_nil, hfn]; exact hvars _
  · refine ⟨[.lit (.bool true)] ++ ds, [], [] ++ p, ⟨[] ++ p, [], trodAll_append (hargs _ (fun _ _ => rfl)) (hone _ _ _), hvars _, by simp, ?_, ?_⟩, ?_⟩
    · intro b off hp
      have hp' : MemPlace.cell b off ∈ p := by simpa using hp
      rw [hbel.frozen (p := ⟨b, off, none⟩) (hlt _ hp')]
      exact hz b off hp'
    · intro ha
      simpa using hn ha
    · intro x hx _
      simpa using hx

/-- A slice of numbers that came in. -/
theorem came_row {t e : TypeId} {k : IntKind} {v : Value} {d : DataW H} {ps : List MemPlace} {r : Reach} {base : Nat} (ht : P.underlying t = some (.slice e)) (he : P.underlying e = some (.int k)) (hc : P.cellsOf e = 1)
    (hval : Value.okWide P W r base t v) (h : DataW.Trod enc P W 0 (fun _ => true) true t v d ps) :
    ∃ A c xs, v = .slice A xs.length c ∧ Ints W k A xs ∧ (∀ n ∈ xs, (Lit.int k n).wf = true) ∧ (xs = [] ∨ ∃ el sp, d = .slice el sp ∧ el.length = xs.length) := by
  obtain ⟨a0, len, cap, rfl⟩ := okWide_slice ht hval
  obtain ⟨fuel, hf⟩ := h
  rcases open_ints ht he hc hf with ⟨hcs, hx⟩ | ⟨a, len', cap', zs, hcs, _, hle, hmax, hall, hx, hcell, hwf⟩
  · simp [Value.cells] at hcs
    obtain ⟨rfl, rfl, rfl⟩ := hcs
    exact ⟨none, 0, [], rfl, fun j hj => by simp at hj, by simp, .inl rfl⟩
  · simp [Value.cells] at hcs
    obtain ⟨rfl, rfl, rfl⟩ := hcs
    have hz : zs.length = cap := by simpa using hall
    simp only [Prod.mk.injEq] at hx
    refine ⟨some a, cap, zs.take len, by rw [List.length_take]; congr 1; omega, ?_, fun n hn => hwf n (List.mem_of_mem_take hn), .inr ⟨_, _, hx.1, by simp [lits]⟩⟩
    intro j hj
    rw [List.length_take] at hj
    obtain ⟨b, off, rfl, hcell'⟩ := ints_at hcell (by omega)
    refine ⟨b, off, rfl, ?_⟩
    rw [hcell' j (by omega)]
    congr 2
    simp [List.getD_eq_getElem?_getD, List.getElem?_take, show j < len by omega]
/-- Its length is within what the machine can hold. -/
theorem came_short {ts : List TypeId} {ds : List (DataW H)} {j : Nat} {t e : TypeId} {d : DataW H} {xs : List Int} {m : Nat} (hsz : (DataW.weightsEach P ts ds).all (· ≤ reachBytes) = true) (ht : ts[j]? = some t) (hd : ds[j]? = some d)
    (hu : P.underlying t = some (.slice e)) (hm : P.bytesOf e = m) (hm1 : 1 ≤ m) (h : xs = [] ∨ ∃ el sp, d = .slice el sp ∧ el.length = xs.length) : xs.length * m ≤ 140737488351232 := by
  rcases h with rfl | ⟨el, sp, rfl, he⟩
  · simp
  · have h1 := sized_slice hsz ht hd hu
    rw [hm] at h1
    have h2 : el.length * m ≤ (el.length + sp.length) * m := Nat.mul_le_mul_right _ (by omega)
    rw [← he]
    exact Nat.le_trans h2 h1
/-- The bounds of 32 bits. -/
theorem came_i32 {xs : List Int} (h : ∀ n ∈ xs, (Lit.int .i32 n).wf = true) : ∀ q, q < xs.length → -2147483648 ≤ xs.getD q 0 ∧ xs.getD q 0 ≤ 2147483647 := by
  intro q hq
  have h1 := h (xs.getD q 0) (by rw [List.getD_eq_getElem?_getD, List.getElem?_eq_getElem hq]; exact List.getElem_mem hq)
  exact bounds_i32 h1
/-- A pair of numbers that came in. -/
theorem came_pair {t e : TypeId} {k : IntKind} {v : Value} {d : DataW H} {ps : List MemPlace} {r : Reach} {base : Nat} (ht : P.underlying t = some (.array 2 e)) (he : P.underlying e = some (.int k)) (hc : P.cellsOf e = 1) (hct : P.cellsOf t = 2)
    (hval : Value.okWide P W r base t v) (h : DataW.Trod enc P W 0 (fun _ => true) true t v d ps) :
    ∃ x y, v = .agg #[.int k x, .int k y] ∧ (Lit.int k x).wf = true ∧ (Lit.int k y).wf = true := by
  obtain ⟨cs, rfl, hsz, _⟩ : ∃ cs, v = .agg cs ∧ cs.size = P.cellsOf t ∧ Row.okWide P W r base t cs := by
    simpa [Value.okWide, ht] using hval
  rw [hct] at hsz
  obtain ⟨l⟩ := cs
  match l, hsz with
  | [a, b], _ =>
    obtain ⟨fuel, hf⟩ := h
    obtain ⟨xs, m, _, hx, hlen, hn, hel⟩ := DataW.trod_array ht hf
    have h0 := hel 0 (by omega)
    have h1 := hel 1 (by omega)
    simp [Value.cells, hc] at h0 h1
    rw [List.getElem?_eq_getElem (by omega)] at h0 h1
    obtain ⟨x, e0, _, w0⟩ := DataW.trod_int he h0
    obtain ⟨y, e1, _, w1⟩ := DataW.trod_int he h1
    simp at e0 e1
    subst e0 e1
    exact ⟨x, y, rfl, w0, w1⟩
end

end Go.Proofs.Ytkgohhdenfnfpaa

/- A slice of structs of three numbers that came in; rows of 32 bits. -/
namespace Go.Proofs.Ytkgohhdenfnfpaa
open Go Go.ChangeShapes Go.WideShapes Go.ChangeAt Go.RowKit
set_option linter.unusedVariables false
set_option linter.unusedSimpArgs false

section
variable {H : Type} {enc : TypeId × Value → H} {P : Program} {W W' : World}
/-- A slice of bounds of differences that came in. -/
theorem came_lims {t e : TypeId} {f0 f1 f2 : Field} {v : Value} {d : DataW H} {ps : List MemPlace} {r : Reach} {base : Nat} (ht : P.underlying t = some (.slice e)) (he : P.underlying e = some (.struct #[f0, f1, f2]))
    (k0 : P.underlying f0.type = some (.int .i64)) (k1 : P.underlying f1.type = some (.int .i64)) (k2 : P.underlying f2.type = some (.int .i32)) (hone : Deep.oneCellFields P #[f0, f1, f2] = true) (hc : P.cellsOf e = 3)
    (hval : Value.okWide P W r base t v) (h : DataW.Trod enc P W 0 (fun _ => true) true t v d ps) :
    ∃ A c xs, v = .slice A xs.length c ∧ Lims W A xs ∧ (∀ q, q < xs.length → (Lit.int .i64 (xs.getD q (0, 0, 0)).1).wf = true ∧ (Lit.int .i64 (xs.getD q (0, 0, 0)).2.1).wf = true ∧ (Lit.int .i32 (xs.getD q (0, 0, 0)).2.2).wf = true) ∧
      (xs = [] ∨ ∃ el sp, d = .slice el sp ∧ el.length = xs.length) := by
  obtain ⟨a0, len, cap, rfl⟩ := okWide_slice ht hval
  obtain ⟨fuel, hf⟩ := h
  rcases Deep.open_slice ht hf with ⟨hcs, hx⟩ | ⟨a, len', cap', m, n, D, Pl, hcs, _, hle, _, hmm, hx, hi⟩
  · simp [Value.cells] at hcs
    obtain ⟨rfl, rfl, rfl⟩ := hcs
    exact ⟨none, 0, [], rfl, fun j hj => by simp at hj, by simp, .inl rfl⟩
  · simp [Value.cells] at hcs
    obtain ⟨rfl, rfl, rfl⟩ := hcs
    have hlm : len ≤ m := by rw [hmm]; split <;> omega
    have each : ∀ i, i < m → ∃ q : Int × Int × Int, W.cell? (a.add (i * 3)) = some (.int .i64 q.1) ∧ W.cell? (a.add (i * 3 + 1)) = some (.int .i64 q.2.1) ∧ W.cell? (a.add (i * 3 + 2)) = some (.int .i32 q.2.2) ∧
        (Lit.int .i64 q.1).wf = true ∧ (Lit.int .i64 q.2.1).wf = true ∧ (Lit.int .i32 q.2.2).wf = true := by
      intro i him
      obtain ⟨cs', h1, h2⟩ := hi i him
      rw [hc] at h1
      obtain ⟨_, hlen, hcell⟩ := World.cells?_some h1
      obtain ⟨xs, k, _, hxy, _, hxl, hfd⟩ := DataW.trod_struct he h2
      obtain ⟨o0, c0⟩ := Deep.hone_of hone 0 f0 rfl
      obtain ⟨o1, c1⟩ := Deep.hone_of hone 1 f1 rfl
      obtain ⟨o2, c2⟩ := Deep.hone_of hone 2 f2 rfl
      match xs, hxl, cs', hlen with
      | [y0, y1, y2], _, [v0, v1, v2], _ =>
        have g0 := hfd 0 f0 rfl
        have g1 := hfd 1 f1 rfl
        have g2 := hfd 2 f2 rfl
        simp [o0, o1, o2, c0, c1, c2] at g0 g1 g2
        have e0 := hcell 0 (by omega)
        have e1 := hcell 1 (by omega)
        have e2 := hcell 2 (by omega)
        rw [Deep.add_add] at e0 e1 e2
        obtain ⟨z0, q0, _, w0⟩ := DataW.trod_int k0 g0
        obtain ⟨z1, q1, _, w1⟩ := DataW.trod_int k1 g1
        obtain ⟨z2, q2, _, w2⟩ := DataW.trod_int k2 g2
        simp at q0 q1 q2
        subst q0 q1 q2
        exact ⟨(z0, z1, z2), by simpa using e0, by simpa using e1, by simpa using e2, w0, w1, w2⟩
    obtain ⟨q, hq⟩ := Deep.choose_lt each
    simp only [Prod.mk.injEq] at hx
    refine ⟨some a, cap, (List.range len).map q, by simp, ?_, ?_, .inr ⟨_, _, hx.1, by simp⟩⟩
    · intro j hj
      simp only [List.length_map, List.length_range] at hj
      obtain ⟨h0, h1, h2, _⟩ := hq j (by omega)
      have hsp : a.spot = none := by
        have := World.cell?_spot (hq 0 (by omega)).1
        simpa [Addr.add] using this
      obtain ⟨b, off, spot⟩ := a
      simp only at hsp
      subst hsp
      have eg : ((List.range len).map q).getD j (0, 0, 0) = q j := by simp [List.getD_eq_getElem?_getD, hj]
      rw [eg]
      have ea : ∀ k, (⟨b, off, none⟩ : Addr).add k = ⟨b, off + k, none⟩ := fun k => by unfold Addr.add; split <;> simp_all
      rw [ea] at h0 h1 h2
      exact ⟨b, off, rfl, h0, by rw [Nat.add_assoc]; exact h1, by rw [Nat.add_assoc]; exact h2⟩
    · intro j hj
      simp only [List.length_map, List.length_range] at hj
      have eg : ((List.range len).map q).getD j (0, 0, 0) = q j := by simp [List.getD_eq_getElem?_getD, hj]
      rw [eg]
      exact (hq j (by omega)).2.2.2
theorem came_lim32 {xs : List (Int × Int × Int)} (h : ∀ q, q < xs.length → (Lit.int .i64 (xs.getD q (0, 0, 0)).1).wf = true ∧ (Lit.int .i64 (xs.getD q (0, 0, 0)).2.1).wf = true ∧ (Lit.int .i32 (xs.getD q (0, 0, 0)).2.2).wf = true) :
    ∀ q, q < xs.length → -2147483648 ≤ (xs.getD q (0, 0, 0)).2.2 ∧ (xs.getD q (0, 0, 0)).2.2 ≤ 2147483647 := fun q hq => bounds_i32 (h q hq).2.2
/-- Its length is within what the machine can hold. -/
theorem came_short3 {ts : List TypeId} {ds : List (DataW H)} {j : Nat} {t e : TypeId} {d : DataW H} {xs : List (Int × Int × Int)} {m : Nat} (hsz : (DataW.weightsEach P ts ds).all (· ≤ reachBytes) = true) (ht : ts[j]? = some t) (hd : ds[j]? = some d)
    (hu : P.underlying t = some (.slice e)) (hm : P.bytesOf e = m) (h : xs = [] ∨ ∃ el sp, d = .slice el sp ∧ el.length = xs.length) : xs.length * m ≤ 140737488351232 := by
  rcases h with rfl | ⟨el, sp, rfl, he⟩
  · simp
  · have h1 := sized_slice hsz ht hd hu
    rw [hm] at h1
    have h2 : el.length * m ≤ (el.length + sp.length) * m := Nat.mul_le_mul_right _ (by omega)
    rw [← he]
    exact Nat.le_trans h2 h1
/-- The bounds of 32 bits without a sign. -/
theorem came_u32 {xs : List Int} (h : ∀ n ∈ xs, (Lit.int .u32 n).wf = true) : ∀ q, q < xs.length → 0 ≤ xs.getD q 0 ∧ xs.getD q 0 ≤ 4294967295 := by
  intro q hq
  have h1 := h (xs.getD q 0) (by rw [List.getD_eq_getElem?_getD, List.getElem?_eq_getElem hq]; exact List.getElem_mem hq)
  exact bounds_u32 h1
end

end Go.Proofs.Ytkgohhdenfnfpaa
