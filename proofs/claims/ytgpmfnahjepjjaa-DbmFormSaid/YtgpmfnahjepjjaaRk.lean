/- The document's Common and Meets. -/
import Derived.Test.YtgpmfnahjepjjaaRj
namespace Go.Proofs.Ytgpmfnahjepjjaa
open Go Go.RowKit
set_option linter.unusedVariables false
set_option linter.unusedSimpArgs false

/-- The first so many numbers made the lesser ones. -/
def lessUp (xs ys : List Int) (p : Nat) : List Int := (List.range xs.length).map fun q => if q < p then min (xs.getD q 0) (ys.getD q 0) else xs.getD q 0
theorem lessUp_length (xs ys : List Int) (p : Nat) : (lessUp xs ys p).length = xs.length := by simp [lessUp]
theorem lessUp_getD (xs ys : List Int) (p q : Nat) (h : q < xs.length) : (lessUp xs ys p).getD q 0 = if q < p then min (xs.getD q 0) (ys.getD q 0) else xs.getD q 0 := by
  simp [lessUp, List.getD_eq_getElem?_getD, h]
theorem lessUp_zero (xs ys : List Int) : lessUp xs ys 0 = xs := list_ext0 (lessUp_length _ _ _) fun q hq => by
  rw [lessUp_length] at hq
  rw [lessUp_getD _ _ _ _ hq]; simp
theorem lessUp_set (xs ys : List Int) (p : Nat) (h : p < xs.length) (hl : ys.getD p 0 < xs.getD p 0) : (lessUp xs ys p).set p (ys.getD p 0) = lessUp xs ys (p + 1) :=
  list_ext0 (by simp [lessUp_length]) fun q hq => by
    rw [List.length_set, lessUp_length] at hq
    rw [lessUp_getD _ _ _ _ hq, List.getD_eq_getElem?_getD, List.getElem?_set]
    by_cases e : p = q
    · subst e
      rw [if_pos rfl, if_pos (by rw [lessUp_length]; exact h), if_pos (by omega)]
      simp only [Option.getD_some]
      omega
    · rw [if_neg e, ← List.getD_eq_getElem?_getD, lessUp_getD _ _ _ _ hq]
      by_cases h1 : q < p
      · rw [if_pos h1, if_pos (by omega)]
      · rw [if_neg h1, if_neg (by omega)]
theorem lessUp_keep (xs ys : List Int) (p : Nat) (h : p < xs.length) (hl : ¬ ys.getD p 0 < xs.getD p 0) : lessUp xs ys p = lessUp xs ys (p + 1) :=
  list_ext0 (by simp [lessUp_length]) fun q hq => by
    rw [lessUp_length] at hq
    rw [lessUp_getD _ _ _ _ hq, lessUp_getD _ _ _ _ hq]
    by_cases h1 : q < p
    · rw [if_pos h1, if_pos (by omega)]
    · rw [if_neg h1]
      by_cases e : q = p
      · subst e; rw [if_pos (by omega)]; omega
      · rw [if_neg (by omega)]
theorem lessUp_bounds (xs ys : List Int) (p : Nat) (hl : xs.length = ys.length) (hx : ∀ q, q < xs.length → -2147483648 ≤ xs.getD q 0 ∧ xs.getD q 0 ≤ 2147483647) (hy : ∀ q, q < ys.length → -2147483648 ≤ ys.getD q 0 ∧ ys.getD q 0 ≤ 2147483647) :
    ∀ q, q < (lessUp xs ys p).length → -2147483648 ≤ (lessUp xs ys p).getD q 0 ∧ (lessUp xs ys p).getD q 0 ≤ 2147483647 := fun q hq => by
  rw [lessUp_length] at hq
  rw [lessUp_getD _ _ _ _ hq]
  have h1 := hx q hq
  have h2 := hy q (by omega)
  split <;> omega

theorem rof_of (n : Int) (A : Option Addr) (c N : Nat) (cells : List Int) (w : World) (hN : cells.length = N) (hI : Ints w .i32 A cells) (hmax : N ≤ 4611686018427387904)
    (hk : ∀ q, q < cells.length → -2147483648 ≤ cells.getD q 0 ∧ cells.getD q 0 ≤ 2147483647) :
    Calls Try.prog 30 #[.int .i64 n, .slice A N c] w (MakesR w n.toNat (ofP n cells)) := by
  subst hN
  exact rof_any n A c cells w hI hmax hk

/-- The list is lessened so far, in a block of the call's own. -/
def LessR (w0 : World) (g : Nat) (xs ys : List Int) (p : Nat) (wr : World) : Prop :=
  Below w0.heap.size w0 wr ∧ w0.heap.size ≤ g ∧ RowAt wr g 37 .i32 (lessUp xs ys p)
theorem LessR.next {w0 : World} {g : Nat} {xs ys : List Int} {p : Nat} {wr : World} (h : LessR w0 g xs ys p wr) (q : Nat) (hp : p < xs.length) (y : Int) (hy : y = ys.getD p 0) (hl : y < xs.getD p 0) :
    LessR w0 g xs ys (p + 1) ((wr.drewN q).setCell ⟨g, p, none⟩ (.int .i32 y)) := by
  subst hy
  refine ⟨(belowN h.1 q).setCell h.2.1 _, h.2.1, ?_⟩
  have := (h.2.2.drewN q).set p (ys.getD p 0)
  rwa [lessUp_set xs ys p hp hl] at this
theorem LessR.keep {w0 : World} {g : Nat} {xs ys : List Int} {p : Nat} {wr : World} (h : LessR w0 g xs ys p wr) (q : Nat) (hp : p < xs.length) (hl : ¬ ys.getD p 0 < xs.getD p 0) : LessR w0 g xs ys (p + 1) (wr.drewN q) :=
  ⟨belowN h.1 q, h.2.1, by rw [← lessUp_keep xs ys p hp hl]; exact h.2.2.drewN q⟩

set_option maxRecDepth 100000 in
set_option maxHeartbeats 2000000 in
theorem rcommon_two (b g cap b' g' cap' n : Nat) (m o : Mat) (w : World) (hz : RefZ w (.pointer (some ⟨b, 0, none⟩)) (some (n, m))) 
    (h0 : w.cell? ⟨b, 0, none⟩ = some (.int .i64 n))
    (h1' : w.cell? ⟨b', 1, none⟩ = some (.slice (some ⟨g', 0, none⟩) ((n + 1) * (n + 1)) cap')) (hr' : RowAt w g' 37 .i32 (flat n o)) (hn : n ≤ 8)
    (hx : ∀ q, q < (flat n m).length → -2147483648 ≤ (flat n m).getD q 0 ∧ (flat n m).getD q 0 ≤ 2147483647) (hy : ∀ q, q < (flat n o).length → -2147483648 ≤ (flat n o).getD q 0 ∧ (flat n o).getD q 0 ≤ 2147483647) :
    Calls Try.prog 61 #[.pointer (some ⟨b, 0, none⟩), .pointer (some ⟨b', 0, none⟩)] w (MakesR w n (ofP n (lessUp (flat n m) (flat n o) ((n + 1) * (n + 1))))) := by
  have HZ := Lib.hid hz
  have HR' := Lib.hid hr'
  obtain ⟨N, hN⟩ : ∃ N, N = (n + 1) * (n + 1) := ⟨_, rfl⟩
  have hlm : (flat n m).length = N := by rw [flat_length, hN]
  have hlo : (flat n o).length = N := by rw [flat_length, hN]
  have hN81 : N ≤ 81 := by rw [hN]; have := Nat.mul_le_mul (show n + 1 ≤ 9 by omega) (show n + 1 ≤ 9 by omega); omega
  have hN0 : 0 < N := by rw [hN]; exact Nat.mul_pos (by omega) (by omega)
  rw [← hN] at h1' ⊢
  have HBD := Lib.hid (lessUp_bounds (flat n m) (flat n o) N (by rw [hlm, hlo]) hx hy)
  clear hz hr' hN hx hy
  obtain ⟨xs, hxs⟩ : ∃ xs, xs = flat n m := ⟨_, rfl⟩
  obtain ⟨ys, hys⟩ : ∃ ys, ys = flat n o := ⟨_, rfl⟩
  rw [← hxs] at hlm HBD ⊢
  rw [← hys] at hlo HR' HBD ⊢
  have HXS := Lib.hid hxs
  have HLM := Lib.hid hlm
  have HLO := Lib.hid hlo
  have HN81 := Lib.hid hN81
  have HN0 := Lib.hid hN0
  have hbl : b < w.heap.size := World.block_lt_of_cell? w _ h0
  have hbl' : b' < w.heap.size := World.block_lt_of_cell? w _ h1'
  clear hxs hys hlm hlo hN81 hN0
  go_enter Try.func61, Try.ntmps61
  go_wp2_with fail
  refine (rcells_any _ _ _ HZ.out).mono ?_
  rintro e w1 ⟨l, rfl, hb1, ho1⟩
  have ho1 : OwnI w1 w.heap.size 37 .i32 l xs := by rw [HXS.out]; exact ho1
  obtain ⟨gl, capl, rfl, hgl, hrow⟩ := ho1.row (by rw [HLM.out]; exact HN0.out)
  have HL0 := Lib.hid (show LessR w gl xs ys 0 w1 from ⟨hb1, hgl, by rw [lessUp_zero]; exact hrow⟩)
  rw [HLM.out]
  clear hb1 ho1 hrow
  go_wp2
  go_loopg [7] N (fun g v wr => ∃ p : Nat, v = .int .i64 p ∧ Hid (LessR w gl xs ys p wr) ∧ Hid (p ≤ N ∧ g + p = N))
  case atStart => exact ⟨0, by simp, HL0.out, by omega, by omega⟩
  case round =>
    obtain ⟨p, rfl, HL, HG⟩ := hrel
    by_cases hp : p < N
    · have hp81 : p < 81 := by have := HN81.out; omega
      have hpi : (p : Int) < (N : Int) := by omega
      have hc := HL.out.2.2.cell p (by rw [lessUp_length, HLM.out]; exact hp)
      rw [lessUp_getD _ _ _ _ (by rw [HLM.out]; exact hp), if_neg (by omega)] at hc
      have hc' := (HL.out.1.cell (p := ⟨g', p, none⟩) HR'.out.lt).trans (HR'.out.cell p (by rw [HLO.out]; exact hp))
      have k1' := (HL.out.1.cell (p := ⟨b', 1, none⟩) hbl').trans h1'
      obtain ⟨x, hx⟩ : ∃ x, x = xs.getD p 0 := ⟨_, rfl⟩
      obtain ⟨y, hy⟩ : ∃ y, y = ys.getD p 0 := ⟨_, rfl⟩
      rw [← hx] at hc
      rw [← hy] at hc'
      have HX := Lib.hid hx
      have HY := Lib.hid hy
      have hfz := HL.out.2.2.frozen p
      clear hx hy
      by_cases he : y < x
      · have t3 : decide (y < x) = true := decide_eq_true he
        have HE := Lib.hid he
        clear he
        go_wp2_with fail
        go_quiet (fail)
        go_wp2
        go_roundg (gk - 1)
        case measure => have h := HG.out; have h81 := HN81.out; omega
        case rel =>
          exact ⟨p + 1, by go_num, HL.out.next _ (by rw [HLM.out]; exact hp) y HY.out (by rw [← HX.out]; exact HE.out), by omega, by have h := HG.out.2; omega⟩
      · have t3 : decide (y < x) = false := decide_eq_false he
        have HE := Lib.hid he
        clear he
        go_wp2_with fail
        go_quiet (fail)
        go_wp2
        go_roundg (gk - 1)
        case measure => have h := HG.out; have h81 := HN81.out; omega
        case rel =>
          exact ⟨p + 1, by go_num, HL.out.keep _ (by rw [HLM.out]; exact hp) (by rw [← HX.out, ← HY.out]; have := HE.out; omega), by omega, by have h := HG.out.2; omega⟩
    · have e : p = N := by have := HG.out.1; omega
      subst e
      have k0 := (HL.out.1.cell (p := ⟨b, 0, none⟩) hbl).trans h0
      go_wp2_with fail
      refine (rof_of n (some ⟨gl, 0, none⟩) capl p _ _ (by rw [lessUp_length]; exact HLM.out) HL.out.2.2.ints (by have := HN81.out; omega) HBD.out).mono ?_
      rintro e w9 hmk
      have hmk : MakesR wr n (ofP n (lessUp xs ys p)) e w9 := hmk
      obtain ⟨hb9, v9, rfl, hv9⟩ := hmk
      have HB9 := Lib.hid (HL.out.1.trans (hb9.mono HL.out.1.size))
      have HV9 := Lib.hid hv9
      clear hb9 hv9
      obtain ⟨er, her⟩ : ∃ er, er = (ofP n (lessUp xs ys p)).2 := ⟨_, rfl⟩
      rw [← her]
      have HER := Lib.hid her
      clear her
      go_wp2
      go_ret2
      exact ⟨HB9.out, v9, by rw [HER.out]; rfl, HV9.out⟩

/-- What the document's Meets tells. -/
def meetR (z o : Option (Nat × Mat)) : Bool := match z, o with
  | some (n, m), some (k, o) => decide (n = k) && (decide ((ofP n (lessUp (flat n m) (flat n o) ((n + 1) * (n + 1)))).2 ≠ 0) || !emptyR ((ofP n (lessUp (flat n m) (flat n o) ((n + 1) * (n + 1)))).1.map fun c => (n, c)))
  | _, _ => false
/-- All cells are numbers of 32 bits. -/
def Bd32 (z : Option (Nat × Mat)) : Prop := ∀ q, q < (cellsP z).length → -2147483648 ≤ (cellsP z).getD q 0 ∧ (cellsP z).getD q 0 ≤ 2147483647

set_option maxRecDepth 100000 in
set_option maxHeartbeats 2000000 in
theorem rmeets_any (v v' : Value) (z o : Option (Nat × Mat)) (w : World) (h : RefZ w v z) (h' : RefZ w v' o) (hx : Bd32 z) (hy : Bd32 o) :
    Calls Try.prog 41 #[v, v'] w fun e w' => e = .returned (.bool (meetR z o)) ∧ Below w.heap.size w w' := by
  have HZ := Lib.hid h
  have HO := Lib.hid h'
  by_cases hl : alikeP z o = true
  · match z, o, h, h', hl, hx, hy, HZ, HO with
    | some (n, m), some (k, o), h, h', hl, hx, hy, HZ, HO =>
      have e : n = k := of_decide_eq_true hl
      subst e
      obtain ⟨b, g, cap, e1, hn, _, h0, h1, hr⟩ := h.parts
      obtain ⟨b', g', cap', e2, _, _, _, h1', hr'⟩ := h'.parts
      subst e1 e2
      have HC := Lib.hid (fun (q : Nat) => rcommon_two b g cap b' g' cap' n m o (w.drewN q) (HZ.out.drewN q) h0 h1' (hr'.drewN q) hn hx hy)
      have HL := Lib.hid hl
      have hm : meetR (some (n, m)) (some (n, o)) = (decide ((ofP n (lessUp (flat n m) (flat n o) ((n + 1) * (n + 1)))).2 ≠ 0) || !emptyR ((ofP n (lessUp (flat n m) (flat n o) ((n + 1) * (n + 1)))).1.map fun c => (n, c))) := by
        show (decide (n = n) && _) = _
        rw [decide_eq_true rfl, Bool.true_and]
      have HM := Lib.hid hm
      clear h h' h0 h1 hr h1' hr' hl hx hy hm
      go_enter Try.func41, Try.ntmps41
      go_wp2_with fail
      refine (ralike_any _ _ _ _ _ HZ.out HO.out).mono ?_
      rw [HL.out]
      rintro e w1 ⟨rfl, q1, rfl⟩
      go_wp2_with fail
      refine (HC.out q1).mono ?_
      rintro e w2 ⟨hb, v, rfl, hv⟩
      have HB := Lib.hid ((belowN (Below.refl w.heap.size w) q1).trans (hb.mono (by exact Nat.le_refl _)))
      clear hb HC
      generalize ofP (n : Int) (lessUp (flat n m) (flat n o) ((n + 1) * (n + 1))) = r at *
      obtain ⟨rz, re⟩ := r
      have HV := Lib.hid hv
      clear hv
      by_cases he : re = 0
      · have HE := Lib.hid he
        subst he
        go_wp2_with fail
        refine (rempty_any _ _ _ HV.out).mono ?_
        rintro e w3 ⟨rfl, rfl⟩
        obtain ⟨r, hr⟩ : ∃ r, r = emptyR (rz.map fun c => (n, c)) := ⟨_, rfl⟩
        rw [← hr]
        have HR := Lib.hid hr
        clear hr
        go_wp2
        go_ret
        exact ⟨by rw [HM.out, ← HR.out]; rfl, HB.out⟩
      · have t1 : (re != 0) = true := by simp [he]
        have HE := Lib.hid he
        clear he
        go_wp2
        go_ret
        refine ⟨?_, HB.out⟩
        rw [HM.out, decide_eq_true HE.out]
        rfl
  · have hl : alikeP z o = false := by simpa using hl
    have hm : meetR z o = false := by
      unfold alikeP at hl
      unfold meetR
      revert hl
      cases z <;> cases o <;> simp
      intro h1 h2
      exact absurd h2 h1
    rw [hm]
    have HL := Lib.hid hl
    clear hl hm h h' hx hy
    go_enter Try.func41, Try.ntmps41
    go_wp2_with fail
    refine (ralike_any _ _ _ _ _ HZ.out HO.out).mono ?_
    rw [HL.out]
    rintro e w1 ⟨rfl, q1, rfl⟩
    have HB := Lib.hid (belowN (Below.refl w.heap.size w) q1)
    go_wp2
    go_ret
    exact ⟨rfl, HB.out⟩

end Go.Proofs.Ytgpmfnahjepjjaa
