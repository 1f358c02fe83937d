/- Texts of ours, laid together: Ot, Ph, Row6, Qh. -/
import Derived.Test.YtidcnlecgcobmaaDoorMg9
/- The least zone that includes some. -/
namespace Go.Proofs.YtidcnlecgcobmaaDoor
open Go Go.RowKit
set_option linter.unusedVariables false
set_option linter.unusedSimpArgs false
attribute [local go_sem] min_ints max_ints

theorem infoPZ : (Tryd.prog.info? 24).map (fun i => (i.zero, i.size, i.bytes)) = some (some (.pointer none), 1, 8) := by kernel_rfl
/-- What a row of the call's own of addresses holds. -/
theorem own_ptrs {w : World} {base : Nat} {e : TypeId} {v : Value} {vs : List Value} (h : w.ownsRow base e 1 v vs.length vs) : ∃ A cap, v = .slice A vs.length cap ∧ Ptrs w A vs := by
  obtain ⟨hl, h⟩ := h
  rcases h with ⟨rfl, h0⟩ | ⟨g, cap, cur, rfl, _, h1, _, _, _, h2⟩
  · refine ⟨none, 0, by rw [h0], fun j hj => by omega⟩
  · refine ⟨some ⟨g, 0, none⟩, cap, rfl, fun j hj => ⟨g, 0, rfl, ?_⟩⟩
    have e1 : cur.toList[j]? = vs[j]? := by rw [← h2, List.getElem?_take, if_pos (by omega)]
    rw [Nat.zero_add, World.cell?, h1]
    simp only [Option.isSome_none, Bool.false_eq_true, if_false]
    rw [← Array.getElem?_toList, e1, List.getD_eq_getElem?_getD, List.getElem?_eq_getElem hj]
    rfl
/-- A row of one address, and others behind it. -/
theorem append_ptrs (w : World) (v : Value) (A : Option Addr) (c : Nat) (vs : List Value) (base : Nat) (w1 : World) (hw : w1 = w.alloc (.cells #[v] 24)) (hbase : base ≤ w.heap.size) (hP : Ptrs w1 A vs) (h1 : ∀ u ∈ vs, u.oneCell' = true) (hl : vs.length ≤ 17592186044000) (hv1 : v.oneCell' = true) :
    ∃ v' w', (Builtin.append_ #[54, 54] 54 #[.slice (some ⟨w.heap.size, 0, none⟩) 1 1, .slice A vs.length c]).run Tryd.prog w1 = .ok v' w' ∧ w'.ownsRow base 24 1 v' (v :: vs).length (v :: vs) ∧ Below w.heap.size w w' := by
  obtain ⟨i0, hi, hz0, hz1, hz2⟩ := info_parts infoPZ
  have hblk : w1.heap[w.heap.size]? = some (.cells #[v] 24 (0, 0)) := by rw [hw]; exact heap_alloc_new _ _
  have hsz : w1.heap.size = w.heap.size + 1 := by rw [hw]; simp
  have hB1 : Below w.heap.size w w1 := by rw [hw]; exact (Below.refl _ _).alloc (Nat.le_refl _) _
  have hown : w1.ownsRow base 24 1 (.slice (some ⟨w.heap.size, 0, none⟩) 1 1) 1 [v] := ⟨rfl, .inr ⟨w.heap.size, 1, #[v], rfl, hbase, hblk, Nat.le_refl _, by decide, rfl, rfl⟩⟩
  cases A with
  | some a =>
    have hnews : ∀ j u, vs[j]? = some u → w1.cell? (a.add j) = some u := by
      intro j u hu
      have hj : j < vs.length := (List.getElem?_eq_some_iff.1 hu).1
      obtain ⟨b, off, e, hc⟩ := hP j hj
      simp only [Option.some.injEq] at e
      subst e
      have ea : (⟨b, off, none⟩ : Addr).add j = ⟨b, off + j, none⟩ := by unfold Addr.add; split <;> simp_all
      rw [ea, hc, List.getD_eq_getElem?_getD, hu]; rfl
    obtain ⟨v', w', hr, ho, hg, _⟩ := run_append_own (P := Tryd.prog) w1 base 54 54 24 i0 (.pointer none) 1 8 Tryd.underlying54 hi hz0 hz1 hz2 rfl (by decide) _ 1 [v] hown a vs.length c vs (by simp) hnews h1 (by simp only [maxLen]; omega) (by omega) (by omega)
    refine ⟨v', w', hr, ?_, hB1.grown hg (by omega) (fun k hk => by simp [Value.ownBlock] at hk; omega)⟩
    rw [List.length_cons, Nat.add_comm]; exact ho
  | none =>
    have h0 : vs = [] := by
      cases vs with
      | nil => rfl
      | cons x xs => obtain ⟨b, off, e, _⟩ := hP 0 (by simp); cases e
    subst h0
    have hst := run_storeCells_at Tryd.prog w.heap.size (1 * i0.size) 24 [] 0 #[v] w1 hblk (by rw [hz1]; simp) (by simp)
    refine ⟨.slice (some ⟨w.heap.size, 0, none⟩) 1 1, w1.setRow w.heap.size #[v], ?_, ?_, ?_⟩
    · have hf : (Builtin.firstCells 1 0 (.slice none 0 c)).run Tryd.prog w1 = .ok #[] w1 := by simp [Builtin.firstCells]
      simp [hz1] at hst
      simp [Builtin.append_, run_underlying Tryd.underlying54, sizeOf, typeInfo, hi, Builtin.lenOf, hf, Addr.add_lit, hz1, hst]
    · refine ⟨rfl, .inr ⟨w.heap.size, 1, #[v], rfl, hbase, setRow_heap w1 _ #[v] _ _ _ hblk, Nat.le_refl _, by decide, rfl, rfl⟩⟩
    · exact hB1.trans ⟨rfl, rfl, rfl, by simp, fun k hk => setRow_other w1 _ k _ (by omega)⟩

/-- The widest of both cells, in the first n + 1 rows. -/
def maxF (M V : Mat) : Mat := fun a c => max (M a c) (V a c)
def maxW (n : Nat) (M V : Mat) : Mat := mix (maxF M V) M n (n + 1) 0
theorem maxW_in {n : Nat} {M V : Mat} {a c : Nat} (ha : a ≤ n) (hc : c ≤ n) : maxW n M V a c = max (M a c) (V a c) := by
  unfold maxW mix
  rw [if_pos (.inl ⟨by omega, hc⟩)]; rfl
/-- The hull of the first p zones; none: so far all are empty. -/
def hullUp (n : Nat) (ms : List Mat) : Nat → Option Mat
  | 0 => none
  | p + 1 => if (ms.getD p fun _ _ => 0) 0 0 < 1 then hullUp n ms p else match hullUp n ms p with
    | none => some (openW (some (n, ms.getD p fun _ _ => 0)))
    | some H => some (maxW n H (openW (some (n, ms.getD p fun _ _ => 0))))
/-- What Hull answers. -/
def hullA (n : Nat) (m : Mat) (ms : List Mat) : Option Mat × Int := match hullUp n (m :: ms) (m :: ms).length with
  | none => ofP n (flat n (openW (some (n, m))))
  | some H => ofP n (flat n H)
theorem hullUp_skip {n p : Nat} {ms : List Mat} {m : Mat} (hm : (ms.getD p fun _ _ => 0) = m) (h : m 0 0 < 1) : hullUp n ms (p + 1) = hullUp n ms p := by rw [hullUp, hm, if_pos h]
theorem hullUp_first {n p : Nat} {ms : List Mat} {m : Mat} (hm : (ms.getD p fun _ _ => 0) = m) (h : ¬ m 0 0 < 1) (hn : hullUp n ms p = none) : hullUp n ms (p + 1) = some (openW (some (n, m))) := by rw [hullUp, hm, if_neg h, hn]
theorem hullUp_more {n p : Nat} {ms : List Mat} {m H : Mat} (hm : (ms.getD p fun _ _ => 0) = m) (h : ¬ m 0 0 < 1) (hn : hullUp n ms p = some H) : hullUp n ms (p + 1) = some (maxW n H (openW (some (n, m)))) := by rw [hullUp, hm, if_neg h, hn]
theorem rng_hull {n : Nat} {ms : List Mat} (hr : ∀ j, j < ms.length → RightM n (ms.getD j fun _ _ => 0)) : ∀ p, p ≤ ms.length → ∀ H, hullUp n ms p = some H → Rng n H
  | 0, _, H, h => by cases h
  | p + 1, hp, H, h => by
    have h2 := rng_open (hr p (by omega))
    unfold hullUp at h
    split at h
    · exact rng_hull hr p (by omega) H h
    · split at h
      · simp only [Option.some.injEq] at h; subst h; exact h2
      · rename_i H' he
        simp only [Option.some.injEq] at h
        subst h
        intro i j hi hj
        have a1 := rng_hull hr p (by omega) H' he i j hi hj
        have a2 := h2 i j hi hj
        rw [maxW_in (by omega) (by omega)]
        omega
/-- The block that the hull's cells lie in, or nil. -/
def HullR (w1 : World) (n : Nat) (o : Option Mat) (v : Value) (wr : World) : Prop := Below w1.heap.size w1 wr ∧ (match o with
  | none => v = .pointer none
  | some H => ∃ g, v = .pointer (some ⟨g, 0, none⟩) ∧ w1.heap.size ≤ g ∧ MatAt wr g 103 .i32 n H)
theorem HullR.step {w1 wr w' : World} {n : Nat} {o : Option Mat} {v : Value} (h : HullR w1 n o v wr) (hb : Below wr.heap.size wr w') : HullR w1 n o v w' := by
  refine ⟨h.1.trans (hb.mono h.1.size), ?_⟩
  cases o with
  | none => exact h.2
  | some H => obtain ⟨g, e, hg, hm⟩ := h.2; exact ⟨g, e, hg, hm.later hb⟩

set_option maxRecDepth 100000 in
set_option maxHeartbeats 1000000 in
theorem copied_zone (v : Value) (n : Nat) (m : Mat) (w : World) (h : ZoneV 126 w v (some (n, m))) : Calls Tryd.prog 85 #[v] w (MakesZ w n (ofP n (flat n (openW (some (n, m)))))) := by
  have HZ := Lib.hid h
  obtain ⟨b, rfl, hn, hr, hm⟩ := h
  have hl : (cellsP (some (n, m))).length ≤ 81 := cellsP_short _ fun k m' e => by simp at e; omega
  have HO := Lib.hid (fun w h => oopen_any (.pointer (some ⟨b, 0, none⟩)) (some (n, m)) w h hn hl)
  have HRG := Lib.hid (rng_open hr)
  have HSH := Lib.hid (fun c m' w h hk => shut_any c n m' w hn h hk)
  clear hm hl hr
  go_enter Tryd.func85, Tryd.ntmps85
  go_wp2_with fail
  refine (HO.out _ HZ.out).mono ?_
  rintro e w1 ⟨rfl, hb, hw⟩
  have HB1 := Lib.hid hb
  have HW1 := Lib.hid (show MatAt w1 w.heap.size 103 .i32 n (openW (some (n, m))) from hw)
  clear hb hw HZ HO
  go_wp2_with fail
  refine (HSH.out _ _ _ HW1.out HRG.out).mono ?_
  rintro e w2 hz
  have HZ2 := Lib.hid hz
  obtain ⟨hb, v, rfl, hv⟩ := hz
  have HB2 := Lib.hid (HB1.out.trans (hb.mono HB1.out.size))
  clear hb hv
  go_wp2
  go_ret2
  exact ⟨HB2.out, HZ2.out.2⟩

set_option maxHeartbeats 4000000 in
set_option maxRecDepth 100000 in
theorem hull_zones (v : Value) (n : Nat) (m : Mat) (A : Option Addr) (c : Nat) (vs : List Value) (ms : List Mat) (w : World) (hz : ZoneV 126 w v (some (n, m))) (hv : ZonesV w A vs n ms) (hl : vs.length ≤ 17592186044000) :
    Calls Tryd.prog 32 #[v, .slice A vs.length c] w (MakesZ w n (hullA n m ms)) := by
  have HV := Lib.hid hv
  have HZ := Lib.hid hz
  have HAL := Lib.hid (oalike_ok v n m A c vs ms w hz hv (by omega))
  have hone : ∀ u ∈ vs, u.oneCell' = true := fun u hu => by
    obtain ⟨j, hj, e⟩ := List.getElem_of_mem hu
    obtain ⟨b, e2, _⟩ := hv.2.2 j (by rw [← hv.2.1]; exact hj)
    rw [List.getD_eq_getElem?_getD, List.getElem?_eq_getElem hj] at e2
    simp only [Option.getD_some] at e2
    rw [← e, e2]; rfl
  have HRR := Lib.hid (fun j hj => show RightM n (ms.getD j fun _ _ => 0) by obtain ⟨_, _, _, h, _⟩ := hv.2.2 j hj; exact h)
  obtain ⟨b, rfl, hn, hr, hm⟩ := hz
  obtain ⟨wa, hwa⟩ : ∃ wa, wa = w.alloc (.cells #[.pointer (some ⟨b, 0, none⟩)] 24) := ⟨_, rfl⟩
  have hBa : Below w.heap.size w wa := by rw [hwa]; exact (Below.refl _ _).alloc (Nat.le_refl _) _
  obtain ⟨v', w', hrun, hown, hB'⟩ := append_ptrs w (.pointer (some ⟨b, 0, none⟩)) A c vs w.heap.size wa hwa (Nat.le_refl _) (hv.1.below hBa) hone hl rfl
  obtain ⟨A', cap', rfl, hP'⟩ := own_ptrs hown
  have HP := Lib.hid hP'
  have HB1 := Lib.hid hB'
  have HRM := Lib.hid hr
  have HLE := Lib.hid hv.2.1
  rw [hwa] at hrun
  have HZS := Lib.hid (show ZonesV w' A' (.pointer (some ⟨b, 0, none⟩) :: vs) n (m :: ms) from ⟨hP', by simp [hv.2.1], fun j hj => by
    cases j with
    | zero => exact (show ZoneV _ w _ (some (n, m)) from ⟨b, rfl, hn, hr, hm⟩).below hB'
    | succ j => exact (hv.2.2 j (by simpa using hj)).below hB'⟩)
  have HRR2 := Lib.hid (fun j (hj : j < (m :: ms).length) => show RightM n ((m :: ms).getD j fun _ _ => 0) by
    cases j with
    | zero => exact hr
    | succ j => exact HRR.out j (by simpa using hj))
  have HSH := Lib.hid (fun c m' w h hk => shut_any c n m' w hn h hk)
  have hlc : (.pointer (some ⟨b, 0, none⟩) :: vs : List Value).length = vs.length + 1 := rfl
  rw [hlc] at hrun
  have HS := Lib.hid (show HullR w' n (hullUp n (m :: ms) 0) (.pointer none) w' from ⟨Below.refl _ _, rfl⟩)
  clear hm hr hv hone hwa hBa hown hP' hB' hlc
  go_enter Tryd.func32, Tryd.ntmps32
  go_wp2_with fail
  refine HAL.out.mono ?_
  rintro e w1 ⟨rfl, rfl⟩
  go_wp2_with (at_builtin; refine wpList_append_run rfl _ _ 54 rfl _ _ _ w' rfl rfl hrun ?_)
  clear hrun
  go_wp2
  go_loopg [7, 24] (vs.length + 1) (fun g v x wr => ∃ p : Nat, x = .int .i64 p ∧ Hid (HullR w' n (hullUp n (m :: ms) p) v wr) ∧ Hid (p ≤ vs.length + 1 ∧ g + p = vs.length + 1))
  case atStart => exact ⟨0, by simp, HS.out, by omega, by omega⟩
  case round =>
    clear HS
    obtain ⟨p, rfl, HR, HG⟩ := hrel
    by_cases hp : p < vs.length + 1
    · have hpi : (p : Int) < (vs.length : Int) + 1 := by omega
      obtain ⟨b', off, rfl, c1⟩ := (HZS.out.below HR.out.1).1 p (by simpa using hp)
      have hzp := (HZS.out.below HR.out.1).2.2 p (by have := HZS.out.2.1; simp at this ⊢; omega)
      have HZP := Lib.hid hzp
      obtain ⟨b2, e2, _, _, hm2⟩ := hzp
      rw [e2] at c1 HZP
      obtain ⟨my, hmy⟩ : ∃ my, my = (m :: ms).getD p fun _ _ => 0 := ⟨_, rfl⟩
      rw [← hmy] at HZP hm2
      have HMY := Lib.hid hmy.symm
      have HM2 := Lib.hid hm2
      clear e2 hm2 hmy
      have hl8 : (cellsP (some (n, my))).length ≤ 81 := cellsP_short _ fun k m' e => by simp at e; omega
      go_wp2_with fail
      refine (oopen_any _ (some (n, my)) _ HZP.out hn hl8).mono ?_
      obtain ⟨V, hV⟩ : ∃ V, V = openW (some (n, my)) := ⟨_, rfl⟩
      rintro e w2 ⟨rfl, hb, hw⟩
      have HVV := Lib.hid hV
      obtain ⟨gv, hgv⟩ : ∃ gv, gv = wr.heap.size := ⟨_, rfl⟩
      have HW2 := Lib.hid (show MatAt w2 gv 103 .i32 n V by rw [hV, hgv]; exact hw)
      have HR2 := Lib.hid (HR.out.step hb)
      have HGV := Lib.hid (show w'.heap.size ≤ gv by rw [hgv]; exact HR.out.1.size)
      have HMZ := Lib.hid (HM2.out.later hb)
      have HNE := Lib.hid (fun g (H : Mat) (hm : MatAt wr g 103 .i32 n H) => show g ≠ gv by have := hm.lt; omega)
      rw [← hgv]
      clear hb hw hgv hV hl8 c1
      go_wp2_with fail
      refine (oempty_any b2 n my _ HMZ.out).mono ?_
      by_cases hem : my 0 0 < 1
      · rw [show emptyP (some (n, my)) = true from decide_eq_true hem]
        have HUP := Lib.hid (hullUp_skip (n := n) HMY.out hem)
        clear hem
        rintro e w3 ⟨rfl, rfl⟩
        go_wp2
        go_roundg (gk - 1)
        case measure => have h := HG.out; omega
        case rel => exact ⟨p + 1, by go_num, by rw [HUP.out]; exact HR2.out, by omega, by have h := HG.out; omega⟩
      · rw [show emptyP (some (n, my)) = false from decide_eq_false hem]
        have HEM := Lib.hid hem
        clear hem
        rintro e w3 ⟨rfl, rfl⟩
        have h2 := HR2.out.2
        have h1 := HR.out.2
        cases hu : hullUp n (m :: ms) p with
        | none =>
          rw [hu] at h2
          have hvv : _ = Value.pointer none := h2
          subst hvv
          have HUP := Lib.hid (hullUp_first (n := n) HMY.out HEM.out hu)
          have HN := Lib.hid (show HullR w' n (hullUp n (m :: ms) (p + 1)) (.pointer (some ⟨gv, 0, none⟩)) w2 from ⟨HR2.out.1, by rw [HUP.out]; exact ⟨gv, rfl, HGV.out, by rw [← HVV.out]; exact HW2.out⟩⟩)
          clear hu h1 h2 HR2 HR
          go_wp2
          go_roundg (gk - 1)
          case measure => have h := HG.out; omega
          case rel => exact ⟨p + 1, by go_num, HN.out, by omega, by have h := HG.out; omega⟩
        | some H =>
          rw [hu] at h1 h2
          obtain ⟨g, rfl, hgg, hgm⟩ := h2
          have hne : gv ≠ g := by
            obtain ⟨g', e', _, hm'⟩ := h1
            simp only [Value.pointer.injEq, Option.some.injEq, Addr.mk.injEq] at e'
            obtain ⟨rfl, _⟩ := e'
            exact fun e => HNE.out _ _ hm' e.symm
          have HUP := Lib.hid (hullUp_more (n := n) HMY.out HEM.out hu)
          rw [← HVV.out] at HUP
          have HS2 := Lib.hid (show (Below w'.heap.size w' w2 ∧ MatAt w2 g 103 .i32 n (mix (maxF H V) H n 0 0)) ∧ MatAt w2 gv 103 .i32 n V by rw [mix_start]; exact ⟨⟨HR2.out.1, hgm⟩, HW2.out⟩)
          have hh := HS2.out.1.2.head
          have HGG := Lib.hid hgg
          clear hu h1 hgm HR2 HR HW2 hgg
          go_wp2
          go_loopg [36] (n + 1) (fun q v wr => ∃ i : Nat, v = .int .i64 i ∧ Hid ((Below w'.heap.size w' wr ∧ MatAt wr g 103 .i32 n (mix (maxF H V) H n i 0)) ∧ MatAt wr gv 103 .i32 n V) ∧ Hid (i ≤ n + 1 ∧ q + i = n + 1))
          case atStart => exact ⟨0, by simp, HS2.out, by omega, by omega⟩
          case round =>
            clear HS2 hh
            obtain ⟨i, rfl, HI, HGI⟩ := hrel
            have hh := HI.out.1.2.head
            by_cases hi : i < n + 1
            · have hii : (i : Int) < (n : Int) + 1 := by omega
              go_wp2
              go_loopg [45] (n + 1) (fun q v wr => ∃ j : Nat, v = .int .i64 j ∧ Hid ((Below w'.heap.size w' wr ∧ MatAt wr g 103 .i32 n (mix (maxF H V) H n i j)) ∧ MatAt wr gv 103 .i32 n V) ∧ Hid (j ≤ n + 1 ∧ q + j = n + 1))
              case atStart => exact ⟨0, by simp, HI.out, by omega, by omega⟩
              case round =>
                clear HI hh
                obtain ⟨j, rfl, HJ, HGJ⟩ := hrel
                have hh := HJ.out.1.2.head
                by_cases hj : j < n + 1
                · have hjj : (j : Int) < (n : Int) + 1 := by omega
                  have i9 : (i : Int) < 9 := by omega
                  have j9 : (j : Int) < 9 := by omega
                  have c1 := HJ.out.1.2.cell i j (by omega) (by omega)
                  have c2 := HJ.out.2.cell i j (by omega) (by omega)
                  have f1 := HJ.out.1.2.frozen (1 + i * 9 + j)
                  have hlt := HJ.out.1.2.lt
                  have hset := HJ.out.1.2.set i j (by omega) (by omega) (max (mix (maxF H V) H n i j i j) (V i j))
                  have e1 : max (mix (maxF H V) H n i j i j) (V i j) = maxF H V i j := by rw [mix_here]; rfl
                  rw [e1, mix_step _ _ _ _ _ (by omega), ← e1] at hset
                  obtain ⟨x, hx⟩ : ∃ x, x = mix (maxF H V) H n i j i j := ⟨_, rfl⟩
                  obtain ⟨y, hy⟩ : ∃ y, y = V i j := ⟨_, rfl⟩
                  rw [← hx] at c1 hset
                  rw [← hy] at c2 hset
                  have HST := Lib.hid (And.intro (And.intro (HJ.out.1.1.setCell (p := ⟨g, 1 + i * 9 + j, none⟩) HGG.out (.int .i32 (max x y))) hset) (HJ.out.2.only ((Only.refl g wr).setCell (1 + i * 9 + j) (.int .i32 (max x y))) hne))
                  clear hx hy e1 hset
                  go_wp2_with fail
                  go_region
                  go_wp2
                  go_roundg (gk - 1)
                  case measure => have h := HGJ.out; omega
                  case rel => exact ⟨j + 1, by go_num, ⟨⟨Below.drew HST.out.1.1, HST.out.1.2⟩, HST.out.2⟩, by omega, by have h := HGJ.out; omega⟩
                · have e : j = n + 1 := by have := HGJ.out.1; omega
                  subst e
                  have hjj : ¬ (((n + 1 : Nat) : Int) < (n : Int) + 1) := by omega
                  have HN := Lib.hid (show (Below w'.heap.size w' wr ∧ MatAt wr g 103 .i32 n (mix (maxF H V) H n (i + 1) 0)) ∧ MatAt wr gv 103 .i32 n V by rw [← mix_row]; exact HJ.out)
                  go_wp2
                  go_roundg (n - i)
                  case measure => have h := HGI.out; omega
                  case rel => exact ⟨i + 1, by go_num, HN.out, by omega, by omega⟩
            · have e : i = n + 1 := by have := HGI.out.1; omega
              subst e
              have hii : ¬ (((n + 1 : Nat) : Int) < (n : Int) + 1) := by omega
              have HN := Lib.hid (show HullR w' n (hullUp n (m :: ms) (p + 1)) (.pointer (some ⟨g, 0, none⟩)) wr from ⟨HI.out.1.1, by rw [HUP.out]; exact ⟨g, rfl, HGG.out, HI.out.1.2⟩⟩)
              go_wp2
              go_roundg (vs.length - p)
              case measure => have h := HG.out; omega
              case rel => exact ⟨p + 1, by go_num, HN.out, by omega, by omega⟩
    · have e : p = vs.length + 1 := by have := HG.out.1; omega
      subst e
      have hpi : ¬ (((vs.length + 1 : Nat) : Int) < (vs.length : Int) + 1) := by omega
      have HBW := Lib.hid (HB1.out.trans (HR.out.1.mono HB1.out.size))
      have hlen : (m :: ms).length = vs.length + 1 := by rw [HLE.out]; rfl
      have h2 := HR.out.2
      cases hu : hullUp n (m :: ms) (vs.length + 1) with
      | none =>
        rw [hu] at h2
        have hvv : _ = Value.pointer none := h2
        subst hvv
        have HE := Lib.hid (show hullA n m ms = ofP n (flat n (openW (some (n, m)))) by unfold hullA; rw [hlen, hu])
        have HZW := Lib.hid (HZ.out.below HBW.out)
        clear hu h2 hlen
        go_wp2_with fail
        refine (copied_zone _ n m _ HZW.out).mono ?_
        rintro e w2 hz
        have HZ2 := Lib.hid hz
        obtain ⟨hb, v, rfl, hv⟩ := hz
        have HB3 := Lib.hid (HBW.out.trans (hb.mono HBW.out.size))
        clear hb hv
        go_wp2
        go_ret2
        rw [HE.out]
        exact ⟨HB3.out, HZ2.out.2⟩
      | some H =>
        rw [hu] at h2
        obtain ⟨g, rfl, hgg, hgm⟩ := h2
        have HGM := Lib.hid hgm
        have HE := Lib.hid (show hullA n m ms = ofP n (flat n H) by unfold hullA; rw [hlen, hu])
        have HRN := Lib.hid (rng_hull HRR2.out (vs.length + 1) (by rw [hlen]; exact Nat.le_refl _) H hu)
        clear hu hlen hgm hgg
        go_wp2_with fail
        refine (HSH.out _ _ _ HGM.out HRN.out).mono ?_
        rintro e w2 hz
        have HZ2 := Lib.hid hz
        obtain ⟨hb, v, rfl, hv⟩ := hz
        have HB3 := Lib.hid (HBW.out.trans (hb.mono HBW.out.size))
        clear hb hv
        go_wp2
        go_ret2
        rw [HE.out]
        exact ⟨HB3.out, HZ2.out.2⟩

end Go.Proofs.YtidcnlecgcobmaaDoor

/- The hull of zones: plain. -/
namespace Go.Proofs.YtidcnlecgcobmaaDoor
set_option linter.unusedVariables false
set_option linter.unusedSimpArgs false

/-- The zone is not empty, and its cells are the strictest. -/
structure ClosedZ (n : Nat) (m : Mat) : Prop where
  full : FullZ n m
  tri : Tri n (widW m) (n + 1)
theorem closed_of {n : Nat} {M m' : Mat} (h0 : ∀ j, j ≤ n → M 0 j ≤ 1) (ha : allR n m') (hc : Closed n M m') : ClosedZ n (narM n m') := by
  have hcell : ∀ i j, i ≤ n → j ≤ n → widW (narM n m') i j = m' i j := fun i j hi hj => by
    unfold widW narM
    rw [if_pos ⟨hi, hj⟩]
    exact wid_nar (ha i hi j hj)
  refine ⟨full_of h0 ha hc, fun l hl i j hi hj => ?_⟩
  rw [hcell i j hi hj, hcell i l hi (by omega), hcell l j (by omega) hj]
  exact hc.tri l hl i j hi hj
/-- A zone that Of made is empty, or closed. -/
theorem zone_closed {n : Int} {cells : List Int} {k : Nat} {m : Mat} (e : zOf n cells = some (k, m)) : m = (fun _ _ => 0) ∨ ClosedZ k m := by
  unfold zOf at e
  cases hz : (ofP n cells).1 with
  | none => rw [hz] at e; cases e
  | some m0 =>
    rw [hz] at e
    simp only [Option.map_some, Option.some.injEq, Prod.mk.injEq] at e
    obtain ⟨e1, e2⟩ := e
    subst e2
    unfold ofP at hz
    split at hz
    · rename_i hn
      split at hz
      · rename_i hl
        split at hz
        · rename_i hr
          obtain ⟨q, rfl⟩ : ∃ q : Nat, n = q := ⟨n.toNat, by omega⟩
          rw [Int.toNat_natCast] at hz e1
          subst e1
          have hl' : cells.length = (q + 1) * (q + 1) := by exact_mod_cast hl
          have hr' : ∀ p, p < (q + 1) * (q + 1) → rightB (cells.getD p 0) = true := fun p hp => (all_getD cells rightB 0).1 hr p (by omega)
          rw [hl'] at hz
          rcases zoneP_is (by omega) (keepUp_fit q cells _ hr') hz with ⟨h, _⟩ | ⟨m', hm, ha, hzz, hc⟩
          · exact .inl h
          · right; rw [hzz]; exact closed_of (keepUp_top4 hr') ha hc
        · cases hz
      · cases hz
    · cases hz
theorem wid_max {x y : Int} (hx : x ≤ 2147483647) (hy : y ≤ 2147483647) : wid (max x y) = max (wid x) (wid y) := by
  unfold wid none62
  rw [Int.max_def, Int.max_def]
  split <;> split <;> split <;> (try split) <;> omega
theorem right_fb {x : Int} (h : rightB x = true) : FB (wid x) := by
  unfold wid
  split
  · exact .inl rfl
  · rename_i e
    have := rightB_bd h e
    exact .inr (by omega)
theorem right_max {x y : Int} (hx : rightB x = true) (hy : rightB y = true) : rightB (max x y) = true := by
  rw [Int.max_def]; split <;> assumption
theorem ClosedZ.congr {n : Nat} {a b : Mat} (h : ClosedZ n a) (hab : Agree n a b) : ClosedZ n b := by
  refine ⟨⟨fun i j hi hj => ?_, fun i hi => ?_, fun j hj => ?_⟩, fun l hl i j hi hj => ?_⟩
  · rw [← hab i j hi hj]; exact h.full.right i j hi hj
  · rw [← hab i i hi hi]; exact h.full.one i hi
  · rw [← hab 0 j (by omega) hj]; exact h.full.top j hj
  · have := h.tri l hl i j hi hj
    unfold widW at this ⊢
    rw [hab i j hi hj, hab i l hi (by omega), hab l j (by omega) hj] at this
    exact this
theorem ClosedZ.join {n : Nat} {a b : Mat} (h : ClosedZ n a) (h' : ClosedZ n b) : ClosedZ n (maxF a b) := by
  refine ⟨⟨fun i j hi hj => right_max (h.full.right i j hi hj) (h'.full.right i j hi hj), fun i hi => ?_, fun j hj => ?_⟩, fun l hl i j hi hj => ?_⟩
  · show max (a i i) (b i i) = 1
    rw [h.full.one i hi, h'.full.one i hi]; rfl
  · show max (a 0 j) (b 0 j) ≤ 1
    have := h.full.top j hj
    have := h'.full.top j hj
    omega
  · have hcell : ∀ p q, p ≤ n → q ≤ n → widW (maxF a b) p q = max (widW a p q) (widW b p q) := fun p q hp hq =>
      wid_max (right_hi (h.full.right p q hp hq)).2 (right_hi (h'.full.right p q hp hq)).2
    have hl' : l ≤ n := by omega
    rw [hcell i j hi hj, hcell i l hi hl', hcell l j hl' hj]
    have t1 := h.tri l hl i j hi hj
    have t2 := h'.tri l hl i j hi hj
    have f1 : FB (widW a i l) := right_fb (h.full.right i l hi hl')
    have f2 : FB (widW a l j) := right_fb (h.full.right l j hl' hj)
    have f3 : FB (widW b i l) := right_fb (h'.full.right i l hi hl')
    have f4 : FB (widW b l j) := right_fb (h'.full.right l j hl' hj)
    have g1 : FB (Max.max (widW a i l) (widW b i l)) := by rw [Int.max_def]; split <;> assumption
    have g2 : FB (Max.max (widW a l j) (widW b l j)) := by rw [Int.max_def]; split <;> assumption
    have m1 := wsum_le f1 g1 f2 g2 (by omega) (by omega)
    have m2 := wsum_le f3 g1 f4 g2 (by omega) (by omega)
    omega
theorem ofP_closed {n : Nat} {H : Mat} (hn : n ≤ 8) (h : ClosedZ n H) : ofP n (flat n H) = (some (narM n (widW H)), 0) ∧ ∀ i j, i ≤ n → j ≤ n → narM n (widW H) i j = H i j := by
  have hall : allR n (widW H) := fun i hi j hj => by
    have := h.full.right i j hi hj
    unfold rightB at this
    have := of_decide_eq_true this
    unfold widW wid inR none62
    split <;> omega
  constructor
  · rw [ofP_wid hn h.full.ok]
    unfold zoneP
    rw [closed_id h.tri (fun i hi => by unfold widW; rw [h.full.one i hi]; decide)]
    simp only
    rw [if_pos hall]
  · intro i j hi hj
    have := right_hi (h.full.right i j hi hj)
    unfold narM nar widW wid none62
    rw [if_pos ⟨hi, hj⟩]
    split <;> split <;> omega
/-- What is known of the hull of the first p. -/
def HullInv (n : Nat) (ms : List Mat) (p : Nat) : Option Mat → Prop
  | none => ∀ q, q < p → (ms.getD q fun _ _ => 0) 0 0 < 1
  | some H => ClosedZ n H ∧ (∀ q, q < p → (ms.getD q fun _ _ => 0) 0 0 < 1 ∨ ∀ i, i ≤ n → ∀ j, j ≤ n → (ms.getD q fun _ _ => 0) i j ≤ H i j) ∧
    ∀ o : Mat, (∀ q, q < p → (ms.getD q fun _ _ => 0) 0 0 < 1 ∨ ∀ i, i ≤ n → ∀ j, j ≤ n → (ms.getD q fun _ _ => 0) i j ≤ o i j) → ∀ i, i ≤ n → ∀ j, j ≤ n → H i j ≤ o i j
theorem hull_inv {n : Nat} {ms : List Mat} (hk : ∀ j, j < ms.length → (ms.getD j fun _ _ => 0) = (fun _ _ => 0) ∨ ClosedZ n (ms.getD j fun _ _ => 0)) : ∀ p, p ≤ ms.length → HullInv n ms p (hullUp n ms p)
  | 0, _ => fun q hq => by omega
  | p + 1, hp => by
    have ih := hull_inv hk p (by omega)
    have hkp := hk p (by omega)
    obtain ⟨m, hm⟩ : ∃ m, (ms.getD p fun _ _ => 0) = m := ⟨_, rfl⟩
    rw [hm] at hkp
    by_cases he : m 0 0 < 1
    · rw [hullUp_skip hm he]
      cases hu : hullUp n ms p with
      | none =>
        rw [hu] at ih
        intro q hq
        by_cases e : q = p
        · subst e; rw [hm]; exact he
        · exact ih q (by omega)
      | some H =>
        rw [hu] at ih
        obtain ⟨h1, h2, h3⟩ := ih
        refine ⟨h1, fun q hq => ?_, fun o ho => h3 o fun q hq => ho q (by omega)⟩
        by_cases e : q = p
        · subst e; rw [hm]; exact .inl he
        · exact h2 q (by omega)
    · have hcl : ClosedZ n m := by
        rcases hkp with rfl | h
        · exact absurd (by decide) he
        · exact h
      have hag := open_agree n m
      cases hu : hullUp n ms p with
      | none =>
        rw [hullUp_first hm he hu]
        rw [hu] at ih
        refine ⟨hcl.congr fun i j hi hj => (hag i j hi hj).symm, fun q hq => ?_, fun o ho i hi j hj => ?_⟩
        · by_cases e : q = p
          · subst e; rw [hm]; exact .inr fun i hi j hj => by rw [hag i j hi hj]; exact Int.le_refl _
          · exact .inl (ih q (by omega))
        · rw [hag i j hi hj]
          rcases ho p (by omega) with h | h
          · rw [hm] at h; exact absurd h he
          · rw [hm] at h; exact h i hi j hj
      | some H =>
        rw [hullUp_more hm he hu]
        rw [hu] at ih
        obtain ⟨h1, h2, h3⟩ := ih
        have hmx : Agree n (maxF H m) (maxW n H (openW (some (n, m)))) := fun i j hi hj => by
          rw [maxW_in hi hj, hag i j hi hj]; rfl
        refine ⟨(h1.join hcl).congr hmx, fun q hq => ?_, fun o ho i hi j hj => ?_⟩
        · by_cases e : q = p
          · subst e; rw [hm]
            refine .inr fun i hi j hj => ?_
            rw [← hmx i j hi hj]
            show m i j ≤ max (H i j) (m i j)
            omega
          · rcases h2 q (by omega) with h | h
            · exact .inl h
            · refine .inr fun i hi j hj => ?_
              have := h i hi j hj
              rw [← hmx i j hi hj]
              show _ ≤ max (H i j) (m i j)
              omega
        · rw [← hmx i j hi hj]
          show max (H i j) (m i j) ≤ _
          have a1 := h3 o (fun q hq => ho q (by omega)) i hi j hj
          rcases ho p (by omega) with h | h
          · rw [hm] at h; exact absurd h he
          · rw [hm] at h
            have a2 := h i hi j hj
            omega
/-- The hull includes all, and each zone that includes all includes it. -/
theorem hull_law {n : Nat} {m : Mat} {ms : List Mat} (hn : n ≤ 8) (hk : ∀ j, j < (m :: ms).length → ((m :: ms).getD j fun _ _ => 0) = (fun _ _ => 0) ∨ ClosedZ n ((m :: ms).getD j fun _ _ => 0)) :
    ∃ h, hullA n m ms = (some h, 0) ∧ (∀ q, q < (m :: ms).length → inclM n h ((m :: ms).getD q fun _ _ => 0) = true) ∧ ∀ o, (∀ q, q < (m :: ms).length → inclM n o ((m :: ms).getD q fun _ _ => 0) = true) → inclM n o h = true := by
  have hi := hull_inv hk (m :: ms).length (Nat.le_refl _)
  unfold hullA
  cases hu : hullUp n (m :: ms) (m :: ms).length with
  | none =>
    rw [hu] at hi
    have h0 := hi 0 (by simp)
    have hm : m = (fun _ _ => 0) := by
      rcases hk 0 (by simp) with h | h
      · exact h
      · have := h.full.one 0 (by omega); rw [this] at h0; omega
    subst hm
    refine ⟨fun _ _ => 0, ofP_zero n hn, fun q hq => decide_eq_true (.inl (hi q hq)), fun o _ => decide_eq_true (.inl (by decide))⟩
  | some H =>
    rw [hu] at hi
    obtain ⟨h1, h2, h3⟩ := hi
    obtain ⟨e1, e2⟩ := ofP_closed hn h1
    refine ⟨_, e1, fun q hq => decide_eq_true ?_, fun o ho => decide_eq_true (.inr fun i hi j hj => ?_)⟩
    · rcases h2 q hq with h | h
      · exact .inl h
      · exact .inr fun i hi j hj => by rw [e2 i j hi hj]; exact h i hi j hj
    · rw [e2 i j hi hj]
      exact h3 o (fun q hq => of_decide_eq_true (ho q hq)) i hi j hj

end Go.Proofs.YtidcnlecgcobmaaDoor

/- A slice of rows of numbers that came in. -/
namespace Go.Proofs.YtidcnlecgcobmaaDoor
open Go Go.ChangeShapes Go.WideShapes Go.ChangeAt Go.RowKit
set_option linter.unusedVariables false
set_option linter.unusedSimpArgs false

/-- A slice of rows of numbers that can be read. -/
def RowsI (w : World) (k : IntKind) (A : Option Addr) (ls : List (List Int)) : Prop :=
  ∀ j, j < ls.length → ∃ b off A' c', A = some ⟨b, off, none⟩ ∧ w.cell? ⟨b, off + j, none⟩ = some (.slice A' (ls.getD j []).length c') ∧ Ints w k A' (ls.getD j [])
theorem RowsI.below {w w' : World} {k : IntKind} {A : Option Addr} {ls : List (List Int)} (h : RowsI w k A ls) (hb : Below w.heap.size w w') : RowsI w' k A ls := fun j hj => by
  obtain ⟨b, off, A', c', e, hc, hi⟩ := h j hj
  exact ⟨b, off, A', c', e, (hb.cell (p := ⟨b, off + j, none⟩) (World.block_lt_of_cell? w _ hc)).trans hc, hi.below hb⟩
section
variable {H : Type} {enc : TypeId × Value → H} {P : Program} {W W' : World}
theorem came_rows {t e f : TypeId} {k : IntKind} {v : Value} {d : DataW H} {ps : List MemPlace} {r : Reach} {base : Nat} (ht : P.underlying t = some (.slice e)) (he : P.underlying e = some (.slice f)) (hf : P.underlying f = some (.int k)) (hce : P.cellsOf e = 1) (hcf : P.cellsOf f = 1)
    (hval : Value.okWide P W r base t v) (h : DataW.Trod enc P W 0 (fun _ => true) true t v d ps) :
    ∃ A c ls, v = .slice A ls.length c ∧ RowsI W k A ls ∧ (∀ j, j < ls.length → (∀ n ∈ ls.getD j [], (Lit.int k n).wf = true) ∧ (ls.getD j []).length ≤ 9223372036854775807) ∧ (ls = [] ∨ ∃ el sp, d = .slice el sp ∧ el.length = ls.length) := by
  obtain ⟨a0, len, cap, rfl⟩ := okWide_slice ht hval
  obtain ⟨fuel, hfu⟩ := h
  rcases Deep.open_slice1 ht hce hfu with ⟨hcs, hx⟩ | ⟨a, len', cap', m, n, V, D, Pl, hcs, _, hle, _, hmm, hx, hi⟩
  · simp [Value.cells] at hcs
    obtain ⟨rfl, rfl, rfl⟩ := hcs
    exact ⟨none, 0, [], rfl, fun j hj => by simp at hj, by simp, .inl rfl⟩
  · simp [Value.cells] at hcs
    obtain ⟨rfl, rfl, rfl⟩ := hcs
    have hlm : len ≤ m := by rw [hmm]; split <;> omega
    have each : ∀ i, i < m → ∃ xs : List Int, ∃ A' c', V i = .slice A' xs.length c' ∧ Ints W k A' xs ∧ (∀ n ∈ xs, (Lit.int k n).wf = true) ∧ xs.length ≤ 9223372036854775807 := by
      intro i him
      obtain ⟨_, h2⟩ := hi i him
      rcases open_ints he hf hcf h2 with ⟨hc2, _⟩ | ⟨a2, len2, cap2, zs, hc2, _, hle2, hmax2, hall2, _, hcell2, hwf2⟩
      · simp only [List.cons.injEq, and_true] at hc2
        exact ⟨[], none, 0, hc2, fun j hj => by simp at hj, by simp, by simp⟩
      · simp only [List.cons.injEq, and_true] at hc2
        have hz : zs.length = cap2 := by simpa using hall2
        refine ⟨zs.take len2, some a2, cap2, by rw [hc2, List.length_take]; congr 1; omega, ?_, fun n hn => hwf2 n (List.mem_of_mem_take hn), by rw [List.length_take]; simp only [maxLen] at hmax2; omega⟩
        intro j hj
        rw [List.length_take] at hj
        obtain ⟨b, off, rfl, hcell'⟩ := ints_at hcell2 (by omega)
        refine ⟨b, off, rfl, ?_⟩
        rw [hcell' j (by omega)]
        congr 2
        simp [List.getD_eq_getElem?_getD, List.getElem?_take, show j < len2 by omega]
    obtain ⟨X, hX⟩ := Deep.choose_lt each
    simp only [Prod.mk.injEq] at hx
    have eg : ∀ j, j < len → ((List.range len).map X).getD j [] = X j := fun j hj => by simp [List.getD_eq_getElem?_getD, hj]
    refine ⟨some a, cap, (List.range len).map X, by simp, ?_, ?_, .inr ⟨_, _, hx.1, by simp⟩⟩
    · intro j hj
      simp only [List.length_map, List.length_range] at hj
      obtain ⟨A', c', hv, hI, _⟩ := hX j (by omega)
      have hc := (hi j (by omega)).1
      have hsp : a.spot = none := by
        have := World.cell?_spot (hi 0 (by omega)).1
        simpa [Addr.add] using this
      obtain ⟨b, off, spot⟩ := a
      simp only at hsp
      subst hsp
      have ea : (⟨b, off, none⟩ : Addr).add j = ⟨b, off + j, none⟩ := by unfold Addr.add; split <;> simp_all
      rw [ea, hv] at hc
      rw [eg j hj]
      exact ⟨b, off, A', c', rfl, hc, hI⟩
    · intro j hj
      simp only [List.length_map, List.length_range] at hj
      obtain ⟨A', c', _, _, h1, h2⟩ := hX j (by omega)
      rw [eg j hj]
      exact ⟨h1, h2⟩
theorem came_shortR {ts : List TypeId} {ds : List (DataW H)} {j : Nat} {t e : TypeId} {d : DataW H} {ls : List (List Int)} {m : Nat} (hsz : (DataW.weightsEach P ts ds).all (· ≤ reachBytes) = true) (ht : ts[j]? = some t) (hd : ds[j]? = some d)
    (hu : P.underlying t = some (.slice e)) (hm : P.bytesOf e = m) (h : ls = [] ∨ ∃ el sp, d = .slice el sp ∧ el.length = ls.length) : ls.length * m ≤ 140737488351232 := by
  rcases h with rfl | ⟨el, sp, rfl, he⟩
  · simp
  · have h1 := sized_slice hsz ht hd hu
    rw [hm] at h1
    have h2 : el.length * m ≤ (el.length + sp.length) * m := Nat.mul_le_mul_right _ (by omega)
    rw [← he]
    exact Nat.le_trans h2 h1
theorem came_rows32 {ls : List (List Int)} (h : ∀ j, j < ls.length → (∀ n ∈ ls.getD j [], (Lit.int .i32 n).wf = true) ∧ (ls.getD j []).length ≤ 9223372036854775807) :
    ∀ j, j < ls.length → (∀ q, q < (ls.getD j []).length → -2147483648 ≤ (ls.getD j []).getD q 0 ∧ (ls.getD j []).getD q 0 ≤ 2147483647) ∧ (ls.getD j []).length ≤ 9223372036854775807 := fun j hj => ⟨came_i32 (h j hj).1, (h j hj).2⟩
end

end Go.Proofs.YtidcnlecgcobmaaDoor

/- What OpsHull tells. -/
namespace Go.Proofs.YtidcnlecgcobmaaDoor
open Go Go.RowKit
set_option linter.unusedVariables false
set_option linter.unusedSimpArgs false

set_option maxRecDepth 100000 in
set_option maxHeartbeats 1000000 in
theorem of_longL (n : Nat) (A : Option Addr) (c : Nat) (cells : List Int) (w : World) (hn : n ≤ 8) (hlen : ¬ (cells.length : Int) = ((n : Int) + 1) * ((n : Int) + 1)) (hmax : cells.length ≤ 9223372036854775807) :
    Calls Tryd.prog 31 #[.int .i64 n, .slice A cells.length c] w (MakesZ w n (ofP n cells)) := by
  have hz : ofP n cells = (none, 6) := by unfold ofP; rw [if_pos (by omega), if_neg hlen]
  rw [hz]
  clear hz
  have hm : ((n : Int) + 1) * ((n : Int) + 1) ≤ 9 * 9 := Int.mul_le_mul (by omega) (by omega) (by omega) (by omega)
  have hm0 : 0 ≤ ((n : Int) + 1) * ((n : Int) + 1) := Int.mul_nonneg (by omega) (by omega)
  have t1 : ((cells.length : Int) != ((n : Int) + 1) * ((n : Int) + 1)) = true := by simpa using hlen
  clear hlen
  go_enter Tryd.func31, Tryd.ntmps31
  go_wp2_with fail
  refine (few_yes _ _ (by omega)).mono ?_
  rintro e w' ⟨rfl, rfl⟩
  go_wp2
  go_ret2
  exact ⟨Below.refl _ _, .pointer none, rfl, rfl⟩
theorem of_anyL (n : Int) (A : Option Addr) (c : Nat) (cells : List Int) (w : World) (hI : Ints w .i32 A cells) (hmax : cells.length ≤ 9223372036854775807)
    (hk : ∀ q, q < cells.length → -2147483648 ≤ cells.getD q 0 ∧ cells.getD q 0 ≤ 2147483647) :
    Calls Tryd.prog 31 #[.int .i64 n, .slice A cells.length c] w (MakesZ w n.toNat (ofP n cells)) := by
  by_cases hs : cells.length ≤ 4611686018427387904
  · exact of_any n A c cells w hI hs hk
  · by_cases hn : 0 ≤ n ∧ n ≤ 8
    · obtain ⟨k, rfl⟩ : ∃ k : Nat, n = k := ⟨n.toNat, by omega⟩
      have hm : ((k : Int) + 1) * ((k : Int) + 1) ≤ 9 * 9 := Int.mul_le_mul (by omega) (by omega) (by omega) (by omega)
      exact of_longL k A c cells w (by omega) (by omega) hmax
    · exact of_clock n A c cells w hn

theorem stable_rowsi (A : Option Addr) (ls : List (List Int)) : Stable fun w => RowsI w .i32 A ls := fun _ _ h hb => h.below hb
theorem stable_zones (A : Option Addr) (vs : List Value) (k : Nat) (ms : List Mat) : Stable fun w => ZonesV w A vs k ms := fun _ _ h hb => ZonesV.below h hb
theorem zone_grown {w w1 : World} {u v : Value} {k base n : Nat} {m : Mat} {xs : List Value} (h : ZoneV 126 w u (some (k, m))) (hown : w.ownsRow base 24 1 v n xs) (hg : w.grownBy w1 v.ownBlock) : ZoneV 126 w1 u (some (k, m)) := by
  obtain ⟨b, e, hn, hr, hm⟩ := h
  refine ⟨b, e, hn, hr, (hg.block b hm.lt fun he => ?_).trans hm⟩
  obtain ⟨_, hf⟩ := hown
  rcases hf with ⟨rfl, _⟩ | ⟨g, cap, cur, rfl, _, h1, _⟩
  · simp [Value.ownBlock] at he
  · simp only [Value.ownBlock, Option.some.injEq] at he
    subst he
    unfold MatAt at hm
    rw [h1] at hm
    simp only [Option.some.injEq, Obj.cells.injEq] at hm
    exact absurd hm.2.1 (by decide)
/-- Zones of k clocks, in a row of the call's own. -/
structure PsR (w0 : World) (k : Nat) (v : Value) (vs : List Value) (ms : List Mat) (wr : World) : Prop where
  below : Below w0.heap.size w0 wr
  own : wr.ownsRow w0.heap.size 24 1 v vs.length vs
  len : vs.length = ms.length
  zones : ∀ j, j < ms.length → ZoneV 126 wr (vs.getD j (.pointer none)) (some (k, ms.getD j fun _ _ => 0)) ∧ ((ms.getD j fun _ _ => 0) = (fun _ _ => 0) ∨ ClosedZ k (ms.getD j fun _ _ => 0))
theorem own_later {w w' : World} {base n : Nat} {e : TypeId} {v : Value} {xs : List Value} (h : w.ownsRow base e 1 v n xs) (hb : Below w.heap.size w w') : w'.ownsRow base e 1 v n xs := by
  obtain ⟨hl, h⟩ := h
  refine ⟨hl, ?_⟩
  rcases h with h | ⟨g, cap, cur, e1, e2, h1, h2⟩
  · exact .inl h
  · exact .inr ⟨g, cap, cur, e1, e2, (hb.block g (Array.getElem?_eq_some_iff.1 h1).1).trans h1, h2⟩
theorem PsR.step {w0 wr w' : World} {k : Nat} {v : Value} {vs : List Value} {ms : List Mat} (h : PsR w0 k v vs ms wr) (hb : Below wr.heap.size wr w') : PsR w0 k v vs ms w' :=
  ⟨h.below.trans (hb.mono h.below.size), own_later h.own hb, h.len, fun j hj => ⟨(h.zones j hj).1.below hb, (h.zones j hj).2⟩⟩
theorem PsR.next {w0 wr w1 : World} {k : Nat} {v v' u : Value} {vs : List Value} {ms : List Mat} {m : Mat} {o : Obj} (h : PsR w0 k v vs ms wr) (hu : ZoneV 126 wr u (some (k, m))) (hk : m = (fun _ _ => 0) ∨ ClosedZ k m)
    (hown : w1.ownsRow w0.heap.size 24 1 v' (vs.length + 1) (vs ++ [u])) (hg : (wr.alloc o).grownBy w1 v.ownBlock) : PsR w0 k v' (vs ++ [u]) (ms ++ [m]) w1 := by
  have hal : Below wr.heap.size wr (wr.alloc o) := (Below.refl _ _).alloc (Nat.le_refl _) o
  have hs := h.step hal
  refine ⟨hs.below.grown hg hs.below.size (fun c hc => (World.ownsRow.lt hs.own c hc).1), by rw [List.length_append]; exact hown, by rw [List.length_append, List.length_append, h.len]; rfl, fun j hj => ?_⟩
  rw [List.length_append] at hj
  by_cases e : j < ms.length
  · have h1 : (ms ++ [m]).getD j (fun _ _ => 0) = ms.getD j fun _ _ => 0 := by rw [List.getD_eq_getElem?_getD, List.getElem?_append_left e, ← List.getD_eq_getElem?_getD]
    have h2 : (vs ++ [u]).getD j (.pointer none) = vs.getD j (.pointer none) := by rw [List.getD_eq_getElem?_getD, List.getElem?_append_left (by rw [h.len]; exact e), ← List.getD_eq_getElem?_getD]
    rw [h1, h2]
    exact ⟨zone_grown (hs.zones j e).1 hs.own hg, (h.zones j e).2⟩
  · have ej : j = ms.length := by simp at hj; omega
    subst ej
    have h1 : (ms ++ [m]).getD ms.length (fun _ _ => 0) = m := by simp [List.getD_eq_getElem?_getD]
    have h2 : (vs ++ [u]).getD ms.length (.pointer none) = u := by rw [← h.len]; simp [List.getD_eq_getElem?_getD]
    rw [h1, h2]
    exact ⟨zone_grown (hu.below hal) hs.own hg, hk⟩
theorem rows_at {w : World} {A : Option Addr} {ls : List (List Int)} {p : Nat} (h : RowsI w .i32 A ls) (hp : p < ls.length) : ∃ b off A' c' xs, A = some ⟨b, off, none⟩ ∧ ls.getD p [] = xs ∧ w.cell? ⟨b, off + p, none⟩ = some (.slice A' xs.length c') ∧ Ints w .i32 A' xs := by
  obtain ⟨b, off, A', c', e, hc, hi⟩ := h p hp
  exact ⟨b, off, A', c', _, e, rfl, hc, hi⟩
theorem cells_one1 (w : World) (a : Value) (e : TypeId) : ∀ j u, [a][j]? = some u → (w.alloc (.cells #[a] e (0, 0))).cell? ((⟨w.heap.size, 0, none⟩ : Addr).add j) = some u := by
  intro j u hu
  have ea : (⟨w.heap.size, 0, none⟩ : Addr).add j = ⟨w.heap.size, 0 + j, none⟩ := by unfold Addr.add; split <;> simp_all
  rw [ea, Nat.zero_add]
  have h1 := heap_alloc_new w (.cells #[a] e (0, 0))
  unfold World.cell?
  rw [h1]
  show ([a].toArray : Array Value)[j]? = some u
  rw [List.getElem?_toArray]; exact hu
/-- What Of makes of n. -/
theorem made_of {n : Int} {k : Nat} {cells : List Int} {w w' : World} {e : Ending} (hn : n = (k : Int)) (h : MakesZ w n.toNat (ofP n cells) e w') : Below w.heap.size w w' ∧ ∃ v er, e = .returned (.tuple #[v, .int .i64 er]) ∧ (v = .pointer none ∨ ∃ b m, v = .pointer (some ⟨b, 0, none⟩) ∧ ZoneV 126 w' v (some (k, m)) ∧ (m = (fun _ _ => 0) ∨ ClosedZ k m)) := by
  obtain ⟨hb, v, he, hv⟩ := h
  refine ⟨hb, v, _, he, ?_⟩
  have hv : ZoneV 126 w' v (zOf n cells) := hv
  cases hz : zOf n cells with
  | none => rw [hz] at hv; exact .inl hv
  | some q =>
    obtain ⟨k', m⟩ := q
    have hk := zone_kinds hz
    have hkk : k' = k := by omega
    subst hkk
    rw [hz] at hv
    have hvv := hv
    obtain ⟨b, e, _⟩ := hv
    exact .inr ⟨b, m, e, hvv, zone_closed hz⟩

set_option maxRecDepth 100000 in
set_option maxHeartbeats 4000000 in
theorem opshull_any (n : Int) (A : Option Addr) (c : Nat) (cells : List Int) (B : Option Addr) (d : Nat) (ls : List (List Int)) (w : World) (hI : Ints w .i32 A cells) (hmax : cells.length ≤ 4611686018427387904)
    (hk : ∀ q, q < cells.length → -2147483648 ≤ cells.getD q 0 ∧ cells.getD q 0 ≤ 2147483647) (hL : RowsI w .i32 B ls) (hlmax : ls.length ≤ 5864062014634)
    (hlk : ∀ j, j < ls.length → (∀ q, q < (ls.getD j []).length → -2147483648 ≤ (ls.getD j []).getD q 0 ∧ (ls.getD j []).getD q 0 ≤ 2147483647) ∧ (ls.getD j []).length ≤ 9223372036854775807) (ht : Tab w) :
    Calls Tryd.prog 6 #[.int .i64 n, .slice A cells.length c, .slice B ls.length d] w fun e w' => e = .returned (.bool true) ∧ Below w.heap.size w w' := by
  have HG0 := Lib.hid ((((Bag.start (Below.refl w.heap.size w)).add hL (stable_rowsi _ _)).add hI (stable_ints _ _ _)).add ht stable_tab)
  have HZ1 := Lib.hid (fun w hI => of_any n A c cells w hI hmax hk)
  have HLK := Lib.hid hlk
  obtain ⟨e1, he1⟩ : ∃ e, e = (ofP n cells).2 := ⟨_, rfl⟩
  unfold MakesZ at HZ1
  rw [← he1, show ((ofP n cells).1.map fun m => (n.toNat, m)) = zOf n cells from rfl] at HZ1
  have HKC := Lib.hid (fun k m (h : zOf n cells = some (k, m)) => And.intro (zone_kinds h).1 (zone_closed h))
  generalize zOf n cells = z at *
  clear he1 hI hk ht hL hlk
  go_enter Tryd.func6, Tryd.ntmps6
  go_wp2_with fail
  refine (live04_any _ (HG0.out.at 0 rfl)).mono ?_
  rintro e w1 ⟨rfl, hb⟩
  have HG1 := Lib.hid (HG0.out.step hb)
  clear hb HG0
  go_wp2_with fail
  refine (HZ1.out _ (HG1.out.at 1 rfl)).mono ?_
  rintro e w2 ⟨hb, v, rfl, hv⟩
  have HG2 := Lib.hid ((HG1.out.step hb).add hv (stable_zone _ _ _))
  clear hb HG1 HZ1
  cases z with
  | none =>
    have h1 : v = .pointer none := hv
    subst h1
    clear hv
    go_wp2
    go_ret
    exact ⟨rfl, HG2.out.below⟩
  | some q =>
    obtain ⟨k, m⟩ := q
    obtain ⟨⟨hn0, hn8, hkn⟩, hkm⟩ := HKC.out k m rfl
    have hnk : n = (k : Int) := by omega
    subst hnk
    have hk8 : k ≤ 8 := by omega
    have HKM := Lib.hid hkm
    obtain ⟨b1, rfl, _⟩ := hv
    have HOF := Lib.hid (fun A c cells w hI hmax hk => of_anyL (k : Int) A c cells w hI hmax hk)
    obtain ⟨i0, hi1, hz0, hz1, hz2⟩ := info_parts infoPZ
    have HInf := Lib.hid (And.intro hi1 (And.intro hz0 (And.intro hz1 hz2)))
    have HS := Lib.hid (show PsR w2 k (.slice none 0 0) [] [] w2 from ⟨Below.refl _ _, World.ownsRow_nil _ _ _ _, rfl, fun j hj => by simp at hj⟩)
    have HINC := Lib.hid (fun p q => show inclP (some (k, p)) (some (k, q)) = inclM k p q by show (decide (k = k) && _) = _; rw [decide_eq_true rfl, Bool.true_and])
    clear hkm hi1 hz0 hz1 hz2 HKC hn0 hn8 hkn
    go_wp2
    go_loopg [9, 10] ls.length (fun g v x wr => ∃ p : Nat, ∃ vs ms, x = .int .i64 p ∧ Hid (PsR w2 k v vs ms wr) ∧ Hid (vs.length ≤ p ∧ p ≤ ls.length ∧ g + p = ls.length))
    case atStart => exact ⟨0, [], [], by simp, HS.out, by simp, by omega, by omega⟩
    case round =>
      clear HS
      obtain ⟨p, vs, ms, rfl, HR, HG⟩ := hrel
      have HGW := Lib.hid (HG2.out.step HR.out.below)
      have hpb : p ≤ 5864062014634 := by have h2 := HG.out.2.1; omega
      have g0 : IntKind.i64.wrap ((p : Int) + 1) = (p : Int) + 1 := IntWalk.i64_in _ (by omega)
      by_cases hp : p + 1 < ls.length
      · have hpi : (p : Int) + 1 < (ls.length : Int) := by omega
        obtain ⟨b', off, A', c', xs, rfl, hx, c1, hxi⟩ := rows_at (HGW.out.at 3 rfl) (show p < ls.length by omega)
        have hlkp := HLK.out p (by omega)
        rw [hx] at hlkp
        have hpi2 : (p : Int) < (ls.length : Int) := by omega
        have HX := Lib.hid (HOF.out A' c' xs wr hxi hlkp.2 hlkp.1)
        have HVL := Lib.hid (show vs.length ≤ 5864062014634 by have := HG.out.1; omega)
        clear hx hxi hlkp
        go_wp2_with fail
        refine HX.out.mono ?_
        rintro e w3 hmk
        obtain ⟨hb, u, er, rfl, hu⟩ := made_of rfl hmk
        have HR3 := Lib.hid (HR.out.step hb)
        clear hmk hb HX
        rcases hu with rfl | ⟨bu, my, rfl, hzu, hku⟩
        · go_wp2
          go_roundg (gk - 1)
          case measure => have h := HG.out; omega
          case rel => exact ⟨p + 1, vs, ms, by go_num, HR3.out, by have h := HG.out.1; omega, by omega, by have h := HG.out; omega⟩
        · have HZU := Lib.hid hzu
          have HKU := Lib.hid hku
          clear hzu hku
          go_wp2_with (at_builtin; refine wpList_append_own _ rfl _ _ 54 rfl w2.heap.size 24 i0 (.pointer none) 1 8 Tryd.underlying54 HInf.out.1 HInf.out.2.1 HInf.out.2.2.1 HInf.out.2.2.2 rfl (by decide) _ _ _ rfl (HR3.out.own.alloc _) ⟨w3.heap.size, 0, none⟩ 1 1 [.pointer (some ⟨bu, 0, none⟩)] rfl rfl (cells_one1 _ _ _) (by intro u hu; simp at hu; subst hu; rfl) ?c3 ?c4 ?c5 ?_)
          case c3 => unfold maxLen; have := HVL.out; omega
          case c4 => have := HVL.out; omega
          case c5 => have := HR3.out.below.size; simp; omega
          intro v'' w5 hown hgrow _
          have HN := Lib.hid (HR3.out.next HZU.out HKU.out hown hgrow)
          clear hown hgrow
          go_wp2
          go_roundg (gk - 1)
          case measure => have h := HG.out; omega
          case rel => exact ⟨p + 1, _, _, by go_num, HN.out, by have h := HG.out.1; simp; omega, by omega, by have h := HG.out; omega⟩
      · have hpi : ¬ ((p : Int) + 1 < (ls.length : Int)) := by omega
        obtain ⟨PA, pc, rfl, hptr⟩ := own_ptrs HR.out.own
        have hZS : ZonesV wr PA vs k ms := ⟨hptr, HR.out.len, fun j hj => (HR.out.zones j hj).1⟩
        have HZS := Lib.hid hZS
        obtain ⟨h, hh1, hh2, hh3⟩ := hull_law (n := k) (m := m) (ms := ms) hk8 (fun j hj => by
          cases j with
          | zero => exact HKM.out
          | succ j => exact (HR.out.zones j (by simpa using hj)).2)
        have HH2 := Lib.hid (show inclM k h m = true ∧ ∀ q, q < ms.length → inclM k h (ms.getD q fun _ _ => 0) = true from ⟨hh2 0 (by simp), fun q hq => hh2 (q + 1) (by simpa using hq)⟩)
        have HH3 := Lib.hid (fun o (h0 : inclM k o m = true) (hq : ∀ q, q < ms.length → inclM k o (ms.getD q fun _ _ => 0) = true) => hh3 o fun q hq' => by
          cases q with
          | zero => exact h0
          | succ q => exact hq q (by simpa using hq'))
        have HHU := Lib.hid (hull_zones (.pointer (some ⟨b1, 0, none⟩)) k m PA pc vs ms wr (HGW.out.at 0 rfl) hZS (by have h1 := HG.out.1; omega))
        rw [hh1] at HHU
        have HVM := Lib.hid HR.out.len
        have HLL := Lib.hid (show vs.length ≤ 5864062014634 by have h1 := HG.out.1; omega)
        clear hh1 hh2 hh3 hZS hptr HR HG
        go_wp2_with fail
        refine HHU.out.mono ?_
        rintro e w4 ⟨hb, hv4, rfl, hz4⟩
        have HG4 := Lib.hid (((HGW.out.add HZS.out (stable_zones _ _ _ _)).step hb).add (show ZoneV 126 w4 hv4 (some (k, h)) from hz4) (stable_zone _ _ _))
        obtain ⟨bh, rfl, _⟩ := hz4
        clear hb HGW HZS HHU
        go_wp2_with fail
        refine (includes_any _ _ _ _ _ (HG4.out.at 0 rfl) (HG4.out.at 2 rfl)).mono ?_
        rw [HINC.out, HH2.out.1]
        rintro e w5 ⟨rfl, hb⟩
        have HG5 := Lib.hid (HG4.out.step hb)
        clear hb HG4
        go_wp2
        go_loopg [16] vs.length (fun g x wr => ∃ j : Nat, x = .int .i64 j ∧ Hid (Below w5.heap.size w5 wr) ∧ Hid (j ≤ vs.length ∧ g + j = vs.length))
        case atStart => exact ⟨0, by simp, Below.refl _ _, by omega, by omega⟩
        case round =>
          obtain ⟨j, rfl, HB, HGJ⟩ := hrel
          have hvl := HLL.out
          have HG6 := Lib.hid (HG5.out.step HB.out)
          by_cases hj : j < vs.length
          · have hjm : j < ms.length := by rw [← HVM.out]; exact hj
            obtain ⟨bp, off, rfl, cp⟩ := ((HG6.out.at 1 rfl : ZonesV wr PA vs k ms)).1 j hj
            have HZJ := Lib.hid (((HG6.out.at 1 rfl : ZonesV wr _ vs k ms)).2.2 j hjm)
            obtain ⟨vj, hvj⟩ : ∃ vj, vj = vs.getD j (.pointer none) := ⟨_, rfl⟩
            rw [← hvj] at cp HZJ
            have HIJ := Lib.hid (HH2.out.2 j hjm)
            have hji : (j : Int) < (vs.length : Int) := by omega
            obtain ⟨bj, ej, _⟩ := HZJ.out
            subst ej
            clear hvj
            go_wp2_with fail
            refine (includes_any _ _ _ _ _ (HG6.out.at 0 rfl) HZJ.out).mono ?_
            rw [HINC.out, HIJ.out]
            rintro e w7 ⟨rfl, hb⟩
            have HB7 := Lib.hid (HB.out.trans (hb.mono HB.out.size))
            clear hb
            go_wp2
            go_roundg (gk - 1)
            case measure => have h := HGJ.out; omega
            case rel => exact ⟨j + 1, by go_num, HB7.out, by omega, by have h := HGJ.out; omega⟩
          · have e : j = vs.length := by have := HGJ.out.1; omega
            subst e
            clear HB HGJ
            by_cases hl0 : ls.length = 0
            · have t1 : ((ls.length : Int) == 0) = true := beq_iff_eq.2 (by omega)
              clear hl0
              go_wp2
              go_ret
              exact ⟨rfl, HG6.out.below⟩
            · have t1 : ((ls.length : Int) == 0) = false := beq_eq_false_iff_ne.2 (by omega)
              obtain ⟨q, hq⟩ : ∃ q : Nat, q + 1 = ls.length := ⟨ls.length - 1, by omega⟩
              obtain ⟨b', off, A', c', xs, rfl, hx, c1, hxi⟩ := rows_at (HG6.out.at 5 rfl) (show q < ls.length by omega)
              have hlkp := HLK.out q (by omega)
              rw [hx] at hlkp
              have g1 : (ls.length : Int) - 1 = (q : Int) := by omega
              have g2 : IntKind.i64.wrap ((ls.length : Int) - 1) = (q : Int) := by rw [g1]; exact IntWalk.i64_in _ (by omega)
              have g3 : (q : Int) < (ls.length : Int) := by omega
              have HX := Lib.hid (HOF.out A' c' xs wr hxi hlkp.2 hlkp.1)
              clear hx hxi hlkp hq hl0
              go_wp2_with fail
              refine HX.out.mono ?_
              rintro e w8 hmk
              obtain ⟨hb, u, er, rfl, hu⟩ := made_of rfl hmk
              have HG8 := Lib.hid (HG6.out.step hb)
              clear hmk hb HX HG6
              rcases hu with rfl | ⟨bu, o, rfl, hzu, _⟩
              · go_wp2
                go_loopg [15, 19] 1 (fun g y x wr => y = .bool false ∧ (∃ j : Nat, x = .int .i64 j) ∧ Hid (Below w8.heap.size w8 wr))
                case atStart => exact ⟨rfl, ⟨0, by simp⟩, Below.refl _ _⟩
                case round =>
                  obtain ⟨rfl, ⟨j, rfl⟩, HB⟩ := hrel
                  have HGE := Lib.hid (HG8.out.step HB.out)
                  by_cases hj : (j : Int) < (vs.length : Int)
                  · have t2 : decide ((j : Int) < (vs.length : Int)) = true := decide_eq_true hj
                    go_wp2
                    go_ret
                    exact ⟨rfl, HGE.out.below⟩
                  · have t2 : decide ((j : Int) < (vs.length : Int)) = false := decide_eq_false hj
                    go_wp2
                    go_ret
                    exact ⟨rfl, HGE.out.below⟩
              · have HG9 := Lib.hid (HG8.out.add hzu (stable_zone _ _ _))
                clear hzu HG8
                go_wp2_with fail
                refine (includes_any _ _ _ _ _ (HG9.out.at 0 rfl) (HG9.out.at 3 rfl)).mono ?_
                rw [HINC.out]
                rintro e w10 ⟨rfl, hb⟩
                have HG10 := Lib.hid (HG9.out.step hb)
                obtain ⟨a0, ha0⟩ : ∃ a0, a0 = inclM k o m := ⟨_, rfl⟩
                rw [← ha0]
                have HA0 := Lib.hid ha0
                clear hb HG9 ha0
                go_wp2
                go_loopg [15, 19] vs.length (fun g y x wr => ∃ j : Nat, ∃ al : Bool, y = .bool al ∧ x = .int .i64 j ∧ Hid (Below w10.heap.size w10 wr) ∧ Hid (al = true → inclM k o m = true ∧ ∀ q, q < j → inclM k o (ms.getD q fun _ _ => 0) = true) ∧ Hid (j ≤ vs.length ∧ g + j = vs.length))
                case atStart => exact ⟨0, a0, by first | rfl | simp, by simp, Below.refl _ _, fun h => ⟨by rw [← HA0.out]; exact h, fun q hq => by omega⟩, by omega, by omega⟩
                case round =>
                  obtain ⟨j, al, rfl, rfl, HB, HAL, HGJ⟩ := hrel
                  have hvl := HLL.out
                  have HGE := Lib.hid (HG10.out.step HB.out)
                  cases al with
                  | false =>
                    by_cases hj : (j : Int) < (vs.length : Int)
                    · have t2 : decide ((j : Int) < (vs.length : Int)) = true := decide_eq_true hj
                      go_wp2
                      go_ret
                      exact ⟨rfl, HGE.out.below⟩
                    · have t2 : decide ((j : Int) < (vs.length : Int)) = false := decide_eq_false hj
                      go_wp2
                      go_ret
                      exact ⟨rfl, HGE.out.below⟩
                  | true =>
                    by_cases hj : j < vs.length
                    · have hjm : j < ms.length := by rw [← HVM.out]; exact hj
                      obtain ⟨bp, offp, rfl, cp⟩ := ((HGE.out.at 2 rfl : ZonesV wr PA vs k ms)).1 j hj
                      have HZJ := Lib.hid (((HGE.out.at 2 rfl : ZonesV wr _ vs k ms)).2.2 j hjm)
                      obtain ⟨vj, hvj⟩ : ∃ vj, vj = vs.getD j (.pointer none) := ⟨_, rfl⟩
                      rw [← hvj] at cp HZJ
                      have hji : (j : Int) < (vs.length : Int) := by omega
                      have t2 : decide ((j : Int) < (vs.length : Int)) = true := decide_eq_true hji
                      obtain ⟨bj, ej, _⟩ := HZJ.out
                      subst ej
                      clear hvj
                      go_wp2_with fail
                      refine (includes_any _ _ _ _ _ (HGE.out.at 0 rfl) HZJ.out).mono ?_
                      rw [HINC.out]
                      rintro e w12 ⟨rfl, hb⟩
                      have HB12 := Lib.hid (HB.out.trans (hb.mono HB.out.size))
                      obtain ⟨aj, haj⟩ : ∃ aj, aj = inclM k o (ms.getD j fun _ _ => 0) := ⟨_, rfl⟩
                      rw [← haj]
                      have HAJ := Lib.hid haj
                      clear hb haj
                      go_wp2
                      go_roundg (gk - 1)
                      case measure => have h := HGJ.out; omega
                      case rel =>
                        refine ⟨j + 1, aj, rfl, by go_num, HB12.out, fun h => ⟨(HAL.out (by first | rfl | trivial)).1, fun q hq => ?_⟩, by omega, by have h := HGJ.out; omega⟩
                        by_cases e : q = j
                        · subst e; rw [← HAJ.out]; exact h
                        · exact (HAL.out (by first | rfl | trivial)).2 q (by omega)
                    · have e : j = vs.length := by have := HGJ.out.1; omega
                      subst e
                      have HFIN := Lib.hid (HH3.out o (HAL.out (by first | rfl | trivial)).1 (fun q hq => (HAL.out (by first | rfl | trivial)).2 q (by rw [HVM.out]; exact hq)))
                      go_wp2_with fail
                      refine (includes_any _ _ _ _ _ (HGE.out.at 0 rfl) (HGE.out.at 1 rfl)).mono ?_
                      rw [HINC.out, HFIN.out]
                      rintro e w12 ⟨rfl, hb⟩
                      have HGF := Lib.hid (HGE.out.step hb)
                      clear hb
                      go_wp2
                      go_ret
                      exact ⟨rfl, HGF.out.below⟩

end Go.Proofs.YtidcnlecgcobmaaDoor
