/- Texts of ours, laid together: Pw, Rw, Og, Oh, Oi, Oj, Po, Pt, Pz, Ba, Bag, Bs, Bc. -/
import Derived.Deep.RegionHeld3
import Derived.Lib.ItoaNum
import Derived.Lib.ItoaLen
import Derived.Lib.AtoiTie
import Derived.Lib.Strings
import Derived.Deep.Draws
import Derived.Deep.RegionWith
import Derived.Laws.Rows
import Derived.Laws.CopyOwn
import Derived.Test.YtidcnlecgcobmaaDoorMg4
/- Zones, empty or full; what the zone of their changed cells is. -/
namespace Go.Proofs.YtidcnlecgcobmaaDoor
set_option linter.unusedVariables false
set_option linter.unusedSimpArgs false

/-- Cells, wide. -/
def widW (m : Mat) : Mat := fun i j => wid (m i j)
theorem wid_upd (m : Mat) (a b : Nat) (x : Int) : widW (upd m a b x) = upd (widW m) a b (wid x) := by
  funext i j
  unfold widW upd
  split <;> rfl
theorem wid_min {x y : Int} (hx : x ≤ 2147483647) (hy : y ≤ 2147483647) : wid (min x y) = min (wid x) (wid y) := by
  unfold wid none62
  rw [Int.min_def, Int.min_def]
  split <;> split <;> split <;> (try split) <;> omega
theorem wid_less (m : Mat) (a b : Nat) (x : Int) (h : m a b ≤ 2147483647) (hx : x ≤ 2147483647) : widW (lessM m a b x) = lessM (widW m) a b (wid x) := by
  unfold lessM
  rw [wid_upd, wid_min h hx]
  rfl
theorem right_hi {x : Int} (h : rightB x = true) : -2147483648 ≤ x ∧ x ≤ 2147483647 := by
  unfold rightB at h
  have := of_decide_eq_true h
  omega
theorem right_min {x y : Int} (hx : rightB x = true) (hy : rightB y = true) : rightB (min x y) = true := by
  rw [Int.min_def]; split <;> assumption
/-- Cells that bounds of a zone may be. -/
structure OkM (n : Nat) (m : Mat) : Prop where
  right : RightM n m
  diag : ∀ i, i ≤ n → m i i ≤ 1
  top : ∀ j, j ≤ n → m 0 j ≤ 1
theorem OkM.upd {n : Nat} {m : Mat} (h : OkM n m) (a b : Nat) (x : Int) (hr : rightB x = true) (hd : a = b → x ≤ 1) (ht : a = 0 → x ≤ 1) : OkM n (upd m a b x) := by
  refine ⟨fun i j hi hj => ?_, fun i hi => ?_, fun j hj => ?_⟩
  · unfold Go.Proofs.YtidcnlecgcobmaaDoor.upd; split
    · exact hr
    · exact h.right i j hi hj
  · unfold Go.Proofs.YtidcnlecgcobmaaDoor.upd; split
    · rename_i e; exact hd (by omega)
    · exact h.diag i hi
  · unfold Go.Proofs.YtidcnlecgcobmaaDoor.upd; split
    · rename_i e; exact ht (by omega)
    · exact h.top j hj
theorem OkM.less {n : Nat} {m : Mat} (h : OkM n m) (a b : Nat) (ha : a ≤ n) (hb : b ≤ n) (x : Int) (hr : rightB x = true) : OkM n (lessM m a b x) := by
  refine h.upd a b _ (right_min (h.right a b ha hb) hr) (fun e => ?_) (fun e => ?_)
  · subst e; have := h.diag a ha; omega
  · subst e; have := h.top b hb; omega
theorem OkM.fit {n : Nat} {m : Mat} (h : OkM n m) : Fit n 1073741824 (widW m) := by
  refine ⟨fun i j hi hj => ?_, fun i hi => ?_⟩
  · unfold widW wid
    split
    · exact .inl rfl
    · rename_i e
      have := rightB_bd (h.right i j hi hj) e
      exact .inr (by omega)
  · have := h.diag i hi
    unfold widW wid
    rw [if_neg (by omega)]; exact this
theorem OkM.wtop {n : Nat} {m : Mat} (h : OkM n m) : ∀ j, j ≤ n → widW m 0 j ≤ 1 := fun j hj => by
  have := h.top j hj
  unfold widW wid
  rw [if_neg (by omega)]; exact this
/-- What Of tells of such cells. -/
theorem ofP_wid {n : Nat} {m : Mat} (hn : n ≤ 8) (h : OkM n m) : ofP n (flat n m) = zoneP n (widW m) := by
  rw [of_flat hn h.right]
  refine zoneP_agree fun i j hi hj => ?_
  unfold wideZ
  split
  · rename_i e
    have : m i j ≤ 1 := by
      rcases e with e | e
      · subst e; exact h.diag i hi
      · subst e; exact h.top j hj
    unfold widW
    have e2 : wid (m i j) = m i j := by unfold wid; rw [if_neg (by omega)]
    rw [e2]; omega
  · rfl
/-- The zone is not empty. -/
structure FullZ (n : Nat) (m : Mat) : Prop where
  right : RightM n m
  one : ∀ i, i ≤ n → m i i = 1
  top : ∀ j, j ≤ n → m 0 j ≤ 1
theorem FullZ.ok {n : Nat} {m : Mat} (h : FullZ n m) : OkM n m := ⟨h.right, fun i hi => by rw [h.one i hi]; exact Int.le_refl _, h.top⟩
theorem keepUp_top4 {n : Nat} {cells : List Int} (hr : ∀ q, q < (n + 1) * (n + 1) → rightB (cells.getD q 0) = true) : ∀ j, j ≤ n → keepUp n cells ((n + 1) * (n + 1)) 0 j ≤ 1 := fun j hj => by
  rw [keepUp_cell n cells 0 j (Nat.zero_le _) hj hr _ (Nat.le_refl _), if_pos (at_lt (by omega) (by omega)), if_pos (.inr rfl)]
  omega
theorem full_of {n : Nat} {M m' : Mat} (h0 : ∀ j, j ≤ n → M 0 j ≤ 1) (ha : allR n m') (hc : Closed n M m') : FullZ n (narM n m') := by
  have hcell : ∀ i j, i ≤ n → j ≤ n → m' i j ≤ 1 → narM n m' i j = m' i j := fun i j hi hj hle => by
    unfold narM nar
    rw [if_pos ⟨hi, hj⟩, if_neg (by unfold none62; omega)]
  refine ⟨narM_right ha, fun i hi => ?_, fun j hj => ?_⟩
  · rw [hcell i i hi hi (by rw [hc.one i hi]; exact Int.le_refl _), hc.one i hi]
  · have : m' 0 j ≤ 1 := Int.le_trans (hc.le 0 j) (h0 j hj)
    rw [hcell 0 j (by omega) hj this]; exact this
/-- A zone is empty, or full. -/
theorem zone_kinds {n : Int} {cells : List Int} {k : Nat} {m : Mat} (e : zOf n cells = some (k, m)) : (0 ≤ n ∧ n ≤ 8 ∧ k = n.toNat) ∧ (m = (fun _ _ => 0) ∨ FullZ k m) := by
  unfold zOf at e
  cases hz : (ofP n cells).1 with
  | none => rw [hz] at e; cases e
  | some m0 =>
    rw [hz] at e
    simp only [Option.map_some, Option.some.injEq, Prod.mk.injEq] at e
    obtain ⟨e1, e2⟩ := e
    subst e2
    unfold ofP at hz
    split at hz
    · rename_i hn
      split at hz
      · rename_i hl
        split at hz
        · rename_i hr
          obtain ⟨q, rfl⟩ : ∃ q : Nat, n = q := ⟨n.toNat, by omega⟩
          rw [Int.toNat_natCast] at hz e1
          subst e1
          have hl' : cells.length = (q + 1) * (q + 1) := by exact_mod_cast hl
          have hr' : ∀ p, p < (q + 1) * (q + 1) → rightB (cells.getD p 0) = true := fun p hp => (all_getD cells rightB 0).1 hr p (by omega)
          rw [hl'] at hz
          refine ⟨by omega, ?_⟩
          rcases zoneP_is (by omega) (keepUp_fit q cells _ hr') hz with ⟨h, _⟩ | ⟨m', hm, ha, hzz, hc⟩
          · exact .inl h
          · right; rw [hzz]; exact full_of (keepUp_top4 hr') ha hc
        · cases hz
      · cases hz
    · cases hz
theorem FullZ.notEmpty {n : Nat} {m : Mat} (h : FullZ n m) : emptyP (some (n, m)) = false := decide_eq_false (by have := h.one 0 (by omega); omega)

/-- The same cells, opened. -/
theorem Agree.upd {n : Nat} {m o : Mat} (h : Agree n m o) (a b : Nat) (x : Int) : Agree n (upd m a b x) (upd o a b x) := fun i j hi hj => by
  unfold Go.Proofs.YtidcnlecgcobmaaDoor.upd; split
  · rfl
  · exact h i j hi hj
theorem Agree.less {n : Nat} {m o : Mat} (h : Agree n m o) (a b : Nat) (ha : a ≤ n) (hb : b ≤ n) (x : Int) : Agree n (lessM m a b x) (lessM o a b x) := by
  unfold lessM; rw [h a b ha hb]; exact h.upd a b _
theorem open_agree (n : Nat) (m : Mat) : Agree n (openW (some (n, m))) m := fun i j hi hj => openW_in (by omega) (by omega)

/-! ### empty zones -/
theorem flat_open (n : Nat) (m : Mat) : flat n (openW (some (n, m))) = flat n m := flat_congr (open_agree n m)
theorem ofP_zero (n : Nat) (hn : n ≤ 8) : ofP n (flat n (openW (some (n, fun _ _ => 0)))) = (some (fun _ _ => 0), 0) := by
  rw [flat_open, of_flat hn (right_zero n), zoneP_zero]

/-! ### Up -/
def upD (M : Mat) : Nat → Mat
  | 0 => M
  | p + 1 => if p = 0 then upD M p else upd (upD M p) p 0 none62
theorem wid_up (m : Mat) : ∀ p, widW (upUp m p) = upD (widW m) p
  | 0 => rfl
  | p + 1 => by
    unfold upUp upD
    split
    · exact wid_up m p
    · rw [wid_upd, wid_up m p]; rfl
theorem Agree.up {n : Nat} {m o : Mat} (h : Agree n m o) : ∀ p, Agree n (upUp m p) (upUp o p)
  | 0 => h
  | p + 1 => by
    unfold upUp
    split
    · exact h.up p
    · exact (h.up p).upd _ _ _
theorem OkM.up {n : Nat} {m : Mat} (h : OkM n m) : ∀ p, OkM n (upUp m p)
  | 0 => h
  | p + 1 => by
    unfold upUp
    split
    · exact h.up p
    · rename_i e; exact (h.up p).upd _ _ _ (by decide) (fun e' => absurd e' e) (fun e' => absurd e' e)
theorem up_same {n : Nat} {m : Mat} (hn : n ≤ 8) (h : FullZ n m) : ofP n (flat n (upW (some (n, m)))) = zoneP n (upD (widW m) (n + 1)) := by
  have e : upW (some (n, m)) = upUp (openW (some (n, m))) (n + 1) := by unfold upW; rw [h.notEmpty]; rfl
  rw [e, flat_congr ((open_agree n m).up (n + 1)), ofP_wid hn (h.ok.up _), wid_up]
theorem up_zero (n : Nat) (hn : n ≤ 8) : ofP n (flat n (upW (some (n, fun _ _ => 0)))) = (some (fun _ _ => 0), 0) := by
  have e : upW (some (n, fun _ _ => 0)) = openW (some (n, fun _ _ => 0)) := by unfold upW; rw [if_pos (show emptyP (some (n, fun _ _ => 0)) = true from rfl)]
  rw [e]; exact ofP_zero n hn

/-! ### Down -/
theorem OkM.downIn {n : Nat} {m : Mat} (h : OkM n m) (i : Nat) (hi : i ≤ n) : ∀ j, j ≤ n + 1 → OkM n (downIn m i j)
  | 0, _ => h
  | j + 1, hj => by
    have ih := h.downIn i hi j (by omega)
    unfold Go.Proofs.YtidcnlecgcobmaaDoor.downIn
    split
    · exact ih
    · exact ih.less 0 i (by omega) hi _ (ih.right j i (by omega) hi)
theorem OkM.down {n : Nat} {m : Mat} (h : OkM n m) : ∀ i, i ≤ n + 1 → OkM n (downUp n m i)
  | 0, _ => h
  | i + 1, hi => by
    have ih := h.down i (by omega)
    unfold downUp
    split
    · exact ih
    · exact (ih.upd 0 i 1 (by decide) (fun _ => Int.le_refl _) (fun _ => Int.le_refl _)).downIn i (by omega) _ (Nat.le_refl _)
theorem wid_downIn {n : Nat} {m : Mat} (h : OkM n m) (i : Nat) (hi : i ≤ n) : ∀ j, j ≤ n + 1 → widW (downIn m i j) = downIn (widW m) i j
  | 0, _ => rfl
  | j + 1, hj => by
    have ih := wid_downIn h i hi j (by omega)
    have ok := h.downIn i hi j (by omega)
    unfold downIn
    split
    · exact ih
    · rw [wid_less _ _ _ _ (right_hi (ok.right 0 i (by omega) hi)).2 (right_hi (ok.right j i (by omega) hi)).2, ih, ← ih]
      rfl
theorem wid_down {n : Nat} {m : Mat} (h : OkM n m) : ∀ i, i ≤ n + 1 → widW (downUp n m i) = downUp n (widW m) i
  | 0, _ => rfl
  | i + 1, hi => by
    have ih := wid_down h i (by omega)
    have ok := h.down i (by omega)
    unfold downUp
    split
    · exact ih
    · rw [wid_downIn (ok.upd 0 i 1 (by decide) (fun _ => Int.le_refl _) (fun _ => Int.le_refl _)) i (by omega) _ (Nat.le_refl _), wid_upd, ih]
      rfl
theorem Agree.downIn {n : Nat} {m o : Mat} (h : Agree n m o) (i : Nat) (hi : i ≤ n) : ∀ j, j ≤ n + 1 → Agree n (downIn m i j) (downIn o i j)
  | 0, _ => h
  | j + 1, hj => by
    have ih := h.downIn i hi j (by omega)
    unfold Go.Proofs.YtidcnlecgcobmaaDoor.downIn
    split
    · exact ih
    · rw [ih j i (by omega) hi]; exact ih.less 0 i (by omega) hi _
theorem Agree.down {n : Nat} {m o : Mat} (h : Agree n m o) : ∀ i, i ≤ n + 1 → Agree n (downUp n m i) (downUp n o i)
  | 0, _ => h
  | i + 1, hi => by
    unfold downUp
    split
    · exact h.down i (by omega)
    · exact ((h.down i (by omega)).upd 0 i 1).downIn i (by omega) _ (Nat.le_refl _)
theorem down_same {n : Nat} {m : Mat} (hn : n ≤ 8) (h : FullZ n m) : ofP n (flat n (downW (some (n, m)))) = zoneP n (downUp n (widW m) (n + 1)) := by
  have e : downW (some (n, m)) = downUp n (openW (some (n, m))) (n + 1) := by unfold downW; rw [h.notEmpty]; rfl
  rw [e, flat_congr ((open_agree n m).down (n + 1) (Nat.le_refl _)), ofP_wid hn (h.ok.down _ (Nat.le_refl _)), wid_down h.ok _ (Nat.le_refl _)]
theorem down_zero (n : Nat) (hn : n ≤ 8) : ofP n (flat n (downW (some (n, fun _ _ => 0)))) = (some (fun _ _ => 0), 0) := by
  have e : downW (some (n, fun _ _ => 0)) = openW (some (n, fun _ _ => 0)) := by unfold downW; rw [if_pos (show emptyP (some (n, fun _ _ => 0)) = true from rfl)]
  rw [e]; exact ofP_zero n hn

end Go.Proofs.YtidcnlecgcobmaaDoor

/- The document's Up and Down. -/
namespace Go.Proofs.YtidcnlecgcobmaaDoor
open Go Go.RowKit
set_option linter.unusedVariables false
set_option linter.unusedSimpArgs false

/-- The cells under way lie in the first new block. -/
def D4 (w0 : World) (g cap n : Nat) (cur : Mat) (wr : World) : Prop := Below w0.heap.size w0 wr ∧ w0.heap.size < g ∧ CellsAt wr w0.heap.size g cap n cur
theorem D4.only {w0 wr w' : World} {g cap n : Nat} {cur cur' : Mat} (h : D4 w0 g cap n cur wr) (ho : Only g wr w') (hc : CellsAt w' w0.heap.size g cap n cur') : D4 w0 g cap n cur' w' :=
  ⟨h.1.trans (ho.below (by have := h.2.1; omega) h.1.size), h.2.1, hc⟩
theorem D4.ne {w0 wr : World} {g cap n : Nat} {cur : Mat} (h : D4 w0 g cap n cur wr) : w0.heap.size ≠ g := by have := h.2.1; omega
theorem D4.drewN {w0 wr : World} {g cap n : Nat} {cur : Mat} (h : D4 w0 g cap n cur wr) (q : Nat) : D4 w0 g cap n cur (wr.drewN q) := ⟨belowN h.1 q, h.2.1, h.2.2.drewN q⟩
theorem shut4_D {w0 wr : World} {g cap n : Nat} {M : Mat} (hn : n ≤ 8) (h : D4 w0 g cap n M wr) (hf : Fit n 1073741824 M) (h0 : ∀ j, j ≤ n → M 0 j ≤ 1) :
    Calls Tryd.prog 70 #[.pointer (some ⟨w0.heap.size, 0, none⟩)] wr (MakesR w0 n (zoneP n M)) :=
  (shut4_any w0.heap.size g cap n M wr hn h.ne h.2.2 hf h0 w0.heap.size (by have := h.2.1; omega) h.1.size).mono fun e w' ⟨hb, v, he, hv⟩ => ⟨h.1.trans hb, v, he, hv⟩

theorem up4_nil (w : World) : Calls Tryd.prog 21 #[.pointer none] w fun e w' => e = .returned (.tuple #[.pointer none, .int .i64 1]) ∧ w = w' := by
  go_enter Tryd.func21, Tryd.ntmps21
  go_wp2
  go_ret2
  exact ⟨rfl, rfl⟩
theorem down4_nil (w : World) : Calls Tryd.prog 23 #[.pointer none] w fun e w' => e = .returned (.tuple #[.pointer none, .int .i64 1]) ∧ w = w' := by
  go_enter Tryd.func23, Tryd.ntmps23
  go_wp2
  go_ret2
  exact ⟨rfl, rfl⟩

set_option maxRecDepth 100000 in
set_option maxHeartbeats 1000000 in
theorem up4_empty (v : Value) (n : Nat) (w : World) (h : RefZ w v (some (n, fun _ _ => 0))) : Calls Tryd.prog 21 #[v] w (MakesR w n (some (fun _ _ => 0), 0)) := by
  have HD := Lib.hid (rdim_any v (some (n, fun _ _ => 0)) w h)
  have HE := Lib.hid (rempty_any v (some (n, fun _ _ => 0)) w h)
  rw [show emptyR (some (n, fun _ _ => 0)) = true from rfl] at HE
  rw [show dimP (some (n, fun _ _ => 0)) = n from rfl] at HD
  obtain ⟨b, g, cap, rfl, hn, _⟩ := h.parts
  clear h
  go_enter Tryd.func21, Tryd.ntmps21
  go_wp2_with fail
  refine HE.out.mono ?_
  rintro e w1 ⟨rfl, rfl⟩
  go_wp2_with fail
  refine HD.out.mono ?_
  rintro e w1 ⟨rfl, rfl⟩
  go_wp2_with fail
  refine (nothing_any n _ hn).mono ?_
  rintro e w2 ⟨v, rfl, hb, hv⟩
  have HB := Lib.hid hb
  have HV := Lib.hid hv
  clear hb hv
  go_wp2
  go_ret2
  exact ⟨HB.out, v, rfl, HV.out⟩
set_option maxRecDepth 100000 in
set_option maxHeartbeats 1000000 in
theorem down4_empty (v : Value) (n : Nat) (w : World) (h : RefZ w v (some (n, fun _ _ => 0))) : Calls Tryd.prog 23 #[v] w (MakesR w n (some (fun _ _ => 0), 0)) := by
  have HD := Lib.hid (rdim_any v (some (n, fun _ _ => 0)) w h)
  have HE := Lib.hid (rempty_any v (some (n, fun _ _ => 0)) w h)
  rw [show emptyR (some (n, fun _ _ => 0)) = true from rfl] at HE
  rw [show dimP (some (n, fun _ _ => 0)) = n from rfl] at HD
  obtain ⟨b, g, cap, rfl, hn, _⟩ := h.parts
  clear h
  go_enter Tryd.func23, Tryd.ntmps23
  go_wp2_with fail
  refine HE.out.mono ?_
  rintro e w1 ⟨rfl, rfl⟩
  go_wp2_with fail
  refine HD.out.mono ?_
  rintro e w1 ⟨rfl, rfl⟩
  go_wp2_with fail
  refine (nothing_any n _ hn).mono ?_
  rintro e w2 ⟨v, rfl, hb, hv⟩
  have HB := Lib.hid hb
  have HV := Lib.hid hv
  clear hb hv
  go_wp2
  go_ret2
  exact ⟨HB.out, v, rfl, HV.out⟩
theorem full_notR {n : Nat} {m : Mat} (h : FullZ n m) : emptyR (some (n, m)) = false := decide_eq_false fun e => e (h.one 0 (by omega))

set_option maxRecDepth 100000 in
set_option maxHeartbeats 1000000 in
theorem up4_full (v : Value) (n : Nat) (m : Mat) (w : World) (h : RefZ w v (some (n, m))) (hm : FullZ n m) : Calls Tryd.prog 21 #[v] w (MakesR w n (zoneP n (upD (widW m) (n + 1)))) := by
  have HE := Lib.hid (rempty_any v (some (n, m)) w h)
  rw [full_notR hm] at HE
  have HO := Lib.hid (open4_any v n m w h)
  have HF := Lib.hid (show Fit n 1073741824 (upD (widW m) (n + 1)) by rw [← wid_up]; exact (hm.ok.up _).fit)
  have HT := Lib.hid (show ∀ j, j ≤ n → upD (widW m) (n + 1) 0 j ≤ 1 by rw [← wid_up]; exact (hm.ok.up _).wtop)
  obtain ⟨b, g0, cap0, rfl, hn, _⟩ := h.parts
  clear h
  go_enter Tryd.func21, Tryd.ntmps21
  go_wp2_with fail
  refine HE.out.mono ?_
  rintro e w1 ⟨rfl, rfl⟩
  go_wp2_with fail
  refine HO.out.mono ?_
  rintro e w1 ⟨g, cap, rfl, hb, hg, hc⟩
  have HS := Lib.hid (show D4 w g cap n (upD (widW m) 1) w1 from ⟨hb, hg, hc⟩)
  clear hb hg hc HO HE
  go_wp2
  go_loopg [5] n (fun q v wr => ∃ p : Nat, v = .int .i64 p ∧ Hid (D4 w g cap n (upD (widW m) p) wr) ∧ Hid (1 ≤ p ∧ p ≤ n + 1 ∧ q + p = n + 1))
  case atStart => exact ⟨1, by simp, HS.out, by omega, by omega, by omega⟩
  case round =>
    clear HS
    obtain ⟨p, rfl, HR, HG⟩ := hrel
    have c0 := HR.out.2.2.1
    by_cases hp : p ≤ n
    · have hpi : (p : Int) ≤ (n : Int) := by omega
      go_wp2_with fail
      refine (put4_any w.heap.size g cap n p 0 _ 4611686018427387904 _ hn (by omega) (by omega) HR.out.ne HR.out.2.2).mono ?_
      rintro e w2 ⟨rfl, ho, hc⟩
      have HN := Lib.hid (show D4 w g cap n (upD (widW m) (p + 1)) w2 by
        have e : upD (widW m) (p + 1) = upd (upD (widW m) p) p 0 4611686018427387904 := by
          have := HG.out.1
          rw [upD, if_neg (by omega)]; rfl
        rw [e]
        exact HR.out.only ho hc)
      clear ho hc
      go_wp2
      go_roundg (gk - 1)
      case measure => have h := HG.out; omega
      case rel => exact ⟨p + 1, by go_num, HN.out, by omega, by omega, by have h := HG.out; omega⟩
    · have e : p = n + 1 := by have := HG.out; omega
      subst e
      have hpi : ¬ (((n + 1 : Nat) : Int) ≤ (n : Int)) := by omega
      go_wp2_with fail
      refine (shut4_D hn HR.out HF.out HT.out).mono ?_
      rintro e w2 hz
      have HZ2 := Lib.hid hz
      obtain ⟨hb, v, rfl, hv⟩ := hz
      clear hb hv
      go_wp2
      go_ret2
      exact HZ2.out

set_option maxRecDepth 100000 in
set_option maxHeartbeats 2000000 in
theorem down4_full (v : Value) (n : Nat) (m : Mat) (w : World) (h : RefZ w v (some (n, m))) (hm : FullZ n m) : Calls Tryd.prog 23 #[v] w (MakesR w n (zoneP n (downUp n (widW m) (n + 1)))) := by
  have HE := Lib.hid (rempty_any v (some (n, m)) w h)
  rw [full_notR hm] at HE
  have HO := Lib.hid (open4_any v n m w h)
  have HF := Lib.hid (show Fit n 1073741824 (downUp n (widW m) (n + 1)) by rw [← wid_down hm.ok _ (Nat.le_refl _)]; exact (hm.ok.down _ (Nat.le_refl _)).fit)
  have HT := Lib.hid (show ∀ j, j ≤ n → downUp n (widW m) (n + 1) 0 j ≤ 1 by rw [← wid_down hm.ok _ (Nat.le_refl _)]; exact (hm.ok.down _ (Nat.le_refl _)).wtop)
  obtain ⟨b, g0, cap0, rfl, hn, _⟩ := h.parts
  obtain ⟨M, hM⟩ : ∃ M, M = widW m := ⟨_, rfl⟩
  rw [show (fun i j => wid (m i j)) = widW m from rfl, ← hM] at HO
  rw [← hM] at HF HT
  have HMM := Lib.hid hM
  clear h hM
  go_enter Tryd.func23, Tryd.ntmps23
  go_wp2_with fail
  refine HE.out.mono ?_
  rintro e w1 ⟨rfl, rfl⟩
  go_wp2_with fail
  refine HO.out.mono ?_
  rintro e w1 ⟨g, cap, rfl, hb, hg, hc⟩
  have HS := Lib.hid (show D4 w g cap n (downUp n M 1) w1 from ⟨hb, hg, hc⟩)
  clear hb hg hc HO HE
  go_wp2
  go_loopg [5] n (fun q v wr => ∃ p : Nat, v = .int .i64 p ∧ Hid (D4 w g cap n (downUp n M p) wr) ∧ Hid (1 ≤ p ∧ p ≤ n + 1 ∧ q + p = n + 1))
  case atStart => exact ⟨1, by simp, HS.out, by omega, by omega, by omega⟩
  case round =>
    clear HS
    obtain ⟨p, rfl, HR, HG⟩ := hrel
    have c0 := HR.out.2.2.1
    by_cases hp : p ≤ n
    · have hpi : (p : Int) ≤ (n : Int) := by omega
      go_wp2_with fail
      refine (put4_any w.heap.size g cap n 0 p _ 1 _ hn (by omega) (by omega) HR.out.ne HR.out.2.2).mono ?_
      rintro e w2 ⟨rfl, ho, hc⟩
      obtain ⟨U, hU⟩ : ∃ U, U = upd (downUp n M p) 0 p 1 := ⟨_, rfl⟩
      rw [← hU] at hc
      have HU := Lib.hid hU
      have HS := Lib.hid (show D4 w g cap n (downIn U p 1) w2 from HR.out.only ho hc)
      clear ho hc c0 hU
      go_wp2
      go_loopg [6] n (fun q v wr => ∃ j : Nat, v = .int .i64 j ∧ Hid (D4 w g cap n (downIn U p j) wr) ∧ Hid (1 ≤ j ∧ j ≤ n + 1 ∧ q + j = n + 1))
      case atStart => exact ⟨1, by simp, HS.out, by omega, by omega, by omega⟩
      case round =>
        clear HS
        obtain ⟨j, rfl, HJ, HH⟩ := hrel
        have c0 := HJ.out.2.2.1
        by_cases hj : j ≤ n
        · have hji : (j : Int) ≤ (n : Int) := by omega
          have HA := Lib.hid (at4_any w.heap.size g cap n j p _ _ hn (by omega) (by omega) HJ.out.2.2)
          have HL := Lib.hid (fun x w' h => less4_any w.heap.size g cap n 0 p (downIn U p j) x w' hn (by omega) (by omega) HJ.out.ne h)
          obtain ⟨x, hx⟩ : ∃ x, x = downIn U p j j p := ⟨_, rfl⟩
          rw [← hx] at HA
          have HX := Lib.hid hx
          clear hx
          go_wp2_with fail
          refine HA.out.mono ?_
          rintro e w3 ⟨rfl, q, hw⟩
          have HD := Lib.hid (show D4 w g cap n (downIn U p j) w3 by rw [hw]; exact HJ.out.drewN q)
          clear hw
          go_wp2_with fail
          refine (HL.out x _ HD.out.2.2).mono ?_
          rintro e w4 ⟨rfl, ho, hc⟩
          have HN := Lib.hid (show D4 w g cap n (downIn U p (j + 1)) w4 by
            have e : downIn U p (j + 1) = lessM (downIn U p j) 0 p x := by
              have := HH.out.1
              rw [downIn, if_neg (by omega), HX.out]
            rw [e]
            exact HD.out.only ho hc)
          clear ho hc
          go_wp2
          go_roundg (gk - 1)
          case measure => have h := HH.out; omega
          case rel => exact ⟨j + 1, by go_num, HN.out, by omega, by omega, by have h := HH.out; omega⟩
        · have e : j = n + 1 := by have := HH.out; omega
          subst e
          have hji : ¬ (((n + 1 : Nat) : Int) ≤ (n : Int)) := by omega
          have HN := Lib.hid (show D4 w g cap n (downUp n M (p + 1)) wr by
            have := HG.out.1
            rw [downUp, if_neg (by omega), ← HU.out]; exact HJ.out)
          go_wp2
          go_roundg (n - p)
          case measure => have h := HG.out; omega
          case rel => exact ⟨p + 1, by go_num, HN.out, by omega, by omega, by omega⟩
    · have e : p = n + 1 := by have := HG.out; omega
      subst e
      have hpi : ¬ (((n + 1 : Nat) : Int) ≤ (n : Int)) := by omega
      go_wp2_with fail
      refine (shut4_D hn HR.out HF.out HT.out).mono ?_
      rintro e w2 hz
      have HZ2 := Lib.hid hz
      obtain ⟨hb, v, rfl, hv⟩ := hz
      clear hb hv
      go_wp2
      go_ret2
      rw [← HMM.out]
      exact HZ2.out

end Go.Proofs.YtidcnlecgcobmaaDoor

/- A clock set to a number. -/
namespace Go.Proofs.YtidcnlecgcobmaaDoor
open Go Go.RowKit
set_option linter.unusedVariables false
set_option linter.unusedSimpArgs false
attribute [local go_sem] min_ints max_ints

/-- Is a number a clock's? -/
def isB (n : Nat) (x : Int) : Bool := decide (1 ≤ x ∧ x ≤ n)
set_option maxHeartbeats 1000000 in
set_option maxRecDepth 100000 in
theorem is_any (n : Nat) (x : Int) (w : World) : Calls Tryd.prog 93 #[.agg #[.int .i64 n], .int .i64 x] w fun e w' => e = .returned (.bool (isB n x)) ∧ Below w.heap.size w w' := by
  have hb : ∀ o, Below w.heap.size w (w.alloc o) := fun o => (Below.refl _ w).alloc (Nat.le_refl _) o
  by_cases h1 : 1 ≤ x
  · by_cases h2 : x ≤ n
    · rw [show isB n x = true from decide_eq_true ⟨h1, h2⟩]
      have d1 : decide ((1 : Int) ≤ x) = true := decide_eq_true h1
      go_enter Tryd.func93, Tryd.ntmps93
      go_wp2
      go_ret
      exact ⟨by first | rfl | simp [*], hb _⟩
    · rw [show isB n x = false from decide_eq_false (by omega)]
      have d1 : decide ((1 : Int) ≤ x) = true := decide_eq_true h1
      go_enter Tryd.func93, Tryd.ntmps93
      go_wp2
      go_ret
      exact ⟨by first | rfl | simp [*], hb _⟩
  · rw [show isB n x = false from decide_eq_false (by omega)]
    have d1 : decide ((1 : Int) ≤ x) = false := decide_eq_false h1
    go_enter Tryd.func93, Tryd.ntmps93
    go_wp2
    go_ret
    exact ⟨by first | rfl | simp [*], hb _⟩

/-- The error of a clock that is to be set. -/
def setE (z : Option (Nat × Mat)) (c k : Int) : Int := match z with
  | none => 1
  | some (n, _) => if isB n c = true then (if 0 ≤ k ∧ k ≤ 1048576 then 0 else 13) else 12
set_option maxHeartbeats 1000000 in
set_option maxRecDepth 100000 in
theorem oset_any (v : Value) (z : Option (Nat × Mat)) (c k : Int) (w : World) (h : ZoneV 126 w v z) : Calls Tryd.prog 90 #[v, .int .i64 c, .int .i64 k] w fun e w' => e = .returned (.int .i64 (setE z c k)) ∧ Below w.heap.size w w' := by
  match z, h with
  | none, h =>
    have h : v = .pointer none := h
    subst h
    show Calls Tryd.prog 90 _ _ fun e w' => e = .returned (.int .i64 1) ∧ Below w.heap.size w w'
    go_enter Tryd.func90, Tryd.ntmps90
    go_wp2
    go_ret
    exact ⟨rfl, Below.refl _ _⟩
  | some (n, m), ⟨b, e, hn, hr, hm⟩ =>
    subst e
    have HD := Lib.hid (fun w hm => dim_zone b n m w hm)
    have HI := Lib.hid (fun w => is_any n c w)
    have HM := Lib.hid hm
    obtain ⟨i, hi⟩ : ∃ i, i = isB n c := ⟨_, rfl⟩
    rw [← hi] at HI
    have HE := Lib.hid (show setE (some (n, m)) c k = if i = true then (if 0 ≤ k ∧ k ≤ 1048576 then 0 else 13) else 12 by rw [hi]; rfl)
    obtain ⟨r, hr'⟩ : ∃ r, r = setE (some (n, m)) c k := ⟨_, rfl⟩
    rw [← hr'] at HE ⊢
    clear hi hr' hm hr
    go_enter Tryd.func90, Tryd.ntmps90
    go_wp2_with fail
    refine (HD.out _ HM.out).mono ?_
    rintro e w1 ⟨rfl, rfl⟩
    go_wp2_with fail
    refine (HI.out _).mono ?_
    rintro e w1 ⟨rfl, hb⟩
    have HB := Lib.hid hb
    clear hb
    cases i with
    | false =>
      have HR := Lib.hid (show r = 12 by rw [HE.out]; rfl)
      go_wp2
      go_ret
      exact ⟨by rw [HR.out]; rfl, HB.out⟩
    | true =>
      by_cases k0 : k < 0
      · have HR := Lib.hid (show r = 13 by rw [HE.out, if_pos rfl, if_neg (by omega)])
        have d1 : decide (k < 0) = true := decide_eq_true k0
        clear HE
        go_wp2
        go_ret
        exact ⟨by rw [HR.out]; rfl, HB.out⟩
      · have d1 : decide (k < 0) = false := decide_eq_false k0
        by_cases k1 : 1048576 < k
        · have HR := Lib.hid (show r = 13 by rw [HE.out, if_pos rfl, if_neg (by omega)])
          clear HE
          go_wp2
          go_ret
          exact ⟨by rw [HR.out]; rfl, HB.out⟩
        · have HR := Lib.hid (show r = 0 by rw [HE.out, if_pos rfl, if_pos (by omega)])
          clear HE
          go_wp2
          go_ret
          exact ⟨by rw [HR.out]; rfl, HB.out⟩

end Go.Proofs.YtidcnlecgcobmaaDoor

/- Reset. -/
namespace Go.Proofs.YtidcnlecgcobmaaDoor
open Go Go.RowKit
set_option linter.unusedVariables false
set_option linter.unusedSimpArgs false
attribute [local go_sem] min_ints max_ints

theorem rng_forget {n : Nat} {m : Mat} (h : Rng n m) (x : Nat) (hx : x < n + 1) : ∀ p, p ≤ n + 1 → Rng n (forgetUp x m p)
  | 0, _ => h
  | p + 1, hp => by
    have h1 := rng_forget h x hx p (by omega)
    unfold forgetUp
    split
    · exact h1
    · have h2 := rng_upd h1 x p 2147483647 (by decide) (by decide)
      exact rng_upd h2 p x _ (h2 p 0 (by omega) (by omega)).1 (h2 p 0 (by omega) (by omega)).2
/-- The cells when clock c is set to k. -/
def setW (m : Mat) (n c : Nat) (k : Int) : Mat := lessM (lessM (forgetUp c m (n + 1)) c 0 (2 * k + 1)) 0 c (-2 * k + 1)
theorem rng_set {n : Nat} {m : Mat} (h : Rng n m) (c : Nat) (hc : c < n + 1) (k : Int) (k0 : 0 ≤ k) (k1 : k ≤ 1048576) : Rng n (setW m n c k) :=
  rng_less (rng_less (rng_forget h c hc _ (Nat.le_refl _)) c 0 hc (by omega) _ (by omega) (by omega)) 0 c (by omega) hc _ (by omega) (by omega)
def resetW (z : Option (Nat × Mat)) (c : Nat) (k : Int) : Mat := if emptyP z then openW z else setW (openW z) (dimN z) c k

set_option maxHeartbeats 1000000 in
set_option maxRecDepth 100000 in
theorem reset_wrong (v : Value) (z : Option (Nat × Mat)) (c k : Int) (w : World) (h : ZoneV 126 w v z) (he : setE z c k ≠ 0) :
    Calls Tryd.prog 41 #[v, .int .i64 c, .int .i64 k] w fun e w' => e = .returned (.tuple #[.pointer none, .int .i64 (setE z c k)]) ∧ Below w.heap.size w w' := by
  have HS := Lib.hid (fun w h => oset_any v z c k w h)
  have HZ := Lib.hid h
  obtain ⟨r, hr⟩ : ∃ r, r = setE z c k := ⟨_, rfl⟩
  rw [← hr] at HS he ⊢
  have t1 : (r != 0) = true := by simp [he]
  clear hr he h
  go_enter Tryd.func41, Tryd.ntmps41
  go_wp2_with fail
  refine (HS.out _ HZ.out).mono ?_
  rintro e w1 ⟨rfl, hb⟩
  have HB := Lib.hid hb
  clear hb
  go_wp2
  go_ret2
  exact ⟨rfl, HB.out⟩

set_option maxHeartbeats 1000000 in
set_option maxRecDepth 100000 in
theorem reset_right (v : Value) (n : Nat) (m : Mat) (c : Nat) (k : Int) (w : World) (h : ZoneV 126 w v (some (n, m))) (hc : 1 ≤ c ∧ c ≤ n) (hk : 0 ≤ k ∧ k ≤ 1048576) :
    Calls Tryd.prog 41 #[v, .int .i64 c, .int .i64 k] w (MakesZ w n (ofP n (flat n (resetW (some (n, m)) c k)))) := by
  have hz : setE (some (n, m)) c k = 0 := by
    show (if isB n c = true then (if 0 ≤ k ∧ k ≤ 1048576 then (0 : Int) else 13) else 12) = 0
    rw [if_pos (show isB n c = true from decide_eq_true (by omega)), if_pos hk]
  have HS := Lib.hid (fun w h => oset_any v (some (n, m)) c k w h)
  rw [hz] at HS
  have HZ := Lib.hid h
  obtain ⟨b, rfl, hn, hr, hm⟩ := h
  have hl : (cellsP (some (n, m))).length ≤ 81 := cellsP_short _ fun k m' e => by simp at e; omega
  have HO := Lib.hid (fun w h => oopen_any (.pointer (some ⟨b, 0, none⟩)) (some (n, m)) w h hn hl)
  have HM := Lib.hid hm
  have HRG := Lib.hid (rng_open hr)
  have HSH := Lib.hid (fun c m' w h hk => shut_any c n m' w hn h hk)
  have g1 : IntKind.i64.wrap (2 * k) = 2 * k := IntWalk.i64_in _ (by omega)
  have g2 : IntKind.i64.wrap (2 * k + 1) = 2 * k + 1 := IntWalk.i64_in _ (by omega)
  have g3 : IntKind.i64.wrap (-2 * k) = -2 * k := IntWalk.i64_in _ (by omega)
  have g4 : IntKind.i64.wrap (-2 * k + 1) = -2 * k + 1 := IntWalk.i64_in _ (by omega)
  have g5 : IntKind.i32.wrap (2 * k + 1) = 2 * k + 1 := by rw [IntKind.wrap_i32]; omega
  have g6 : IntKind.i32.wrap (-2 * k + 1) = -2 * k + 1 := by rw [IntKind.wrap_i32]; omega
  clear hm hl hr hz
  go_enter Tryd.func41, Tryd.ntmps41
  go_wp2_with fail
  refine (HS.out _ HZ.out).mono ?_
  rintro e w0 ⟨rfl, hb⟩
  have HB0 := Lib.hid hb
  have HM0 := Lib.hid (HM.out.later hb)
  have HZ0 := Lib.hid (HZ.out.below hb)
  clear hb HM HZ
  go_wp2_with fail
  refine (HO.out _ HZ0.out).mono ?_
  rintro e w1 ⟨rfl, hb, hw⟩
  have HB1 := Lib.hid (HB0.out.trans (hb.mono HB0.out.size))
  have HW1 := Lib.hid (show MatAt w1 w0.heap.size 103 .i32 n (openW (some (n, m))) from hw)
  have HM1 := Lib.hid (HM0.out.later hb)
  have HW0 := Lib.hid HB0.out.size
  clear hb hw HM0 HZ0 HO
  go_wp2_with fail
  refine (oempty_any b n m _ HM1.out).mono ?_
  cases he : emptyP (some (n, m)) with
  | true =>
    have HEQ := Lib.hid (show resetW (some (n, m)) c k = openW (some (n, m)) by unfold resetW; rw [if_pos he])
    rintro e w2 ⟨rfl, rfl⟩
    go_wp2_with fail
    refine (HSH.out _ _ _ HW1.out HRG.out).mono ?_
    rintro e w2 hz
    have HZ2 := Lib.hid hz
    obtain ⟨hb, v, rfl, hv⟩ := hz
    have HB2 := Lib.hid (HB1.out.trans (hb.mono HB1.out.size))
    clear hb hv
    go_wp2
    go_ret2
    rw [HEQ.out]
    exact ⟨HB2.out, HZ2.out.2⟩
  | false =>
    have HEQ := Lib.hid (show resetW (some (n, m)) c k = setW (openW (some (n, m))) n c k by unfold resetW; rw [if_neg (by simp [he])]; rfl)
    rintro e w2 ⟨rfl, rfl⟩
    obtain ⟨M, hM⟩ : ∃ M, M = openW (some (n, m)) := ⟨_, rfl⟩
    rw [← hM] at HEQ HW1 HRG
    clear hM he HM1
    go_wp2_with fail
    refine (forget_any _ n c M _ hn hc.2 HW1.out).mono ?_
    rintro e w3 ⟨rfl, ho, hm3⟩
    have HO3 := Lib.hid ho
    have HW3 := Lib.hid hm3
    clear ho hm3
    go_wp2_with fail
    refine (less_any _ c 0 n _ (2 * k + 1) _ (by omega) (by omega) HW3.out).mono ?_
    rintro e w4 ⟨rfl, ho, hm4⟩
    have HO4 := Lib.hid (HO3.out.trans ho)
    have HW4 := Lib.hid hm4
    clear ho hm4
    go_wp2_with fail
    refine (less_any _ 0 c n _ (-2 * k + 1) _ (by omega) (by omega) HW4.out).mono ?_
    rintro e w5 ⟨rfl, ho, hm5⟩
    have HW5 := Lib.hid (show MatAt w5 w0.heap.size 103 .i32 n (setW M n c k) from hm5)
    have HB5 := Lib.hid (HB1.out.trans ((HO4.out.trans ho).below HW0.out HB1.out.size))
    clear ho hm5
    go_wp2_with fail
    refine (HSH.out _ _ _ HW5.out (rng_set HRG.out c (by omega) k hk.1 hk.2)).mono ?_
    rintro e w2 hz
    have HZ2 := Lib.hid hz
    obtain ⟨hb, v, rfl, hv⟩ := hz
    have HB6 := Lib.hid (HB5.out.trans (hb.mono HB5.out.size))
    clear hb hv
    go_wp2
    go_ret2
    rw [HEQ.out]
    exact ⟨HB6.out, HZ2.out.2⟩

end Go.Proofs.YtidcnlecgcobmaaDoor

/- Is a number a clock's, or 0? -/
namespace Go.Proofs.YtidcnlecgcobmaaDoor
open Go Go.RowKit
set_option linter.unusedVariables false
set_option linter.unusedSimpArgs false
attribute [local go_sem] min_ints max_ints

def anyB (n : Nat) (x : Int) : Bool := decide (0 ≤ x ∧ x ≤ n)
set_option maxHeartbeats 1000000 in
set_option maxRecDepth 100000 in
theorem isany_any (n : Nat) (x : Int) (w : World) : Calls Tryd.prog 60 #[.agg #[.int .i64 n], .int .i64 x] w fun e w' => e = .returned (.bool (anyB n x)) ∧ Below w.heap.size w w' := by
  have HB := Lib.hid (fun o => (Below.refl _ w).alloc (Nat.le_refl w.heap.size) o)
  have HI := Lib.hid (fun w => is_any n x w)
  by_cases h0 : x = 0
  · subst h0
    rw [show anyB n 0 = true from decide_eq_true (by omega)]
    clear HI
    go_enter Tryd.func60, Tryd.ntmps60
    go_wp2
    go_ret
    exact ⟨rfl, HB.out _⟩
  · have t0 : (x == 0) = false := by simp [h0]
    rw [show isB n x = anyB n x by unfold isB anyB; congr 1; simp; omega] at HI
    obtain ⟨r, hr⟩ : ∃ r, r = anyB n x := ⟨_, rfl⟩
    rw [← hr] at HI ⊢
    clear hr h0
    go_enter Tryd.func60, Tryd.ntmps60
    go_wp2_with fail
    refine (HI.out _).mono ?_
    rintro e w1 ⟨rfl, hb⟩
    have HB1 := Lib.hid ((HB.out _).trans (hb.mono (HB.out _).size))
    clear hb
    go_wp2
    go_ret
    exact ⟨rfl, HB1.out⟩

end Go.Proofs.YtidcnlecgcobmaaDoor

/- What of a zone keeps bounds. -/
namespace Go.Proofs.YtidcnlecgcobmaaDoor
open Go Go.RowKit
set_option linter.unusedVariables false
set_option linter.unusedSimpArgs false
attribute [local go_sem] min_ints max_ints

/-- Are a limit's numbers clocks', or 0? -/
def clkB (n : Nat) (x : Int × Int × Int) : Bool := anyB n x.1 && anyB n x.2.1
/-- Is its bound right? -/
def bdB (x : Int × Int × Int) : Bool := rightB x.2.2
/-- The error of limits. -/
def conE (n : Nat) (l : List (Int × Int × Int)) : Int := if l.all (clkB n) = true then (if l.all bdB = true then 0 else 2) else 12
/-- Cells, made stricter by the first p limits. -/
def conUp (M : Mat) (l : List (Int × Int × Int)) : Nat → Mat
  | 0 => M
  | p + 1 => lessM (conUp M l p) (l.getD p (0, 0, 0)).1.toNat (l.getD p (0, 0, 0)).2.1.toNat (l.getD p (0, 0, 0)).2.2
/-- What Constrain answers of a zone. -/
def conP (n : Nat) (M : Mat) (l : List (Int × Int × Int)) : Option Mat × Int := if conE n l = 0 then ofP n (flat n (conUp M l l.length)) else (none, conE n l)

theorem rng_con {n : Nat} {M : Mat} {l : List (Int × Int × Int)} (h : Rng n M) (hc : l.all (clkB n) = true) (hb : l.all bdB = true) : ∀ p, p ≤ l.length → Rng n (conUp M l p)
  | 0, _ => h
  | p + 1, hp => by
    have h1 := rng_con h hc hb p (by omega)
    have a := (all_getD l (clkB n) (0, 0, 0)).1 hc p (by omega)
    have b := (all_getD l bdB (0, 0, 0)).1 hb p (by omega)
    unfold clkB anyB at a
    unfold bdB rightB at b
    simp only [Bool.and_eq_true, decide_eq_true_eq] at a b
    exact rng_less h1 _ _ (by omega) (by omega) _ (by omega) (by omega)

/-- The cells lie in the first new block. -/
def KW (w0 : World) (n : Nat) (M : Mat) (wr : World) : Prop := Below w0.heap.size w0 wr ∧ MatAt wr w0.heap.size 103 .i32 n M
theorem KW.step {w0 wr w' : World} {n : Nat} {M : Mat} (h : KW w0 n M wr) (hb : Below wr.heap.size wr w') : KW w0 n M w' := ⟨h.1.trans (hb.mono h.1.size), h.2.later hb⟩
theorem KW.alloc {w0 wr : World} {n : Nat} {M : Mat} (h : KW w0 n M wr) (o : Obj) : KW w0 n M (wr.alloc o) := h.step ((Below.refl _ _).alloc (Nat.le_refl _) o)
theorem KW.drew {w0 wr : World} {n : Nat} {M : Mat} (h : KW w0 n M wr) : KW w0 n M wr.drew := ⟨Below.drew h.1, h.2.drew⟩
theorem KW.only {w0 wr w' : World} {n : Nat} {M M' : Mat} (h : KW w0 n M wr) (ho : Only w0.heap.size wr w') (hm : MatAt w' w0.heap.size 103 .i32 n M') : KW w0 n M' w' :=
  ⟨h.1.trans (ho.below (Nat.le_refl _) h.1.size), hm⟩
/-- What the region that asks of two numbers reads. -/
def AsksR (w0 : World) (n : Nat) (M : Mat) (b : Nat) (x y : Int) (w : World) : Prop :=
  w.cell? ⟨w0.heap.size, 0, none⟩ = some (.int .i64 n) ∧ w.cell? ⟨b, 0, none⟩ = some (.int .i64 x) ∧ w.cell? ⟨b, 1, none⟩ = some (.int .i64 y) ∧ KW w0 n M w
theorem AsksR.step {w0 w w' : World} {n : Nat} {M : Mat} {b : Nat} {x y : Int} (h : AsksR w0 n M b x y w) (hb : Below w.heap.size w w') : AsksR w0 n M b x y w' := by
  obtain ⟨h1, h2, h3, h4⟩ := h
  exact ⟨(hb.cell (p := ⟨_, 0, none⟩) (World.block_lt_of_cell? w _ h1)).trans h1, (hb.cell (p := ⟨b, 0, none⟩) (World.block_lt_of_cell? w _ h2)).trans h2, (hb.cell (p := ⟨b, 1, none⟩) (World.block_lt_of_cell? w _ h3)).trans h3, h4.step hb⟩

set_option maxHeartbeats 2000000 in
set_option maxRecDepth 100000 in
theorem constrain_zone (v : Value) (n : Nat) (m : Mat) (A : Option Addr) (c : Nat) (l : List (Int × Int × Int)) (w : World) (h : ZoneV 126 w v (some (n, m))) (hI : Lims w A l) (hmax : l.length ≤ 4611686018427387904)
    (hk : ∀ q, q < l.length → -2147483648 ≤ (l.getD q (0, 0, 0)).2.2 ∧ (l.getD q (0, 0, 0)).2.2 ≤ 2147483647) :
    Calls Tryd.prog 15 #[v, .slice A l.length c] w (MakesZ w n (conP n (openW (some (n, m))) l)) := by
  have HI := Lib.hid hI
  have HK := Lib.hid hk
  have HZ := Lib.hid h
  obtain ⟨b, rfl, hn, hr, hm⟩ := h
  have hl : (cellsP (some (n, m))).length ≤ 81 := cellsP_short _ fun k m' e => by simp at e; omega
  have HO := Lib.hid (fun w h => oopen_any (.pointer (some ⟨b, 0, none⟩)) (some (n, m)) w h hn hl)
  have HRG := Lib.hid (rng_open hr)
  have HSH := Lib.hid (fun c m' w h hk => shut_any c n m' w hn h hk)
  clear hm hl hr hI hk
  go_enter Tryd.func15, Tryd.ntmps15
  go_wp2_with fail
  refine (HO.out _ HZ.out).mono ?_
  obtain ⟨M, hM⟩ : ∃ M, M = openW (some (n, m)) := ⟨_, rfl⟩
  rintro e w1 ⟨rfl, hb, hw⟩
  have HK1 := Lib.hid (show KW w n M w1 from ⟨hb, by rw [hM]; exact hw⟩)
  rw [← hM] at HRG
  have HMM := Lib.hid hM
  clear hb hw HO HZ hM
  go_wp2
  go_loopg [19] l.length (fun g v wr => ∃ p : Nat, v = .int .i64 p ∧ Hid (KW w n M wr) ∧ Hid (p ≤ l.length ∧ g + p = l.length ∧ ∀ q, q < p → clkB n (l.getD q (0, 0, 0)) = true))
  case atStart => exact ⟨0, by simp, HK1.out, by omega, by omega, fun q h => by omega⟩
  case round =>
    clear HK1
    obtain ⟨p, rfl, HR, HG⟩ := hrel
    by_cases hp : p < l.length
    · obtain ⟨b, off, rfl, c1, c2, c3⟩ := HI.out.below HR.out.1 p hp
      obtain ⟨x, hx⟩ : ∃ x, x = l.getD p (0, 0, 0) := ⟨_, rfl⟩
      rw [← hx] at c1 c2 c3
      have HX := Lib.hid hx
      clear hx
      obtain ⟨xi, xj, xb⟩ := x
      simp only at c1 c2 c3
      have hne : (l.all (clkB n) = true) → clkB n (xi, xj, xb) = true := fun ha => by rw [HX.out]; exact (all_getD l (clkB n) (0, 0, 0)).1 ha p hp
      have HNE := Lib.hid hne
      have hbw := HR.out.2.lt
      have HA0 := Lib.hid (fun o (ho : o = Obj.cells #[.int .i64 xi, .int .i64 xj, .int .i32 xb] 68 (0, 0)) => show AsksR w n M wr.heap.size xi xj ((wr.alloc o).drew) from by
        have h1 := heap_alloc_new wr o
        subst ho
        exact ⟨((HR.out.alloc _).2.head), show (wr.alloc _).cell? _ = _ by unfold World.cell?; rw [h1]; rfl, show (wr.alloc _).cell? _ = _ by unfold World.cell?; rw [h1]; rfl, (HR.out.alloc _).drew⟩)
      clear hne
      have HAN := Lib.hid (fun x r (hr : anyB n x = r) w => hr ▸ isany_any n x w)
      have hbad : clkB n (xi, xj, xb) = false → conP n M l = (none, 12) := fun hf => by
        have : l.all (clkB n) = false := by
          rw [Bool.eq_false_iff]
          intro ha
          rw [HNE.out ha] at hf
          cases hf
        unfold conP conE
        rw [if_neg (by simp [this]), this]
        rfl
      have HBAD := Lib.hid hbad
      clear hbad
      by_cases r1 : anyB n xi = true
      · by_cases r2 : anyB n xj = true
        · have HOK := Lib.hid (show clkB n (xi, xj, xb) = true by unfold clkB; rw [r1, r2]; rfl)
          have R1 := Lib.hid r1
          have R2 := Lib.hid r2
          clear r1 r2
          go_wp2_with fail
          have k := HA0.out _ rfl
          go_region_held3 (fun w' => w'.cell? ⟨w.heap.size, 0, none⟩ = some (.int .i64 n) ∧ w'.cell? ⟨wr.heap.size, 0, none⟩ = some (.int .i64 xi) ∧ w'.cell? ⟨wr.heap.size, 1, none⟩ = some (.int .i64 xj) ∧ KW w n M w') (first | exact k | go_keep)
            (first | (go_at_call 60; refine (HAN.out _ _ (by first | exact R1.out | exact R2.out) _).mono ?_; rintro e w3 ⟨rfl, hb⟩; have k := AsksR.step (by assumption) hb; clear hb))
          have HF := Lib.hid k.2.2.2
          clear k
          go_wp2
          go_roundg (gk - 1)
          case measure => have h := HG.out; omega
          case rel =>
            refine ⟨p + 1, by go_num, HF.out, by omega, by have h := HG.out; omega, fun q hq => ?_⟩
            by_cases e : q = p
            · subst e; rw [← HX.out]; exact HOK.out
            · exact HG.out.2.2 q (by omega)
        · have hE := HBAD.out (by unfold clkB; rw [Bool.eq_false_iff.2 r2, Bool.and_false])
          have HE := Lib.hid hE
          have R1 := Lib.hid r1
          have R2 := Lib.hid (Bool.eq_false_iff.2 r2)
          clear r1 r2 hE
          go_wp2_with fail
          have k := HA0.out _ rfl
          go_region_held3 (fun w' => w'.cell? ⟨w.heap.size, 0, none⟩ = some (.int .i64 n) ∧ w'.cell? ⟨wr.heap.size, 0, none⟩ = some (.int .i64 xi) ∧ w'.cell? ⟨wr.heap.size, 1, none⟩ = some (.int .i64 xj) ∧ KW w n M w') (first | exact k | go_keep)
            (first | (go_at_call 60; refine (HAN.out _ _ (by first | exact R1.out | exact R2.out) _).mono ?_; rintro e w3 ⟨rfl, hb⟩; have k := AsksR.step (by assumption) hb; clear hb))
          have HF := Lib.hid k.2.2.2
          clear k
          go_wp2
          go_ret2
          rw [← HMM.out, HE.out]
          exact ⟨HF.out.1, .pointer none, rfl, rfl⟩
      · have hE := HBAD.out (by unfold clkB; rw [Bool.eq_false_iff.2 r1, Bool.false_and])
        have HE := Lib.hid hE
        have R1 := Lib.hid (Bool.eq_false_iff.2 r1)
        clear r1 hE
        go_wp2_with fail
        have k := HA0.out _ rfl
        refine wp_region_held_drew (S := fun w' => w'.cell? ⟨w.heap.size, 0, none⟩ = some (.int .i64 n) ∧ w'.cell? ⟨wr.heap.size, 0, none⟩ = some (.int .i64 xi) ∧ w'.cell? ⟨wr.heap.size, 1, none⟩ = some (.int .i64 xj) ∧ KW w n M w') (by kernel_rfl) k (fun hHeld => ?_)
        refine wpAnyH_take (i := 0) (v := ?_) rfl (by kernel_rfl) (by kernel_rfl) (by kernel_rfl) (fun _ _ _ h => h) (Or.inl ⟨by rfl, ?_⟩) (by assumption) ?_
        case refine_2 => intro w hSw; (try dsimp only at hSw); go_simp; with_reducible rfl
        try simp only [Act.put, List.getElem_toArray, List.getElem_cons_succ, List.getElem_cons_zero, List.setIfInBounds_toArray, List.set_cons_zero, List.set_cons_succ]
        refine wpAnyH_take (i := 1) (v := ?_) rfl (by kernel_rfl) (by kernel_rfl) (by kernel_rfl) (fun _ _ _ h => h) (Or.inl ⟨by rfl, ?_⟩) (by assumption) ?_
        case refine_2 => intro w hSw; (try dsimp only at hSw); go_simp; with_reducible rfl
        try simp only [Act.put, List.getElem_toArray, List.getElem_cons_succ, List.getElem_cons_zero, List.setIfInBounds_toArray, List.set_cons_zero, List.set_cons_succ]
        refine wpAnyH_take (i := 2) (v := ?_) rfl (by kernel_rfl) (by kernel_rfl) (by kernel_rfl) (fun _ _ _ h => h) (Or.inl ⟨by rfl, ?_⟩) (by assumption) ?_
        case refine_2 => intro w hSw; (try dsimp only at hSw); go_simp; with_reducible rfl
        try simp only [Act.put, List.getElem_toArray, List.getElem_cons_succ, List.getElem_cons_zero, List.setIfInBounds_toArray, List.set_cons_zero, List.set_cons_succ]
        refine wpAnyH_take (i := 3) (v := ?_) rfl (by kernel_rfl) (by kernel_rfl) (by kernel_rfl) (fun _ _ _ h => h) (Or.inl ⟨by rfl, ?_⟩) (by assumption) ?_
        case refine_2 => intro w hSw; (try dsimp only at hSw); go_simp; with_reducible rfl
        try simp only [Act.put, List.getElem_toArray, List.getElem_cons_succ, List.getElem_cons_zero, List.setIfInBounds_toArray, List.set_cons_zero, List.set_cons_succ]
        refine wpAnyH_take (i := 4) (v := ?_) rfl (by kernel_rfl) (by kernel_rfl) (by kernel_rfl) (fun _ _ _ h => h) (Or.inl ⟨by rfl, ?_⟩) (by assumption) ?_
        case refine_2 => intro w hSw; (try dsimp only at hSw); go_simp; with_reducible rfl
        try simp only [Act.put, List.getElem_toArray, List.getElem_cons_succ, List.getElem_cons_zero, List.setIfInBounds_toArray, List.set_cons_zero, List.set_cons_succ]
        refine wpAnyH_take (i := 5) (v := ?_) rfl (by kernel_rfl) (by kernel_rfl) (by kernel_rfl) (fun _ _ _ h => h) (Or.inl ⟨by rfl, ?_⟩) (by assumption) ?_
        case refine_2 => intro w hSw; (try dsimp only at hSw); go_simp; with_reducible rfl
        try simp only [Act.put, List.getElem_toArray, List.getElem_cons_succ, List.getElem_cons_zero, List.setIfInBounds_toArray, List.set_cons_zero, List.set_cons_succ]
        refine wpAnyH_ready (rs := [6]) (by kernel_rfl) (by simp) ?_
        refine AllReadyH.cons rfl (fun K hK => ?_) AllReadyH.nil
        go_simp
        refine (HAN.out _ _ (by exact R1.out) _).mono ?_
        rintro e w3 ⟨rfl, hb⟩
        have k3 := AsksR.step k hb
        refine hK.out _ _ k3 (fun hHeld3 => ?_)
        clear hK K hHeld hb
        try simp only [Act.put, List.getElem_toArray, List.getElem_cons_succ, List.getElem_cons_zero, List.setIfInBounds_toArray, List.set_cons_zero, List.set_cons_succ]
        refine wpAnyH_take (i := 7) (v := ?_) rfl (by kernel_rfl) (by kernel_rfl) (by kernel_rfl) (fun _ _ _ h => h) (Or.inl ⟨by rfl, ?_⟩) (by assumption) ?_
        case refine_2 => intro w hSw; (try dsimp only at hSw); go_simp; with_reducible rfl
        try simp only [Act.put, List.getElem_toArray, List.getElem_cons_succ, List.getElem_cons_zero, List.setIfInBounds_toArray, List.set_cons_zero, List.set_cons_succ]
        refine wpAnyH_take (i := 8) (v := ?_) rfl (by kernel_rfl) (by kernel_rfl) (by kernel_rfl) (fun _ _ _ h => h) (Or.inl ⟨by rfl, ?_⟩) (by assumption) ?_
        case refine_2 => intro w hSw; (try dsimp only at hSw); go_simp; with_reducible rfl
        try simp only [Act.put, List.getElem_toArray, List.getElem_cons_succ, List.getElem_cons_zero, List.setIfInBounds_toArray, List.set_cons_zero, List.set_cons_succ]
        refine wpAnyH_take (i := 9) (v := undef) rfl (by kernel_rfl) (by kernel_rfl) (by kernel_rfl) (fun _ _ _ h => h) (Or.inr ⟨by rfl, rfl⟩) (by assumption) ?_
        try simp only [Act.put, List.getElem_toArray, List.getElem_cons_succ, List.getElem_cons_zero, List.setIfInBounds_toArray, List.set_cons_zero, List.set_cons_succ]
        refine wpAnyH_take (i := 10) (v := undef) rfl (by kernel_rfl) (by kernel_rfl) (by kernel_rfl) (fun _ _ _ h => h) (Or.inr ⟨by rfl, rfl⟩) (by assumption) ?_
        try simp only [Act.put, List.getElem_toArray, List.getElem_cons_succ, List.getElem_cons_zero, List.setIfInBounds_toArray, List.set_cons_zero, List.set_cons_succ]
        refine wpAnyH_take (i := 11) (v := undef) rfl (by kernel_rfl) (by kernel_rfl) (by kernel_rfl) (fun _ _ _ h => h) (Or.inr ⟨by rfl, rfl⟩) (by assumption) ?_
        try simp only [Act.put, List.getElem_toArray, List.getElem_cons_succ, List.getElem_cons_zero, List.setIfInBounds_toArray, List.set_cons_zero, List.set_cons_succ]
        refine wpAnyH_take (i := 12) (v := undef) rfl (by kernel_rfl) (by kernel_rfl) (by kernel_rfl) (fun _ _ _ h => h) (Or.inr ⟨by rfl, rfl⟩) (by assumption) ?_
        try simp only [Act.put, List.getElem_toArray, List.getElem_cons_succ, List.getElem_cons_zero, List.setIfInBounds_toArray, List.set_cons_zero, List.set_cons_succ]
        refine wpAnyH_take (i := 13) (v := undef) rfl (by kernel_rfl) (by kernel_rfl) (by kernel_rfl) (fun _ _ _ h => h) (Or.inr ⟨by rfl, rfl⟩) (by assumption) ?_
        try simp only [Act.put, List.getElem_toArray, List.getElem_cons_succ, List.getElem_cons_zero, List.setIfInBounds_toArray, List.set_cons_zero, List.set_cons_succ]
        refine wpAnyH_take (i := 14) (v := undef) rfl (by kernel_rfl) (by kernel_rfl) (by kernel_rfl) (fun _ _ _ h => h) (Or.inr ⟨by rfl, rfl⟩) (by assumption) ?_
        try simp only [Act.put, List.getElem_toArray, List.getElem_cons_succ, List.getElem_cons_zero, List.setIfInBounds_toArray, List.set_cons_zero, List.set_cons_succ]
        refine wpAnyH_take (i := 15) (v := undef) rfl (by kernel_rfl) (by kernel_rfl) (by kernel_rfl) (fun _ _ _ h => h) (Or.inr ⟨by rfl, rfl⟩) (by assumption) ?_
        try simp only [Act.put, List.getElem_toArray, List.getElem_cons_succ, List.getElem_cons_zero, List.setIfInBounds_toArray, List.set_cons_zero, List.set_cons_succ]
        refine wpAnyH_take (i := 16) (v := undef) rfl (by kernel_rfl) (by kernel_rfl) (by kernel_rfl) (fun _ _ _ h => h) (Or.inr ⟨by rfl, rfl⟩) (by assumption) ?_
        try simp only [Act.put, List.getElem_toArray, List.getElem_cons_succ, List.getElem_cons_zero, List.setIfInBounds_toArray, List.set_cons_zero, List.set_cons_succ]
        refine wpAnyH_take (i := 17) (v := ?_) rfl (by kernel_rfl) (by kernel_rfl) (by kernel_rfl) (fun _ _ _ h => h) (Or.inl ⟨by rfl, ?_⟩) (by assumption) ?_
        case refine_2 => intro w hSw; (try dsimp only at hSw); go_simp; with_reducible rfl
        try simp only [Act.put, List.getElem_toArray, List.getElem_cons_succ, List.getElem_cons_zero, List.setIfInBounds_toArray, List.set_cons_zero, List.set_cons_succ]
        refine wpAnyH_done (by kernel_rfl) ?_ _
        have HF := Lib.hid k3.2.2.2
        clear k k3 hHeld3
        go_wp2
        go_ret2
        rw [← HMM.out, HE.out]
        exact ⟨HF.out.1, .pointer none, rfl, rfl⟩
    · have e : p = l.length := by have := HG.out.1; omega
      subst e
      have hall : l.all (clkB n) = true := (all_getD l (clkB n) (0, 0, 0)).2 HG.out.2.2
      have HALL := Lib.hid hall
      have HR0 := Lib.hid HR.out
      clear hall HG HR
      go_wp2
      go_loopg [44] l.length (fun g v wr => ∃ p : Nat, v = .int .i64 p ∧ Hid (KW w n M wr) ∧ Hid (p ≤ l.length ∧ g + p = l.length ∧ ∀ q, q < p → bdB (l.getD q (0, 0, 0)) = true))
      case atStart => exact ⟨0, by simp, HR0.out, by omega, by omega, fun q h => by omega⟩
      case round =>
        clear HR0
        obtain ⟨p, rfl, HR, HG⟩ := hrel
        by_cases hp : p < l.length
        · obtain ⟨b, off, rfl, c1, c2, c3⟩ := HI.out.below HR.out.1 p hp
          obtain ⟨x, hx⟩ : ∃ x, x = l.getD p (0, 0, 0) := ⟨_, rfl⟩
          rw [← hx] at c1 c2 c3
          have HX := Lib.hid hx
          clear hx
          obtain ⟨xi, xj, xb⟩ := x
          simp only at c1 c2 c3
          have HRA := Lib.hid (HR.out.alloc (.cells #[.int .i64 xi, .int .i64 xj, .int .i32 xb] 68))
          by_cases r1 : rightB xb = true
          · have R1 := Lib.hid r1
            clear r1
            go_wp2_with fail
            refine (right_yes _ _ R1.out).mono ?_
            rintro e w' ⟨rfl, rfl⟩
            go_wp2
            go_roundg (gk - 1)
            case measure => have h := HG.out; omega
            case rel =>
              refine ⟨p + 1, by go_num, HRA.out, by omega, by have h := HG.out; omega, fun q hq => ?_⟩
              by_cases e : q = p
              · subst e; rw [← HX.out]; exact R1.out
              · exact HG.out.2.2 q (by omega)
          · have R1 := Lib.hid (Bool.eq_false_iff.2 r1)
            have hE : conP n M l = (none, 2) := by
              have h1 : l.all bdB = false := by
                rw [Bool.eq_false_iff]
                intro ha
                have := (all_getD l bdB (0, 0, 0)).1 ha p hp
                rw [← HX.out] at this
                exact r1 this
              unfold conP conE
              rw [HALL.out, h1]
              rfl
            have HE := Lib.hid hE
            clear r1 hE
            go_wp2_with fail
            refine (right_no _ _ R1.out).mono ?_
            rintro e w' ⟨rfl, rfl⟩
            go_wp2
            go_ret2
            rw [← HMM.out, HE.out]
            exact ⟨HRA.out.1, .pointer none, rfl, rfl⟩
        · have e : p = l.length := by have := HG.out.1; omega
          subst e
          have hall : l.all bdB = true := (all_getD l bdB (0, 0, 0)).2 HG.out.2.2
          have HALB := Lib.hid hall
          have HR0 := Lib.hid HR.out
          have HE := Lib.hid (show conP n M l = ofP n (flat n (conUp M l l.length)) by unfold conP conE; rw [HALL.out, hall]; rfl)
          clear hall HG HR
          go_wp2
          go_loopg [55] l.length (fun g v wr => ∃ p : Nat, v = .int .i64 p ∧ Hid (KW w n (conUp M l p) wr) ∧ Hid (p ≤ l.length ∧ g + p = l.length))
          case atStart => exact ⟨0, by simp, HR0.out, by omega, by omega⟩
          case round =>
            clear HR0
            obtain ⟨p, rfl, HR, HG⟩ := hrel
            by_cases hp : p < l.length
            · obtain ⟨b, off, rfl, c1, c2, c3⟩ := HI.out.below HR.out.1 p hp
              have hcl := (all_getD l (clkB n) (0, 0, 0)).1 HALL.out p hp
              have HUP := Lib.hid (show conUp M l (p + 1) = lessM (conUp M l p) (l.getD p (0, 0, 0)).1.toNat (l.getD p (0, 0, 0)).2.1.toNat (l.getD p (0, 0, 0)).2.2 from rfl)
              obtain ⟨x, hx⟩ : ∃ x, x = l.getD p (0, 0, 0) := ⟨_, rfl⟩
              rw [← hx] at c1 c2 c3 hcl HUP
              clear hx
              obtain ⟨xi, xj, xb⟩ := x
              simp only at c1 c2 c3 HUP
              have hcl2 : (0 ≤ xi ∧ xi ≤ n) ∧ (0 ≤ xj ∧ xj ≤ n) := by
                unfold clkB anyB at hcl
                simp only [Bool.and_eq_true, decide_eq_true_eq] at hcl
                exact hcl
              obtain ⟨a, rfl⟩ : ∃ a : Nat, xi = a := ⟨xi.toNat, by omega⟩
              obtain ⟨d, rfl⟩ : ∃ d : Nat, xj = d := ⟨xj.toNat, by omega⟩
              rw [Int.toNat_natCast, Int.toNat_natCast] at HUP
              have HRA := Lib.hid (HR.out.alloc (.cells #[.int .i64 (a : Int), .int .i64 (d : Int), .int .i32 xb] 68))
              have ha9 : a < 9 := by omega
              have hd9 : d < 9 := by omega
              clear hcl hcl2
              go_wp2_with fail
              refine (less_any _ a d n _ xb _ ha9 hd9 (by exact HRA.out.2)).mono ?_
              rintro e w3 ⟨rfl, ho, hm⟩
              have HN := Lib.hid (HRA.out.only ho hm)
              rw [← HUP.out] at HN
              clear ho hm
              go_wp2
              go_roundg (gk - 1)
              case measure => have h := HG.out; omega
              case rel => exact ⟨p + 1, by go_num, HN.out, by omega, by have h := HG.out; omega⟩
            · have e : p = l.length := by have := HG.out.1; omega
              subst e
              go_wp2_with fail
              refine (HSH.out _ _ _ HR.out.2 (rng_con HRG.out HALL.out HALB.out _ (Nat.le_refl _))).mono ?_
              rintro e w2 hz
              have HZ2 := Lib.hid hz
              obtain ⟨hb, v, rfl, hv⟩ := hz
              have HB3 := Lib.hid (HR.out.1.trans (hb.mono HR.out.1.size))
              clear hb hv
              go_wp2
              go_ret2
              rw [← HMM.out, HE.out]
              exact ⟨HB3.out, HZ2.out.2⟩

end Go.Proofs.YtidcnlecgcobmaaDoor

/- Sums of bounds in any order: plain. -/
namespace Go.Proofs.YtidcnlecgcobmaaDoor
open Go Go.RowKit
set_option linter.unusedVariables false
set_option linter.unusedSimpArgs false

theorem inf_right : rightB 2147483647 = true := by decide +kernel
theorem fin_some {a : Int} (h : rightB a = true) (h' : a ≠ 2147483647) : someB a = true := by simp [someB, h, h']
theorem sum_bad {l : List Int} (h : ¬ l.all rightB = true) : sumP l = (0, 7) := by unfold sumP; rw [if_neg h]
theorem sum_two {a b : Int} (ha : rightB a = true) (hb : rightB b = true) (ha' : a ≠ 2147483647) (hb' : b ≠ 2147483647) :
    sumP [a, b] = ofB (a / 2 + b / 2) (decide (a % 2 = 1) && decide (b % 2 = 1)) := by
  have h1 := rightB_bd ha ha'
  have h2 := rightB_bd hb hb'
  have e0 : infUp [a, b] 2 = false := by simp [infUp, ha', hb']
  have e1 : redUp [a, b] 2 = (decide (a % 2 = 1) && decide (b % 2 = 1)) := by simp [redUp]
  have e2 : sumUp [a, b] 2 = a / 2 + b / 2 := by simp [sumUp, wrap64]; omega
  unfold sumP
  rw [if_pos (by simp [ha, hb])]
  show (if infUp [a, b] 2 = true then _ else ofB (sumUp [a, b] 2) (redUp [a, b] 2)) = _
  rw [e0, e1, e2]
  rfl
theorem sum_two_inf {a b : Int} (ha : rightB a = true) (hb : rightB b = true) (h : a = 2147483647 ∨ b = 2147483647) : sumP [a, b] = (2147483647, 0) := by
  have e0 : infUp [a, b] 2 = true := by rcases h with h | h <;> simp [infUp, h]
  unfold sumP
  rw [if_pos (by simp [ha, hb])]
  show (if infUp [a, b] 2 = true then _ else _) = _
  rw [e0]
  rfl
theorem sum_three {a b c : Int} (ha : rightB a = true) (hb : rightB b = true) (hc : rightB c = true) (ha' : a ≠ 2147483647) (hb' : b ≠ 2147483647) (hc' : c ≠ 2147483647) :
    sumP [a, b, c] = ofB (a / 2 + b / 2 + c / 2) (decide (a % 2 = 1) && decide (b % 2 = 1) && decide (c % 2 = 1)) := by
  have h1 := rightB_bd ha ha'
  have h2 := rightB_bd hb hb'
  have h3 := rightB_bd hc hc'
  have e0 : infUp [a, b, c] 3 = false := by simp [infUp, ha', hb', hc']
  have e1 : redUp [a, b, c] 3 = (decide (a % 2 = 1) && decide (b % 2 = 1) && decide (c % 2 = 1)) := by simp [redUp]
  have e2 : sumUp [a, b, c] 3 = a / 2 + b / 2 + c / 2 := by simp [sumUp, wrap64]; omega
  unfold sumP
  rw [if_pos (by simp [ha, hb, hc])]
  show (if infUp [a, b, c] 3 = true then _ else ofB (sumUp [a, b, c] 3) (redUp [a, b, c] 3)) = _
  rw [e0, e1, e2]
  rfl
theorem sum_three_inf {a b c : Int} (ha : rightB a = true) (hb : rightB b = true) (hc : rightB c = true) (h : a = 2147483647 ∨ b = 2147483647 ∨ c = 2147483647) : sumP [a, b, c] = (2147483647, 0) := by
  have e0 : infUp [a, b, c] 3 = true := by rcases h with h | h | h <;> simp [infUp, h]
  unfold sumP
  rw [if_pos (by simp [ha, hb, hc])]
  show (if infUp [a, b, c] 3 = true then _ else _) = _
  rw [e0]
  rfl
/-- A bound that was made. -/
theorem ofB_ok {v : Int} {r : Bool} (h : (ofB v r).2 = 0) : -268435456 ≤ v ∧ v ≤ 268435456 ∧ (ofB v r).1 / 2 = v ∧ decide ((ofB v r).1 % 2 = 1) = r ∧ rightB (ofB v r).1 = true ∧ (ofB v r).1 ≠ 2147483647 := by
  unfold ofB at h ⊢
  by_cases c : v < -268435456 ∨ 268435456 < v
  · rw [if_pos c] at h; cases h
  · rw [if_neg c]
    cases r
    · have e : decide ((2 * v + 0) % 2 = 1) = false := decide_eq_false (by omega)
      refine ⟨by omega, by omega, ?_, e, ?_, ?_⟩
      · show (2 * v + 0) / 2 = v; omega
      · exact decide_eq_true (.inr (by show _ ≤ 2 * v + 0 ∧ 2 * v + 0 ≤ _; omega))
      · show 2 * v + 0 ≠ _; omega
    · have e : decide ((2 * v + 1) % 2 = 1) = true := decide_eq_true (by omega)
      refine ⟨by omega, by omega, ?_, e, ?_, ?_⟩
      · show (2 * v + 1) / 2 = v; omega
      · exact decide_eq_true (.inr (by show _ ≤ 2 * v + 1 ∧ 2 * v + 1 ≤ _; omega))
      · show 2 * v + 1 ≠ _; omega

theorem sum_comm2 (a b : Int) : sumP [a, b] = sumP [b, a] := by
  by_cases h : rightB a = true ∧ rightB b = true
  · by_cases i : a = 2147483647 ∨ b = 2147483647
    · rw [sum_two_inf h.1 h.2 i, sum_two_inf h.2 h.1 i.symm]
    · rw [sum_two h.1 h.2 (fun e => i (.inl e)) (fun e => i (.inr e)), sum_two h.2 h.1 (fun e => i (.inr e)) (fun e => i (.inl e)), Int.add_comm, Bool.and_comm]
  · rw [sum_bad (by simpa using fun x y => h ⟨x, y⟩), sum_bad (by simpa using fun x y => h ⟨y, x⟩)]
/-- What is known where a sum could be made. -/
theorem sum_ok {a b : Int} (h : (sumP [a, b]).2 = 0) : rightB a = true ∧ rightB b = true := by
  by_cases c : rightB a = true ∧ rightB b = true
  · exact c
  · rw [sum_bad (by simpa using fun x y => c ⟨x, y⟩)] at h; cases h
theorem sum_assoc {a b c : Int} (h1 : (sumP [a, b]).2 = 0) (h2 : (sumP [b, c]).2 = 0) : sumP [(sumP [a, b]).1, c] = sumP [a, b, c] ∧ sumP [a, (sumP [b, c]).1] = sumP [a, b, c] := by
  obtain ⟨ha, hb⟩ := sum_ok h1
  obtain ⟨_, hc⟩ := sum_ok h2
  by_cases ia : a = 2147483647
  · subst ia
    rw [sum_three_inf ha hb hc (.inl rfl), sum_two_inf ha hb (.inl rfl)]
    refine ⟨sum_two_inf inf_right hc (.inl rfl), sum_two_inf ha ?_ (.inl rfl)⟩
    by_cases i : b = 2147483647 ∨ c = 2147483647
    · rw [sum_two_inf hb hc i]; exact inf_right
    · rw [sum_two hb hc (fun e => i (.inl e)) (fun e => i (.inr e))] at h2 ⊢
      exact (ofB_ok h2).2.2.2.2.1
  · by_cases ic : c = 2147483647
    · subst ic
      rw [sum_three_inf ha hb hc (.inr (.inr rfl)), sum_two_inf hb hc (.inr rfl)]
      refine ⟨sum_two_inf ?_ hc (.inr rfl), sum_two_inf ha inf_right (.inr rfl)⟩
      by_cases i : b = 2147483647
      · rw [sum_two_inf ha hb (.inr i)]; exact inf_right
      · rw [sum_two ha hb ia i] at h1 ⊢
        exact (ofB_ok h1).2.2.2.2.1
    · by_cases ib : b = 2147483647
      · subst ib
        rw [sum_three_inf ha hb hc (.inr (.inl rfl)), sum_two_inf hb hc (.inl rfl), sum_two_inf ha hb (.inr rfl)]
        exact ⟨sum_two_inf inf_right hc (.inl rfl), by first | rfl | exact sum_two_inf ha inf_right (.inr rfl)⟩
      · rw [sum_three ha hb hc ia ib ic]
        rw [sum_two ha hb ia ib] at h1 ⊢
        rw [sum_two hb hc ib ic] at h2 ⊢
        obtain ⟨_, _, x1, x2, x3, x4⟩ := ofB_ok h1
        obtain ⟨_, _, y1, y2, y3, y4⟩ := ofB_ok h2
        rw [sum_two x3 hc x4 ic, sum_two ha y3 ia y4, x1, x2, y1, y2, Int.add_assoc, Bool.and_assoc]
        exact ⟨rfl, rfl⟩

end Go.Proofs.YtidcnlecgcobmaaDoor

/- Bounds as texts: plain. -/
namespace Go.Proofs.YtidcnlecgcobmaaDoor
open Go Go.RowKit
set_option linter.unusedVariables false
set_option linter.unusedSimpArgs false

theorem decFrom_app (l m : List UInt8) : ∀ acc, Lib.decFrom acc (l ++ m) = (Lib.decFrom acc l).bind fun n => Lib.decFrom n m := by
  induction l with
  | nil => intro acc; rfl
  | cons a t ih =>
    intro acc
    simp only [List.cons_append, Lib.decFrom]
    cases Lib.digitVal a with
    | none => rfl
    | some d => exact ih _
theorem digit_of (k : Nat) (h : k < 10) : Lib.digitVal (UInt8.ofNat (48 + k)) = some k := by
  have e : (UInt8.ofNat (48 + k)).toNat = 48 + k := by simp; omega
  unfold Lib.digitVal
  rw [if_pos (by omega), e]
  congr 1
  omega
/-- The digits of a number spell it. -/
theorem decFrom_digits (u : Nat) : Lib.decFrom 0 (Lib.decDigits u) = some u := by
  induction u using Nat.strongRecOn with
  | _ u ih =>
    by_cases h : u < 10
    · rw [Lib.decDigits, dif_pos h, Lib.decFrom, digit_of u h]
      show Lib.decFrom (0 * 10 + u) [] = _
      simp [Lib.decFrom]
    · rw [Lib.decDigits, dif_neg h, decFrom_app, ih (u / 10) (by omega)]
      show Lib.decFrom (u / 10) [UInt8.ofNat (48 + u % 10)] = _
      rw [Lib.decFrom, digit_of (u % 10) (by omega)]
      show Lib.decFrom (u / 10 * 10 + u % 10) [] = _
      simp only [Lib.decFrom]
      congr 1
      omega
theorem digits_some (u : Nat) : Lib.decDigits u ≠ [] := by
  intro e
  have := Lib.decDigits_length u
  rw [e] at this
  have := Lib.nDigits_pos u
  simp at *
  omega
/-- A digit stands first. -/
theorem digits_head (u : Nat) : ∃ d r, d < 10 ∧ Lib.decDigits u = UInt8.ofNat (48 + d) :: r := by
  induction u using Nat.strongRecOn with
  | _ u ih =>
    by_cases h : u < 10
    · exact ⟨u, [], h, by rw [Lib.decDigits, dif_pos h]⟩
    · obtain ⟨d, r, hd, e⟩ := ih (u / 10) (by omega)
      exact ⟨d, r ++ [UInt8.ofNat (48 + u % 10)], hd, by rw [Lib.decDigits, dif_neg h, e]; rfl⟩
theorem head_ne (d k : Nat) (h : d < 10) (hk : k < 48) : UInt8.ofNat (48 + d) ≠ UInt8.ofNat k := by
  intro e
  have := congrArg UInt8.toNat e
  simp at this
  omega
theorem atoi_itoa (n : Int) : Lib.atoi (Lib.itoa n) = some n := by
  unfold Lib.itoa
  by_cases h : n < 0
  · rw [if_pos h]
    have hn : Lib.decNat (Lib.decDigits n.natAbs) = some n.natAbs := by
      unfold Lib.decNat
      rw [if_neg (by simpa using digits_some n.natAbs), decFrom_digits]
    have h1 : ((45 : UInt8) == 45) = true := rfl
    simp only [Lib.atoi, h1, hn]
    simp
    omega
  · rw [if_neg h]
    obtain ⟨d, r, hd, e⟩ := digits_head n.toNat
    have hn : Lib.decNat (Lib.decDigits n.toNat) = some n.toNat := by
      unfold Lib.decNat
      rw [if_neg (by simpa using digits_some n.toNat), decFrom_digits]
    rw [e] at hn ⊢
    have h1 : (UInt8.ofNat (48 + d) == 45) = false := beq_eq_false_iff_ne.2 (head_ne d 45 hd (by omega))
    have h2 : (UInt8.ofNat (48 + d) == 43) = false := beq_eq_false_iff_ne.2 (head_ne d 43 hd (by omega))
    simp only [Lib.atoi, h1, h2, hn]
    simp
    omega
theorem itoa_short (n : Int) (h0 : -268435456 ≤ n) (h1 : n ≤ 268435456) : (Lib.itoa n).length ≤ 18 := by
  have hd : ∀ u : Nat, u ≤ 268435456 → (Lib.decDigits u).length ≤ 9 := fun u hu => by
    rw [Lib.decDigits_length]
    by_cases c : Lib.nDigits u ≤ 9
    · exact c
    · exfalso
      have := Lib.nDigits_pos u
      have hp : ∀ k u, k + 1 ≤ Lib.nDigits u → 0 < k → 10 ^ k ≤ u := fun k => by
        induction k with
        | zero => intro u _ h; omega
        | succ k ih =>
          intro u h _
          by_cases c : u < 10
          · rw [Lib.nDigits_small c] at h; omega
          · rw [Lib.nDigits_big c] at h
            by_cases hk : 0 < k
            · have := ih (u / 10) (by omega) hk
              rw [Nat.pow_succ]; omega
            · have : k = 0 := by omega
              subst this
              simpa using (show 10 ≤ u by omega)
      have := hp 9 u (by omega) (by omega)
      omega
  unfold Lib.itoa
  split
  · rw [List.length_cons]; have := hd n.natAbs (by omega); omega
  · have := hd n.toNat (by omega); omega
theorem atoiAll_itoa (n : Int) (h0 : -268435456 ≤ n) (h1 : n ≤ 268435456) : Lib.atoiAll (Lib.itoa n) = .ok n := by
  rw [Lib.atoiAll_short _ (itoa_short n h0 h1), atoi_itoa]
  rfl
/-- What stands first in a numeral: a digit, or '-'. -/
theorem itoa_head (n : Int) : ∃ c r, Lib.itoa n = c :: r ∧ c ≠ 61 ∧ c ≠ 60 := by
  unfold Lib.itoa
  split
  · exact ⟨45, _, rfl, by decide, by decide⟩
  · obtain ⟨d, r, hd, e⟩ := digits_head n.toNat
    refine ⟨_, r, e, ?_, ?_⟩
    · intro e
      have := congrArg UInt8.toNat e
      simp at this
      omega
    · intro e
      have := congrArg UInt8.toNat e
      simp at this
      omega

/-- A bound as a row of bytes. -/
def printL (b : Int) : List UInt8 := if b = 2147483647 then [105, 110, 102] else if someB b then (if b % 2 = 1 then [60, 61] else [60]) ++ Lib.itoa (b / 2) else []
theorem printL_some {b : Int} (h : someB b = true) : printL b = (if b % 2 = 1 then [60, 61] else [60]) ++ Lib.itoa (b / 2) := by
  have hn : b ≠ 2147483647 := by rintro rfl; exact absurd h (by decide +kernel)
  unfold printL
  rw [if_neg hn, if_pos h]
theorem printL_not_inf {b : Int} (h : someB b = true) : printL b ≠ [105, 110, 102] := by
  rw [printL_some h]
  split <;> intro e <;> cases e
/-- Texts of two bounds are two. -/
theorem printL_inj {a b : Int} (ha : someB a = true) (hb : someB b = true) (h : printL a = printL b) : a = b := by
  rw [printL_some ha, printL_some hb] at h
  have key : ∀ x y : Int, Lib.itoa x = Lib.itoa y → x = y := fun x y e => by
    have := atoi_itoa x
    rw [e, atoi_itoa] at this
    exact (Option.some.inj this).symm
  obtain ⟨c1, r1, e1, n1, _⟩ := itoa_head (a / 2)
  obtain ⟨c2, r2, e2, n2, _⟩ := itoa_head (b / 2)
  by_cases x : a % 2 = 1
  · by_cases y : b % 2 = 1
    · rw [if_pos x, if_pos y] at h
      have := key _ _ (by simpa using h)
      omega
    · rw [if_pos x, if_neg y, e2] at h
      simp at h
      exact absurd h.1.symm n2
  · by_cases y : b % 2 = 1
    · rw [if_neg x, if_pos y, e1] at h
      simp at h
      exact absurd h.1 n1
    · rw [if_neg x, if_neg y] at h
      have := key _ _ (by simpa using h)
      omega

/-- What a text tells of: no bound, a bound, or an error. -/
def ParsesTo (s : List UInt8) (r : Int × Int) : Prop :=
  (s = [105, 110, 102] ∧ r = (2147483647, 0)) ∨ (∃ b, someB b = true ∧ printL b = s ∧ r = (b, 0)) ∨ (s ≠ [105, 110, 102] ∧ (∀ b, someB b = true → printL b ≠ s) ∧ r = (0, 7))
theorem parses_one {s : List UInt8} {r r' : Int × Int} (h : ParsesTo s r) (h' : ParsesTo s r') : r = r' := by
  rcases h with ⟨h1, h2⟩ | ⟨b, h1, h2, h3⟩ | ⟨h1, h2, h3⟩ <;> rcases h' with ⟨k1, k2⟩ | ⟨c, k1, k2, k3⟩ | ⟨k1, k2, k3⟩
  · rw [h2, k2]
  · exact absurd (k2.trans h1) (printL_not_inf k1)
  · exact absurd h1 k1
  · exact absurd (h2.trans k1) (printL_not_inf h1)
  · rw [h3, k3, printL_inj h1 k1 (h2.trans k2.symm)]
  · exact absurd h2 (k2 b h1)
  · exact absurd k1 h1
  · exact absurd k2 (h2 c k1)
  · rw [h3, k3]

/-- A bound that was made is the one that is printed so. -/
theorem made_some {v : Int} {r : Bool} (h : (ofB v r).2 = 0) : someB (ofB v r).1 = true := by
  obtain ⟨_, _, _, _, h3, h4⟩ := ofB_ok h
  exact fin_some h3 h4
theorem made_back {b : Int} (h : someB b = true) : ofB (b / 2) (decide (b % 2 = 1)) = (b, 0) := by
  obtain ⟨hr, hn⟩ : rightB b = true ∧ b ≠ 2147483647 := by simpa [someB] using h
  have := rightB_bd hr hn
  unfold ofB
  rw [if_neg (by omega)]
  by_cases e : b % 2 = 1
  · simp [e]; omega
  · simp [e]; omega

end Go.Proofs.YtidcnlecgcobmaaDoor

/- Zones as texts: plain. -/
namespace Go.Proofs.YtidcnlecgcobmaaDoor
open Go Go.RowKit
set_option linter.unusedVariables false
set_option linter.unusedSimpArgs false

/-- What Print says of one difference. -/
def cellL (m : Mat) (i j : Nat) : List UInt8 :=
  if i ≠ j ∧ m i j ≠ 2147483647 ∧ (i ≠ 0 ∨ m i j < 1) then [32, 120] ++ Lib.itoa i ++ [45, 120] ++ Lib.itoa j ++ printL (m i j) else []
def rowT (m : Mat) (i : Nat) : Nat → List UInt8
  | 0 => []
  | j + 1 => rowT m i j ++ cellL m i j
def zoneT (n : Nat) (m : Mat) : Nat → List UInt8
  | 0 => Lib.itoa n ++ [58]
  | i + 1 => zoneT n m i ++ rowT m i (n + 1)
/-- A zone, or nil, as a text. -/
def printZ : Option (Nat × Mat) → List UInt8
  | none => []
  | some (n, m) => if m 0 0 < 1 then Lib.itoa n ++ [58] ++ [32, 101, 109, 112, 116, 121] else zoneT n m (n + 1)

theorem itoa_len (n : Nat) (h : n ≤ 8) : (Lib.itoa n).length ≤ 21 := Lib.itoa_length_le n (by omega) (by omega)
theorem printL_short (b : Int) (h0 : -2147483648 ≤ b) (h1 : b ≤ 2147483647) : (printL b).length ≤ 30 := by
  have hl := Lib.itoa_length_le (b / 2) (by omega) (by omega)
  unfold printL
  split
  · simp
  · split
    · rw [List.length_append]
      split <;> simp <;> omega
    · simp
theorem cellL_len (m : Mat) (i j : Nat) (hi : i ≤ 8) (hj : j ≤ 8) (h0 : -2147483648 ≤ m i j) (h1 : m i j ≤ 2147483647) : (cellL m i j).length ≤ 76 := by
  have a := itoa_len i hi
  have b := itoa_len j hj
  have c := printL_short (m i j) h0 h1
  unfold cellL
  split
  · simp only [List.length_append, List.length_cons, List.length_nil]; omega
  · simp

end Go.Proofs.YtidcnlecgcobmaaDoor

/- Bounds: made, AtMost, LessThan, Value. -/
namespace Go.Proofs.YtidcnlecgcobmaaDoor
open Go Go.RowKit
set_option linter.unusedVariables false
set_option linter.unusedSimpArgs false

set_option maxRecDepth 100000 in
set_option maxHeartbeats 1000000 in
theorem made_any (v : Int) (r : Bool) (w : World) : Calls Tryd.prog 126 #[.int .i64 v, .bool r] w fun e w' => e = .returned (.tuple #[.int .i32 (ofB v r).1, .int .i64 (ofB v r).2]) ∧ w = w' := by
  by_cases a : v < -268435456
  · have e : ofB v r = (0, 10) := if_pos (.inl a)
    rw [e]
    have d : decide (v < -268435456) = true := decide_eq_true a
    clear e
    go_enter Tryd.func126, Tryd.ntmps126
    go_wp2
    go_ret2
    exact ⟨rfl, rfl⟩
  · have d : decide (v < -268435456) = false := decide_eq_false a
    by_cases b : 268435456 < v
    · have e : ofB v r = (0, 10) := if_pos (.inr b)
      rw [e]
      clear e
      go_enter Tryd.func126, Tryd.ntmps126
      go_wp2
      go_ret2
      exact ⟨rfl, rfl⟩
    · have e : ofB v r = (2 * v + (if r then 1 else 0), 0) := if_neg (by omega)
      rw [e]
      have d2 : decide (268435456 < v) = false := decide_eq_false b
      have g0 : IntKind.i64.wrap (2 * v) = 2 * v := IntWalk.i64_in _ (by omega)
      have g1 : IntKind.i32.wrap (2 * v) = 2 * v := by rw [IntKind.wrap_i32]; omega
      have g2 : IntKind.i32.wrap (2 * v + 1) = 2 * v + 1 := by rw [IntKind.wrap_i32]; omega
      clear e
      cases r with
      | false =>
        go_enter Tryd.func126, Tryd.ntmps126
        go_wp2
        go_ret2
        exact ⟨by simp [g1], rfl⟩
      | true =>
        go_enter Tryd.func126, Tryd.ntmps126
        go_wp2
        go_ret2
        exact ⟨by simp [g2], rfl⟩

/-- A function that hands on what made answers. -/
def Makes (r : Int × Int) (w : World) (e : Ending) (w' : World) : Prop := e = .returned (.tuple #[.int .i32 r.1, .int .i64 r.2]) ∧ w = w'


theorem i32_and1 (x : Int) : bits .and .i32 x 1 = x % 2 := by
  have e1 : bits .and .i32 x 1 = IntKind.i32.wrap ((BitVec.ofInt 32 x).toNat &&& 1 : Nat) := by rfl
  rw [e1, Nat.and_one_is_mod, BitVec.toNat_ofInt, IntKind.wrap_i32]
  omega

set_option maxRecDepth 100000 in
set_option maxHeartbeats 1000000 in
theorem value_yes (b : Int) (w : World) (h : someB b = true) :
    Calls Tryd.prog 116 #[.int .i32 b] w fun e w' => e = .returned (.tuple #[.int .i64 (b / 2), .bool (decide (b % 2 = 1)), .bool true]) ∧ w = w' := by
  obtain ⟨hr, hn⟩ : rightB b = true ∧ b ≠ 2147483647 := by simpa [someB] using h
  have hb := rightB_bd hr hn
  have t0 : (b == 2147483647) = false := by simp [hn]
  have HR := Lib.hid hr
  clear h hr hn
  go_enter Tryd.func116, Tryd.ntmps116
  go_wp2_with fail
  refine (right_yes b _ HR.out).mono ?_
  rintro e w' ⟨rfl, rfl⟩
  go_wp2
  go_ret3
  refine ⟨?_, rfl⟩
  rw [i32_and1]
  by_cases e : b % 2 = 1 <;> simp [e]
set_option maxRecDepth 100000 in
set_option maxHeartbeats 1000000 in
theorem value_no (b : Int) (w : World) (h : someB b = false) :
    Calls Tryd.prog 116 #[.int .i32 b] w fun e w' => e = .returned (.tuple #[.int .i64 0, .bool false, .bool false]) ∧ w = w' := by
  by_cases hn : b = 2147483647
  · subst hn
    clear h
    go_enter Tryd.func116, Tryd.ntmps116
    go_wp2
    go_ret3
    exact ⟨rfl, rfl⟩
  · have t0 : (b == 2147483647) = false := by simp [hn]
    have hr : rightB b = false := by simpa [someB, hn] using h
    have HR := Lib.hid hr
    clear h hn hr
    go_enter Tryd.func116, Tryd.ntmps116
    go_wp2_with fail
    refine (right_no b _ HR.out).mono ?_
    rintro e w' ⟨rfl, rfl⟩
    go_wp2
    go_ret3
    exact ⟨rfl, rfl⟩

end Go.Proofs.YtidcnlecgcobmaaDoor

/- A bag of facts of the memory, each of which stays where nothing old is written. -/
namespace Go.Proofs.YtidcnlecgcobmaaDoor
open Go Go.RowKit
set_option linter.unusedVariables false

/-- It stays where nothing old is written. -/
def Stable (P : World → Prop) : Prop := ∀ w w', P w → Below w.heap.size w w' → P w'
structure Bag (w0 : World) (Ps : List (World → Prop)) (w : World) : Prop where
  below : Below w0.heap.size w0 w
  all : ∀ P, P ∈ Ps → P w ∧ Stable P
theorem Bag.start {w0 w : World} (h : Below w0.heap.size w0 w) : Bag w0 [] w := ⟨h, fun _ h => by cases h⟩
theorem Bag.step {w0 w w' : World} {Ps : List (World → Prop)} (h : Bag w0 Ps w) (hb : Below w.heap.size w w') : Bag w0 Ps w' :=
  ⟨h.below.trans (hb.mono h.below.size), fun P hP => ⟨(h.all P hP).2 w w' (h.all P hP).1 hb, (h.all P hP).2⟩⟩
theorem Bag.drewN {w0 w : World} {Ps : List (World → Prop)} (h : Bag w0 Ps w) (q : Nat) : Bag w0 Ps (w.drewN q) := h.step (belowN (Below.refl _ _) q)
theorem Bag.drew {w0 w : World} {Ps : List (World → Prop)} (h : Bag w0 Ps w) : Bag w0 Ps w.drew := h.step (Below.drew (Below.refl _ _))
theorem Bag.alloc {w0 w : World} {Ps : List (World → Prop)} (h : Bag w0 Ps w) (o : Obj) : Bag w0 Ps (w.alloc o) := h.step ((Below.refl _ _).alloc (Nat.le_refl _) o)
theorem Bag.add {w0 w : World} {Ps : List (World → Prop)} {P : World → Prop} (h : Bag w0 Ps w) (hP : P w) (hs : Stable P) : Bag w0 (P :: Ps) w :=
  ⟨h.below, fun Q hQ => by
    rcases List.mem_cons.1 hQ with rfl | hQ
    · exact ⟨hP, hs⟩
    · exact h.all Q hQ⟩
theorem Bag.at {w0 w : World} {Ps : List (World → Prop)} {P : World → Prop} (h : Bag w0 Ps w) (i : Nat) (e : Ps[i]? = some P) : P w :=
  (h.all P (List.mem_of_getElem? e)).1
theorem Bag.tail {w0 w : World} {Ps : List (World → Prop)} {P : World → Prop} (h : Bag w0 (P :: Ps) w) : Bag w0 Ps w := ⟨h.below, fun Q hQ => h.all Q (List.mem_cons_of_mem _ hQ)⟩
theorem stable_zone (T : TypeId) (v : Value) (z : Option (Nat × Mat)) : Stable fun w => ZoneV T w v z := fun _ _ h hb => h.below hb
theorem stable_ints (k : IntKind) (A : Option Addr) (xs : List Int) : Stable fun w => Ints w k A xs := fun _ _ h hb => h.below hb
theorem stable_own (b : Nat) (e : TypeId) (k : IntKind) (v : Value) (xs : List Int) : Stable fun w => OwnI w b e k v xs := fun _ _ h hb => h.later hb
theorem stable_lims (A : Option Addr) (l : List (Int × Int × Int)) : Stable fun w => Lims w A l := fun _ _ h hb => h.below hb

/-- A call that leaves the world alone, in a region that draws. -/
theorem quietL {P : Program} {f : FuncId} {args : Array Value} {w : World} {n : Nat} {v : Value} (h : ∀ W, Calls P f args W fun e w' => e = .returned v ∧ W = w') :
    Calls P f args (w.drewN n) fun e w'' => e = .returned v ∧ ∃ m, w'' = w.drewN m := (h _).mono fun _ _ ⟨he, hm⟩ => ⟨he, n, hm.symm⟩
/-- The same, behind a region that drew. -/
theorem quietA {P : Program} {f : FuncId} {args : Array Value} {w : World} {a n : Nat} {v : Value} (h : ∀ W, Calls P f args W fun e w' => e = .returned v ∧ W = w') :
    Calls P f args (w.drewN (a + n)) fun e w'' => e = .returned v ∧ ∃ m, w'' = w.drewN (a + m) := (h _).mono fun _ _ ⟨he, hm⟩ => ⟨he, n, hm.symm⟩
/-- A call that only draws, behind a region that drew. -/
theorem quietD {P : Program} {f : FuncId} {args : Array Value} {w : World} {a n : Nat} {v : Value} (h : Calls P f args (w.drewN (a + n)) fun e w' => e = .returned v ∧ ∃ q, w' = (w.drewN (a + n)).drewN q) :
    Calls P f args (w.drewN (a + n)) fun e w'' => e = .returned v ∧ ∃ m, w'' = w.drewN (a + m) := h.mono fun _ _ ⟨he, q, hq⟩ => ⟨he, n + q, by rw [hq, World.drewN_drewN, Nat.add_assoc]⟩
theorem backC {P : Program} {f : FuncId} {args : Array Value} {w : World} {e0 : Ending} (h : Calls P f args w fun e w' => e = e0 ∧ w = w') : Calls P f args w fun e w' => e = e0 ∧ w' = w :=
  h.mono fun _ _ ⟨a, b⟩ => ⟨a, b.symm⟩

end Go.Proofs.YtidcnlecgcobmaaDoor

/- One bound more in a sum. -/
namespace Go.Proofs.YtidcnlecgcobmaaDoor
open Go Go.RowKit
set_option linter.unusedVariables false
set_option linter.unusedSimpArgs false

/-- A sum under way, as the machine holds it. -/
def tot (v : Int) (r i x : Bool) : Array Value := #[.int .i64 v, .bool r, .bool i, .bool x]
/-- One bound more. -/
def SumEnds (w : World) (v : Int) (r i x : Bool) (e : Ending) (w' : World) : Prop := e = .returned (.agg (tot v r i x)) ∧ Below w.heap.size w w'

theorem two_new {w : World} {a b : Array Value} {t : TypeId} : Below w.heap.size w ((w.alloc (.cells a t)).alloc (.cells b t)) :=
  ((Below.refl _ w).alloc (Nat.le_refl _) _).alloc (by simp) _

set_option maxRecDepth 100000 in
set_option maxHeartbeats 1000000 in
theorem sum1_some (v : Int) (r i x : Bool) (b : Int) (w : World) (h : someB b = true) :
    Calls Tryd.prog 125 #[.agg (tot v r i x), .int .i32 b] w (SumEnds w (wrap64 (v + b / 2)) (r && decide (b % 2 = 1)) i x) := by
  obtain ⟨hr, hn⟩ : rightB b = true ∧ b ≠ 2147483647 := by simpa [someB] using h
  have t0 : (b == 2147483647) = false := by simp [hn]
  have t1 : (b != 2147483647) = true := by simp [hn]
  have HV := Lib.hid (fun w => value_yes b w h)
  obtain ⟨q, hq⟩ : ∃ q, q = b / 2 := ⟨_, rfl⟩
  obtain ⟨z, hz⟩ : ∃ z, z = decide (b % 2 = 1) := ⟨_, rfl⟩
  rw [← hq, ← hz] at HV ⊢
  clear hq hz h hr hn
  unfold tot
  cases r <;> cases i <;> cases x
  all_goals
    go_enter Tryd.func125, Tryd.ntmps125
    go_wp2_with fail
    refine (HV.out _).mono ?_
    rintro e w' ⟨rfl, rfl⟩
    go_wp2
    refine bodyPost_ret (results_cell_row (fn := Tryd.f125) rfl _ _ (w.heap.size + 1) _ _ _ _ rfl (heap_alloc2_new _ _ _) Tryd.underlying161 rfl (by kernel_rfl)) rfl ?_
    exact ⟨rfl, two_new⟩

set_option maxRecDepth 100000 in
set_option maxHeartbeats 1000000 in
theorem sum1_inf (v : Int) (r i x : Bool) (w : World) :
    Calls Tryd.prog 125 #[.agg (tot v r i x), .int .i32 2147483647] w (SumEnds w (wrap64 v) false true x) := by
  have HV := Lib.hid (fun w => value_no 2147483647 w (by decide))
  unfold tot
  cases r <;> cases i <;> cases x
  all_goals
    go_enter Tryd.func125, Tryd.ntmps125
    go_wp2_with fail
    refine (HV.out _).mono ?_
    rintro e w' ⟨rfl, rfl⟩
    go_wp2
    refine bodyPost_ret (results_cell_row (fn := Tryd.f125) rfl _ _ (w.heap.size + 1) _ _ _ _ rfl (heap_alloc2_new _ _ _) Tryd.underlying161 rfl (by kernel_rfl)) rfl ?_
    exact ⟨rfl, two_new⟩

set_option maxRecDepth 100000 in
set_option maxHeartbeats 1000000 in
theorem sum1_bad (v : Int) (r i x : Bool) (b : Int) (w : World) (h : rightB b = false) :
    Calls Tryd.prog 125 #[.agg (tot v r i x), .int .i32 b] w (SumEnds w (wrap64 v) false i true) := by
  have hn : b ≠ 2147483647 := by rintro rfl; exact absurd h (by decide)
  have t0 : (b == 2147483647) = false := by simp [hn]
  have t1 : (b != 2147483647) = true := by simp [hn]
  have HV := Lib.hid (fun w => value_no b w (by simp [someB, h]))
  clear h hn
  unfold tot
  cases r <;> cases i <;> cases x
  all_goals
    go_enter Tryd.func125, Tryd.ntmps125
    go_wp2_with fail
    refine (HV.out _).mono ?_
    rintro e w' ⟨rfl, rfl⟩
    go_wp2
    refine bodyPost_ret (results_cell_row (fn := Tryd.f125) rfl _ _ (w.heap.size + 1) _ _ _ _ rfl (heap_alloc2_new _ _ _) Tryd.underlying161 rfl (by kernel_rfl)) rfl ?_
    exact ⟨rfl, two_new⟩

theorem sum1_any (v : Int) (r i x : Bool) (b : Int) (w : World) (hv : wrap64 v = v) :
    Calls Tryd.prog 125 #[.agg (tot v r i x), .int .i32 b] w (SumEnds w (wrap64 (v + numB b)) (r && redB b) (i || decide (b = 2147483647)) (x || !rightB b)) := by
  by_cases h : someB b = true
  · obtain ⟨hr, hn⟩ : rightB b = true ∧ b ≠ 2147483647 := by simpa [someB] using h
    have := sum1_some v r i x b w h
    simpa [numB, redB, h, hr, hn] using this
  · have h : someB b = false := by simpa using h
    by_cases hn : b = 2147483647
    · subst hn
      have := sum1_inf v r i x w
      have e : rightB 2147483647 = true := by decide
      simpa [numB, redB, h, e] using this
    · have hr : rightB b = false := by simpa [someB, hn] using h
      have := sum1_bad v r i x b w hr
      simpa [numB, redB, h, hr, hn] using this

end Go.Proofs.YtidcnlecgcobmaaDoor

/- The sums of bounds. -/
namespace Go.Proofs.YtidcnlecgcobmaaDoor
open Go Go.RowKit
set_option linter.unusedVariables false
set_option linter.unusedSimpArgs false

/-- What the fold holds behind p bounds. -/
def totUp (l : List Int) (p : Nat) : Array Value := tot (sumAll l p) (redAll l p) (infUp l p) (badUp l p)
def FoldR (w0 : World) (l : List Int) (p : Nat) (wr : World) : Prop :=
  Below w0.heap.size w0 wr ∧ wr.heap[w0.heap.size]? = some (.cells (totUp l p) 161) ∧ wr.heap[w0.heap.size + 1]? = some (.cells (tot 0 false false false) 161)
theorem totUp_info (l : List Int) (p : Nat) : (Tryd.prog.info? 161).map (·.size) = some (totUp l p).size := by
  have h : (Tryd.prog.info? 161).map (·.size) = some 4 := by kernel_rfl
  exact h
theorem totUp_all (l : List Int) (p : Nat) : (totUp l p).all (·.oneCell') = true := by simp [totUp, tot, Value.oneCell']
theorem totUp_old (l : List Int) (p q : Nat) : (totUp l p).size = (totUp l q).size := by simp [totUp, tot]
theorem tot_old (l : List Int) (q : Nat) : (tot 0 false false false).size = (totUp l q).size := by simp [totUp, tot]
theorem lt_of_heap {w : World} {g : Nat} {o : Obj} (h : w.heap[g]? = some o) : g < w.heap.size := by
  by_cases c : g < w.heap.size
  · exact c
  · rw [Array.getElem?_eq_none (by omega)] at h; cases h
theorem wrap_sum (l : List Int) : ∀ p, wrap64 (sumAll l p) = sumAll l p
  | 0 => by show wrap64 0 = 0; decide +kernel
  | p + 1 => by unfold sumAll wrap64; omega
theorem FoldR.store {w0 wr w' : World} {l : List Int} {p : Nat} (h : FoldR w0 l p wr) (hb : Below wr.heap.size wr w') : FoldR w0 l p w' :=
  ⟨h.1.trans (hb.mono h.1.size), (hb.block _ (lt_of_heap h.2.1)).trans h.2.1, (hb.block _ (lt_of_heap h.2.2)).trans h.2.2⟩
theorem FoldR.next {w0 wr : World} {l : List Int} {p : Nat} (h : FoldR w0 l p wr) : FoldR w0 l (p + 1) (wr.setRow w0.heap.size (totUp l (p + 1))) :=
  ⟨below_setRow h.1 (Nat.le_refl _) _, setRow_heap _ _ _ _ _ _ h.2.1, by rw [setRow_other _ _ _ _ (by omega)]; exact h.2.2⟩

set_option maxRecDepth 100000 in
set_option maxHeartbeats 1000000 in
theorem fold_total (A : Option Addr) (c : Nat) (l : List Int) (w : World) (hI : Ints w .i32 A l) (hmax : l.length ≤ 4611686018427387904) :
    Calls Tryd.prog 124 #[.agg (tot 0 true false false), .slice A l.length c, .func (.func 125) #[] #[]] w fun e w' => e = .returned (.agg (totUp l l.length)) ∧ Below w.heap.size w w' := by
  have HI := Lib.hid hI
  clear hI
  unfold tot
  go_enter Tryd.func124, Tryd.ntmps124
  go_wp2
  go_loopg [11] l.length (fun g v wr => ∃ p : Nat, v = .int .i64 p ∧ FoldR w l p wr ∧ Hid (p ≤ l.length ∧ g + p = l.length))
  case atStart => exact ⟨0, by simp, ⟨two_new, (heap_alloc_old _ _ (by simp)).trans (heap_alloc_new _ _), heap_alloc2_new _ _ _⟩, by omega, by omega⟩
  case round =>
    obtain ⟨p, rfl, hF, HG⟩ := hrel
    have HF := Lib.hid hF
    clear hF
    by_cases hp : p < l.length
    · obtain ⟨b, off, rfl, hc⟩ := (HI.out.below HF.out.1) p hp
      obtain ⟨x, hx⟩ : ∃ x, x = l.getD p 0 := ⟨_, rfl⟩
      rw [← hx] at hc
      have HX := Lib.hid hx
      clear hx
      go_wp2_with (refine wpList_load_row rfl 161 _ rfl w.heap.size rfl 161 _ (0, 0) _ HF.out.2.1 Tryd.underlying161 rfl (by kernel_rfl) ?_)
      refine (sum1_any (sumAll l p) (redAll l p) (infUp l p) (badUp l p) x _ (wrap_sum l p)).mono ?_
      rw [show SumEnds wr (wrap64 (sumAll l p + numB x)) (redAll l p && redB x) (infUp l p || decide (x = 2147483647)) (badUp l p || !rightB x) = SumEnds wr (sumAll l (p + 1)) (redAll l (p + 1)) (infUp l (p + 1)) (badUp l (p + 1)) by rw [HX.out]; rfl]
      rintro e w' ⟨rfl, hb⟩
      rw [show tot (sumAll l (p + 1)) (redAll l (p + 1)) (infUp l (p + 1)) (badUp l (p + 1)) = totUp l (p + 1) from rfl]
      have HF1 := Lib.hid (HF.out.store hb)
      clear hb HF hc
      go_wp2_with (refine wpList_store_row rfl 161 _ _ rfl w.heap.size _ rfl rfl 161 _ HF1.out.2.1 (totUp_info l (p + 1)) (totUp_old l _ _) (totUp_all l (p + 1)) ?_)
      go_roundg (gk - 1)
      case measure => have h := HG.out; omega
      case rel => exact ⟨p + 1, by go_num, HF1.out.next, by omega, by have h := HG.out; omega⟩
    · have e : p = l.length := by have := HG.out.1; omega
      subst e
      go_wp2_with (first | (refine wpList_load_row rfl 161 _ rfl w.heap.size rfl 161 _ (0, 0) _ HF.out.2.1 Tryd.underlying161 rfl (by kernel_rfl) ?_) | (refine wpList_store_row rfl 161 _ _ rfl (w.heap.size + 1) _ rfl rfl 161 _ HF.out.2.2 (totUp_info l l.length) (tot_old l _) (totUp_all l l.length) ?_))
      refine bodyPost_ret (results_cell_row (fn := Tryd.f124) rfl _ _ (w.heap.size + 1) _ _ _ _ rfl (setRow_heap _ _ _ _ _ _ HF.out.2.2) Tryd.underlying161 rfl (by kernel_rfl)) rfl ?_
      exact ⟨rfl, below_setRow HF.out.1 (by omega) _⟩

end Go.Proofs.YtidcnlecgcobmaaDoor
