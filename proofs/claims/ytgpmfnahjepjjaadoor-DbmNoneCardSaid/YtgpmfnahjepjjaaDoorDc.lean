/- What zone makes of a wide matrix: the zone, or the error. -/
import Derived.Test.YtgpmfnahjepjjaaDoorDb
import Derived.Test.YtgpmfnahjepjjaaDoorBr
namespace Go.Proofs.YtgpmfnahjepjjaaDoor
open Go.RowKit
set_option linter.unusedVariables false
set_option linter.unusedSimpArgs false
attribute [local go_sem] min_ints max_ints


theorem zero_matrix (n : Nat) : (Tryd.zeroCells42).setIfInBounds 0 (Value.int .i64 n) = matCells .i32 n (fun _ _ => 0) := rfl

theorem size_matrix : (Tryd.prog.info? 42).map (·.size) = some 82 := by kernel_rfl

theorem zone_lay (n : Nat) (m : Mat) : Array.foldl (fun (cs : Array Value) (x : Value × Nat) => cs.setIfInBounds x.snd x.fst) Tryd.zeroCells44 (matCells .i32 n m).zipIdx 0 82 = matCells .i32 n m := by
  have h := lay_whole (matCells .i32 n m) Tryd.zeroCells44 (by rw [matCells_size]; rfl)
  rw [matCells_size] at h
  exact h

/-- The narrow matrix while it is filled. -/
def FillR (w1 : World) (b b2 n : Nat) (m : Mat) (g i j : Nat) (wr : World) : Prop :=
  Only b2 w1 wr ∧ MatAt wr b 65 .i64 n m ∧ MatAt wr b2 42 .i32 n (filled (narM n m) i j) ∧ (∀ a c, a < i ∨ (a = i ∧ c < j) → c ≤ n → inR (m a c)) ∧ i ≤ n + 1 ∧ j ≤ n + 1

theorem FillR.step {w1 wr : World} {b b2 n : Nat} {m : Mat} {g g' i j : Nat} (h : FillR w1 b b2 n m g i j wr) (hn : n ≤ 8) (hb : b ≠ b2) (hi : i < n + 1) (hj : j < n + 1) (hr : inR (m i j)) (v : Int) (hv : v = nar (m i j)) :
    FillR w1 b b2 n m g' i (j + 1) (wr.setCell ⟨b2, 1 + i * 9 + j, none⟩ (.int .i32 v)) := by
  have e : nar (m i j) = narM n m i j := by unfold narM; rw [if_pos (by omega)]
  have h3 := h.2.2.1.set i j (by omega) (by omega) v
  rw [hv, e, upd_filled] at h3
  rw [hv, e]
  refine ⟨h.1.setCell _ _, h.2.1.only ((Only.refl _ _).setCell _ _) hb, h3, fun a c hac hc => ?_, h.2.2.2.2.1, by omega⟩
  by_cases e : a = i ∧ c = j
  · obtain ⟨rfl, rfl⟩ := e; exact hr
  · exact h.2.2.2.1 a c (by omega) hc
theorem FillR.row {w1 wr : World} {b b2 n : Nat} {m : Mat} {g g' i j : Nat} (h : FillR w1 b b2 n m g i j wr) (hi : i < n + 1) (hj : ¬ j < n + 1) : FillR w1 b b2 n m g' (i + 1) 0 wr := by
  have e : j = n + 1 := by have := h.2.2.2.2.2; omega
  subst e
  refine ⟨h.1, h.2.1, by rw [filled_row (narM_inside n m)]; exact h.2.2.1, fun a c hac hc => h.2.2.2.1 a c (by omega) hc, by omega, by omega⟩
theorem FillR.done {w1 wr : World} {b b2 n : Nat} {m : Mat} {g i : Nat} (h : FillR w1 b b2 n m g i 0 wr) (hi : ¬ i < n + 1) :
    Only b2 w1 wr ∧ MatAt wr b2 42 .i32 n (narM n m) ∧ allR n m := by
  have e : i = n + 1 := by have := h.2.2.2.2.1; omega
  subst e
  refine ⟨h.1, ?_, fun a ha c hc => h.2.2.2.1 a c (by omega) hc⟩
  have := h.2.2.1
  rw [filled_done (narM_inside n m)] at this
  exact this

/-- What zone answers: v and the number of the error. -/
def ZoneEnds (w0 : World) (b n : Nat) (m0 : Mat) (e : Ending) (w' : World) : Prop :=
  Only b w0 w' ∧ ∃ v, e = .returned (.tuple #[v, .int .i64 (zoneP n m0).2]) ∧ ZoneV 44 w' v ((zoneP n m0).1.map fun m => (n, m))

theorem zone_made {w1 : World} {c n : Nat} {m : Mat} (h : MatAt w1 c 42 .i32 n m) : MatAt (w1.alloc (.cells (matCells .i32 n m) 44)) w1.heap.size 44 .i32 n m := by
  unfold MatAt; exact heap_alloc_new _ _

set_option maxRecDepth 100000 in
set_option maxHeartbeats 2000000 in
theorem zone_any (b n : Nat) (m0 : Mat) (w : World) (hn : n ≤ 8) (h : MatAt w b 65 .i64 n m0) (hf : Fit n 1073741824 m0) :
    Calls Tryd.prog 29 #[.pointer (some ⟨b, 0, none⟩)] w (ZoneEnds w b n m0) := by
  have h0 := h.head
  have hlt := h.lt
  have HF := Lib.hid hf
  have HM := Lib.hid (show MatAt (w.alloc (.cells (matCells .i32 n (fun _ _ => 0)) 42)) w.heap.size 42 .i32 n (fun _ _ => 0) from by unfold MatAt; exact heap_alloc_new _ _)
  have HB := Lib.hid (h.alloc (.cells (matCells .i32 n (fun _ _ => 0)) 42))
  clear h hf
  have hz0 := zero_matrix n
  go_enter Tryd.func29, Tryd.ntmps29
  go_wp2_with fail
  refine (close_any b n m0 _ hn HB.out HF.out).mono ?_
  rintro e w1 ⟨ho, hcl⟩
  have HO := Lib.hid ho
  have hsz : w.heap.size < w1.heap.size := by have := ho.size; simp at this; omega
  have hM1 : MatAt w1 w.heap.size 42 .i32 n (fun _ _ => 0) := HM.out.only ho (by omega)
  have HM1 := Lib.hid hM1
  clear ho hz0
  rcases hcl with ⟨hc, rfl⟩ | ⟨m', hc, rfl, hm⟩
  · have HC := Lib.hid hc
    have hb := zone_lay n (fun _ _ => 0)
    have hs := matCells_size .i32 n (fun _ _ => 0)
    clear hc hM1
    go_wp2_with (refine wpList_load_row rfl 42 _ rfl w.heap.size rfl 42 _ (0, 0) _ HM1.out Tryd.underlying42 rfl (by rw [matCells_size]; exact size_matrix) ?_)
    go_ret2
    have hz : zoneP n m0 = (some (fun _ _ => 0), 0) := by unfold zoneP; rw [HC.out]
    exact ⟨(((Only.refl _ _).alloc _).trans HO.out).alloc _, .pointer (some ⟨w1.heap.size, 0, none⟩), by rw [hz]; rfl, by rw [hz]; exact ⟨_, rfl, hn, right_zero n, zone_made HM1.out⟩⟩
  · have HC := Lib.hid hc
    have h0 := hm.head
    have HS := Lib.hid (show FillR w1 b w.heap.size n m' (n + 1) 0 0 w1 from ⟨Only.refl _ _, hm, by rw [filled_zero]; exact HM1.out, fun a c h => by omega, by omega, by omega⟩)
    clear hc hm hM1
    go_wp2
    go_loopg [27] (n + 1) (fun g v wr => ∃ i : Nat, v = .int .i64 i ∧ FillR w1 b w.heap.size n m' g i 0 wr ∧ g + i = n + 1)
    case atStart => exact ⟨0, by simp, HS.out, by omega⟩
    case round =>
      clear HS h0
      obtain ⟨i, rfl, H, hg⟩ := hrel
      have HG := Lib.hid hg
      have HI := Lib.hid H
      have h0 := H.2.1.head
      clear H hg
      by_cases hi : i < n + 1
      · have hii : (i : Int) < (n : Int) + 1 := by omega
        go_wp2
        go_loopg [35] (n + 1) (fun g v wr => ∃ j : Nat, v = .int .i64 j ∧ FillR w1 b w.heap.size n m' g i j wr ∧ g + j = n + 1)
        case atStart => exact ⟨0, by simp, HI.out, by omega⟩
        case round =>
          clear HI h0
          obtain ⟨j, rfl, H, hg⟩ := hrel
          have HG2 := Lib.hid hg
          have HJ := Lib.hid H
          clear hg
          by_cases hj : j < n + 1
          · have hjj : (j : Int) < (n : Int) + 1 := by omega
            have c1 := H.2.1.cell i j (by omega) (by omega)
            have f1 := H.2.2.1.frozen (1 + i * 9 + j)
            have hb2 : w.heap.size < wr.heap.size := H.2.2.1.lt
            obtain ⟨old, ho⟩ : ∃ old, wr.cell? ⟨w.heap.size, 1 + i * 9 + j, none⟩ = some (.int .i32 old) := ⟨_, H.2.2.1.cell i j (by omega) (by omega)⟩
            clear H
            obtain ⟨x, hx⟩ : ∃ x, x = m' i j := ⟨_, rfl⟩
            rw [← hx] at c1
            have HX := Lib.hid hx
            clear hx
            by_cases h1 : x = none62
            · have hx : x = 4611686018427387904 := h1
              have HX1 := Lib.hid h1
              clear h1
              subst hx
              go_wp2
              go_roundg (gk - 1)
              case measure => have := HG2.out; omega
              case rel => exact ⟨j + 1, by go_num, HJ.out.step hn (by omega) hi hj (.inl (by rw [← HX.out]; rfl)) _ (by rw [← HX.out]; rfl), by have := HG2.out; omega⟩
            · have t1 : (x == 4611686018427387904) = false := by simpa [none62] using h1
              have H1 := Lib.hid h1
              clear h1
              by_cases h2 : x < -536870912
              · have d2 : decide (x < -536870912) = true := decide_eq_true h2
                go_wp2
                go_ret2
                have hall : ¬ allR n m' := fun ha => by have := ha i (by omega) j (by omega); rw [← HX.out] at this; rcases this with h | h; exact H1.out h; omega
                have hz : zoneP n m0 = (none, 10) := by unfold zoneP; rw [HC.out]; simp only; rw [if_neg hall]
                exact ⟨(((Only.refl _ _).alloc _).trans HO.out).andThen HJ.out.1 (Nat.le_refl _), .pointer none, by rw [hz]; rfl, by rw [hz]; rfl⟩
              · have d2 : decide (x < -536870912) = false := decide_eq_false h2
                by_cases h3 : 536870913 < x
                · go_wp2
                  go_ret2
                  have hall : ¬ allR n m' := fun ha => by have := ha i (by omega) j (by omega); rw [← HX.out] at this; rcases this with h | h; exact H1.out h; omega
                  have hz : zoneP n m0 = (none, 10) := by unfold zoneP; rw [HC.out]; simp only; rw [if_neg hall]
                  exact ⟨(((Only.refl _ _).alloc _).trans HO.out).andThen HJ.out.1 (Nat.le_refl _), .pointer none, by rw [hz]; rfl, by rw [hz]; rfl⟩
                · go_wp2
                  go_roundg (gk - 1)
                  case measure => have := HG2.out; omega
                  case rel => exact ⟨j + 1, by go_num, HJ.out.step hn (by omega) hi hj (by rw [← HX.out]; exact .inr (by omega)) _ (by rw [← HX.out]; unfold nar; rw [if_neg H1.out]), by have := HG2.out; omega⟩
          · have hjj : ¬ (j : Int) < (n : Int) + 1 := by omega
            go_wp2
            go_roundg (n - i)
            case measure => have := HG.out; omega
            case rel => exact ⟨i + 1, by go_num, HJ.out.row hi hj, by omega⟩
      · have hii : ¬ (i : Int) < (n : Int) + 1 := by omega
        obtain ⟨hO2, hM2, hall⟩ := HI.out.done hi
        have HO2 := Lib.hid hO2
        have HM2 := Lib.hid hM2
        have HA := Lib.hid hall
        have hb := zone_lay n (narM n m')
        have hs := matCells_size .i32 n (narM n m')
        clear hO2 hM2 hall h0
        go_wp2_with (refine wpList_load_row rfl 42 _ rfl w.heap.size rfl 42 _ (0, 0) _ HM2.out Tryd.underlying42 rfl (by rw [matCells_size]; exact size_matrix) ?_)
        go_ret2
        have hz : zoneP n m0 = (some (narM n m'), 0) := by unfold zoneP; rw [HC.out]; simp only; rw [if_pos HA.out]
        exact ⟨((((Only.refl _ _).alloc _).trans HO.out).andThen HO2.out (Nat.le_refl _)).alloc _, .pointer (some ⟨wr.heap.size, 0, none⟩), by rw [hz]; rfl, by rw [hz]; exact ⟨_, rfl, hn, narM_right HA.out, zone_made HM2.out⟩⟩

end Go.Proofs.YtgpmfnahjepjjaaDoor
