/- The sums of bounds. -/
import Derived.Test.YtdeblempnmklfaaDoorBs
import Derived.Test.YtdeblempnmklfaaDoorBag
import Derived.Deep.RegionWith
import Derived.Deep.RegionHeld3
import Derived.Laws.Rows
import Derived.Laws.CopyOwn
namespace Go.Proofs.YtdeblempnmklfaaDoor
open Go Go.RowKit
set_option linter.unusedVariables false
set_option linter.unusedSimpArgs false

/-- What the fold holds behind p bounds. -/
def totUp (l : List Int) (p : Nat) : Array Value := tot (sumAll l p) (redAll l p) (infUp l p) (badUp l p)
def FoldR (w0 : World) (l : List Int) (p : Nat) (wr : World) : Prop :=
  Below w0.heap.size w0 wr ∧ wr.heap[w0.heap.size]? = some (.cells (totUp l p) 49) ∧ wr.heap[w0.heap.size + 1]? = some (.cells (tot 0 false false false) 49)
theorem totUp_info (l : List Int) (p : Nat) : (Tryd.prog.info? 49).map (·.size) = some (totUp l p).size := by
  have h : (Tryd.prog.info? 49).map (·.size) = some 4 := by kernel_rfl
  exact h
theorem totUp_all (l : List Int) (p : Nat) : (totUp l p).all (·.oneCell') = true := by simp [totUp, tot, Value.oneCell']
theorem totUp_old (l : List Int) (p q : Nat) : (totUp l p).size = (totUp l q).size := by simp [totUp, tot]
theorem tot_old (l : List Int) (q : Nat) : (tot 0 false false false).size = (totUp l q).size := by simp [totUp, tot]
theorem lt_of_heap {w : World} {g : Nat} {o : Obj} (h : w.heap[g]? = some o) : g < w.heap.size := by
  by_cases c : g < w.heap.size
  · exact c
  · rw [Array.getElem?_eq_none (by omega)] at h; cases h
theorem wrap_sum (l : List Int) : ∀ p, wrap64 (sumAll l p) = sumAll l p
  | 0 => by show wrap64 0 = 0; decide +kernel
  | p + 1 => by unfold sumAll wrap64; omega
theorem FoldR.store {w0 wr w' : World} {l : List Int} {p : Nat} (h : FoldR w0 l p wr) (hb : Below wr.heap.size wr w') : FoldR w0 l p w' :=
  ⟨h.1.trans (hb.mono h.1.size), (hb.block _ (lt_of_heap h.2.1)).trans h.2.1, (hb.block _ (lt_of_heap h.2.2)).trans h.2.2⟩
theorem FoldR.next {w0 wr : World} {l : List Int} {p : Nat} (h : FoldR w0 l p wr) : FoldR w0 l (p + 1) (wr.setRow w0.heap.size (totUp l (p + 1))) :=
  ⟨below_setRow h.1 (Nat.le_refl _) _, setRow_heap _ _ _ _ _ _ h.2.1, by rw [setRow_other _ _ _ _ (by omega)]; exact h.2.2⟩

set_option maxRecDepth 100000 in
set_option maxHeartbeats 1000000 in
theorem fold_total (A : Option Addr) (c : Nat) (l : List Int) (w : World) (hI : Ints w .i32 A l) (hmax : l.length ≤ 4611686018427387904) :
    Calls Tryd.prog 31 #[.agg (tot 0 true false false), .slice A l.length c, .func (.func 32) #[] #[]] w fun e w' => e = .returned (.agg (totUp l l.length)) ∧ Below w.heap.size w w' := by
  have HI := Lib.hid hI
  clear hI
  unfold tot
  go_enter Tryd.func31, Tryd.ntmps31
  go_wp2
  go_loopg [11] l.length (fun g v wr => ∃ p : Nat, v = .int .i64 p ∧ FoldR w l p wr ∧ Hid (p ≤ l.length ∧ g + p = l.length))
  case atStart => exact ⟨0, by simp, ⟨two_new, (heap_alloc_old _ _ (by simp)).trans (heap_alloc_new _ _), heap_alloc2_new _ _ _⟩, by omega, by omega⟩
  case round =>
    obtain ⟨p, rfl, hF, HG⟩ := hrel
    have HF := Lib.hid hF
    clear hF
    by_cases hp : p < l.length
    · obtain ⟨b, off, rfl, hc⟩ := (HI.out.below HF.out.1) p hp
      obtain ⟨x, hx⟩ : ∃ x, x = l.getD p 0 := ⟨_, rfl⟩
      rw [← hx] at hc
      have HX := Lib.hid hx
      clear hx
      go_wp2_with (refine wpList_load_row rfl 49 _ rfl w.heap.size rfl 49 _ (0, 0) _ HF.out.2.1 Tryd.underlying49 rfl (by kernel_rfl) ?_)
      refine (sum1_any (sumAll l p) (redAll l p) (infUp l p) (badUp l p) x _ (wrap_sum l p)).mono ?_
      rw [show SumEnds wr (wrap64 (sumAll l p + numB x)) (redAll l p && redB x) (infUp l p || decide (x = 2147483647)) (badUp l p || !rightB x) = SumEnds wr (sumAll l (p + 1)) (redAll l (p + 1)) (infUp l (p + 1)) (badUp l (p + 1)) by rw [HX.out]; rfl]
      rintro e w' ⟨rfl, hb⟩
      rw [show tot (sumAll l (p + 1)) (redAll l (p + 1)) (infUp l (p + 1)) (badUp l (p + 1)) = totUp l (p + 1) from rfl]
      have HF1 := Lib.hid (HF.out.store hb)
      clear hb HF hc
      go_wp2_with (refine wpList_store_row rfl 49 _ _ rfl w.heap.size _ rfl rfl 49 _ HF1.out.2.1 (totUp_info l (p + 1)) (totUp_old l _ _) (totUp_all l (p + 1)) ?_)
      go_roundg (gk - 1)
      case measure => have h := HG.out; omega
      case rel => exact ⟨p + 1, by go_num, HF1.out.next, by omega, by have h := HG.out; omega⟩
    · have e : p = l.length := by have := HG.out.1; omega
      subst e
      go_wp2_with (first | (refine wpList_load_row rfl 49 _ rfl w.heap.size rfl 49 _ (0, 0) _ HF.out.2.1 Tryd.underlying49 rfl (by kernel_rfl) ?_) | (refine wpList_store_row rfl 49 _ _ rfl (w.heap.size + 1) _ rfl rfl 49 _ HF.out.2.2 (totUp_info l l.length) (tot_old l _) (totUp_all l l.length) ?_))
      refine bodyPost_ret (results_cell_row (fn := Tryd.f31) rfl _ _ (w.heap.size + 1) _ _ _ _ rfl (setRow_heap _ _ _ _ _ _ HF.out.2.2) Tryd.underlying49 rfl (by kernel_rfl)) rfl ?_
      exact ⟨rfl, below_setRow HF.out.1 (by omega) _⟩

end Go.Proofs.YtdeblempnmklfaaDoor
