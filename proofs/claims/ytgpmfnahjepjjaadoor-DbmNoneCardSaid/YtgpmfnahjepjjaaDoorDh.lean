/- Have two zones a valuation in common? The strictest of bounds. -/
import Derived.Test.YtgpmfnahjepjjaaDoorDe
import Derived.Test.YtgpmfnahjepjjaaDoorBl
import Derived.Test.YtgpmfnahjepjjaaDoorDb
import Derived.Test.YtgpmfnahjepjjaaDoorDd
import Derived.Deep.RegionHeld3
namespace Go.Proofs.YtgpmfnahjepjjaaDoor
open Go Go.RowKit
set_option linter.unusedVariables false
set_option linter.unusedSimpArgs false
attribute [local go_sem] min_ints max_ints
theorem least_two {w : World} {b : Nat} {x y : Int} (h0 : w.cell? ⟨b, 0, none⟩ = some (.int .i32 x)) (h1 : w.cell? ⟨b, 1, none⟩ = some (.int .i32 y)) : Ints w .i32 (some ⟨b, 0, none⟩) [x, y] := by
  intro j hj
  refine ⟨b, 0, rfl, ?_⟩
  match j, hj with
  | 0, _ => simpa using h0
  | 1, _ => simpa using h1

/-- The strictest cells of both. -/
def minM (m o : Mat) : Mat := fun i j => min (min 2147483647 (m i j)) (o i j)
theorem minM_right {n : Nat} {m o : Mat} (h : RightM n m) (h' : RightM n o) : RightM n (minM m o) := fun i j hi hj => by
  have h1 := h i j hi hj
  have h2 := h' i j hi hj
  unfold rightB at h1 h2 ⊢
  rw [decide_eq_true_iff] at h1 h2 ⊢
  simp only [minM, Int.min_def]
  split <;> split <;> omega
/-- The wide matrix of what two have in common. -/
def meetM (n : Nat) (m o : Mat) (p : Nat) : Mat := keepUp n (flat n (minM m o)) p
theorem meetM_fit {n : Nat} {m o : Mat} (h : RightM n (minM m o)) (p : Nat) (hp : p ≤ (n + 1) * (n + 1)) : Fit n 1073741824 (meetM n m o p) := by
  refine keepUp_fit _ _ _ fun q hq => ?_
  rw [flat_getD _ _ _ (by omega)]
  have : q / (n + 1) < n + 1 := Nat.div_lt_of_lt_mul (by omega)
  have := Nat.mod_lt q (show 0 < n + 1 by omega)
  exact h _ _ (by omega) (by omega)
theorem meetM_step {n : Nat} {m o : Mat} {i j : Nat} (hi : i < n + 1) (hj : j < n + 1) : meetM n m o (i * (n + 1) + j + 1) = keepM (meetM n m o (i * (n + 1) + j)) i j (min (min 2147483647 (m i j)) (o i j)) := by
  have h := at_row (i := i) hj
  have hlt : i * (n + 1) + j < (n + 1) * (n + 1) := by
    have : i * (n + 1) ≤ n * (n + 1) := Nat.mul_le_mul_right _ (by omega)
    rw [Nat.add_mul, Nat.one_mul]; omega
  show keepM (keepUp n (flat n (minM m o)) (i * (n + 1) + j)) ((i * (n + 1) + j) / (n + 1)) ((i * (n + 1) + j) % (n + 1)) ((flat n (minM m o)).getD (i * (n + 1) + j) 0) = _
  rw [flat_getD _ _ _ hlt, h.1, h.2]; rfl

/-- The wide matrix in the first new block, so far. -/
def MeetR (w0 : World) (n : Nat) (m o : Mat) (i j : Nat) (wr : World) : Prop :=
  Below w0.heap.size w0 wr ∧ MatAt wr w0.heap.size 65 .i64 n (meetM n m o (i * (n + 1) + j)) ∧ i ≤ n + 1 ∧ j ≤ n + 1

def meetsP (z o : Option (Nat × Mat)) : Bool := match z, o with
  | some (n, m), some (k, o) => decide (n = k) && (closed n (meetM n m o ((n + 1) * (n + 1)))).isSome
  | _, _ => false
def meets1 (n : Nat) (m o : Mat) : Bool := (closed n (meetM n m o ((n + 1) * (n + 1)))).isSome

theorem meet_below {w0 wr w3 : World} {o : Obj} (h : Below w0.heap.size w0 wr) (ho : Only w0.heap.size (wr.alloc o).drew w3) : Below w0.heap.size w0 w3 :=
  ((h.alloc h.size o).drew).trans (ho.below (Nat.le_refl _) (by have := h.size; simp; omega))

set_option maxRecDepth 100000 in
set_option maxHeartbeats 2000000 in
theorem meets_two (b c n : Nat) (m o : Mat) (w : World) (hn : n ≤ 8) (hrm : RightM n m) (hro : RightM n o) (h : MatAt w b 44 .i32 n m) (h' : MatAt w c 44 .i32 n o) :
    Calls Tryd.prog 12 #[.pointer (some ⟨b, 0, none⟩), .pointer (some ⟨c, 0, none⟩)] w fun e w' => e = .returned (.bool (meets1 n m o)) ∧ Below w.heap.size w w' := by
  have H := Lib.hid h
  have H' := Lib.hid h'
  have HR := Lib.hid (minM_right hrm hro)
  clear h h' hrm hro
  go_enter Tryd.func12, Tryd.ntmps12
  go_wp2_with fail
  refine (alike_same b c n m o _ H.out H'.out).mono ?_
  rintro e w1 ⟨rfl, q, rfl⟩
  have h0 := (H.out.drewN q).head
  have HB := Lib.hid (show Below w.heap.size w (w.drewN q) from belowN (Below.refl _ _) q)
  have hsz : (w.drewN q).heap.size = w.heap.size := rfl
  have HZ := Lib.hid hsz
  clear hsz
  generalize w.drewN q = wq at *
  go_wp2_with fail
  refine (open_any n _ hn).mono ?_
  rintro e w1 ⟨rfl, hb1, hm1⟩
  rw [HZ.out] at hb1 hm1 ⊢
  have hB1 : Below w.heap.size w w1 := HB.out.trans hb1
  have h0 := (H.out.later hB1).head
  have HS := Lib.hid (show MeetR w n m o 0 0 w1 from ⟨hB1, by simpa [meetM, keepUp] using hm1, by omega, by omega⟩)
  clear hb1 hm1 hB1
  go_wp2
  go_loopg [24] (n + 1) (fun g v wr => ∃ i : Nat, v = .int .i64 i ∧ MeetR w n m o i 0 wr ∧ Hid (g + i = n + 1))
  case atStart => exact ⟨0, by simp, HS.out, by show _ = _; omega⟩
  case round =>
    clear HS h0
    obtain ⟨i, rfl, HA, HG⟩ := hrel
    have HI := Lib.hid HA
    have h0 := (H.out.later HA.1).head
    clear HA
    by_cases hi : i < n + 1
    · have hii : (i : Int) < (n : Int) + 1 := by omega
      go_wp2
      go_loopg [33] (n + 1) (fun g v wr => ∃ j : Nat, v = .int .i64 j ∧ MeetR w n m o i j wr ∧ Hid (g + j = n + 1))
      case atStart => exact ⟨0, by simp, HI.out, by show _ = _; omega⟩
      case round =>
        clear HI h0
        obtain ⟨j, rfl, HA, HG2⟩ := hrel
        have HJ := Lib.hid HA
        by_cases hj : j < n + 1
        · have hjj : (j : Int) < (n : Int) + 1 := by omega
          have c1 := (H.out.later HA.1).cell i j (by omega) (by omega)
          have c2 := (H'.out.later HA.1).cell i j (by omega) (by omega)
          clear HA
          have i9 : (i : Int) < 9 := by omega
          have j9 : (j : Int) < 9 := by omega
          obtain ⟨x, hx⟩ : ∃ x, x = m i j := ⟨_, rfl⟩
          obtain ⟨y, hy⟩ : ∃ y, y = o i j := ⟨_, rfl⟩
          rw [← hx] at c1
          rw [← hy] at c2
          have hxy := HR.out i j (by omega) (by omega)
          have hstep := meetM_step (m := m) (o := o) hi hj
          rw [← hx, ← hy] at hstep
          have hmin : minM m o i j = min (min 2147483647 x) y := by rw [hx, hy]; rfl
          rw [hmin] at hxy
          have hb : -2147483648 ≤ min (min 2147483647 x) y ∧ min (min 2147483647 x) y ≤ 2147483647 := by
            unfold rightB at hxy; have := of_decide_eq_true hxy; omega
          have HSt := Lib.hid hstep
          have HXY := Lib.hid hxy
          have HBB := Lib.hid hb
          have HX := Lib.hid hx
          have HY := Lib.hid hy
          clear hx hy hxy hstep hmin hb
          have hlt1 : b < wr.heap.size := (H.out.later HJ.out.1).lt
          have hlt2 : c < wr.heap.size := (H'.out.later HJ.out.1).lt
          go_wp2_with fail
          go_region_held3 (fun w' => w'.cell? ⟨b, 1 + i * 9 + j, none⟩ = some (.int .i32 x) ∧ w'.cell? ⟨c, 1 + i * 9 + j, none⟩ = some (.int .i32 y)) (first | go_keep | exact ⟨k1, k2⟩)
            (first | (go_at_call 23; refine (least_any _ _ [x, y] _ (by exact least_two (by simp) (by simp)) (by simp)).mono ?_; rintro e w' ⟨rfl, rfl⟩) | (go_at_call 22; refine (keep_any _ _ _ i j n _ _ _ (by omega) (by omega) (by exact (HJ.out.2.1.drew.alloc _)) (by rfl) (by rfl) (by exact HBB.out.1) (by exact HBB.out.2)).mono ?_; rintro e w3 ⟨rfl, ho, hm3⟩; have HM3 := Lib.hid hm3; have HB3 := Lib.hid (meet_below HJ.out.1 ho); have k1 : w3.cell? ⟨b, 1 + i * 9 + j, none⟩ = some (.int .i32 x) := (by rw [HX.out]; exact (H.out.later HB3.out).cell i j (by omega) (by omega)); have k2 : w3.cell? ⟨c, 1 + i * 9 + j, none⟩ = some (.int .i32 y) := (by rw [HY.out]; exact (H'.out.later HB3.out).cell i j (by omega) (by omega)); clear ho hm3))
          go_wp2
          go_roundg (gk - 1)
          case measure => have h := HG2.out; omega
          case rel =>
            refine ⟨j + 1, by go_num, ⟨HB3.out, ?_, HJ.out.2.2.1, by omega⟩, by have h := HG2.out; show _ = _; omega⟩
            have e : i * (n + 1) + (j + 1) = i * (n + 1) + j + 1 := by omega
            rw [e, HSt.out]
            exact HM3.out
        · have hjj : ¬ (j : Int) < (n : Int) + 1 := by omega
          clear HA
          go_wp2
          go_roundg (n - i)
          case measure => have h := HG.out; omega
          case rel =>
            refine ⟨i + 1, by go_num, ⟨HJ.out.1, ?_, by omega, by omega⟩, by show _ = _; omega⟩
            have e : (i + 1) * (n + 1) + 0 = i * (n + 1) + j := by have := HJ.out.2.2.2; rw [Nat.add_mul]; omega
            rw [e]
            exact HJ.out.2.1
    · have hii : ¬ (i : Int) < (n : Int) + 1 := by omega
      have e : i = n + 1 := by have := HI.out.2.2.1; omega
      go_wp2_with fail
      refine (close_any w.heap.size n (meetM n m o ((n + 1) * (n + 1))) wr hn (by have := HI.out.2.1; rw [e, Nat.add_zero] at this; exact this) (meetM_fit HR.out _ (Nat.le_refl _))).mono ?_
      rintro e2 w4 ⟨ho, hcl⟩
      have HB4 := Lib.hid (HI.out.1.trans (ho.below (Nat.le_refl _) HI.out.1.size))
      clear ho h0
      rcases hcl with ⟨hc, rfl⟩ | ⟨m', hc, rfl, hm⟩
      · have hf : meets1 n m o = false := by unfold meets1; rw [hc]; rfl
        clear hc
        go_wp2
        go_ret
        exact ⟨by rw [hf]; rfl, HB4.out⟩
      · have hf : meets1 n m o = true := by unfold meets1; rw [hc]; rfl
        clear hc hm
        go_wp2
        go_ret
        exact ⟨by rw [hf]; rfl, HB4.out⟩

set_option maxRecDepth 100000 in
set_option maxHeartbeats 1000000 in
theorem meets_other (b c n k : Nat) (m o : Mat) (w : World) (h : MatAt w b 44 .i32 n m) (h' : MatAt w c 44 .i32 k o) (hne : n ≠ k) :
    Calls Tryd.prog 12 #[.pointer (some ⟨b, 0, none⟩), .pointer (some ⟨c, 0, none⟩)] w fun e w' => e = .returned (.bool false) ∧ Below w.heap.size w w' := by
  go_enter Tryd.func12, Tryd.ntmps12
  go_wp2_with fail
  refine (alike_other b c n k m o _ h h' hne).mono ?_
  rintro e w1 ⟨rfl, q, rfl⟩
  clear h h'
  go_wp2
  go_ret
  exact ⟨rfl, belowN (Below.refl _ _) q⟩
set_option maxRecDepth 100000 in
set_option maxHeartbeats 1000000 in
theorem meets_nil (v : Value) (w : World) : Calls Tryd.prog 12 #[.pointer none, v] w fun e w' => e = .returned (.bool false) ∧ Below w.heap.size w w' := by
  go_enter Tryd.func12, Tryd.ntmps12
  go_wp2_with fail
  refine (alike_nil v _).mono ?_
  rintro e w1 ⟨rfl, q, rfl⟩
  go_wp2
  go_ret
  exact ⟨rfl, belowN (Below.refl _ _) q⟩
set_option maxRecDepth 100000 in
set_option maxHeartbeats 1000000 in
theorem meets_ofnil (b n : Nat) (m : Mat) (w : World) (h : MatAt w b 44 .i32 n m) : Calls Tryd.prog 12 #[.pointer (some ⟨b, 0, none⟩), .pointer none] w fun e w' => e = .returned (.bool false) ∧ Below w.heap.size w w' := by
  go_enter Tryd.func12, Tryd.ntmps12
  go_wp2_with fail
  refine (alike_none b n m _ h).mono ?_
  rintro e w1 ⟨rfl, q, rfl⟩
  clear h
  go_wp2
  go_ret
  exact ⟨rfl, belowN (Below.refl _ _) q⟩

/-- Meets, of any two. -/
theorem meets_any (v v' : Value) (z o : Option (Nat × Mat)) (w : World) (h : ZoneV 44 w v z) (h' : ZoneV 44 w v' o) :
    Calls Tryd.prog 12 #[v, v'] w fun e w' => e = .returned (.bool (meetsP z o)) ∧ Below w.heap.size w w' := by
  match z, h with
  | none, h =>
    have h : v = .pointer none := h
    subst h
    exact meets_nil v' w
  | some (n, m), ⟨b, e, hn, hr, hm⟩ =>
    subst e
    match o, h' with
    | none, h' =>
      have h' : v' = .pointer none := h'
      subst h'
      exact meets_ofnil b n m w hm
    | some (k, o), ⟨c, e, _, hr', ho⟩ =>
      subst e
      by_cases hk : n = k
      · subst hk
        have e : meetsP (some (n, m)) (some (n, o)) = meets1 n m o := by simp [meetsP, meets1]
        rw [e]
        exact meets_two b c n m o w hn hr hr' hm ho
      · have e : meetsP (some (n, m)) (some (k, o)) = false := by simp [meetsP, hk]
        rw [e]
        exact meets_other b c n k m o w hm ho hk

end Go.Proofs.YtgpmfnahjepjjaaDoor
