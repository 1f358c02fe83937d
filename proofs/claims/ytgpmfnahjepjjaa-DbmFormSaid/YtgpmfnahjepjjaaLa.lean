/- A zone by the program and by the document: the same. -/
import Derived.Test.YtgpmfnahjepjjaaRh
import Derived.Test.YtgpmfnahjepjjaaDd
namespace Go.Proofs.Ytgpmfnahjepjjaa
open Go Go.RowKit
set_option linter.unusedVariables false
set_option linter.unusedSimpArgs false

/-- The zone that Of tells of. -/
def zOf (n : Int) (cells : List Int) : Option (Nat × Mat) := (ofP n cells).1.map fun m => (n.toNat, m)
theorem sameL_self (xs : List Int) : sameL xs xs = true := decide_eq_true rfl

/-- Two rows of the call's own that hold the same. -/
theorem same_own {w : World} {b b' : Nat} {e e' : TypeId} {v v' : Value} {xs : List Int} (h : OwnI w b e .i32 v xs) (h' : OwnI w b' e' .i32 v' xs) (hx : xs.length ≤ 4611686018427387904) :
    Calls Try.prog 12 #[v, v'] w fun e w' => e = .returned (.bool true) ∧ ∃ q, w' = w.drewN q := by
  obtain ⟨A, c, rfl, hi⟩ := h.slice
  obtain ⟨A', c', rfl, hi'⟩ := h'.slice
  exact (same_any A c xs A' c' xs w hi hi' hx hx).mono fun _ _ k => ⟨by rw [k.1, sameL_self], k.2⟩

theorem cellsP_short (z : Option (Nat × Mat)) (h : ∀ n m, z = some (n, m) → n ≤ 8) : (cellsP z).length ≤ 81 := by
  match z with
  | none => simp [cellsP]
  | some (n, m) =>
    have hn := h n m rfl
    show (flat n m).length ≤ 81
    rw [flat_length]
    have := Nat.mul_le_mul (show n + 1 ≤ 9 by omega) (show n + 1 ≤ 9 by omega)
    omega

/-- What both tells. -/
def BothEnds (w0 : World) (n : Int) (cells : List Int) (e : Ending) (w' : World) : Prop :=
  Below w0.heap.size w0 w' ∧ ∃ v v', e = .returned (.tuple #[v, v', .bool true]) ∧ ZoneV 76 w' v (zOf n cells) ∧ RefZ w' v' (zOf n cells)

set_option maxRecDepth 100000 in
set_option maxHeartbeats 2000000 in
theorem both_any (n : Int) (A : Option Addr) (c : Nat) (cells : List Int) (w : World) (hI : Ints w .i32 A cells) (hmax : cells.length ≤ 4611686018427387904)
    (hk : ∀ q, q < cells.length → -2147483648 ≤ cells.getD q 0 ∧ cells.getD q 0 ≤ 2147483647) :
    Calls Try.prog 10 #[.int .i64 n, .slice A cells.length c] w (BothEnds w n cells) := by
  have HI := Lib.hid hI
  have HK := Lib.hid hk
  clear hI hk
  go_enter Try.func10, Try.ntmps10
  go_wp2_with fail
  refine (of_any n A c cells _ HI.out hmax HK.out).mono ?_
  rintro e w1 ⟨hb, v, rfl, hv⟩
  have HB1 := Lib.hid hb
  have HV1 := Lib.hid (show ZoneV 76 w1 v (zOf n cells) from hv)
  clear hb hv
  go_wp2_with fail
  refine (rof_any n A c cells _ (HI.out.below HB1.out) hmax HK.out).mono ?_
  rintro e w2 ⟨hb, v', rfl, hv⟩
  have HB2 := Lib.hid hb
  have HV2 := Lib.hid (show RefZ w2 v' (zOf n cells) from hv)
  have HVZ := Lib.hid (HV1.out.below hb)
  clear hb hv
  have HBB := Lib.hid (HB1.out.trans (HB2.out.mono HB1.out.size))
  obtain ⟨ec, hec⟩ : ∃ ec, ec = (ofP n cells).2 := ⟨_, rfl⟩
  rw [← hec]
  clear hec
  have hshort : (cellsP (zOf n cells)).length ≤ 81 := cellsP_short _ fun k m h => by
    have := HVZ.out
    rw [h] at this
    obtain ⟨_, _, hn, _⟩ := this
    exact hn
  have HSh := Lib.hid hshort
  clear hshort
  have hform : (v = .pointer none ∧ v' = .pointer none) ∨ ∃ b b', v = .pointer (some b) ∧ v' = .pointer (some b') := by
    have h1 := HVZ.out
    have h2 := HV2.out
    cases hz : zOf n cells with
    | none => rw [hz] at h1 h2; exact .inl ⟨h1, h2⟩
    | some p =>
      obtain ⟨k, m⟩ := p
      rw [hz] at h1 h2
      obtain ⟨b, e1, _⟩ := h1
      obtain ⟨b', _, _, e2, _⟩ := h2
      exact .inr ⟨_, _, e1, e2⟩
  rcases hform with ⟨rfl, rfl⟩ | ⟨b, b', rfl, rfl⟩
  all_goals
    go_wp2_with fail
    refine (cells_any _ _ _ HVZ.out).mono ?_
    rintro e w3 ⟨l, rfl, hb3, ho3⟩
    have HB3 := Lib.hid hb3
    have HO3 := Lib.hid ho3
    clear hb3 ho3
    go_wp2_with fail
    refine (rcells_any _ _ _ (HV2.out.below HB3.out)).mono ?_
    rintro e w4 ⟨l', rfl, hb4, ho4⟩
    have HB4 := Lib.hid hb4
    have HO4 := Lib.hid ho4
    clear hb4 ho4
    go_wp2_with fail
    refine (same_own (HO3.out.later HB4.out) HO4.out (by have := HSh.out; omega)).mono ?_
    rintro e w5 ⟨rfl, q, rfl⟩
    go_wp2
    go_ret3
    have hb5 : Below w2.heap.size w2 (w4.drewN q) := belowN (HB3.out.trans (HB4.out.mono HB3.out.size)) q
    exact ⟨HBB.out.trans (hb5.mono HBB.out.size), _, _, rfl, HVZ.out.below hb5, HV2.out.below hb5⟩

end Go.Proofs.Ytgpmfnahjepjjaa
