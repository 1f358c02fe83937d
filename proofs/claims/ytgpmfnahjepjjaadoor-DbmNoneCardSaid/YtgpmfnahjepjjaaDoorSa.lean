/- Rows held against one another. -/
import Derived.Test.YtgpmfnahjepjjaaDoorDa
import Derived.StillTailTactics
namespace Go.Proofs.YtgpmfnahjepjjaaDoor
open Go Go.RowKit
set_option linter.unusedVariables false
set_option linter.unusedSimpArgs false

/-- Are two rows the same? -/
def sameL (xs ys : List Int) : Bool := decide (xs = ys)
theorem sameL_len {xs ys : List Int} (h : ¬ xs.length = ys.length) : sameL xs ys = false := decide_eq_false fun e => h (by rw [e])
theorem sameL_no {xs ys : List Int} {p : Nat} (h : ¬ xs.getD p 0 = ys.getD p 0) : sameL xs ys = false := decide_eq_false fun e => h (by rw [e])
theorem sameL_yes {xs ys : List Int} (hl : xs.length = ys.length) (h : ∀ p, p < xs.length → xs.getD p 0 = ys.getD p 0) : sameL xs ys = true := decide_eq_true (list_ext0 hl h)

set_option maxRecDepth 100000 in
set_option maxHeartbeats 1000000 in
theorem same_any (A : Option Addr) (c : Nat) (xs : List Int) (A' : Option Addr) (c' : Nat) (ys : List Int) (w : World) (hI : Ints w .i32 A xs) (hI' : Ints w .i32 A' ys) (hx : xs.length ≤ 4611686018427387904) (hy : ys.length ≤ 4611686018427387904) :
    Calls Tryd.prog 17 #[.slice A xs.length c, .slice A' ys.length c'] w fun e w' => e = .returned (.bool (sameL xs ys)) ∧ ∃ q, w' = w.drewN q := by
  have HI := Lib.hid hI
  have HI' := Lib.hid hI'
  clear hI hI'
  by_cases hl : xs.length = ys.length
  · have t1 : ((xs.length : Int) != (ys.length : Int)) = false := by simp [hl]
    have t2 : ((xs.length : Int) == (ys.length : Int)) = true := by simp [hl]
    have HL := Lib.hid hl
    have hle : xs.length ≤ ys.length := by omega
    clear hl
    go_enter Tryd.func17, Tryd.ntmps17
    go_wp2
    go_loopg [5] xs.length (fun g v wr => ∃ p : Nat, v = .int .i64 p ∧ (∃ q, wr = w.drewN q) ∧ Hid (p ≤ xs.length ∧ g + p = xs.length ∧ ∀ q, q < p → xs.getD q 0 = ys.getD q 0))
    case atStart => exact ⟨0, by simp, ⟨0, rfl⟩, by omega, by omega, fun q h => by omega⟩
    case round =>
      obtain ⟨p, rfl, ⟨q, rfl⟩, HG⟩ := hrel
      by_cases hp : p < xs.length
      · obtain ⟨b, off, rfl, hc⟩ := HI.out p hp
        obtain ⟨b', off', rfl, hc'⟩ := HI'.out p (by omega)
        have hpy : p < ys.length := by omega
        have hpi : (p : Int) < (xs.length : Int) := by omega
        have hpyi : (p : Int) < (ys.length : Int) := by omega
        obtain ⟨x, hx⟩ : ∃ x, x = xs.getD p 0 := ⟨_, rfl⟩
        obtain ⟨y, hy⟩ : ∃ y, y = ys.getD p 0 := ⟨_, rfl⟩
        rw [← hx] at hc
        rw [← hy] at hc'
        have HX := Lib.hid hx
        have HY := Lib.hid hy
        clear hx hy
        by_cases he : x = y
        · subst he
          go_wp2_with fail
          go_quiet (fail)
          go_wp2
          go_roundg (gk - 1)
          case measure => have h := HG.out; omega
          case rel =>
            refine ⟨p + 1, by go_num, ⟨_, rfl⟩, by omega, by have h := HG.out.2.1; omega, fun r hr => ?_⟩
            by_cases e : r = p
            · subst e; rw [← HX.out, ← HY.out]
            · exact HG.out.2.2 r (by omega)
        · have t3 : (x != y) = true := by simp [he]
          have t4 : (x == y) = false := by simp [he]
          have hs : sameL xs ys = false := sameL_no (p := p) (by rw [← HX.out, ← HY.out]; exact he)
          have HS := Lib.hid hs
          clear he hs
          go_wp2_with fail
          go_quiet (fail)
          go_wp2
          go_ret
          exact ⟨by rw [HS.out]; rfl, ⟨_, World.drewN_drewN ..⟩⟩
      · have e : p = xs.length := by have := HG.out.1; omega
        have hs : sameL xs ys = true := sameL_yes HL.out (by rw [← e]; exact HG.out.2.2)
        have HS := Lib.hid hs
        clear hs e
        go_wp2
        go_ret
        exact ⟨by rw [HS.out]; rfl, ⟨_, rfl⟩⟩
  · have t1 : ((xs.length : Int) != (ys.length : Int)) = true := by simp; omega
    have t2 : ((xs.length : Int) == (ys.length : Int)) = false := by simp; omega
    have t3 : (xs.length == ys.length) = false := by simp [hl]
    rw [sameL_len hl]
    clear hl
    go_enter Tryd.func17, Tryd.ntmps17
    go_wp2
    go_ret
    exact ⟨rfl, ⟨0, rfl⟩⟩

theorem sameL_self (xs : List Int) : sameL xs xs = true := decide_eq_true rfl

/-- Two rows of the call's own that hold the same. -/
theorem same_own {w : World} {b b' : Nat} {e e' : TypeId} {v v' : Value} {xs : List Int} (h : OwnI w b e .i32 v xs) (h' : OwnI w b' e' .i32 v' xs) (hx : xs.length ≤ 4611686018427387904) :
    Calls Tryd.prog 17 #[v, v'] w fun e w' => e = .returned (.bool true) ∧ ∃ q, w' = w.drewN q := by
  obtain ⟨A, c, rfl, hi⟩ := h.slice
  obtain ⟨A', c', rfl, hi'⟩ := h'.slice
  exact (same_any A c xs A' c' xs w hi hi' hx hx).mono fun _ _ k => ⟨by rw [k.1, sameL_self], k.2⟩


end Go.Proofs.YtgpmfnahjepjjaaDoor
