/- What is asked of the document's zones; rows held against one another. -/
import Derived.Test.YtgpmfnahjepjjaaRf
namespace Go.Proofs.Ytgpmfnahjepjjaa
open Go Go.RowKit
set_option linter.unusedVariables false
set_option linter.unusedSimpArgs false

/-- Are two rows the same? -/
def sameL (xs ys : List Int) : Bool := decide (xs = ys)
theorem sameL_len {xs ys : List Int} (h : ¬ xs.length = ys.length) : sameL xs ys = false := decide_eq_false fun e => h (by rw [e])
theorem sameL_no {xs ys : List Int} {p : Nat} (h : ¬ xs.getD p 0 = ys.getD p 0) : sameL xs ys = false := decide_eq_false fun e => h (by rw [e])
theorem sameL_yes {xs ys : List Int} (hl : xs.length = ys.length) (h : ∀ p, p < xs.length → xs.getD p 0 = ys.getD p 0) : sameL xs ys = true := decide_eq_true (list_ext0 hl h)

set_option maxRecDepth 100000 in
set_option maxHeartbeats 1000000 in
theorem same_any (A : Option Addr) (c : Nat) (xs : List Int) (A' : Option Addr) (c' : Nat) (ys : List Int) (w : World) (hI : Ints w .i32 A xs) (hI' : Ints w .i32 A' ys) (hx : xs.length ≤ 4611686018427387904) (hy : ys.length ≤ 4611686018427387904) :
    Calls Try.prog 12 #[.slice A xs.length c, .slice A' ys.length c'] w fun e w' => e = .returned (.bool (sameL xs ys)) ∧ ∃ q, w' = w.drewN q := by
  have HI := Lib.hid hI
  have HI' := Lib.hid hI'
  clear hI hI'
  by_cases hl : xs.length = ys.length
  · have t1 : ((xs.length : Int) != (ys.length : Int)) = false := by simp [hl]
    have t2 : ((xs.length : Int) == (ys.length : Int)) = true := by simp [hl]
    have HL := Lib.hid hl
    have hle : xs.length ≤ ys.length := by omega
    clear hl
    go_enter Try.func12, Try.ntmps12
    go_wp2
    go_loopg [5] xs.length (fun g v wr => ∃ p : Nat, v = .int .i64 p ∧ (∃ q, wr = w.drewN q) ∧ Hid (p ≤ xs.length ∧ g + p = xs.length ∧ ∀ q, q < p → xs.getD q 0 = ys.getD q 0))
    case atStart => exact ⟨0, by simp, ⟨0, rfl⟩, by omega, by omega, fun q h => by omega⟩
    case round =>
      obtain ⟨p, rfl, ⟨q, rfl⟩, HG⟩ := hrel
      by_cases hp : p < xs.length
      · obtain ⟨b, off, rfl, hc⟩ := HI.out p hp
        obtain ⟨b', off', rfl, hc'⟩ := HI'.out p (by omega)
        have hpy : p < ys.length := by omega
        have hpi : (p : Int) < (xs.length : Int) := by omega
        have hpyi : (p : Int) < (ys.length : Int) := by omega
        obtain ⟨x, hx⟩ : ∃ x, x = xs.getD p 0 := ⟨_, rfl⟩
        obtain ⟨y, hy⟩ : ∃ y, y = ys.getD p 0 := ⟨_, rfl⟩
        rw [← hx] at hc
        rw [← hy] at hc'
        have HX := Lib.hid hx
        have HY := Lib.hid hy
        clear hx hy
        by_cases he : x = y
        · subst he
          go_wp2_with fail
          go_quiet (fail)
          go_wp2
          go_roundg (gk - 1)
          case measure => have h := HG.out; omega
          case rel =>
            refine ⟨p + 1, by go_num, ⟨_, rfl⟩, by omega, by have h := HG.out.2.1; omega, fun r hr => ?_⟩
            by_cases e : r = p
            · subst e; rw [← HX.out, ← HY.out]
            · exact HG.out.2.2 r (by omega)
        · have t3 : (x != y) = true := by simp [he]
          have t4 : (x == y) = false := by simp [he]
          have hs : sameL xs ys = false := sameL_no (p := p) (by rw [← HX.out, ← HY.out]; exact he)
          have HS := Lib.hid hs
          clear he hs
          go_wp2_with fail
          go_quiet (fail)
          go_wp2
          go_ret
          exact ⟨by rw [HS.out]; rfl, ⟨_, World.drewN_drewN ..⟩⟩
      · have e : p = xs.length := by have := HG.out.1; omega
        have hs : sameL xs ys = true := sameL_yes HL.out (by rw [← e]; exact HG.out.2.2)
        have HS := Lib.hid hs
        clear hs e
        go_wp2
        go_ret
        exact ⟨by rw [HS.out]; rfl, ⟨_, rfl⟩⟩
  · have t1 : ((xs.length : Int) != (ys.length : Int)) = true := by simp; omega
    have t2 : ((xs.length : Int) == (ys.length : Int)) = false := by simp; omega
    have t3 : (xs.length == ys.length) = false := by simp [hl]
    rw [sameL_len hl]
    clear hl
    go_enter Try.func12, Try.ntmps12
    go_wp2
    go_ret
    exact ⟨rfl, ⟨0, rfl⟩⟩

/-! ### the document's zones -/
theorem RefZ.parts {w : World} {v : Value} {n : Nat} {m : Mat} (h : RefZ w v (some (n, m))) : ∃ b g cap, v = .pointer (some ⟨b, 0, none⟩) ∧ n ≤ 8 ∧ RightM n m ∧
    w.cell? ⟨b, 0, none⟩ = some (.int .i64 n) ∧ w.cell? ⟨b, 1, none⟩ = some (.slice (some ⟨g, 0, none⟩) ((n + 1) * (n + 1)) cap) ∧ RowAt w g 37 .i32 (flat n m) := by
  obtain ⟨b, g, cap, h1, h2, h3, h4, h5⟩ := h
  exact ⟨b, g, cap, h1, h2, h3, by simp [World.cell?, h4], by simp [World.cell?, h4], h5⟩

/-- The number of a zone's clocks. -/
def dimP (z : Option (Nat × Mat)) : Int := match z with | some (n, _) => n | none => 0
/-- All cells of a zone. -/
def cellsP (z : Option (Nat × Mat)) : List Int := match z with | some (n, m) => flat n m | none => []

set_option maxRecDepth 100000 in
theorem rdim_any (v : Value) (z : Option (Nat × Mat)) (w : World) (h : RefZ w v z) : Calls Try.prog 20 #[v] w fun e w' => e = .returned (.int .i64 (dimP z)) ∧ w = w' := by
  match z, h with
  | none, h =>
    have h : v = .pointer none := h
    subst h
    show Calls Try.prog 20 _ _ fun e w' => e = .returned (.int .i64 0) ∧ w = w'
    go_enter Try.func20, Try.ntmps20
    go_wp2
    go_ret
    exact ⟨rfl, rfl⟩
  | some (n, m), h =>
    obtain ⟨b, g, cap, e, _, _, h0, _, _⟩ := h.parts
    clear h
    subst e
    show Calls Try.prog 20 _ _ fun e w' => e = .returned (.int .i64 n) ∧ w = w'
    go_enter Try.func20, Try.ntmps20
    go_wp2
    go_ret
    exact ⟨rfl, rfl⟩

/-- Has a zone no valuation? -/
def emptyP (z : Option (Nat × Mat)) : Bool := match z with | some (_, m) => decide (m 0 0 < 1) | none => false
/-- The document asks it so. -/
def emptyR (z : Option (Nat × Mat)) : Bool := match z with | some (_, m) => decide (m 0 0 ≠ 1) | none => false

set_option maxRecDepth 100000 in
theorem rempty_any (v : Value) (z : Option (Nat × Mat)) (w : World) (h : RefZ w v z) : Calls Try.prog 22 #[v] w fun e w' => e = .returned (.bool (emptyR z)) ∧ w = w' := by
  match z, h with
  | none, h =>
    have h : v = .pointer none := h
    subst h
    show Calls Try.prog 22 _ _ fun e w' => e = .returned (.bool false) ∧ w = w'
    go_enter Try.func22, Try.ntmps22
    go_wp2
    go_ret
    exact ⟨rfl, rfl⟩
  | some (n, m), h =>
    obtain ⟨b, g, cap, e, _, _, h0, h1, hr⟩ := h.parts
    clear h
    subst e
    have c0 := hr.cell 0 (by rw [flat_length]; exact Nat.mul_pos (by omega) (by omega))
    have e0 : (flat n m).getD 0 0 = m 0 0 := by have := flat_at m (show 0 < n + 1 by omega) (show 0 < n + 1 by omega); simpa using this
    rw [e0] at c0
    obtain ⟨N, hN⟩ : ∃ N, N = (n + 1) * (n + 1) := ⟨_, rfl⟩
    have hN0 : 0 < N := by rw [hN]; exact Nat.mul_pos (by omega) (by omega)
    have hN1 : (0 : Int) < (N : Int) := by omega
    rw [← hN] at h1
    clear hr e0 hN
    by_cases he : m 0 0 = 1
    · have hz : emptyR (some (n, m)) = false := decide_eq_false (fun h => h he)
      have t1 : (m 0 0 != 1) = false := by simp [he]
      rw [hz]
      clear hz he
      go_enter Try.func22, Try.ntmps22
      go_wp2
      go_ret
      exact ⟨by simp [t1], rfl⟩
    · have hz : emptyR (some (n, m)) = true := decide_eq_true he
      have t1 : (m 0 0 != 1) = true := by simp [he]
      rw [hz]
      clear hz he
      go_enter Try.func22, Try.ntmps22
      go_wp2
      go_ret
      exact ⟨by simp [t1], rfl⟩

end Go.Proofs.Ytgpmfnahjepjjaa
