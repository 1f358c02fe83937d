/- The document's alike, Includes and Equal. -/
import Derived.Test.YtgpmfnahjepjjaaRh
namespace Go.Proofs.Ytgpmfnahjepjjaa
open Go Go.RowKit
set_option linter.unusedVariables false
set_option linter.unusedSimpArgs false

theorem RefZ.drewN {w : World} {v : Value} {z : Option (Nat × Mat)} (h : RefZ w v z) (q : Nat) : RefZ (w.drewN q) v z := h.below (belowN (Below.refl _ _) q)
/-- Is no number of the first greater? -/
def leL (xs ys : List Int) : Bool := decide (∀ p, p < ys.length → xs.getD p 0 ≤ ys.getD p 0)
theorem leL_no {xs ys : List Int} {p : Nat} (hp : p < ys.length) (h : ys.getD p 0 < xs.getD p 0) : leL xs ys = false := decide_eq_false fun e => by have := e p hp; omega
theorem leL_yes {xs ys : List Int} (h : ∀ p, p < ys.length → xs.getD p 0 ≤ ys.getD p 0) : leL xs ys = true := decide_eq_true h
/-- What the document's Includes tells. -/
def inclR (z o : Option (Nat × Mat)) : Bool := if alikeP z o then (if emptyR o || emptyR z then emptyR o else leL (cellsP o) (cellsP z)) else false

set_option maxRecDepth 100000 in
set_option maxHeartbeats 1000000 in
theorem ralike_any (v v' : Value) (z o : Option (Nat × Mat)) (w : World) (h : RefZ w v z) (h' : RefZ w v' o) :
    Calls Try.prog 58 #[v, v'] w fun e w' => e = .returned (.bool (alikeP z o)) ∧ ∃ q, w' = w.drewN q := by
  match z, h with
  | none, h =>
    have h : v = .pointer none := h
    subst h
    show Calls Try.prog 58 _ _ fun e w' => e = .returned (.bool false) ∧ ∃ q, w' = w.drewN q
    clear h'
    go_enter Try.func58, Try.ntmps58
    go_wp2_with fail
    go_quiet (fail)
    go_wp2
    go_ret
    exact ⟨rfl, _, rfl⟩
  | some (n, m), h =>
    obtain ⟨b, g, cap, e, _, _, h0, _, _⟩ := h.parts
    clear h
    subst e
    match o, h' with
    | none, h' =>
      have h' : v' = .pointer none := h'
      subst h'
      show Calls Try.prog 58 _ _ fun e w' => e = .returned (.bool false) ∧ ∃ q, w' = w.drewN q
      go_enter Try.func58, Try.ntmps58
      go_wp2_with fail
      go_quiet (fail)
      go_wp2
      go_ret
      exact ⟨rfl, _, rfl⟩
    | some (k, o), h' =>
      obtain ⟨b', g', cap', e', _, _, h0', _, _⟩ := h'.parts
      clear h'
      subst e'
      show Calls Try.prog 58 _ _ fun e w' => e = .returned (.bool (decide (n = k))) ∧ ∃ q, w' = w.drewN q
      by_cases hnk : n = k
      · rw [decide_eq_true hnk]
        subst hnk
        go_enter Try.func58, Try.ntmps58
        go_wp2_with fail
        go_quiet (fail)
        go_wp2
        go_ret
        exact ⟨by simp, _, rfl⟩
      · rw [decide_eq_false hnk]
        have t1 : ((n : Int) == (k : Int)) = false := by simp; omega
        clear hnk
        go_enter Try.func58, Try.ntmps58
        go_wp2_with fail
        go_quiet (fail)
        go_wp2
        go_ret
        exact ⟨by simp [t1], _, rfl⟩

set_option maxRecDepth 100000 in
set_option maxHeartbeats 2000000 in
theorem rincl_cells (b g cap b' g' cap' n : Nat) (m o : Mat) (w : World) (hz : RefZ w (.pointer (some ⟨b, 0, none⟩)) (some (n, m))) (ho : RefZ w (.pointer (some ⟨b', 0, none⟩)) (some (n, o)))
    (h1 : w.cell? ⟨b, 1, none⟩ = some (.slice (some ⟨g, 0, none⟩) ((n + 1) * (n + 1)) cap)) (hr : RowAt w g 37 .i32 (flat n m))
    (h1' : w.cell? ⟨b', 1, none⟩ = some (.slice (some ⟨g', 0, none⟩) ((n + 1) * (n + 1)) cap')) (hr' : RowAt w g' 37 .i32 (flat n o))
    (hem : emptyR (some (n, m)) = false) (heo : emptyR (some (n, o)) = false) (hn : n ≤ 8) :
    Calls Try.prog 38 #[.pointer (some ⟨b, 0, none⟩), .pointer (some ⟨b', 0, none⟩)] w fun e w' => e = .returned (.bool (leL (flat n o) (flat n m))) ∧ ∃ q, w' = w.drewN q := by
  have HZ := Lib.hid hz
  have HO := Lib.hid ho
  have HR := Lib.hid hr
  have HR' := Lib.hid hr'
  have HEM := Lib.hid hem
  have HEO := Lib.hid heo
  obtain ⟨N, hN⟩ : ∃ N, N = (n + 1) * (n + 1) := ⟨_, rfl⟩
  have hlm : (flat n m).length = N := by rw [flat_length, hN]
  have hlo : (flat n o).length = N := by rw [flat_length, hN]
  have HN81 := Lib.hid (show N ≤ 81 by rw [hN]; have := Nat.mul_le_mul (show n + 1 ≤ 9 by omega) (show n + 1 ≤ 9 by omega); omega)
  have HLM := Lib.hid hlm
  have HLO := Lib.hid hlo
  rw [← hN] at h1 h1'
  clear hz ho hr hr' hem heo hN hlm hlo
  go_enter Try.func38, Try.ntmps38
  go_wp2_with fail
  refine (ralike_any _ _ _ _ _ HZ.out HO.out).mono ?_
  rw [show alikeP (some (n, m)) (some (n, o)) = true from decide_eq_true rfl]
  rintro e w1 ⟨rfl, q1, rfl⟩
  go_wp2_with fail
  refine (rempty_any _ _ _ (HO.out.drewN q1)).mono ?_
  rw [HEO.out]
  rintro e w2 ⟨rfl, rfl⟩
  go_wp2_with fail
  refine (rempty_any _ _ _ (HZ.out.drewN q1)).mono ?_
  rw [HEM.out]
  rintro e w2 ⟨rfl, rfl⟩
  go_wp2
  go_loopg [5] N (fun g v wr => ∃ p : Nat, v = .int .i64 p ∧ (∃ q, wr = w.drewN q) ∧ Hid (p ≤ N ∧ g + p = N ∧ ∀ q, q < p → (flat n o).getD q 0 ≤ (flat n m).getD q 0))
  case atStart => exact ⟨0, by simp, ⟨q1, rfl⟩, by omega, by omega, fun q h => by omega⟩
  case round =>
    obtain ⟨p, rfl, ⟨q, rfl⟩, HG⟩ := hrel
    by_cases hp : p < N
    · have hc := HR.out.cell p (by rw [HLM.out]; exact hp)
      have hc' := HR'.out.cell p (by rw [HLO.out]; exact hp)
      have hpi : (p : Int) < (N : Int) := by omega
      have hp81 : p < 81 := by have := HN81.out; omega
      obtain ⟨x, hx⟩ : ∃ x, x = (flat n m).getD p 0 := ⟨_, rfl⟩
      obtain ⟨y, hy⟩ : ∃ y, y = (flat n o).getD p 0 := ⟨_, rfl⟩
      rw [← hx] at hc
      rw [← hy] at hc'
      have HX := Lib.hid hx
      have HY := Lib.hid hy
      clear hx hy
      by_cases he : x < y
      · have t3 : decide (x < y) = true := decide_eq_true he
        have hs : leL (flat n o) (flat n m) = false := leL_no (p := p) (by rw [HLM.out]; exact hp) (by rw [← HX.out, ← HY.out]; exact he)
        have HS := Lib.hid hs
        clear he hs
        go_wp2_with fail
        go_quiet (fail)
        go_wp2
        go_ret
        exact ⟨by rw [HS.out]; rfl, ⟨_, World.drewN_drewN ..⟩⟩
      · have t3 : decide (x < y) = false := decide_eq_false he
        have HE := Lib.hid he
        clear he
        go_wp2_with fail
        go_quiet (fail)
        go_wp2
        go_roundg (gk - 1)
        case measure => have h := HG.out; have h81 := HN81.out; omega
        case rel =>
          have h81 := HN81.out
          refine ⟨p + 1, by go_num, ⟨_, rfl⟩, by omega, by have h := HG.out.2.1; omega, fun r hr => ?_⟩
          by_cases e : r = p
          · subst e; rw [← HX.out, ← HY.out]; have := HE.out; omega
          · exact HG.out.2.2 r (by omega)
    · have e : p = N := by have := HG.out.1; omega
      have hs : leL (flat n o) (flat n m) = true := leL_yes (by rw [HLM.out, ← e]; exact HG.out.2.2)
      have HS := Lib.hid hs
      clear hs e
      go_wp2
      go_ret
      exact ⟨by rw [HS.out]; rfl, ⟨_, rfl⟩⟩

end Go.Proofs.Ytgpmfnahjepjjaa
