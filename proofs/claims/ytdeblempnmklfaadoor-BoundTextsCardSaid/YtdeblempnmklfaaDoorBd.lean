/- Sum, Add, Not of the program. -/
import Derived.Test.YtdeblempnmklfaaDoorBc
namespace Go.Proofs.YtdeblempnmklfaaDoor
open Go Go.RowKit
set_option linter.unusedVariables false
set_option linter.unusedSimpArgs false

/-- A bound and an error, in a world with new blocks. -/
def Gives (w : World) (r : Int × Int) (e : Ending) (w' : World) : Prop := e = .returned (.tuple #[.int .i32 r.1, .int .i64 r.2]) ∧ Below w.heap.size w w'

set_option maxRecDepth 100000 in
set_option maxHeartbeats 1000000 in
theorem sum_any (A : Option Addr) (c : Nat) (l : List Int) (w : World) (hI : Ints w .i32 A l) (hmax : l.length ≤ 4611686018427387904) :
    Calls Tryd.prog 10 #[.slice A l.length c] w (Gives w (sumP l)) := by
  have HF := Lib.hid (fun w hI => fold_total A c l w hI hmax)
  have HI := Lib.hid hI
  rw [sum_pass]
  unfold totUp tot at HF
  obtain ⟨v, hv⟩ : ∃ v, v = sumAll l l.length := ⟨_, rfl⟩
  obtain ⟨r, hr⟩ : ∃ v, v = redAll l l.length := ⟨_, rfl⟩
  obtain ⟨i, hi⟩ : ∃ v, v = infUp l l.length := ⟨_, rfl⟩
  obtain ⟨x, hx⟩ : ∃ v, v = badUp l l.length := ⟨_, rfl⟩
  rw [← hv, ← hr, ← hi, ← hx] at HF ⊢
  clear hI hv hr hi hx
  go_enter Tryd.func10, Tryd.ntmps10
  go_wp2_with fail
  refine (HF.out _ HI.out).mono ?_
  rintro e w1 ⟨rfl, hb⟩
  have HB := Lib.hid hb
  clear hb
  have hnew : ∀ (o : Obj), Below w.heap.size w (w1.alloc o) := fun o => HB.out.alloc HB.out.size o
  have HN := Lib.hid hnew
  clear hnew
  cases x with
  | true =>
    rw [show sumR v r i true = (0, 7) from rfl]
    go_wp2
    go_ret2
    exact ⟨rfl, HN.out _⟩
  | false =>
    cases i with
    | true =>
      rw [show sumR v r true false = (2147483647, 0) from rfl]
      go_wp2
      go_ret2
      exact ⟨rfl, HN.out _⟩
    | false =>
      rw [show sumR v r false false = ofB v r from rfl]
      go_wp2_with fail
      refine (made_any v r _).mono ?_
      rintro e w' ⟨rfl, rfl⟩
      go_wp2
      go_ret2
      exact ⟨rfl, HN.out _⟩

/-- Two or three bounds in a block that was just laid. -/
theorem ints_two (w : World) (e : TypeId) (a b : Int) : Ints (w.alloc (.cells #[.int .i32 a, .int .i32 b] e (0, 0))) .i32 (some ⟨w.heap.size, 0, none⟩) [a, b] := by
  exact RowAt.ints (e := e) ⟨#[.int .i32 a, .int .i32 b], heap_alloc_new _ _, by simp [vals]⟩
theorem ints_three (w : World) (e : TypeId) (a b c : Int) : Ints (w.alloc (.cells #[.int .i32 a, .int .i32 b, .int .i32 c] e (0, 0))) .i32 (some ⟨w.heap.size, 0, none⟩) [a, b, c] := by
  exact RowAt.ints (e := e) ⟨#[.int .i32 a, .int .i32 b, .int .i32 c], heap_alloc_new _ _, by simp [vals]⟩
theorem Gives.on {w w1 : World} {r : Int × Int} {e : Ending} {w' : World} (h : Gives w1 r e w') (hb : Below w.heap.size w w1) : Gives w r e w' := ⟨h.1, hb.trans (h.2.mono hb.size)⟩

set_option maxRecDepth 100000 in
set_option maxHeartbeats 1000000 in
theorem add_any (a b : Int) (w : World) : Calls Tryd.prog 9 #[.int .i32 a, .int .i32 b] w (Gives w (sumP [a, b])) := by
  have HJ := Lib.hid (ints_two w 22 a b)
  have HB := Lib.hid ((Below.refl w.heap.size w).alloc (Nat.le_refl _) (.cells #[.int .i32 a, .int .i32 b] 22))
  obtain ⟨r, hr⟩ : ∃ r, r = sumP [a, b] := ⟨_, rfl⟩
  have HS := Lib.hid (fun w' hI => sum_any (some ⟨w.heap.size, 0, none⟩) 2 [a, b] w' hI (by simp))
  rw [← hr] at HS ⊢
  clear hr
  go_enter Tryd.func9, Tryd.ntmps9
  go_wp2_with fail
  refine (HS.out _ HJ.out).mono ?_
  intro e w1 hg
  have HG := Lib.hid (hg.on HB.out)
  obtain ⟨rfl, _⟩ := hg
  go_wp2
  go_ret2
  exact ⟨rfl, HG.out.2⟩

theorem notP_yes {b : Int} (h : someB b = true) : notP b = ofB (-(b / 2)) (!decide (b % 2 = 1)) := by unfold notP; rw [if_pos h]
set_option maxRecDepth 100000 in
set_option maxHeartbeats 1000000 in
theorem not_any (b : Int) (w : World) : Calls Tryd.prog 22 #[.int .i32 b] w (Makes (notP b) w) := by
  by_cases h : someB b = true
  · rw [notP_yes h]
    have HV := Lib.hid (fun w => value_yes b w h)
    have HO := Lib.hid (fun w => made_any (-(b / 2)) (!decide (b % 2 = 1)) w)
    obtain ⟨r, hr⟩ : ∃ r, r = ofB (-(b / 2)) (!decide (b % 2 = 1)) := ⟨_, rfl⟩
    rw [← hr] at HO ⊢
    clear hr
    have hb : -268435456 ≤ b / 2 ∧ b / 2 ≤ 268435456 := by
      obtain ⟨hr, hn⟩ : rightB b = true ∧ b ≠ 2147483647 := by simpa [someB] using h
      have := rightB_bd hr hn
      omega
    obtain ⟨q, hq⟩ : ∃ q, q = b / 2 := ⟨_, rfl⟩
    obtain ⟨z, hz⟩ : ∃ z, z = decide (b % 2 = 1) := ⟨_, rfl⟩
    rw [← hq] at hb
    rw [← hq, ← hz] at HV HO
    have g1 : IntKind.i64.wrap (-q) = -q := IntWalk.i64_in _ (by omega)
    clear hq hz h hb
    go_enter Tryd.func22, Tryd.ntmps22
    go_wp2_with fail
    refine (HV.out _).mono ?_
    rintro e w' ⟨rfl, rfl⟩
    go_wp2_with fail
    refine (HO.out _).mono ?_
    rintro e w' ⟨rfl, rfl⟩
    go_wp2
    go_ret2
    exact ⟨rfl, rfl⟩
  · have h : someB b = false := by simpa using h
    have HV := Lib.hid (fun w => value_no b w h)
    by_cases hn : b = 2147483647
    · subst hn
      rw [show notP 2147483647 = (0, 4) by decide]
      clear h
      go_enter Tryd.func22, Tryd.ntmps22
      go_wp2_with fail
      refine (HV.out _).mono ?_
      rintro e w' ⟨rfl, rfl⟩
      go_wp2
      go_ret2
      exact ⟨rfl, rfl⟩
    · have hr : rightB b = false := by simpa [someB, hn] using h
      rw [show notP b = (0, 7) by unfold notP; simp [h, hr]]
      have t0 : (b == 2147483647) = false := by simp [hn]
      clear h hr hn
      go_enter Tryd.func22, Tryd.ntmps22
      go_wp2_with fail
      refine (HV.out _).mono ?_
      rintro e w' ⟨rfl, rfl⟩
      go_wp2
      go_ret2
      exact ⟨rfl, rfl⟩

end Go.Proofs.YtdeblempnmklfaaDoor
