/- Texts of ours, laid together: Uf, Bs, Bc, Bd, Po, Uw, Uu, Pv, Pn, Pq. -/
import Derived.Deep.RegionWith
import Derived.Deep.RegionHeld3
import Derived.Laws.Rows
import Derived.Laws.CopyOwn
import Derived.Test.YtmelblnflalanaaGreatMg10
/- Clocks that are any. -/
namespace Go.Proofs.YtmelblnflalanaaGreat
open Go Go.RowKit
set_option linter.unusedVariables false
set_option linter.unusedSimpArgs false
attribute [local go_sem] min_ints max_ints

/-- Cells that say nothing of the first p of some clocks. -/
def freeUp (M : Mat) (n : Nat) (l : List Int) : Nat → Mat
  | 0 => M
  | p + 1 => forgetUp (l.getD p 0).toNat (freeUp M n l p) (n + 1)
/-- The cells behind Free. -/
def freeW (z : Option (Nat × Mat)) (l : List Int) : Mat := if emptyP z then openW z else freeUp (openW z) (dimN z) l l.length
/-- What Free answers of a zone. -/
def freeP (n : Nat) (m : Mat) (l : List Int) : Option Mat × Int := if l.all (isB n) = true then ofP n (flat n (freeW (some (n, m)) l)) else (none, 12)
theorem rng_free {n : Nat} {M : Mat} {l : List Int} (h : Rng n M) (hc : l.all (isB n) = true) : ∀ p, p ≤ l.length → Rng n (freeUp M n l p)
  | 0, _ => h
  | p + 1, hp => by
    have a := (all_getD l (isB n) 0).1 hc p (by omega)
    unfold isB at a
    simp only [decide_eq_true_eq] at a
    exact rng_forget (rng_free h hc p (by omega)) _ (by omega) _ (Nat.le_refl _)

end Go.Proofs.YtmelblnflalanaaGreat

/- One bound more in a sum. -/
namespace Go.Proofs.YtmelblnflalanaaGreat
open Go Go.RowKit
set_option linter.unusedVariables false
set_option linter.unusedSimpArgs false

/-- A sum under way, as the machine holds it. -/
def tot (v : Int) (r i x : Bool) : Array Value := #[.int .i64 v, .bool r, .bool i, .bool x]
/-- One bound more. -/
def SumEnds (w : World) (v : Int) (r i x : Bool) (e : Ending) (w' : World) : Prop := e = .returned (.agg (tot v r i x)) ∧ Below w.heap.size w w'

theorem two_new {w : World} {a b : Array Value} {t : TypeId} : Below w.heap.size w ((w.alloc (.cells a t)).alloc (.cells b t)) :=
  ((Below.refl _ w).alloc (Nat.le_refl _) _).alloc (by simp) _

end Go.Proofs.YtmelblnflalanaaGreat

/- The sums of bounds. -/
namespace Go.Proofs.YtmelblnflalanaaGreat
open Go Go.RowKit
set_option linter.unusedVariables false
set_option linter.unusedSimpArgs false

/-- What the fold holds behind p bounds. -/
def totUp (l : List Int) (p : Nat) : Array Value := tot (sumAll l p) (redAll l p) (infUp l p) (badUp l p)
theorem totUp_all (l : List Int) (p : Nat) : (totUp l p).all (·.oneCell') = true := by simp [totUp, tot, Value.oneCell']
theorem totUp_old (l : List Int) (p q : Nat) : (totUp l p).size = (totUp l q).size := by simp [totUp, tot]
theorem tot_old (l : List Int) (q : Nat) : (tot 0 false false false).size = (totUp l q).size := by simp [totUp, tot]
theorem lt_of_heap {w : World} {g : Nat} {o : Obj} (h : w.heap[g]? = some o) : g < w.heap.size := by
  by_cases c : g < w.heap.size
  · exact c
  · rw [Array.getElem?_eq_none (by omega)] at h; cases h
theorem wrap_sum (l : List Int) : ∀ p, wrap64 (sumAll l p) = sumAll l p
  | 0 => by show wrap64 0 = 0; decide +kernel
  | p + 1 => by unfold sumAll wrap64; omega
end Go.Proofs.YtmelblnflalanaaGreat

/- Sum, Add, Not of the program. -/
namespace Go.Proofs.YtmelblnflalanaaGreat
open Go Go.RowKit
set_option linter.unusedVariables false
set_option linter.unusedSimpArgs false

/-- A bound and an error, in a world with new blocks. -/
def Gives (w : World) (r : Int × Int) (e : Ending) (w' : World) : Prop := e = .returned (.tuple #[.int .i32 r.1, .int .i64 r.2]) ∧ Below w.heap.size w w'

/-- Two or three bounds in a block that was just laid. -/
theorem ints_two (w : World) (e : TypeId) (a b : Int) : Ints (w.alloc (.cells #[.int .i32 a, .int .i32 b] e (0, 0))) .i32 (some ⟨w.heap.size, 0, none⟩) [a, b] := by
  exact RowAt.ints (e := e) ⟨#[.int .i32 a, .int .i32 b], heap_alloc_new _ _, by simp [vals]⟩
theorem ints_three (w : World) (e : TypeId) (a b c : Int) : Ints (w.alloc (.cells #[.int .i32 a, .int .i32 b, .int .i32 c] e (0, 0))) .i32 (some ⟨w.heap.size, 0, none⟩) [a, b, c] := by
  exact RowAt.ints (e := e) ⟨#[.int .i32 a, .int .i32 b, .int .i32 c], heap_alloc_new _ _, by simp [vals]⟩
theorem Gives.on {w w1 : World} {r : Int × Int} {e : Ending} {w' : World} (h : Gives w1 r e w') (hb : Below w.heap.size w w1) : Gives w r e w' := ⟨h.1, hb.trans (h.2.mono hb.size)⟩

theorem notP_yes {b : Int} (h : someB b = true) : notP b = ofB (-(b / 2)) (!decide (b % 2 = 1)) := by unfold notP; rw [if_pos h]
end Go.Proofs.YtmelblnflalanaaGreat

/- Sums of bounds in any order: plain. -/
namespace Go.Proofs.YtmelblnflalanaaGreat
open Go Go.RowKit
set_option linter.unusedVariables false
set_option linter.unusedSimpArgs false

theorem inf_right : rightB 2147483647 = true := by decide +kernel
theorem fin_some {a : Int} (h : rightB a = true) (h' : a ≠ 2147483647) : someB a = true := by simp [someB, h, h']
theorem sum_bad {l : List Int} (h : ¬ l.all rightB = true) : sumP l = (0, 7) := by unfold sumP; rw [if_neg h]
theorem sum_two {a b : Int} (ha : rightB a = true) (hb : rightB b = true) (ha' : a ≠ 2147483647) (hb' : b ≠ 2147483647) :
    sumP [a, b] = ofB (a / 2 + b / 2) (decide (a % 2 = 1) && decide (b % 2 = 1)) := by
  have h1 := rightB_bd ha ha'
  have h2 := rightB_bd hb hb'
  have e0 : infUp [a, b] 2 = false := by simp [infUp, ha', hb']
  have e1 : redUp [a, b] 2 = (decide (a % 2 = 1) && decide (b % 2 = 1)) := by simp [redUp]
  have e2 : sumUp [a, b] 2 = a / 2 + b / 2 := by simp [sumUp, wrap64]; omega
  unfold sumP
  rw [if_pos (by simp [ha, hb])]
  show (if infUp [a, b] 2 = true then _ else ofB (sumUp [a, b] 2) (redUp [a, b] 2)) = _
  rw [e0, e1, e2]
  rfl
theorem sum_two_inf {a b : Int} (ha : rightB a = true) (hb : rightB b = true) (h : a = 2147483647 ∨ b = 2147483647) : sumP [a, b] = (2147483647, 0) := by
  have e0 : infUp [a, b] 2 = true := by rcases h with h | h <;> simp [infUp, h]
  unfold sumP
  rw [if_pos (by simp [ha, hb])]
  show (if infUp [a, b] 2 = true then _ else _) = _
  rw [e0]
  rfl
theorem sum_three {a b c : Int} (ha : rightB a = true) (hb : rightB b = true) (hc : rightB c = true) (ha' : a ≠ 2147483647) (hb' : b ≠ 2147483647) (hc' : c ≠ 2147483647) :
    sumP [a, b, c] = ofB (a / 2 + b / 2 + c / 2) (decide (a % 2 = 1) && decide (b % 2 = 1) && decide (c % 2 = 1)) := by
  have h1 := rightB_bd ha ha'
  have h2 := rightB_bd hb hb'
  have h3 := rightB_bd hc hc'
  have e0 : infUp [a, b, c] 3 = false := by simp [infUp, ha', hb', hc']
  have e1 : redUp [a, b, c] 3 = (decide (a % 2 = 1) && decide (b % 2 = 1) && decide (c % 2 = 1)) := by simp [redUp]
  have e2 : sumUp [a, b, c] 3 = a / 2 + b / 2 + c / 2 := by simp [sumUp, wrap64]; omega
  unfold sumP
  rw [if_pos (by simp [ha, hb, hc])]
  show (if infUp [a, b, c] 3 = true then _ else ofB (sumUp [a, b, c] 3) (redUp [a, b, c] 3)) = _
  rw [e0, e1, e2]
  rfl
theorem sum_three_inf {a b c : Int} (ha : rightB a = true) (hb : rightB b = true) (hc : rightB c = true) (h : a = 2147483647 ∨ b = 2147483647 ∨ c = 2147483647) : sumP [a, b, c] = (2147483647, 0) := by
  have e0 : infUp [a, b, c] 3 = true := by rcases h with h | h | h <;> simp [infUp, h]
  unfold sumP
  rw [if_pos (by simp [ha, hb, hc])]
  show (if infUp [a, b, c] 3 = true then _ else _) = _
  rw [e0]
  rfl
/-- A bound that was made. -/
theorem ofB_ok {v : Int} {r : Bool} (h : (ofB v r).2 = 0) : -268435456 ≤ v ∧ v ≤ 268435456 ∧ (ofB v r).1 / 2 = v ∧ decide ((ofB v r).1 % 2 = 1) = r ∧ rightB (ofB v r).1 = true ∧ (ofB v r).1 ≠ 2147483647 := by
  unfold ofB at h ⊢
  by_cases c : v < -268435456 ∨ 268435456 < v
  · rw [if_pos c] at h; cases h
  · rw [if_neg c]
    cases r
    · have e : decide ((2 * v + 0) % 2 = 1) = false := decide_eq_false (by omega)
      refine ⟨by omega, by omega, ?_, e, ?_, ?_⟩
      · show (2 * v + 0) / 2 = v; omega
      · exact decide_eq_true (.inr (by show _ ≤ 2 * v + 0 ∧ 2 * v + 0 ≤ _; omega))
      · show 2 * v + 0 ≠ _; omega
    · have e : decide ((2 * v + 1) % 2 = 1) = true := decide_eq_true (by omega)
      refine ⟨by omega, by omega, ?_, e, ?_, ?_⟩
      · show (2 * v + 1) / 2 = v; omega
      · exact decide_eq_true (.inr (by show _ ≤ 2 * v + 1 ∧ 2 * v + 1 ≤ _; omega))
      · show 2 * v + 1 ≠ _; omega

theorem sum_comm2 (a b : Int) : sumP [a, b] = sumP [b, a] := by
  by_cases h : rightB a = true ∧ rightB b = true
  · by_cases i : a = 2147483647 ∨ b = 2147483647
    · rw [sum_two_inf h.1 h.2 i, sum_two_inf h.2 h.1 i.symm]
    · rw [sum_two h.1 h.2 (fun e => i (.inl e)) (fun e => i (.inr e)), sum_two h.2 h.1 (fun e => i (.inr e)) (fun e => i (.inl e)), Int.add_comm, Bool.and_comm]
  · rw [sum_bad (by simpa using fun x y => h ⟨x, y⟩), sum_bad (by simpa using fun x y => h ⟨y, x⟩)]
/-- What is known where a sum could be made. -/
theorem sum_ok {a b : Int} (h : (sumP [a, b]).2 = 0) : rightB a = true ∧ rightB b = true := by
  by_cases c : rightB a = true ∧ rightB b = true
  · exact c
  · rw [sum_bad (by simpa using fun x y => c ⟨x, y⟩)] at h; cases h
theorem sum_assoc {a b c : Int} (h1 : (sumP [a, b]).2 = 0) (h2 : (sumP [b, c]).2 = 0) : sumP [(sumP [a, b]).1, c] = sumP [a, b, c] ∧ sumP [a, (sumP [b, c]).1] = sumP [a, b, c] := by
  obtain ⟨ha, hb⟩ := sum_ok h1
  obtain ⟨_, hc⟩ := sum_ok h2
  by_cases ia : a = 2147483647
  · subst ia
    rw [sum_three_inf ha hb hc (.inl rfl), sum_two_inf ha hb (.inl rfl)]
    refine ⟨sum_two_inf inf_right hc (.inl rfl), sum_two_inf ha ?_ (.inl rfl)⟩
    by_cases i : b = 2147483647 ∨ c = 2147483647
    · rw [sum_two_inf hb hc i]; exact inf_right
    · rw [sum_two hb hc (fun e => i (.inl e)) (fun e => i (.inr e))] at h2 ⊢
      exact (ofB_ok h2).2.2.2.2.1
  · by_cases ic : c = 2147483647
    · subst ic
      rw [sum_three_inf ha hb hc (.inr (.inr rfl)), sum_two_inf hb hc (.inr rfl)]
      refine ⟨sum_two_inf ?_ hc (.inr rfl), sum_two_inf ha inf_right (.inr rfl)⟩
      by_cases i : b = 2147483647
      · rw [sum_two_inf ha hb (.inr i)]; exact inf_right
      · rw [sum_two ha hb ia i] at h1 ⊢
        exact (ofB_ok h1).2.2.2.2.1
    · by_cases ib : b = 2147483647
      · subst ib
        rw [sum_three_inf ha hb hc (.inr (.inl rfl)), sum_two_inf hb hc (.inl rfl), sum_two_inf ha hb (.inr rfl)]
        exact ⟨sum_two_inf inf_right hc (.inl rfl), by first | rfl | exact sum_two_inf ha inf_right (.inr rfl)⟩
      · rw [sum_three ha hb hc ia ib ic]
        rw [sum_two ha hb ia ib] at h1 ⊢
        rw [sum_two hb hc ib ic] at h2 ⊢
        obtain ⟨_, _, x1, x2, x3, x4⟩ := ofB_ok h1
        obtain ⟨_, _, y1, y2, y3, y4⟩ := ofB_ok h2
        rw [sum_two x3 hc x4 ic, sum_two ha y3 ia y4, x1, x2, y1, y2, Int.add_assoc, Bool.and_assoc]
        exact ⟨rfl, rfl⟩

end Go.Proofs.YtmelblnflalanaaGreat

/- From where a clock is set to a number, where the clock's own bounds may not be. -/
namespace Go.Proofs.YtmelblnflalanaaGreat
open Go Go.RowKit
set_option linter.unusedVariables false
set_option linter.unusedSimpArgs false
attribute [local go_sem] min_ints max_ints

/-- The first p clocks, with what the clock c is to be. -/
def wideUp (M : Mat) (c : Nat) (k : Int) : Nat → Mat × Int
  | 0 => (M, 0)
  | p + 1 =>
    if p = 0 ∨ p = c then wideUp M c k p else
    if (wideUp M c k p).2 ≠ 0 then wideUp M c k p else
    if (sumP [(wideUp M c k p).1 p c, 2 * k + 1]).2 ≠ 0 ∧ (wideUp M c k p).1 p 0 = 2147483647 then ((wideUp M c k p).1, (sumP [(wideUp M c k p).1 p c, 2 * k + 1]).2) else
    let Y := if (sumP [(wideUp M c k p).1 p c, 2 * k + 1]).2 = 0 then lessM (wideUp M c k p).1 p 0 (sumP [(wideUp M c k p).1 p c, 2 * k + 1]).1 else (wideUp M c k p).1
    if (sumP [-2 * k + 1, Y c p]).2 ≠ 0 then (Y, (sumP [-2 * k + 1, Y c p]).2) else (lessM Y 0 p (sumP [-2 * k + 1, Y c p]).1, 0)
/-- What unsetWide answers. -/
def wideP (n : Nat) (M : Mat) (c : Nat) (k : Int) : Option Mat × Int := if (wideUp M c k (n + 1)).2 = 0 then ofP n (flat n (forgetUp c (wideUp M c k (n + 1)).1 (n + 1))) else (none, (wideUp M c k (n + 1)).2)
theorem sumP_rng (a b : Int) : -2147483648 ≤ (sumP [a, b]).1 ∧ (sumP [a, b]).1 ≤ 2147483647 := by
  unfold sumP
  split
  · split
    · simp
    · unfold ofB
      split
      · simp
      · simp only
        split <;> omega
  · simp
theorem rng_wide {n : Nat} {M : Mat} (h : Rng n M) (c : Nat) (k : Int) : ∀ p, p ≤ n + 1 → Rng n (wideUp M c k p).1
  | 0, _ => h
  | p + 1, hp => by
    have ih := rng_wide h c k p (by omega)
    unfold wideUp
    split
    · exact ih
    · split
      · exact ih
      · split
        · exact ih
        · have s1 := sumP_rng ((wideUp M c k p).1 p c) (2 * k + 1)
          have hY : Rng n (if (sumP [(wideUp M c k p).1 p c, 2 * k + 1]).2 = 0 then lessM (wideUp M c k p).1 p 0 (sumP [(wideUp M c k p).1 p c, 2 * k + 1]).1 else (wideUp M c k p).1) := by
            split
            · exact rng_less ih p 0 (by omega) (by omega) _ s1.1 s1.2
            · exact ih
          simp only
          generalize (if (sumP [(wideUp M c k p).1 p c, 2 * k + 1]).2 = 0 then lessM (wideUp M c k p).1 p 0 (sumP [(wideUp M c k p).1 p c, 2 * k + 1]).1 else (wideUp M c k p).1) = Y at *
          split
          · exact hY
          · have s2 := sumP_rng (-2 * k + 1) (Y c p)
            exact rng_less hY 0 p (by omega) (by omega) _ s2.1 s2.2
theorem wide_stays {M : Mat} {c : Nat} {k : Int} {p : Nat} (h : (wideUp M c k p).2 ≠ 0) : ∀ d, wideUp M c k (p + d) = wideUp M c k p
  | 0 => rfl
  | d + 1 => by
    rw [← Nat.add_assoc, wideUp, wide_stays h d]
    split
    · rfl
    · rfl
theorem wide_ends {n : Nat} {M : Mat} {c : Nat} {k : Int} {p : Nat} (hp : p ≤ n + 1) (h : (wideUp M c k p).2 ≠ 0) : wideP n M c k = (none, (wideUp M c k p).2) := by
  have e := wide_stays h (n + 1 - p)
  rw [show p + (n + 1 - p) = n + 1 by omega] at e
  unfold wideP
  rw [e, if_neg h]

end Go.Proofs.YtmelblnflalanaaGreat

/- From where a clock is set to a number. -/
namespace Go.Proofs.YtmelblnflalanaaGreat
open Go Go.RowKit
set_option linter.unusedVariables false
set_option linter.unusedSimpArgs false
attribute [local go_sem] min_ints max_ints

/-- The cells when clock c is k. -/
def tieW (M : Mat) (c : Nat) (k : Int) : Mat := lessM (lessM M c 0 (2 * k + 1)) 0 c (-2 * k + 1)
/-- What Unset answers of a zone, where the clock and the number are right. -/
def unsetP (n : Nat) (m : Mat) (c : Nat) (k : Int) : Option Mat × Int :=
  if emptyP (some (n, m)) then ofP n (flat n (openW (some (n, m)))) else
  match (ofP n (flat n (tieW (openW (some (n, m))) c k))).1 with
  | some y => freeP n y [(c : Int)]
  | none => wideP n (openW (some (n, m))) c k
theorem ofP_cases (n : Nat) (cells : List Int) : (∃ a, ofP n cells = (some a, 0)) ∨ ∃ e, e ≠ 0 ∧ ofP n cells = (none, e) := by
  unfold ofP
  split
  · split
    · split
      · unfold zoneP
        split
        · exact .inl ⟨_, rfl⟩
        · split
          · exact .inl ⟨_, rfl⟩
          · exact .inr ⟨_, by decide, rfl⟩
      · exact .inr ⟨_, by decide, rfl⟩
    · exact .inr ⟨_, by decide, rfl⟩
  · exact .inr ⟨_, by decide, rfl⟩
theorem ints_one (w : World) (e : TypeId) (a : Int) : Ints (w.alloc (.cells #[.int .i64 a] e (0, 0))) .i64 (some ⟨w.heap.size, 0, none⟩) [a] := fun j hj => by
  have h0 : j = 0 := by simpa using hj
  subst h0
  refine ⟨w.heap.size, 0, rfl, ?_⟩
  have h1 := heap_alloc_new w (.cells #[.int .i64 a] e (0, 0))
  unfold World.cell?
  rw [h1]; rfl

end Go.Proofs.YtmelblnflalanaaGreat

/- A clock set, any, and from where: plain. -/
namespace Go.Proofs.YtmelblnflalanaaGreat
set_option linter.unusedVariables false
set_option linter.unusedSimpArgs false

/-! ### the cells -/
def fgt (c : Nat) (m : Mat) : Mat := fun i j => if i = c ∧ j ≠ c then 2147483647 else if j = c ∧ i ≠ c then m i 0 else m i j
theorem forget_cell {c : Nat} (hc : 1 ≤ c) (m : Mat) (i j : Nat) : ∀ p, forgetUp c m p i j = if i = c ∧ j ≠ c ∧ j < p then 2147483647 else if j = c ∧ i ≠ c ∧ i < p then m i 0 else m i j
  | 0 => by rw [if_neg (by omega), if_neg (by omega)]; rfl
  | p + 1 => by
    unfold forgetUp
    split
    · rename_i e
      subst e
      rw [forget_cell hc m i j p]
      split <;> split <;> (try split) <;> (try split) <;> first | rfl | (exfalso; omega)
    · rename_i e
      have h0 : upd (forgetUp c m p) c p 2147483647 p 0 = m p 0 := by
        unfold upd
        rw [if_neg (by omega), forget_cell hc m p 0 p, if_neg (by omega), if_neg (by omega)]
      rw [h0]
      unfold upd
      rw [forget_cell hc m i j p]
      by_cases e1 : i = p ∧ j = c
      · obtain ⟨rfl, rfl⟩ := e1
        rw [if_pos ⟨rfl, rfl⟩, if_neg (by omega), if_pos (by omega)]
      · rw [if_neg e1]
        split <;> split <;> (try split) <;> (try split) <;> (try split) <;> first | rfl | (exfalso; omega)
theorem forget_agree {n c : Nat} (hc : 1 ≤ c) {M m : Mat} (h : Agree n M m) : Agree n (forgetUp c M (n + 1)) (fgt c m) := fun i j hi hj => by
  rw [forget_cell hc]
  unfold fgt
  rw [h i j hi hj, h i 0 hi (Nat.zero_le _)]
  split <;> split <;> (try split) <;> (try split) <;> first | rfl | (exfalso; omega)
theorem Agree.fgt {n : Nat} {M m : Mat} (h : Agree n M m) (c : Nat) : Agree n (fgt c M) (fgt c m) := fun i j hi hj => by
  unfold Go.Proofs.YtmelblnflalanaaGreat.fgt
  rw [h i j hi hj, h i 0 hi (Nat.zero_le _)]
theorem OkM.same {n : Nat} {m o : Mat} (h : OkM n m) (ha : Agree n m o) : OkM n o :=
  ⟨fun i j hi hj => by rw [← ha i j hi hj]; exact h.right i j hi hj, fun i hi => by rw [← ha i i hi hi]; exact h.diag i hi, fun j hj => by rw [← ha 0 j (Nat.zero_le _) hj]; exact h.top j hj⟩
theorem OkM.fgt {n : Nat} {m : Mat} (h : OkM n m) {c : Nat} (hc : 1 ≤ c) : OkM n (fgt c m) := by
  refine ⟨fun i j hi hj => ?_, fun i hi => ?_, fun j hj => ?_⟩
  · unfold Go.Proofs.YtmelblnflalanaaGreat.fgt
    split
    · decide
    · split
      · exact h.right i 0 hi (Nat.zero_le _)
      · exact h.right i j hi hj
  · unfold Go.Proofs.YtmelblnflalanaaGreat.fgt
    rw [if_neg (by omega), if_neg (by omega)]; exact h.diag i hi
  · unfold Go.Proofs.YtmelblnflalanaaGreat.fgt
    rw [if_neg (by omega)]
    split
    · exact h.top 0 (Nat.zero_le _)
    · exact h.top j hj
theorem fgt_closed {n c : Nat} {m : Mat} (hc : 1 ≤ c) (h : ClosedZ n m) : ClosedZ n (fgt c m) := by
  have ho := h.full.ok.fgt hc
  refine ⟨⟨ho.right, fun i hi => ?_, ho.top⟩, fun l hl i j hi hj => ?_⟩
  · unfold fgt; rw [if_neg (by omega), if_neg (by omega)]; exact h.full.one i hi
  · have hl' : l ≤ n := by omega
    have hfb : FB (widW (fgt c m) i j) := right_fb (ho.right i j hi hj)
    have hinf : wid 2147483647 = none62 := by decide
    have k1 : ∀ a b, a = c ∧ b ≠ c → widW (fgt c m) a b = none62 := fun a b hab => by unfold widW fgt; rw [if_pos hab, hinf]
    have k2 : ∀ a b, b = c ∧ a ≠ c → widW (fgt c m) a b = widW m a 0 := fun a b hab => by unfold widW fgt; rw [if_neg (by omega), if_pos hab]
    have k3 : ∀ a b, ¬ (a = c ∧ b ≠ c) → ¬ (b = c ∧ a ≠ c) → widW (fgt c m) a b = widW m a b := fun a b x y => by unfold widW fgt; rw [if_neg x, if_neg y]
    by_cases ei : i = c
    · by_cases el : l = c
      · rw [el, ei, k3 c c (by omega) (by omega), h.wone (by omega), wsum_one_left]
        exact Int.le_refl _
      · rw [k1 i l ⟨ei, el⟩, wsum_none_left]; exact hfb.le
    · by_cases el : l = c
      · by_cases ej : j = c
        · rw [el, ej, k3 c c (by omega) (by omega), h.wone (by omega), wsum_one_right]
          exact Int.le_refl _
        · rw [k1 l j ⟨el, ej⟩, wsum_none_right]; exact hfb.le
      · rw [k3 i l (by omega) (by omega)]
        by_cases ej : j = c
        · rw [k2 i j ⟨ej, ei⟩, k2 l j ⟨ej, el⟩]; exact h.tri l hl i 0 hi (Nat.zero_le _)
        · rw [k3 i j (by omega) (by omega), k3 l j (by omega) (by omega)]; exact h.tri l hl i j hi hj
theorem zero_empty (n : Nat) : emptyP (some (n, fun _ _ => 0)) = true := by
  show decide ((0 : Int) < 1) = true
  decide
/-- What Free answers of one clock. -/
theorem free_one {n c : Nat} {m : Mat} (hn : n ≤ 8) (hc : 1 ≤ c ∧ c ≤ n) (h : ClosedZ n m) : freeP n m [(c : Int)] = (some (narM n (widW (fgt c m))), 0) := by
  have e1 : freeP n m [(c : Int)] = ofP n (flat n (forgetUp c (openW (some (n, m))) (n + 1))) := by
    unfold freeP
    rw [if_pos (by simp [isB]; omega)]
    unfold freeW
    rw [if_neg (by simp [h.notEmpty])]
    rfl
  rw [e1]
  exact of_same hn (fgt_closed hc.1 h) (forget_agree hc.1 (open_agree n m))
theorem free_zero {n c : Nat} (hn : n ≤ 8) (hc : 1 ≤ c ∧ c ≤ n) : freeP n (fun _ _ => 0) [(c : Int)] = (some (fun _ _ => 0), 0) := by
  unfold freeP
  rw [if_pos (by simp [isB]; omega)]
  unfold freeW
  rw [if_pos (zero_empty n)]
  exact ofP_zero n hn

/-! ### a number and its opposite -/
theorem kj (k : Int) (h : 0 ≤ k ∧ k ≤ 1048576) : wsum (2 * k + 1) (-2 * k + 1) = 1 := by
  rw [wsum_min (by unfold none62; omega) (by unfold none62; omega)]
  omega
theorem jk (k : Int) (h : 0 ≤ k ∧ k ≤ 1048576) : wsum (-2 * k + 1) (2 * k + 1) = 1 := by rw [wsum_comm]; exact kj k h
theorem k_right {k : Int} (h : 0 ≤ k ∧ k ≤ 1048576) : rightB (2 * k + 1) = true := decide_eq_true (by omega)
theorem j_right {k : Int} (h : 0 ≤ k ∧ k ≤ 1048576) : rightB (-2 * k + 1) = true := decide_eq_true (by omega)
theorem k_wid {k : Int} (h : 0 ≤ k ∧ k ≤ 1048576) : wid (2 * k + 1) = 2 * k + 1 := by unfold wid; rw [if_neg (by omega)]
theorem j_wid {k : Int} (h : 0 ≤ k ∧ k ≤ 1048576) : wid (-2 * k + 1) = -2 * k + 1 := by unfold wid; rw [if_neg (by omega)]
theorem k_fb {k : Int} (h : 0 ≤ k ∧ k ≤ 1048576) : FB (2 * k + 1) := .inr (by omega)
theorem j_fb {k : Int} (h : 0 ≤ k ∧ k ≤ 1048576) : FB (-2 * k + 1) := .inr (by omega)
theorem undo_r {a k : Int} (h : 0 ≤ k ∧ k ≤ 1048576) (ha : FB a) : wsum (wsum a (2 * k + 1)) (-2 * k + 1) = a := by
  rw [wsum_assoc ha (k_fb h) (j_fb h), kj k h, wsum_one_right]
theorem undo_l {a k : Int} (h : 0 ≤ k ∧ k ≤ 1048576) (ha : FB a) : wsum (2 * k + 1) (wsum (-2 * k + 1) a) = a := by
  rw [← wsum_assoc (k_fb h) (j_fb h) ha, kj k h, wsum_one_left]

/-- The cells behind Reset, in range. -/
def rst (c : Nat) (k : Int) (m : Mat) : Mat := fun i j => if i = 0 ∧ j = c then min (m 0 0) (-2 * k + 1) else if i = c ∧ j = 0 then 2 * k + 1 else fgt c m i j
theorem set_agree {n c : Nat} {k : Int} (hc : 1 ≤ c ∧ c ≤ n) (hk : 0 ≤ k ∧ k ≤ 1048576) {M m : Mat} (h : Agree n M m) : Agree n (setW M n c k) (rst c k m) := fun i j hi hj => by
  have hf := forget_agree (n := n) hc.1 h
  have e1 : forgetUp c M (n + 1) 0 c = m 0 0 := by rw [hf 0 c (Nat.zero_le _) hc.2]; unfold fgt; rw [if_neg (by omega), if_pos (by omega)]
  have e2 : forgetUp c M (n + 1) c 0 = 2147483647 := by rw [hf c 0 hc.2 (Nat.zero_le _)]; unfold fgt; rw [if_pos (by omega)]
  unfold setW lessM rst upd
  rw [if_neg (show ¬ (0 = c ∧ c = 0) by omega), e1, e2, hf i j hi hj]
  by_cases a : i = 0 ∧ j = c
  · rw [if_pos a, if_pos a]
  · rw [if_neg a, if_neg a]
    by_cases b : i = c ∧ j = 0
    · rw [if_pos b, if_pos b]; omega
    · rw [if_neg b, if_neg b]
theorem OkM.rst {n c : Nat} {k : Int} {m : Mat} (hc : 1 ≤ c ∧ c ≤ n) (hk : 0 ≤ k ∧ k ≤ 1048576) (h : OkM n m) : OkM n (rst c k m) := by
  have hf := h.fgt hc.1
  refine ⟨fun i j hi hj => ?_, fun i hi => ?_, fun j hj => ?_⟩
  · unfold Go.Proofs.YtmelblnflalanaaGreat.rst
    split
    · exact right_min (h.right 0 0 (Nat.zero_le _) (Nat.zero_le _)) (j_right hk)
    · split
      · exact k_right hk
      · exact hf.right i j hi hj
  · unfold Go.Proofs.YtmelblnflalanaaGreat.rst
    rw [if_neg (by omega), if_neg (by omega)]; exact hf.diag i hi
  · unfold Go.Proofs.YtmelblnflalanaaGreat.rst
    split
    · have := h.diag 0 (Nat.zero_le _); omega
    · rw [if_neg (by omega)]; exact hf.top j hj
theorem reset_is {n c : Nat} {k : Int} {m : Mat} (hn : n ≤ 8) (hc : 1 ≤ c ∧ c ≤ n) (hk : 0 ≤ k ∧ k ≤ 1048576) (h : ClosedZ n m) : OfIs n (rst c k m) (ofP n (flat n (resetW (some (n, m)) c k))) := by
  have e : resetW (some (n, m)) c k = setW (openW (some (n, m))) n c k := by unfold resetW; rw [if_neg (by simp [h.notEmpty])]; rfl
  rw [e, flat_congr (set_agree hc hk (open_agree n m))]
  exact of_is hn (h.full.ok.rst hc hk)
theorem reset_zero {n c : Nat} (k : Int) (hn : n ≤ 8) : ofP n (flat n (resetW (some (n, fun _ _ => 0)) c k)) = (some (fun _ _ => 0), 0) := by
  unfold resetW
  rw [if_pos (zero_empty n)]
  exact ofP_zero n hn
theorem unset_zero {n c : Nat} (k : Int) (hn : n ≤ 8) : unsetP n (fun _ _ => 0) c k = (some (fun _ _ => 0), 0) := by
  unfold unsetP
  rw [if_pos (zero_empty n)]
  exact ofP_zero n hn
/-- The closed form of what Reset makes. -/
def rstE (c : Nat) (k : Int) (m : Mat) : Mat := fun i j => if i = c then (if j = c then 1 else wsum (2 * k + 1) (widW m 0 j)) else if j = c then wsum (widW m i 0) (-2 * k + 1) else widW m i j
theorem ClosedZ.hb {n : Nat} {m : Mat} (h : ClosedZ n m) {i j : Nat} (hi : i ≤ n) (hj : j ≤ n) : Bd 1073741824 (widW m i j) := h.full.ok.fit.bd i j hi hj
theorem rstE_fb {n c : Nat} {k : Int} {m : Mat} (hk : 0 ≤ k ∧ k ≤ 1048576) (h : ClosedZ n m) (i j : Nat) (hi : i ≤ n) (hj : j ≤ n) : FB (rstE c k m i j) := by
  have b1 : Bd 1073741824 (2 * k + 1) := .inr (by omega)
  have b2 : Bd 1073741824 (-2 * k + 1) := .inr (by omega)
  unfold rstE
  split
  · split
    · exact .inr (by omega)
    · exact (b1.sum (h.hb (Nat.zero_le _) hj)).mono (by omega)
  · split
    · exact ((h.hb hi (Nat.zero_le _)).sum b2).mono (by omega)
    · exact h.fb hi hj
theorem rstE_tri {n c : Nat} {k : Int} {m : Mat} (hk : 0 ≤ k ∧ k ≤ 1048576) (h : ClosedZ n m) : Tri n (rstE c k m) (n + 1) := fun l hl i j hi hj => by
  have hl' : l ≤ n := by omega
  have z0 : 0 ≤ n := Nat.zero_le _
  have kf := k_fb hk
  have jf := j_fb hk
  have b1 : Bd 1073741824 (2 * k + 1) := .inr (by omega)
  have b2 : Bd 1073741824 (-2 * k + 1) := .inr (by omega)
  unfold rstE
  by_cases ei : i = c
  · by_cases el : l = c
    · rw [if_pos ei, if_pos ei, if_pos el, if_pos el, wsum_one_left]
      exact Int.le_refl _
    · rw [if_pos ei, if_pos ei, if_neg el, if_neg el]
      have f0 := h.fb z0 hl'
      have s0 : FB (wsum (2 * k + 1) (widW m 0 l)) := (b1.sum (h.hb z0 hl')).mono (by omega)
      by_cases ej : j = c
      · rw [if_pos ej, if_pos ej, wsum_assoc kf f0 (((h.hb hl' z0).sum b2).mono (by omega)), ← wsum_assoc f0 (h.fb hl' z0) jf]
        have t := h.tri l hl 0 0 z0 z0
        rw [h.wone z0] at t
        have f1 : FB (wsum (widW m 0 l) (widW m l 0)) := ((h.hb z0 hl').sum (h.hb hl' z0)).mono (by omega)
        have t1 := wsum_le (a := 1) (.inr (by omega)) f1 jf jf t (Int.le_refl _)
        have f2 : FB (wsum 1 (-2 * k + 1)) := by rw [wsum_one_left]; exact jf
        have t2 := wsum_le kf kf f2 ((((h.hb z0 hl').sum (h.hb hl' z0)).sum b2).mono (by omega)) (Int.le_refl _) t1
        rw [wsum_one_left, kj k hk] at t2
        exact t2
      · rw [if_neg ej, if_neg ej, wsum_assoc kf f0 (h.fb hl' hj)]
        exact wsum_le kf kf (h.fb z0 hj) (((h.hb z0 hl').sum (h.hb hl' hj)).mono (by omega)) (Int.le_refl _) (h.tri l hl 0 j z0 hj)
  · by_cases el : l = c
    · rw [if_neg ei, if_neg ei, if_pos el, if_pos el]
      by_cases ej : j = c
      · rw [if_pos ej, if_pos ej, wsum_one_right]; exact Int.le_refl _
      · rw [if_neg ej, if_neg ej, wsum_assoc (h.fb hi z0) jf ((b1.sum (h.hb z0 hj)).mono (by omega)), ← wsum_assoc jf kf (h.fb z0 hj), jk k hk, wsum_one_left]
        exact h.tri 0 (by omega) i j hi hj
    · rw [if_neg ei, if_neg ei, if_neg el, if_neg el]
      by_cases ej : j = c
      · rw [if_pos ej, if_pos ej, ← wsum_assoc (h.fb hi hl') (h.fb hl' z0) jf]
        exact wsum_le (h.fb hi z0) (((h.hb hi hl').sum (h.hb hl' z0)).mono (by omega)) jf jf (h.tri l hl i 0 hi z0) (Int.le_refl _)
      · rw [if_neg ej, if_neg ej]
        exact h.tri l hl i j hi hj
theorem rstE_le {n c : Nat} {k : Int} {m : Mat} (hc : 1 ≤ c ∧ c ≤ n) (hk : 0 ≤ k ∧ k ≤ 1048576) (h : ClosedZ n m) (i j : Nat) (hi : i ≤ n) (hj : j ≤ n) : rstE c k m i j ≤ widW (rst c k m) i j := by
  have z0 : 0 ≤ n := Nat.zero_le _
  have hinf : wid 2147483647 = none62 := by decide
  have h00 := h.full.one 0 z0
  have h00w := h.wone z0
  have hf := rstE_fb (c := c) hk h i j hi hj
  have e0 : widW (rst c k m) i j = if i = 0 ∧ j = c then -2 * k + 1 else if i = c ∧ j = 0 then 2 * k + 1 else widW (fgt c m) i j := by
    unfold widW rst
    split
    · rw [h00, show min (1 : Int) (-2 * k + 1) = -2 * k + 1 by omega, j_wid hk]
    · split
      · rw [k_wid hk]
      · rfl
  rw [e0]
  by_cases a : i = 0 ∧ j = c
  · rw [if_pos a]
    unfold rstE
    rw [if_neg (by omega), if_pos a.2, a.1, h00w, wsum_one_left]
    exact Int.le_refl _
  · rw [if_neg a]
    by_cases b : i = c ∧ j = 0
    · rw [if_pos b]
      unfold rstE
      rw [if_pos b.1, if_neg (by omega), b.2, h00w, wsum_one_right]
      exact Int.le_refl _
    · rw [if_neg b]
      by_cases x : i = c ∧ j ≠ c
      · have : widW (fgt c m) i j = none62 := by unfold widW fgt; rw [if_pos x, hinf]
        rw [this]; exact hf.le
      · by_cases y : j = c ∧ i ≠ c
        · have : widW (fgt c m) i j = widW m i 0 := by unfold widW fgt; rw [if_neg x, if_pos y]
          rw [this]
          unfold rstE
          rw [if_neg y.2, if_pos y.1]
          have := wsum_le (h.fb hi z0) (h.fb hi z0) (j_fb hk) (b' := 1) (.inr (by omega)) (Int.le_refl _) (show -2 * k + 1 ≤ 1 by omega)
          rw [wsum_one_right] at this
          exact this
        · have : widW (fgt c m) i j = widW m i j := by unfold widW fgt; rw [if_neg x, if_neg y]
          rw [this]
          unfold rstE
          by_cases ei : i = c
          · rw [if_pos ei, if_pos (by omega), ei, show j = c by omega, h.wone hc.2]
            exact Int.le_refl _
          · rw [if_neg ei, if_neg (by omega)]
            exact Int.le_refl _
/-- What Reset makes of a zone that is not empty is not empty, and of the other clocks it says the same. -/
theorem reset_full {n c : Nat} {k : Int} {m x : Mat} (hn : n ≤ 8) (hc : 1 ≤ c ∧ c ≤ n) (hk : 0 ≤ k ∧ k ≤ 1048576) (h : ClosedZ n m) (hx : ofP n (flat n (resetW (some (n, m)) c k)) = (some x, 0)) :
    ClosedZ n x ∧ (∀ i j, i ≤ n → j ≤ n → i ≠ c → j ≠ c → x i j = m i j) ∧ x c 0 ≤ 2 * k + 1 ∧ x 0 c ≤ -2 * k + 1 := by
  have hi := reset_is hn hc hk h
  rw [hx] at hi
  have z0 : 0 ≤ n := Nat.zero_le _
  have hok := h.full.ok.rst hc hk
  obtain ⟨C, hC, hge⟩ := closed_ge hn (rstE_fb (c := c) hk h) (rstE_tri hk h) (fun i hi => by
    unfold rstE
    by_cases e : i = c
    · rw [if_pos e, if_pos e]
    · rw [if_neg e, if_neg e]; exact h.wone hi) hok.fit (rstE_le hc hk h)
  cases hi with
  | empty h' => rw [hC] at h'; cases h'
  | full C' Y h' hc' hy he hle =>
    rw [hC] at h'
    simp only [Option.some.injEq] at h'
    subst h'
    refine ⟨hy, fun i j hi hj ei ej => ?_, ?_, ?_⟩
    · have a1 := hle i j hi hj
      have a2 := hge i j hi hj
      rw [← he i j hi hj] at a2
      have e1 : rst c k m i j = m i j := by unfold rst fgt; rw [if_neg (by omega), if_neg (by omega), if_neg (by omega), if_neg (by omega)]
      have e2 : rstE c k m i j = widW m i j := by unfold rstE; rw [if_neg ei, if_neg ej]
      rw [e1] at a1
      rw [e2] at a2
      have := (wid_le (h.full.right i j hi hj) (hy.full.right i j hi hj)).1 a2
      omega
    · have := hle c 0 hc.2 z0
      unfold rst at this
      rw [if_neg (by omega), if_pos ⟨rfl, rfl⟩] at this
      exact this
    · have := hle 0 c z0 hc.2
      unfold rst at this
      rw [if_pos ⟨rfl, rfl⟩] at this
      omega
/-- Set behind Unset is included, where the cells between are so. -/
theorem back_in {n c : Nat} {k : Int} {m u : Mat} (hn : n ≤ 8) (hc : 1 ≤ c ∧ c ≤ n) (hk : 0 ≤ k ∧ k ≤ 1048576) (h : ClosedZ n m) (hu : u = (fun _ _ => 0) ∨ ClosedZ n u ∧
      (∀ i j, i ≤ n → j ≤ n → i ≠ c → j ≠ c → widW u i j ≤ widW m i j) ∧ (∀ j, j ≤ n → j ≠ c → wsum (2 * k + 1) (widW u 0 j) ≤ widW m c j) ∧ (∀ i, i ≤ n → i ≠ c → wsum (widW u i 0) (-2 * k + 1) ≤ widW m i c)) :
    ofP n (flat n (resetW (some (n, u)) c k)) = (none, 10) ∨ ∃ t, ofP n (flat n (resetW (some (n, u)) c k)) = (some t, 0) ∧ inclM n m t = true := by
  have z0 : 0 ≤ n := Nat.zero_le _
  rcases hu with rfl | ⟨hcu, h1, h2, h3⟩
  · exact .inr ⟨_, reset_zero k hn, incl_zero n m⟩
  · have hi := reset_is hn hc hk hcu
    have hfull := fun x hx => reset_full (x := x) hn hc hk hcu hx
    generalize ofP n (flat n (resetW (some (n, u)) c k)) = r at *
    cases hi with
    | empty h' => exact .inr ⟨_, rfl, incl_zero n m⟩
    | over C h' hc' => exact .inl rfl
    | full C Y h' hc' hy he hle =>
      right
      refine ⟨Y, rfl, incl_of fun i j hi hj => ?_⟩
      obtain ⟨_, hsame, hc0, h0c⟩ := hfull Y rfl
      have hc0w : widW Y c 0 ≤ 2 * k + 1 := by rw [← k_wid hk]; exact (wid_le (hy.full.right c 0 hc.2 z0) (k_right hk)).2 hc0
      have h0cw : widW Y 0 c ≤ -2 * k + 1 := by rw [← j_wid hk]; exact (wid_le (hy.full.right 0 c z0 hc.2) (j_right hk)).2 h0c
      have hsw : ∀ i j, i ≤ n → j ≤ n → i ≠ c → j ≠ c → widW Y i j = widW u i j := fun i j hi hj ei ej => by unfold widW; rw [hsame i j hi hj ei ej]
      refine (wid_le (hy.full.right i j hi hj) (h.full.right i j hi hj)).1 ?_
      show widW Y i j ≤ widW m i j
      by_cases ei : i = c
      · by_cases ej : j = c
        · rw [ei, ej, hy.wone hc.2, h.wone hc.2]; exact Int.le_refl _
        · have t := hy.tri 0 (by omega) c j hc.2 hj
          have t2 := wsum_le (hy.fb hc.2 z0) (k_fb hk) (hy.fb z0 hj) (hy.fb z0 hj) hc0w (Int.le_refl _)
          rw [hsw 0 j z0 hj (by omega) ej] at t2
          have := h2 j hj ej
          rw [ei]
          rw [hsw 0 j z0 hj (by omega) ej] at t
          omega
      · by_cases ej : j = c
        · have t := hy.tri 0 (by omega) i c hi hc.2
          have t2 := wsum_le (hy.fb hi z0) (hy.fb hi z0) (hy.fb z0 hc.2) (j_fb hk) (Int.le_refl _) h0cw
          rw [hsw i 0 hi z0 ei (by omega)] at t2 t
          have := h3 i hi ei
          rw [ej]
          omega
        · rw [hsw i j hi hj ei ej]; exact h1 i j hi hj ei ej

end Go.Proofs.YtmelblnflalanaaGreat

/- From where a clock is set, and set again: plain. -/
namespace Go.Proofs.YtmelblnflalanaaGreat
set_option linter.unusedVariables false
set_option linter.unusedSimpArgs false

theorem min_right' {a b : Int} : min a b ≤ a ∧ min a b ≤ b := by omega
theorem tie_agree {n c : Nat} {k : Int} (hc : 1 ≤ c ∧ c ≤ n) {M m : Mat} (h : Agree n M m) : Agree n (tieW M c k) (tieW m c k) :=
  (h.less c 0 hc.2 (Nat.zero_le _) _).less 0 c (Nat.zero_le _) hc.2 _
theorem tie_ok {n c : Nat} {k : Int} {m : Mat} (hc : 1 ≤ c ∧ c ≤ n) (hk : 0 ≤ k ∧ k ≤ 1048576) (h : OkM n m) : OkM n (tieW m c k) :=
  (h.less c 0 hc.2 (Nat.zero_le _) _ (k_right hk)).less 0 c (Nat.zero_le _) hc.2 _ (j_right hk)
theorem upd_at (m : Mat) (a b : Nat) (x : Int) : upd m a b x a b = x := by unfold upd; rw [if_pos ⟨rfl, rfl⟩]
theorem upd_off {m : Mat} {a b i j : Nat} {x : Int} (h : ¬ (i = a ∧ j = b)) : upd m a b x i j = m i j := by unfold upd; rw [if_neg h]
theorem less_le (m : Mat) (a b : Nat) (x : Int) (i j : Nat) : lessM m a b x i j ≤ m i j := by
  unfold lessM
  by_cases e : i = a ∧ j = b
  · obtain ⟨rfl, rfl⟩ := e
    rw [upd_at]; omega
  · rw [upd_off e]; exact Int.le_refl _
theorem less_at (m : Mat) (a b : Nat) (x : Int) : lessM m a b x a b ≤ x := by unfold lessM; rw [upd_at]; omega
theorem tie_cells {c : Nat} {k : Int} (hc : 1 ≤ c) (m : Mat) : (∀ i j, tieW m c k i j ≤ m i j) ∧ tieW m c k c 0 ≤ 2 * k + 1 ∧ tieW m c k 0 c ≤ -2 * k + 1 := by
  refine ⟨fun i j => Int.le_trans (less_le _ _ _ _ _ _) (less_le _ _ _ _ _ _), ?_, ?_⟩
  · unfold tieW lessM upd
    rw [if_neg (by omega), if_pos ⟨rfl, rfl⟩]; omega
  · unfold tieW lessM upd
    rw [if_pos ⟨rfl, rfl⟩]; omega
theorem tie_same {n c : Nat} {k : Int} {m : Mat} (hc : 1 ≤ c ∧ c ≤ n) (h1 : m c 0 ≤ 2 * k + 1) (h2 : m 0 c ≤ -2 * k + 1) : Agree n (tieW m c k) m := fun i j hi hj => by
  unfold tieW lessM upd
  by_cases a : i = 0 ∧ j = c
  · rw [if_pos a, if_neg (by omega), a.1, a.2]; omega
  · rw [if_neg a]
    by_cases b : i = c ∧ j = 0
    · rw [if_pos b, b.1, b.2]; omega
    · rw [if_neg b]
/-- Unset of a zone in which the clock is the number already. -/
theorem unset_set {n c : Nat} {k : Int} {x : Mat} (hn : n ≤ 8) (hc : 1 ≤ c ∧ c ≤ n) (h : ClosedZ n x) (h1 : x c 0 ≤ 2 * k + 1) (h2 : x 0 c ≤ -2 * k + 1) : unsetP n x c k = (some (narM n (widW (fgt c x))), 0) := by
  have e : ofP n (flat n (tieW (openW (some (n, x))) c k)) = (some (narM n (widW x)), 0) := of_same hn h fun i j hi hj => (tie_agree hc (open_agree n x) i j hi hj).trans (tie_same hc h1 h2 i j hi hj)
  unfold unsetP
  rw [if_neg (by simp [h.notEmpty]), e]
  simp only
  rw [free_one hn hc (nar_closed hn h)]
  exact Prod.ext (congrArg some (nar_same ((nar_agree hn h).fgt c))) rfl

/-! ### where the clock's own bounds may not be -/
theorem sum_is {a b : Int} (ha : rightB a = true) (hb : rightB b = true) :
    ((sumP [a, b]).2 = 0 ∧ rightB (sumP [a, b]).1 = true ∧ wid (sumP [a, b]).1 = wsum (wid a) (wid b)) ∨
    ((sumP [a, b]).2 = 10 ∧ a ≠ 2147483647 ∧ b ≠ 2147483647 ∧ (a / 2 + b / 2 < -268435456 ∨ 268435456 < a / 2 + b / 2)) := by
  by_cases e : a = 2147483647 ∨ b = 2147483647
  · rw [sum_two_inf ha hb e]
    refine .inl ⟨rfl, by decide, ?_⟩
    have hinf : wid 2147483647 = none62 := by decide
    rcases e with e | e
    · subst e; rw [hinf, wsum_none_left]
    · subst e; rw [hinf, wsum_none_right]
  · have ea : a ≠ 2147483647 := fun h => e (.inl h)
    have eb : b ≠ 2147483647 := fun h => e (.inr h)
    have ra := rightB_bd ha ea
    have rb := rightB_bd hb eb
    rw [sum_two ha hb ea eb]
    unfold ofB
    by_cases o : a / 2 + b / 2 < -268435456 ∨ 268435456 < a / 2 + b / 2
    · rw [if_pos o]; exact .inr ⟨rfl, ea, eb, o⟩
    · rw [if_neg o]
      left
      have wa : wid a = a := by unfold wid; rw [if_neg ea]
      have wb : wid b = b := by unfold wid; rw [if_neg eb]
      rw [wa, wb, wsum_min (by unfold none62; omega) (by unfold none62; omega)]
      by_cases p : a % 2 = 1
      · by_cases q : b % 2 = 1
        · have t : (decide (a % 2 = 1) && decide (b % 2 = 1)) = true := by simp [p, q]
          rw [t]
          simp only [if_true]
          refine ⟨trivial, decide_eq_true (by omega), ?_⟩
          unfold wid
          rw [if_neg (by omega)]
          omega
        · have t : (decide (a % 2 = 1) && decide (b % 2 = 1)) = false := by simp [q]
          rw [t]
          simp only [Bool.false_eq_true, if_false]
          refine ⟨trivial, decide_eq_true (by omega), ?_⟩
          unfold wid
          rw [if_neg (by omega)]
          omega
      · have t : (decide (a % 2 = 1) && decide (b % 2 = 1)) = false := by simp [p]
        rw [t]
        simp only [Bool.false_eq_true, if_false]
        refine ⟨trivial, decide_eq_true (by omega), ?_⟩
        unfold wid
        rw [if_neg (by omega)]
        omega
/-- What is known when the first p clocks have been looked at. -/
structure WideI (n : Nat) (m : Mat) (c : Nat) (k : Int) (p : Nat) (r : Mat × Int) : Prop where
  err : r.2 = 0 ∨ r.2 = 10
  ok : OkM n r.1
  le : ∀ i j, i ≤ n → j ≤ n → r.1 i j ≤ m i j
  mid : ∀ i j, i ≤ n → j ≤ n → i ≠ 0 → j ≠ 0 → r.1 i j = m i j
  col : r.2 = 0 → ∀ i, i ≤ n → p ≤ i → r.1 i 0 = m i 0
  hi : r.2 = 0 → ∀ i, 1 ≤ i → i < p → i ≤ n → i ≠ c → wsum (wid (r.1 i 0)) (-2 * k + 1) ≤ widW m i c
  lo : r.2 = 0 → ∀ i, 1 ≤ i → i < p → i ≤ n → i ≠ c → wsum (2 * k + 1) (wid (r.1 0 i)) ≤ widW m c i
theorem less_off {m : Mat} {a b i j : Nat} {x : Int} (h : ¬ (i = a ∧ j = b)) : lessM m a b x i j = m i j := upd_off h
theorem wide_inv {n c : Nat} {k : Int} {m M : Mat} (hn : n ≤ 8) (hc : 1 ≤ c ∧ c ≤ n) (hk : 0 ≤ k ∧ k ≤ 1048576) (hM : Agree n M m) (h : OkM n m) : ∀ p, p ≤ n + 1 → WideI n m c k p (wideUp M c k p)
  | 0, _ => ⟨.inl rfl, h.same fun i j hi hj => (hM i j hi hj).symm, fun i j hi hj => by show M i j ≤ m i j; rw [hM i j hi hj]; exact Int.le_refl _, fun i j hi hj _ _ => hM i j hi hj, fun _ i hi _ => hM i 0 hi (Nat.zero_le _), fun _ i _ h2 => by omega, fun _ i _ h2 => by omega⟩
  | p + 1, hp => by
    have ih := wide_inv hn hc hk hM h p (by omega)
    have z0 : 0 ≤ n := Nat.zero_le _
    obtain ⟨r, hr⟩ : ∃ r, r = wideUp M c k p := ⟨_, rfl⟩
    unfold wideUp
    rw [← hr] at ih ⊢
    clear hr
    obtain ⟨X, e⟩ := r
    by_cases h0 : p = 0 ∨ p = c
    · rw [if_pos h0]
      exact ⟨ih.err, ih.ok, ih.le, ih.mid, fun he i hi hpi => ih.col he i hi (by omega), fun he i a b hi d => ih.hi he i a (by omega) hi d, fun he i a b hi d => ih.lo he i a (by omega) hi d⟩
    · rw [if_neg h0]
      by_cases he : e ≠ 0
      · rw [if_pos he]
        exact ⟨ih.err, ih.ok, ih.le, ih.mid, fun h => absurd h he, fun h => absurd h he, fun h => absurd h he⟩
      · rw [if_neg he]
        have he0 : e = 0 := by omega
        subst he0
        have hXpc : X p c = m p c := ih.mid p c (by omega) hc.2 (by omega) (by omega)
        have hXp0 : X p 0 = m p 0 := ih.col rfl p (by omega) (Nat.le_refl _)
        have hXcp : X c p = m c p := ih.mid c p hc.2 (by omega) (by omega) (by omega)
        have rpc := h.right p c (by omega) hc.2
        have rcp := h.right c p hc.2 (by omega)
        have rp0 := h.right p 0 (by omega) z0
        have fpc : FB (widW m p c) := right_fb rpc
        have fcp : FB (widW m c p) := right_fb rcp
        simp only
        rw [hXpc, hXp0]
        have hs := sum_is rpc (k_right hk)
        obtain ⟨s, hsd⟩ : ∃ s, s = sumP [m p c, 2 * k + 1] := ⟨_, rfl⟩
        rw [← hsd] at hs ⊢
        clear hsd
        by_cases h1 : s.2 ≠ 0 ∧ m p 0 = 2147483647
        · rw [if_pos h1]
          refine ⟨?_, ih.ok, ih.le, ih.mid, fun h => absurd h h1.1, fun h => absurd h h1.1, fun h => absurd h h1.1⟩
          rcases hs with ⟨a, _⟩ | ⟨a, _⟩
          · exact .inl a
          · exact .inr a
        · rw [if_neg h1]
          -- the first of both
          obtain ⟨Y, hY⟩ : ∃ Y, Y = if s.2 = 0 then lessM X p 0 s.1 else X := ⟨_, rfl⟩
          have hYok : OkM n Y := by
            rw [hY]; split
            · rename_i q
              rcases hs with ⟨_, b, _⟩ | ⟨a, _⟩
              · exact ih.ok.less p 0 (by omega) z0 _ b
              · omega
            · exact ih.ok
          have hYle : ∀ i j, Y i j ≤ X i j := fun i j => by
            rw [hY]; split
            · exact less_le _ _ _ _ _ _
            · exact Int.le_refl _
          have hYoff : ∀ i j, ¬ (i = p ∧ j = 0) → Y i j = X i j := fun i j hij => by
            rw [hY]; split
            · exact less_off hij
            · rfl
          have hYhi : wsum (wid (Y p 0)) (-2 * k + 1) ≤ widW m p c := by
            have ry := hYok.right p 0 (by omega) z0
            rcases hs with ⟨a, b, d⟩ | ⟨a, b, d, o⟩
            · have e1 : Y p 0 ≤ s.1 := by rw [hY, if_pos a]; exact less_at _ _ _ _
              have e2 := wsum_le (right_fb ry) (right_fb b) (j_fb hk) (j_fb hk) ((wid_le ry b).2 e1) (Int.le_refl _)
              rw [d, k_wid hk, undo_r hk (show FB (wid (m p c)) from fpc)] at e2
              exact e2
            · have e1 : Y p 0 = m p 0 := by rw [hY, if_neg (by omega)]; exact hXp0
              have e2 : m p 0 ≠ 2147483647 := fun h => h1 ⟨by omega, h⟩
              have e3 := rightB_bd rp0 e2
              have e4 := rightB_bd rpc b
              rw [e1]
              have w1 : wid (m p 0) = m p 0 := by unfold wid; rw [if_neg e2]
              have w2 : widW m p c = m p c := by unfold widW wid; rw [if_neg b]
              rw [w1, w2, wsum_min (by unfold none62; omega) (by unfold none62; omega)]
              omega
          rw [← hY]
          clear hY
          have hYcp : Y c p = m c p := (hYoff c p (by omega)).trans hXcp
          rw [hYcp]
          have ht := sum_is (j_right hk) rcp
          obtain ⟨t, htd⟩ : ∃ t, t = sumP [-2 * k + 1, m c p] := ⟨_, rfl⟩
          rw [← htd] at ht ⊢
          clear htd
          by_cases h2 : t.2 ≠ 0
          · rw [if_pos h2]
            refine ⟨?_, hYok, fun i j hi hj => Int.le_trans (hYle i j) (ih.le i j hi hj), fun i j hi hj a b => (hYoff i j (by omega)).trans (ih.mid i j hi hj a b), fun h => absurd h h2, fun h => absurd h h2, fun h => absurd h h2⟩
            rcases ht with ⟨a, _⟩ | ⟨a, _⟩
            · exact .inl a
            · exact .inr a
          · rw [if_neg h2]
            obtain ⟨a, b, d⟩ : t.2 = 0 ∧ rightB t.1 = true ∧ wid t.1 = wsum (wid (-2 * k + 1)) (wid (m c p)) := by
              rcases ht with h | h
              · exact h
              · omega
            have hZok : OkM n (lessM Y 0 p t.1) := hYok.less 0 p z0 (by omega) _ b
            have hZle : ∀ i j, lessM Y 0 p t.1 i j ≤ X i j := fun i j => Int.le_trans (less_le _ _ _ _ _ _) (hYle i j)
            refine ⟨.inl rfl, hZok, fun i j hi hj => Int.le_trans (hZle i j) (ih.le i j hi hj), fun i j hi hj x y => ?_, fun _ i hi hpi => ?_, fun _ i x y hi w => ?_, fun _ i x y hi w => ?_⟩
            · show lessM Y 0 p t.1 i j = m i j
              rw [less_off (by omega), hYoff i j (by omega)]
              exact ih.mid i j hi hj x y
            · show lessM Y 0 p t.1 i 0 = m i 0
              rw [less_off (by omega), hYoff i 0 (by omega)]
              exact ih.col rfl i hi (by omega)
            · show wsum (wid (lessM Y 0 p t.1 i 0)) (-2 * k + 1) ≤ widW m i c
              by_cases e : i = p
              · subst e
                rw [less_off (by omega)]; exact hYhi
              · rw [less_off (by omega), hYoff i 0 (by omega)]
                exact ih.hi rfl i x (by omega) hi w
            · show wsum (2 * k + 1) (wid (lessM Y 0 p t.1 0 i)) ≤ widW m c i
              have rz := hZok.right 0 i z0 hi
              by_cases e : i = p
              · subst e
                have e2 := wsum_le (k_fb hk) (k_fb hk) (right_fb rz) (right_fb b) (Int.le_refl _) ((wid_le rz b).2 (less_at Y 0 i t.1))
                rw [d, j_wid hk, undo_l hk (show FB (wid (m c i)) from fcp)] at e2
                exact e2
              · have rx := ih.ok.right 0 i z0 hi
                have e2 := wsum_le (k_fb hk) (k_fb hk) (right_fb rz) (right_fb rx) (Int.le_refl _) ((wid_le rz rx).2 (hZle 0 i))
                have e3 := ih.lo rfl i x (by omega) hi w
                exact Int.le_trans e2 e3

/-- From where, and set again. -/
theorem unset_back {n c : Nat} {k : Int} {m : Mat} (hn : n ≤ 8) (hc : 1 ≤ c ∧ c ≤ n) (hk : 0 ≤ k ∧ k ≤ 1048576) (h : ClosedZ n m) :
    unsetP n m c k = (none, 10) ∨ ∃ u, unsetP n m c k = (some u, 0) ∧ (ofP n (flat n (resetW (some (n, u)) c k)) = (none, 10) ∨ ∃ t, ofP n (flat n (resetW (some (n, u)) c k)) = (some t, 0) ∧ inclM n m t = true) := by
  have z0 : 0 ≤ n := Nat.zero_le _
  have hto := of_is hn (tie_ok (c := c) (k := k) hc hk h.full.ok)
  have e0 : ofP n (flat n (tieW (openW (some (n, m))) c k)) = ofP n (flat n (tieW m c k)) := by rw [flat_congr (tie_agree hc (open_agree n m))]
  obtain ⟨tle, tc0, t0c⟩ := tie_cells (c := c) (k := k) hc.1 m
  have htok := tie_ok (c := c) (k := k) hc hk h.full.ok
  unfold unsetP
  rw [if_neg (by simp [h.notEmpty]), e0]
  generalize ofP n (flat n (tieW m c k)) = r at *
  cases hto with
  | empty _ =>
    simp only
    rw [free_zero hn hc]
    exact .inr ⟨_, rfl, .inr ⟨_, reset_zero k hn, incl_zero n m⟩⟩
  | full C Y hC hCC hy he hle =>
    simp only
    rw [free_one hn hc hy]
    refine .inr ⟨_, rfl, back_in hn hc hk h (.inr ⟨nar_closed hn (fgt_closed hc.1 hy), ?_, ?_, ?_⟩)⟩
    · have hyw : ∀ i j, i ≤ n → j ≤ n → widW Y i j ≤ widW m i j := fun i j hi hj => (wid_le (hy.full.right i j hi hj) (h.full.right i j hi hj)).2 (Int.le_trans (hle i j hi hj) (tle i j))
      intro i j hi hj ei ej
      have : widW (narM n (widW (fgt c Y))) i j = widW Y i j := by
        unfold widW
        rw [show narM n (fun i j => wid (fgt c Y i j)) i j = fgt c Y i j from nar_agree hn (fgt_closed hc.1 hy) i j hi hj]
        unfold fgt
        rw [if_neg (by omega), if_neg (by omega)]
      rw [this]; exact hyw i j hi hj
    · intro j hj ej
      have : widW (narM n (widW (fgt c Y))) 0 j = widW Y 0 j := by
        unfold widW
        rw [show narM n (fun i j => wid (fgt c Y i j)) 0 j = fgt c Y 0 j from nar_agree hn (fgt_closed hc.1 hy) 0 j z0 hj]
        unfold fgt
        rw [if_neg (by omega), if_neg (by omega)]
      rw [this]
      have h1 := hy.tri c (by omega) 0 j z0 hj
      have h2 : widW Y 0 c ≤ -2 * k + 1 := by rw [← j_wid hk]; exact (wid_le (hy.full.right 0 c z0 hc.2) (j_right hk)).2 (Int.le_trans (hle 0 c z0 hc.2) t0c)
      have h3 : widW Y c j ≤ widW m c j := (wid_le (hy.full.right c j hc.2 hj) (h.full.right c j hc.2 hj)).2 (Int.le_trans (hle c j hc.2 hj) (tle c j))
      have b2 : Bd 1073741824 (-2 * k + 1) := .inr (by omega)
      have f1 : FB (wsum (widW Y 0 c) (widW Y c j)) := ((hy.hb z0 hc.2).sum (hy.hb hc.2 hj)).mono (by omega)
      have f2 : FB (wsum (-2 * k + 1) (widW m c j)) := (b2.sum (h.hb hc.2 hj)).mono (by omega)
      have h4 := wsum_le (hy.fb z0 hc.2) (j_fb hk) (hy.fb hc.2 hj) (h.fb hc.2 hj) h2 h3
      have h5 := wsum_le (k_fb hk) (k_fb hk) (hy.fb z0 hj) f2 (Int.le_refl _) (Int.le_trans h1 h4)
      rw [undo_l hk (h.fb hc.2 hj)] at h5
      exact h5
    · intro i hi ei
      have : widW (narM n (widW (fgt c Y))) i 0 = widW Y i 0 := by
        unfold widW
        rw [show narM n (fun i j => wid (fgt c Y i j)) i 0 = fgt c Y i 0 from nar_agree hn (fgt_closed hc.1 hy) i 0 hi z0]
        unfold fgt
        rw [if_neg (by omega), if_neg (by omega)]
      rw [this]
      have h1 := hy.tri c (by omega) i 0 hi z0
      have h2 : widW Y c 0 ≤ 2 * k + 1 := by rw [← k_wid hk]; exact (wid_le (hy.full.right c 0 hc.2 z0) (k_right hk)).2 (Int.le_trans (hle c 0 hc.2 z0) tc0)
      have h3 : widW Y i c ≤ widW m i c := (wid_le (hy.full.right i c hi hc.2) (h.full.right i c hi hc.2)).2 (Int.le_trans (hle i c hi hc.2) (tle i c))
      have b1 : Bd 1073741824 (2 * k + 1) := .inr (by omega)
      have f2 : FB (wsum (widW m i c) (2 * k + 1)) := ((h.hb hi hc.2).sum b1).mono (by omega)
      have h4 := wsum_le (hy.fb hi hc.2) (h.fb hi hc.2) (hy.fb hc.2 z0) (k_fb hk) h3 h2
      have h5 := wsum_le (hy.fb hi z0) f2 (j_fb hk) (j_fb hk) (Int.le_trans h1 h4) (Int.le_refl _)
      rw [undo_r hk (h.fb hi hc.2)] at h5
      exact h5
  | over C hC hCC =>
    simp only
    have hw := wide_inv hn hc hk (open_agree n m) h.full.ok (n + 1) (Nat.le_refl _)
    -- the clock's own bounds let it be the number
    have hC0 : C c 0 ≤ 2 * k + 1 := by
      have h1 := hCC.le c 0
      have h2 := (wid_le (htok.right c 0 hc.2 z0) (k_right hk)).2 tc0
      rw [k_wid hk] at h2
      exact Int.le_trans h1 h2
    have h0C : C 0 c ≤ -2 * k + 1 := by
      have h1 := hCC.le 0 c
      have h2 := (wid_le (htok.right 0 c z0 hc.2) (j_right hk)).2 t0c
      rw [j_wid hk] at h2
      exact Int.le_trans h1 h2
    have hCm : ∀ i j, i ≤ n → j ≤ n → C i j ≤ widW m i j := fun i j hi hj => Int.le_trans (hCC.le i j) ((wid_le (htok.right i j hi hj) (h.full.right i j hi hj)).2 (tle i j))
    have hfb : ∀ i j, i ≤ n → j ≤ n → FB (C i j) := fun i j hi hj => half_fb (hCC.bd i j hi hj)
    have b1 : Bd 1073741824 (2 * k + 1) := .inr (by omega)
    have b2 : Bd 1073741824 (-2 * k + 1) := .inr (by omega)
    have hone : (1 : Int) ≤ wsum (C 0 c) (C c 0) := by
      have := hCC.tri c (by omega) 0 0 z0 z0
      rw [hCC.one 0 z0] at this; exact this
    have own1 : 2 * k + 1 ≤ widW m c 0 := by
      have h1 := wsum_le (hfb 0 c z0 hc.2) (j_fb hk) (hfb c 0 hc.2 z0) (h.fb hc.2 z0) h0C (hCm c 0 hc.2 z0)
      have h2 := wsum_le (k_fb hk) (k_fb hk) (b := 1) (.inr (by omega)) ((b2.sum (h.hb hc.2 z0)).mono (by omega)) (Int.le_refl _) (Int.le_trans hone h1)
      rw [wsum_one_right, undo_l hk (h.fb hc.2 z0)] at h2
      exact h2
    have own2 : -2 * k + 1 ≤ widW m 0 c := by
      have h1 := wsum_le (hfb 0 c z0 hc.2) (h.fb z0 hc.2) (hfb c 0 hc.2 z0) (k_fb hk) (hCm 0 c z0 hc.2) hC0
      have h2 := wsum_le (a := 1) (.inr (by omega)) (((h.hb z0 hc.2).sum b1).mono (by omega)) (j_fb hk) (j_fb hk) (Int.le_trans hone h1) (Int.le_refl _)
      rw [wsum_one_left, undo_r hk (h.fb z0 hc.2)] at h2
      exact h2
    unfold wideP
    obtain ⟨r, hr⟩ : ∃ r, r = wideUp (openW (some (n, m))) c k (n + 1) := ⟨_, rfl⟩
    rw [← hr] at hw ⊢
    clear hr
    obtain ⟨X, e⟩ := r
    simp only
    by_cases he : e = 0
    · rw [if_pos he]
      subst he
      rw [flat_congr (forget_agree (n := n) hc.1 (fun i j _ _ => rfl : Agree n X X))]
      have hxo := of_is hn (hw.ok.fgt hc.1)
      have hxr := hw.ok
      generalize ofP n (flat n (fgt c X)) = r at *
      cases hxo with
      | empty _ => exact .inr ⟨_, rfl, .inr ⟨_, reset_zero k hn, incl_zero n m⟩⟩
      | over _ _ _ => exact .inl rfl
      | full C' Y hC' _ hy _ hle =>
        have hsame : ∀ i j, i ≤ n → j ≤ n → i ≠ c → j ≠ c → widW Y i j ≤ widW X i j := fun i j hi hj ei ej => by
          have := hle i j hi hj
          unfold fgt at this
          rw [if_neg (by omega), if_neg (by omega)] at this
          exact (wid_le (hy.full.right i j hi hj) (hxr.right i j hi hj)).2 this
        refine .inr ⟨_, rfl, back_in hn hc hk h (.inr ⟨hy, fun i j hi hj ei ej => ?_, fun j hj ej => ?_, fun i hi ei => ?_⟩)⟩
        · exact Int.le_trans (hsame i j hi hj ei ej) ((wid_le (hxr.right i j hi hj) (h.full.right i j hi hj)).2 (hw.le i j hi hj))
        · by_cases hj0 : j = 0
          · subst hj0
            rw [hy.wone z0, wsum_one_right]; exact own1
          · have h1 := hw.lo rfl j (by omega) (by omega) hj ej
            have h2 := wsum_le (k_fb hk) (k_fb hk) (hy.fb z0 hj) (right_fb (hxr.right 0 j z0 hj)) (Int.le_refl _) (hsame 0 j z0 hj (by omega) ej)
            exact Int.le_trans h2 h1
        · by_cases hi0 : i = 0
          · subst hi0
            rw [hy.wone z0, wsum_one_left]; exact own2
          · have h1 := hw.hi rfl i (by omega) (by omega) hi ei
            have h2 := wsum_le (hy.fb hi z0) (right_fb (hxr.right i 0 hi z0)) (j_fb hk) (j_fb hk) (hsame i 0 hi z0 ei (by omega)) (Int.le_refl _)
            exact Int.le_trans h2 h1
    · rw [if_neg he]
      rcases hw.err with h1 | h1
      · exact absurd h1 he
      · left; have h1 : e = 10 := h1; rw [h1]

/-- A clock set, any, from where, and set again. -/
theorem twice_law {n c : Nat} {k : Int} {m : Mat} (hn : n ≤ 8) (hc : 1 ≤ c ∧ c ≤ n) (hk : 0 ≤ k ∧ k ≤ 1048576) (h : m = (fun _ _ => 0) ∨ ClosedZ n m) :
    (∃ e, e ≠ 0 ∧ ofP n (flat n (resetW (some (n, m)) c k)) = (none, e)) ∨
    ∃ x f, ofP n (flat n (resetW (some (n, m)) c k)) = (some x, 0) ∧ unsetP n x c k = (some f, 0) ∧ freeP n m [(c : Int)] = (some f, 0) ∧ inclM n f m = true ∧
      (unsetP n m c k = (none, 10) ∨ ∃ u, unsetP n m c k = (some u, 0) ∧ (ofP n (flat n (resetW (some (n, u)) c k)) = (none, 10) ∨ ∃ t, ofP n (flat n (resetW (some (n, u)) c k)) = (some t, 0) ∧ inclM n m t = true)) := by
  rcases h with rfl | h
  · exact .inr ⟨_, _, reset_zero k hn, unset_zero k hn, free_zero hn hc, incl_zero n _, .inr ⟨_, unset_zero k hn, .inr ⟨_, reset_zero k hn, incl_zero n _⟩⟩⟩
  · rcases ofP_cases n (flat n (resetW (some (n, m)) c k)) with ⟨x, hx⟩ | ⟨e, he, hx⟩
    · right
      obtain ⟨hxc, hs, h1, h2⟩ := reset_full hn hc hk h hx
      refine ⟨x, _, hx, unset_set hn hc hxc h1 h2, ?_, ?_, unset_back hn hc hk h⟩
      · rw [free_one hn hc h]
        refine Prod.ext (congrArg some (nar_same fun i j hi hj => ?_)) rfl
        unfold fgt
        by_cases a : i = c ∧ j ≠ c
        · rw [if_pos a, if_pos a]
        · rw [if_neg a, if_neg a]
          by_cases b : j = c ∧ i ≠ c
          · rw [if_pos b, if_pos b, hs i 0 hi (Nat.zero_le _) b.2 (by omega)]
          · rw [if_neg b, if_neg b]
            by_cases d : i = c
            · rw [d, show j = c by omega, hxc.full.one c hc.2, h.full.one c hc.2]
            · rw [hs i j hi hj d (by omega)]
      · refine incl_of fun i j hi hj => ?_
        rw [nar_agree hn (fgt_closed hc.1 hxc) i j hi hj]
        unfold fgt
        split
        · exact (right_hi (h.full.right i j hi hj)).2
        · split
          · rename_i b
            rw [hs i 0 hi (Nat.zero_le _) b.2 (by omega), b.1]
            exact (wid_le (h.full.right i c hi hc.2) (h.full.right i 0 hi (Nat.zero_le _))).1 (h.to0 hi hc.2)
          · by_cases d : i = c
            · rw [d, show j = c by omega, hxc.full.one c hc.2, h.full.one c hc.2]
              exact Int.le_refl _
            · rw [hs i j hi hj d (by omega)]
              exact Int.le_refl _
    · exact .inl ⟨e, he, hx⟩

end Go.Proofs.YtmelblnflalanaaGreat

/- Which valuations are in what comes of a zone by Up, Down, Reset, Unset, Free, bounds and And: plain, on any grid. -/
namespace Go.Proofs.YtmelblnflalanaaGreat
set_option linter.unusedVariables false
set_option linter.unusedSimpArgs false

theorem sat_lower {g b x y : Int} (h : sat g b x) (hy : y ≤ x) : sat g b y := by
  rcases h with h | h
  · exact .inl h
  · exact .inr (by omega)
theorem satM_alike {n : Nat} {g : Int} {a b : Mat} {u : Nat → Int} (h : Agree n a b) : satM n g (widW a) u ↔ satM n g (widW b) u := by
  constructor
  · intro hs i j hi hj
    have := hs i j hi hj
    unfold widW at this ⊢
    rw [← h i j hi hj]; exact this
  · intro hs i j hi hj
    have := hs i j hi hj
    unfold widW at this ⊢
    rw [h i j hi hj]; exact this
theorem satM_none (n : Nat) (g : Int) (u : Nat → Int) : ¬ satM n g (widW fun _ _ => 0) u := fun h => by
  have := h 0 0 (Nat.zero_le _) (Nat.zero_le _)
  rw [Int.sub_self] at this
  rcases this with h1 | h1
  · revert h1; decide
  · revert h1
    unfold widW wid
    rw [if_neg (by decide)]
    simp
/-- What Of tells of cells lets what the cells let. -/
theorem of_sat {n : Nat} {g : Int} {X a : Mat} {u : Nat → Int} (hn : n ≤ 8) (hg : 1 ≤ g) (h : OkM n X) (e : ofP n (flat n X) = (some a, 0)) : satM n g (widW a) u ↔ satM n g (widW X) u := by
  have ho := of_is hn h
  have hs := closed_sat hn hg u h.fit
  rw [e] at ho
  cases ho with
  | empty hc =>
    rw [hc] at hs
    exact ⟨fun h => absurd h (satM_none n g u), fun h => absurd h hs⟩
  | full C Y hc hcl hy he hle =>
    rw [hc] at hs
    refine Iff.trans ?_ hs.symm
    constructor
    · intro q i j hi hj; rw [← he i j hi hj]; exact q i j hi hj
    · intro q i j hi hj; rw [he i j hi hj]; exact q i j hi hj

/-! ### Up and Down -/
theorem upM_sat {n : Nat} {g d : Int} {m : Mat} {u v : Nat → Int} (h0 : u 0 = 0) (h0' : v 0 = 0) (hd : 0 ≤ d) (hv : ∀ i, 1 ≤ i → i ≤ n → v i = u i + d) (h : satM n g (widW m) u) : satM n g (widW (upM m)) v := fun i j hi hj => by
  by_cases e : j = 0 ∧ i ≠ 0
  · left; unfold widW upM; rw [if_pos e]; decide
  · have e1 : widW (upM m) i j = widW m i j := by unfold widW upM; rw [if_neg e]
    rw [e1]
    refine sat_lower (h i j hi hj) ?_
    by_cases ei : i = 0
    · by_cases ej : j = 0
      · subst ei; subst ej; omega
      · subst ei; have := hv j (by omega) hj; omega
    · have := hv j (by omega) hj
      have := hv i (by omega) hi
      omega
theorem up_sat {n : Nat} {g d : Int} {m a : Mat} {u v : Nat → Int} (hn : n ≤ 8) (hm : m = (fun _ _ => 0) ∨ ClosedZ n m) (e : ofP n (flat n (upW (some (n, m)))) = (some a, 0)) (h0 : u 0 = 0) (h0' : v 0 = 0) (hd : 0 ≤ d) (hv : ∀ i, 1 ≤ i → i ≤ n → v i = u i + d) (h : satM n g (widW m) u) : satM n g (widW a) v := by
  rcases hm with rfl | hm
  · exact absurd h (satM_none n g u)
  · have hc := up_closed hm
    rw [of_same hn hc (upW_agree hm)] at e
    simp only [Prod.mk.injEq, Option.some.injEq, and_true] at e
    subst e
    exact (satM_alike (nar_agree hn hc)).2 (upM_sat h0 h0' hd hv h)
theorem downM_sat {n : Nat} {g d : Int} {m : Mat} {u v : Nat → Int} (hm : ClosedZ n m) (h0 : u 0 = 0) (h0' : v 0 = 0) (hu : ∀ i, i ≤ n → 0 ≤ u i) (hd : 0 ≤ d) (hv : ∀ i, 1 ≤ i → i ≤ n → v i = u i + d) (h : satM n g (widW m) v) : satM n g (widW (downM n m)) u := fun i j hi hj => by
  by_cases e : i ≠ 0 ∨ j = 0
  · have e1 : widW (downM n m) i j = widW m i j := by unfold widW; rw [downM_other e]
    rw [e1]
    refine sat_lower (h i j hi hj) ?_
    by_cases ei : i = 0
    · subst ei
      have ej : j = 0 := by omega
      subst ej; omega
    · have := hv i (by omega) hi
      by_cases ej : j = 0
      · subst ej; omega
      · have := hv j (by omega) hj
        omega
  · have e1 : i = 0 := by omega
    subst e1
    obtain ⟨_, q, a, b, c⟩ := downM_val (m := m) (j := j) (by omega) hj (hm.full.one j hj)
    have e2 : widW (downM n m) 0 j = widW m q j := by unfold widW; rw [c]
    rw [e2]
    refine sat_lower (h q j b hj) ?_
    have := hv q a b
    have := hv j (by omega) hj
    have := hu q b
    omega
theorem down_sat {n : Nat} {g d : Int} {m a : Mat} {u v : Nat → Int} (hn : n ≤ 8) (hm : m = (fun _ _ => 0) ∨ ClosedZ n m) (e : ofP n (flat n (downW (some (n, m)))) = (some a, 0)) (h0 : u 0 = 0) (h0' : v 0 = 0) (hu : ∀ i, i ≤ n → 0 ≤ u i) (hd : 0 ≤ d) (hv : ∀ i, 1 ≤ i → i ≤ n → v i = u i + d) (h : satM n g (widW m) v) : satM n g (widW a) u := by
  rcases hm with rfl | hm
  · exact absurd h (satM_none n g v)
  · have hc := down_closed hm
    rw [of_same hn hc (downW_agree hm)] at e
    simp only [Prod.mk.injEq, Option.some.injEq, and_true] at e
    subst e
    exact (satM_alike (nar_agree hn hc)).2 (downM_sat hm h0 h0' hu hd hv h)

/-! ### a clock is any -/
theorem fgt_sat {n c : Nat} {g : Int} {m : Mat} {u v : Nat → Int} (hc : 1 ≤ c) (h0 : u 0 = 0) (hv : 0 ≤ v c) (he : ∀ i, i ≤ n → i ≠ c → v i = u i)
    (hcol : ∀ i j, i ≤ n → j ≤ n → i ≠ c → j ≠ c → sat g (widW m i j) (u i - u j)) (hcc : sat g (widW m c c) 0) : satM n g (widW (fgt c m)) v := fun i j hi hj => by
  unfold widW fgt
  by_cases a : i = c ∧ j ≠ c
  · rw [if_pos a]; left; decide
  · rw [if_neg a]
    by_cases b : j = c ∧ i ≠ c
    · rw [if_pos b]
      refine sat_lower (hcol i 0 hi (Nat.zero_le _) b.2 (by omega)) ?_
      have := he i hi b.2
      have e2 := b.1
      subst e2
      omega
    · rw [if_neg b]
      by_cases ei : i = c
      · have ej : j = c := by omega
        subst ei; subst ej
        rw [Int.sub_self]; exact hcc
      · rw [he i hi ei, he j hj (by omega)]
        exact hcol i j hi hj ei (by omega)
theorem fgt_of {n c : Nat} {g : Int} {m : Mat} {u v : Nat → Int} (hc : 1 ≤ c ∧ c ≤ n) (h0 : u 0 = 0) (hv : 0 ≤ v c) (he : ∀ i, i ≤ n → i ≠ c → v i = u i) (h : satM n g (widW m) u) : satM n g (widW (fgt c m)) v :=
  fgt_sat hc.1 h0 hv he (fun i j hi hj _ _ => h i j hi hj) (by have := h c c hc.2 hc.2; rwa [Int.sub_self] at this)
theorem fgt_off {c i j : Nat} {m : Mat} (hi : i ≠ c) (hj : j ≠ c) : widW (fgt c m) i j = widW m i j := by unfold widW fgt; rw [if_neg (by omega), if_neg (by omega)]
theorem fgt_move {n c : Nat} {g : Int} {m : Mat} {u v : Nat → Int} (hc : 1 ≤ c ∧ c ≤ n) (h0 : u 0 = 0) (hv : 0 ≤ v c) (he : ∀ i, i ≤ n → i ≠ c → v i = u i) (h : satM n g (widW (fgt c m)) u) : satM n g (widW (fgt c m)) v :=
  fgt_sat hc.1 h0 hv he (fun i j hi hj a b => by rw [← fgt_off (m := m) a b]; exact h i j hi hj) (by
    have := h c c hc.2 hc.2
    rw [Int.sub_self] at this
    have e : widW (fgt c m) c c = widW m c c := by unfold widW fgt; rw [if_neg (by omega), if_neg (by omega)]
    rwa [e] at this)
/-- What Free tells of one clock. -/
theorem free_sat {n c : Nat} {g : Int} {m a : Mat} {u : Nat → Int} (hn : n ≤ 8) (hc : 1 ≤ c ∧ c ≤ n) (hm : ClosedZ n m) (e : freeP n m [(c : Int)] = (some a, 0)) : satM n g (widW a) u ↔ satM n g (widW (fgt c m)) u := by
  rw [free_one hn hc hm] at e
  simp only [Prod.mk.injEq, Option.some.injEq, and_true] at e
  subst e
  exact satM_alike (nar_agree hn (fgt_closed hc.1 hm))

/-! ### a clock is set -/
theorem sat_hi {g k x : Int} (hk : 0 ≤ k ∧ k ≤ 1048576) : sat g (wid (2 * k + 1)) x ↔ x ≤ k * g := by
  rw [k_wid hk]
  have e1 : (2 * k + 1) / 2 = k := by omega
  have e2 : (2 * k + 1) % 2 = 1 := by omega
  unfold sat
  rw [e1, e2]
  constructor
  · rintro (h | h)
    · exfalso; unfold none62 at h; omega
    · omega
  · intro h; exact .inr (by omega)
theorem sat_lo {g k x : Int} (hk : 0 ≤ k ∧ k ≤ 1048576) : sat g (wid (-2 * k + 1)) x ↔ x ≤ -(k * g) := by
  rw [j_wid hk]
  have e1 : (-2 * k + 1) / 2 = -k := by omega
  have e2 : (-2 * k + 1) % 2 = 1 := by omega
  unfold sat
  rw [e1, e2, Int.neg_mul k g]
  constructor
  · rintro (h | h)
    · exfalso; unfold none62 at h; omega
    · omega
  · intro h; exact .inr (by omega)
theorem rst_sat {n c : Nat} {g k : Int} {m : Mat} {u : Nat → Int} (hc : 1 ≤ c ∧ c ≤ n) (hg : 1 ≤ g) (hk : 0 ≤ k ∧ k ≤ 1048576) (hm : ClosedZ n m) (h0 : u 0 = 0) : satM n g (widW (rst c k m)) u ↔ satM n g (widW (fgt c m)) u ∧ u c = k * g := by
  have hkg : 0 ≤ k * g := Int.mul_nonneg hk.1 (by omega)
  have c1 : widW (rst c k m) 0 c = wid (-2 * k + 1) := by
    unfold widW rst
    rw [if_pos ⟨rfl, rfl⟩, hm.full.one 0 (Nat.zero_le _), Int.min_eq_right (by omega)]
  have c2 : widW (rst c k m) c 0 = wid (2 * k + 1) := by
    unfold widW rst
    rw [if_neg (by omega), if_pos ⟨rfl, rfl⟩]
  have c3 : ∀ i j, ¬ (i = 0 ∧ j = c) → ¬ (i = c ∧ j = 0) → widW (rst c k m) i j = widW (fgt c m) i j := fun i j a b => by
    unfold widW rst
    rw [if_neg a, if_neg b]
  have c4 : widW (fgt c m) 0 c = 1 := by
    unfold widW fgt
    rw [if_neg (by omega), if_pos (by omega), hm.full.one 0 (Nat.zero_le _)]; decide
  have c5 : widW (fgt c m) c 0 = none62 := by
    unfold widW fgt
    rw [if_pos (by omega)]; decide
  constructor
  · intro h
    have a1 := h 0 c (Nat.zero_le _) hc.2
    have a2 := h c 0 hc.2 (Nat.zero_le _)
    rw [c1, sat_lo hk] at a1
    rw [c2, sat_hi hk] at a2
    have huc : u c = k * g := by omega
    refine ⟨fun i j hi hj => ?_, huc⟩
    by_cases e1 : i = 0 ∧ j = c
    · rw [e1.1, e1.2, c4]; exact sat_one (by omega)
    · by_cases e2 : i = c ∧ j = 0
      · rw [e2.1, e2.2, c5]; exact .inl rfl
      · rw [← c3 i j e1 e2]; exact h i j hi hj
  · rintro ⟨h, huc⟩ i j hi hj
    by_cases e1 : i = 0 ∧ j = c
    · rw [e1.1, e1.2, c1, sat_lo hk]; omega
    · by_cases e2 : i = c ∧ j = 0
      · rw [e2.1, e2.2, c2, sat_hi hk]; omega
      · rw [c3 i j e1 e2]; exact h i j hi hj
/-- What Reset tells of a zone that is not empty. -/
theorem reset_sat {n c : Nat} {g k : Int} {m a : Mat} {u : Nat → Int} (hn : n ≤ 8) (hg : 1 ≤ g) (hc : 1 ≤ c ∧ c ≤ n) (hk : 0 ≤ k ∧ k ≤ 1048576) (hm : ClosedZ n m) (e : ofP n (flat n (resetW (some (n, m)) c k)) = (some a, 0)) (h0 : u 0 = 0) : satM n g (widW a) u ↔ satM n g (widW (fgt c m)) u ∧ u c = k * g := by
  have e1 : resetW (some (n, m)) c k = setW (openW (some (n, m))) n c k := by unfold resetW; rw [if_neg (by simp [hm.notEmpty])]; rfl
  rw [e1, flat_congr (set_agree hc hk (open_agree n m))] at e
  rw [of_sat hn hg (hm.full.ok.rst hc hk) e, rst_sat hc hg hk hm h0]

/-! ### from where it is set -/
theorem sat_shift {g b k x : Int} (hb : FB b) (hk : 0 ≤ k ∧ k ≤ 1048576) : (sat g (wsum b (2 * k + 1)) (x + k * g) → sat g b x) ∧ (sat g (wsum b (-2 * k + 1)) (x - k * g) → sat g b x) := by
  by_cases e : b = none62
  · exact ⟨fun _ => .inl e, fun _ => .inl e⟩
  · have hf := hb.fin e
    rw [wsum_min e (by unfold none62; omega), wsum_min e (by unfold none62; omega)]
    have a1 : (b - b % 2 + (2 * k + 1 - (2 * k + 1) % 2) + min (b % 2) ((2 * k + 1) % 2)) = b + 2 * k := by omega
    have a2 : (b - b % 2 + (-2 * k + 1 - (-2 * k + 1) % 2) + min (b % 2) ((-2 * k + 1) % 2)) = b - 2 * k := by omega
    rw [a1, a2]
    have b1 : (b + 2 * k) / 2 = b / 2 + k := by omega
    have b2 : (b + 2 * k) % 2 = b % 2 := by omega
    have b3 : (b - 2 * k) / 2 = b / 2 - k := by omega
    have b4 : (b - 2 * k) % 2 = b % 2 := by omega
    unfold sat
    rw [b1, b2, b3, b4, Int.add_mul, Int.sub_mul]
    refine ⟨fun h => ?_, fun h => ?_⟩
    · rcases h with h | h
      · exfalso; unfold none62 at h; omega
      · exact .inr (by omega)
    · rcases h with h | h
      · exfalso; unfold none62 at h; omega
      · exact .inr (by omega)
/-- One cell made stricter. -/
theorem less_sat {n a b : Nat} {g x : Int} {M : Mat} {u : Nat → Int} (hg : 1 ≤ g) (ha : a ≤ n) (hb : b ≤ n) (hM : rightB (M a b) = true) (hx : rightB x = true) : satM n g (widW (lessM M a b x)) u ↔ satM n g (widW M) u ∧ sat g (wid x) (u a - u b) := by
  rw [wid_less _ _ _ _ (right_hi hM).2 (right_hi hx).2]
  have hmin := sat_min (x := u a - u b) hg (right_fb hM) (right_fb hx)
  have e1 : lessM (widW M) a b (wid x) a b = min (wid (M a b)) (wid x) := by unfold lessM; rw [upd_at]; rfl
  constructor
  · intro h
    have h1 := h a b ha hb
    rw [e1, hmin] at h1
    refine ⟨fun i j hi hj => ?_, h1.2⟩
    by_cases e : i = a ∧ j = b
    · rw [e.1, e.2]; exact h1.1
    · have := h i j hi hj
      rwa [less_off e] at this
  · rintro ⟨h, h2⟩ i j hi hj
    by_cases e : i = a ∧ j = b
    · rw [e.1, e.2, e1, hmin]; exact ⟨h a b ha hb, h2⟩
    · rw [less_off e]; exact h i j hi hj
theorem tie_sat {n c : Nat} {g k : Int} {m : Mat} {u : Nat → Int} (hg : 1 ≤ g) (hc : 1 ≤ c ∧ c ≤ n) (hk : 0 ≤ k ∧ k ≤ 1048576) (h : OkM n m) (h0 : u 0 = 0) : satM n g (widW (tieW m c k)) u ↔ satM n g (widW m) u ∧ u c = k * g := by
  have h1 := h.less c 0 hc.2 (Nat.zero_le _) (2 * k + 1) (k_right hk)
  unfold tieW
  rw [less_sat hg (Nat.zero_le _) hc.2 (h1.right 0 c (Nat.zero_le _) hc.2) (j_right hk), less_sat hg hc.2 (Nat.zero_le _) (h.right c 0 hc.2 (Nat.zero_le _)) (k_right hk), sat_hi hk, sat_lo hk]
  constructor
  · rintro ⟨⟨a, b⟩, c⟩; exact ⟨a, by omega⟩
  · rintro ⟨a, b⟩; exact ⟨⟨a, by omega⟩, by omega⟩
/-- A zone that pins a clock: the clock may be put there. -/
theorem pin_sat {n c : Nat} {g k : Int} {Y : Mat} {u s : Nat → Int} (hg : 1 ≤ g) (hc : 1 ≤ c ∧ c ≤ n) (hk : 0 ≤ k ∧ k ≤ 1048576) (hy : ClosedZ n Y) (h1 : Y c 0 ≤ 2 * k + 1) (h2 : Y 0 c ≤ -2 * k + 1) (h0 : u 0 = 0) (hs : s c = k * g) (he : ∀ i, i ≤ n → i ≠ c → s i = u i) (h : satM n g (widW (fgt c Y)) u) : satM n g (widW Y) s := fun i j hi hj => by
  have z0 : 0 ≤ n := Nat.zero_le _
  have w1 : widW Y c 0 ≤ 2 * k + 1 := by rw [← k_wid hk]; exact (wid_le (hy.full.right c 0 hc.2 z0) (k_right hk)).2 h1
  have w2 : widW Y 0 c ≤ -2 * k + 1 := by rw [← j_wid hk]; exact (wid_le (hy.full.right 0 c z0 hc.2) (j_right hk)).2 h2
  have b1 : Bd 1073741824 (2 * k + 1) := .inr (by omega)
  have b2 : Bd 1073741824 (-2 * k + 1) := .inr (by omega)
  by_cases ei : i = c
  · subst ei
    by_cases ej : j = i
    · subst ej
      rw [Int.sub_self, hy.wone hi]; exact sat_one (Int.le_refl _)
    · rw [hs, he j hj ej]
      have t := hy.tri i (by omega) 0 j z0 hj
      have t2 := wsum_le (hy.fb z0 hi) (j_fb hk) (hy.fb hi hj) (hy.fb hi hj) w2 (Int.le_refl _)
      rw [wsum_comm (-2 * k + 1)] at t2
      have q := h 0 j z0 hj
      rw [fgt_off (by omega) ej, h0] at q
      refine (sat_shift (hy.fb hi hj) hk).2 ?_
      have q2 := sat_mono hg (((hy.hb hi hj).sum b2).mono (by omega)) (Int.le_trans t t2) q
      rwa [show k * g - u j - k * g = 0 - u j by omega]
  · by_cases ej : j = c
    · subst ej
      rw [hs, he i hi ei]
      have t := hy.tri j (by omega) i 0 hi z0
      have t2 := wsum_le (hy.fb hi hj) (hy.fb hi hj) (hy.fb hj z0) (k_fb hk) (Int.le_refl _) w1
      have q := h i 0 hi z0
      rw [fgt_off ei (by omega), h0] at q
      refine (sat_shift (hy.fb hi hj) hk).1 ?_
      have q2 := sat_mono hg (((hy.hb hi hj).sum b1).mono (by omega)) (Int.le_trans t t2) q
      rwa [show u i - k * g + k * g = u i - 0 by omega]
    · rw [he i hi ei, he j hj ej, ← fgt_off (m := Y) ei ej]
      exact h i j hi hj
/-- What the first p clocks are made to keep is kept by what keeps the zone with the clock at the number. -/
theorem wide_keeps {n c : Nat} {g k : Int} {m M : Mat} {s : Nat → Int} (hn : n ≤ 8) (hg : 1 ≤ g) (hc : 1 ≤ c ∧ c ≤ n) (hk : 0 ≤ k ∧ k ≤ 1048576) (hM : Agree n M m) (h : OkM n m) (h0 : s 0 = 0) (hs : s c = k * g) (hm : satM n g (widW m) s) : ∀ p, p ≤ n + 1 → satM n g (widW (wideUp M c k p).1) s
  | 0, _ => (satM_alike hM).2 hm
  | p + 1, hp => by
    have ih := wide_keeps hn hg hc hk hM h h0 hs hm p (by omega)
    have iw := wide_inv hn hc hk hM h p (by omega)
    have z0 : 0 ≤ n := Nat.zero_le _
    obtain ⟨r, hr⟩ : ∃ r, r = wideUp M c k p := ⟨_, rfl⟩
    unfold wideUp
    rw [← hr] at ih iw ⊢
    clear hr
    obtain ⟨X, e⟩ := r
    have ok := iw.ok
    simp only at ih ok ⊢
    by_cases c0 : p = 0 ∨ p = c
    · rw [if_pos c0]; exact ih
    · rw [if_neg c0]
      by_cases c1 : e ≠ 0
      · rw [if_pos c1]; exact ih
      · rw [if_neg c1]
        have rpc := ok.right p c (by omega) hc.2
        by_cases c2 : (sumP [X p c, 2 * k + 1]).2 ≠ 0 ∧ X p 0 = 2147483647
        · rw [if_pos c2]; exact ih
        · rw [if_neg c2]
          have step : ∃ Y, Y = (if (sumP [X p c, 2 * k + 1]).2 = 0 then lessM X p 0 (sumP [X p c, 2 * k + 1]).1 else X) ∧ OkM n Y ∧ satM n g (widW Y) s := by
            refine ⟨_, rfl, ?_⟩
            by_cases c3 : (sumP [X p c, 2 * k + 1]).2 = 0
            · rw [if_pos c3]
              rcases sum_is rpc (k_right hk) with ⟨_, a2, a3⟩ | ⟨a1, _⟩
              · refine ⟨ok.less p 0 (by omega) z0 _ a2, (less_sat hg (by omega) z0 (ok.right p 0 (by omega) z0) a2).2 ⟨ih, ?_⟩⟩
                rw [a3]
                have q1 := ih p c (by omega) hc.2
                have q2 : sat g (wid (2 * k + 1)) (s c - s 0) := (sat_hi hk).2 (by omega)
                have q3 := sat_sum q1 q2
                rwa [show s p - s c + (s c - s 0) = s p - s 0 by omega] at q3
              · omega
            · rw [if_neg c3]; exact ⟨ok, ih⟩
          obtain ⟨Y, hY, okY, sY⟩ := step
          rw [← hY]
          by_cases c4 : (sumP [-2 * k + 1, Y c p]).2 ≠ 0
          · rw [if_pos c4]; exact sY
          · rw [if_neg c4]
            have rcp := okY.right c p hc.2 (by omega)
            rcases sum_is (j_right hk) rcp with ⟨_, a2, a3⟩ | ⟨a1, _⟩
            · refine (less_sat hg z0 (by omega) (okY.right 0 p z0 (by omega)) a2).2 ⟨sY, ?_⟩
              rw [a3]
              have q1 := sY c p hc.2 (by omega)
              have q2 : sat g (wid (-2 * k + 1)) (s 0 - s c) := (sat_lo hk).2 (by omega)
              have q3 := sat_sum q2 q1
              rwa [show s 0 - s c + (s c - s p) = s 0 - s p by omega] at q3
            · exact absurd (by rw [a1]; decide) c4
/-- What Unset tells: from where the clock may be set. -/
theorem unset_sat {n c : Nat} {g k : Int} {m a : Mat} {u s : Nat → Int} (hn : n ≤ 8) (hg : 1 ≤ g) (hc : 1 ≤ c ∧ c ≤ n) (hk : 0 ≤ k ∧ k ≤ 1048576) (hm : ClosedZ n m) (e : unsetP n m c k = (some a, 0)) (h0 : u 0 = 0) (hu : 0 ≤ u c) (hs : s c = k * g) (he : ∀ i, i ≤ n → i ≠ c → s i = u i) : satM n g (widW a) u ↔ satM n g (widW m) s := by
  have z0 : 0 ≤ n := Nat.zero_le _
  have hs0 : s 0 = 0 := by rw [he 0 z0 (by omega), h0]
  have he' : ∀ i, i ≤ n → i ≠ c → u i = s i := fun i hi hic => (he i hi hic).symm
  have e0 : ofP n (flat n (tieW (openW (some (n, m))) c k)) = ofP n (flat n (tieW m c k)) := by rw [flat_congr (tie_agree hc (open_agree n m))]
  have htok := tie_ok (c := c) (k := k) hc hk hm.full.ok
  have hto := of_is hn htok
  have hts := tie_sat (u := s) hg hc hk hm.full.ok hs0
  have hcs := closed_sat hn hg s htok.fit
  obtain ⟨tle, tc0, t0c⟩ := tie_cells (c := c) (k := k) hc.1 m
  unfold unsetP at e
  rw [if_neg (by simp [hm.notEmpty]), e0] at e
  generalize ofP n (flat n (tieW m c k)) = r at *
  cases hto with
  | empty hcl =>
    simp only at e
    rw [free_zero hn hc] at e
    simp only [Prod.mk.injEq, Option.some.injEq, and_true] at e
    subst e
    rw [hcl] at hcs
    exact ⟨fun h => absurd h (satM_none n g u), fun h => absurd (hts.2 ⟨h, hs⟩) hcs⟩
  | full C Y hC hCC hy hee hle =>
    simp only at e
    rw [hC] at hcs
    have hys : satM n g (widW Y) s ↔ satM n g (widW (tieW m c k)) s := by
      refine Iff.trans ?_ hcs.symm
      constructor
      · intro q i j hi hj; rw [← hee i j hi hj]; exact q i j hi hj
      · intro q i j hi hj; rw [hee i j hi hj]; exact q i j hi hj
    rw [free_sat hn hc hy e]
    constructor
    · intro h
      have := pin_sat hg hc hk hy (Int.le_trans (hle c 0 hc.2 z0) tc0) (Int.le_trans (hle 0 c z0 hc.2) t0c) h0 hs he h
      exact (hts.1 (hys.1 this)).1
    · intro h
      exact fgt_of hc hs0 hu he' (hys.2 (hts.2 ⟨h, hs⟩))
  | over C hC hCC =>
    simp only at e
    have iw := wide_inv hn hc hk (open_agree n m) hm.full.ok (n + 1) (Nat.le_refl _)
    have wk := wide_keeps (s := s) hn hg hc hk (open_agree n m) hm.full.ok hs0 hs
    unfold wideP at e
    obtain ⟨r, hr⟩ : ∃ r, r = wideUp (openW (some (n, m))) c k (n + 1) := ⟨_, rfl⟩
    rw [← hr] at e iw
    by_cases hr2 : r.2 = 0
    · rw [if_pos hr2, flat_congr (forget_agree (n := n) hc.1 (fun i j _ _ => rfl : Agree n r.1 r.1))] at e
      rw [of_sat hn hg (iw.ok.fgt hc.1) e]
      have b1 : Bd 1073741824 (2 * k + 1) := .inr (by omega)
      have b2 : Bd 1073741824 (-2 * k + 1) := .inr (by omega)
      have cfb : ∀ i j, i ≤ n → j ≤ n → FB (C i j) := fun i j hi hj => half_fb (hCC.bd i j hi hj)
      have ct : ∀ i j, i ≤ n → j ≤ n → C i j ≤ widW (tieW m c k) i j := fun i j hi hj => hCC.le i j
      have tfb : ∀ i j, i ≤ n → j ≤ n → FB (widW (tieW m c k) i j) := fun i j hi hj => right_fb (htok.right i j hi hj)
      have mono : ∀ i j, i ≤ n → j ≤ n → widW (tieW m c k) i j ≤ widW m i j := fun i j hi hj => (wid_le (htok.right i j hi hj) (hm.full.right i j hi hj)).2 (tle i j)
      have tkc : widW (tieW m c k) c 0 ≤ 2 * k + 1 := by rw [← k_wid hk]; exact (wid_le (htok.right c 0 hc.2 z0) (k_right hk)).2 tc0
      have tck : widW (tieW m c k) 0 c ≤ -2 * k + 1 := by rw [← j_wid hk]; exact (wid_le (htok.right 0 c z0 hc.2) (j_right hk)).2 t0c
      have loop : ∀ x y, FB x → FB y → C 0 c ≤ x → C c 0 ≤ y → 1 ≤ wsum x y := fun x y fx fy hx hy => by
        have t := hCC.tri c (by omega) 0 0 z0 z0
        rw [hCC.one 0 z0] at t
        exact Int.le_trans t (wsum_le (cfb 0 c z0 hc.2) fx (cfb c 0 hc.2 z0) fy hx hy)
      constructor
      · intro h i j hi hj
        by_cases ei : i = c
        · subst ei
          by_cases ej : j = i
          · subst ej
            rw [Int.sub_self, hm.wone hi]; exact sat_one (Int.le_refl _)
          · rw [hs, he j hj ej]
            by_cases j0 : j = 0
            · subst j0
              rw [h0]
              refine (sat_shift (hm.fb hi z0) hk).2 ?_
              have l := loop (-2 * k + 1) (widW m i 0) (j_fb hk) (hm.fb hi z0) (Int.le_trans (ct 0 i z0 hi) tck) (Int.le_trans (ct i 0 hi z0) (mono i 0 hi z0))
              rw [wsum_comm] at l
              rw [show k * g - 0 - k * g = 0 by omega]
              exact sat_mono hg (((hm.hb hi z0).sum b2).mono (by omega)) l (sat_one (Int.le_refl _))
            · have q := h 0 j z0 hj
              rw [fgt_off (by omega) ej, h0] at q
              have q2 : sat g (wid (2 * k + 1)) (k * g) := (sat_hi hk).2 (Int.le_refl _)
              have q3 := sat_sum q2 q
              rw [k_wid hk] at q3
              have q4 := sat_mono hg (hm.fb hi hj) (iw.lo hr2 j (by omega) (by omega) hj ej) q3
              rwa [show k * g + (0 - u j) = k * g - u j by omega] at q4
        · by_cases ej : j = c
          · subst ej
            rw [hs, he i hi ei]
            by_cases i0 : i = 0
            · subst i0
              rw [h0]
              refine (sat_shift (hm.fb z0 hj) hk).1 ?_
              have l := loop (widW m 0 j) (2 * k + 1) (hm.fb z0 hj) (k_fb hk) (Int.le_trans (ct 0 j z0 hj) (mono 0 j z0 hj)) (Int.le_trans (ct j 0 hj z0) tkc)
              rw [show 0 - k * g + k * g = 0 by omega]
              exact sat_mono hg (((hm.hb z0 hj).sum b1).mono (by omega)) l (sat_one (Int.le_refl _))
            · have q := h i 0 hi z0
              rw [fgt_off ei (by omega), h0] at q
              have q2 : sat g (wid (-2 * k + 1)) (-(k * g)) := (sat_lo hk).2 (Int.le_refl _)
              have q3 := sat_sum q q2
              rw [j_wid hk] at q3
              have q4 := sat_mono hg (hm.fb hi hj) (iw.hi hr2 i (by omega) (by omega) hi ei) q3
              rwa [show u i - 0 + -(k * g) = u i - k * g by omega] at q4
          · rw [he i hi ei, he j hj ej]
            have q := h i j hi hj
            rw [fgt_off ei ej] at q
            exact sat_mono hg (hm.fb hi hj) ((wid_le (iw.ok.right i j hi hj) (hm.full.right i j hi hj)).2 (iw.le i j hi hj)) q
      · intro h
        have q := wk h (n + 1) (Nat.le_refl _)
        rw [← hr] at q
        exact fgt_of hc hs0 hu he' q
    · rw [if_neg hr2] at e
      cases e

/-! ### bounds, and two zones -/
theorem con_sat {n : Nat} {g : Int} {m : Mat} {l : List (Int × Int × Int)} {u : Nat → Int} (hg : 1 ≤ g) (h : OkM n m) (hc : l.all (clkB n) = true) (hb : l.all bdB = true) : ∀ p, p ≤ l.length → (satM n g (widW (conUp m l p)) u ↔ satM n g (widW m) u ∧ ∀ q, q < p → sat g (wid (l.getD q (0, 0, 0)).2.2) (u (l.getD q (0, 0, 0)).1.toNat - u (l.getD q (0, 0, 0)).2.1.toNat))
  | 0, _ => ⟨fun a => ⟨a, fun q hq => by omega⟩, fun a => a.1⟩
  | p + 1, hp => by
    have ih := con_sat (u := u) hg h hc hb p (by omega)
    have ok := h.con hc hb p (by omega)
    have a := clk_parts ((all_getD l (clkB n) (0, 0, 0)).1 hc p (by omega))
    have b := (all_getD l bdB (0, 0, 0)).1 hb p (by omega)
    unfold conUp
    rw [less_sat hg (by omega) (by omega) (ok.right _ _ (by omega) (by omega)) b, ih]
    constructor
    · rintro ⟨⟨x, y⟩, z⟩
      refine ⟨x, fun q hq => ?_⟩
      by_cases e : q = p
      · rw [e]; exact z
      · exact y q (by omega)
    · rintro ⟨x, y⟩
      exact ⟨⟨x, fun q hq => y q (by omega)⟩, y p (by omega)⟩
theorem cons_sat {n : Nat} {g : Int} {m a : Mat} {l : List (Int × Int × Int)} {u : Nat → Int} (hn : n ≤ 8) (hg : 1 ≤ g) (h : OkM n m) (e : conP n (openW (some (n, m))) l = (some a, 0)) : satM n g (widW a) u ↔ satM n g (widW m) u ∧ ∀ q, q < l.length → sat g (wid (l.getD q (0, 0, 0)).2.2) (u (l.getD q (0, 0, 0)).1.toNat - u (l.getD q (0, 0, 0)).2.1.toNat) := by
  unfold conP at e
  by_cases hc : conE n l = 0
  · rw [if_pos hc] at e
    obtain ⟨c1, c2⟩ := conE_parts hc
    rw [flat_congr ((open_agree n m).con c1 l.length (Nat.le_refl _))] at e
    rw [of_sat hn hg (h.con c1 c2 _ (Nat.le_refl _)) e, con_sat hg h c1 c2 _ (Nat.le_refl _)]
  · rw [if_neg hc] at e
    cases e
theorem both_sat {n : Nat} {g : Int} {m o a : Mat} {u : Nat → Int} (hn : n ≤ 8) (hg : 1 ≤ g) (hm : OkM n m) (ho : OkM n o) (e : ofP n (flat n (andUp n (openW (some (n, m))) [o] 1)) = (some a, 0)) : satM n g (widW a) u ↔ satM n g (widW m) u ∧ satM n g (widW o) u := by
  rw [flat_congr (and_one hm.right)] at e
  have hmin : ∀ i j, i ≤ n → j ≤ n → minM m o i j = min (m i j) (o i j) := fun i j hi hj => minM_cell hm.right hi hj
  have ok : OkM n (minM m o) := ⟨fun i j hi hj => by rw [hmin i j hi hj]; exact right_min (hm.right i j hi hj) (ho.right i j hi hj), fun i hi => by rw [hmin i i hi hi]; have := hm.diag i hi; omega, fun j hj => by rw [hmin 0 j (Nat.zero_le _) hj]; have := hm.top j hj; omega⟩
  rw [of_sat hn hg ok e]
  have hw : ∀ i j, i ≤ n → j ≤ n → widW (minM m o) i j = min (widW m i j) (widW o i j) := fun i j hi hj => by
    have c1 := wid_le (hm.right i j hi hj) (ho.right i j hi hj)
    have c2 := wid_le (ho.right i j hi hj) (hm.right i j hi hj)
    unfold widW
    rw [hmin i j hi hj]
    rcases Int.le_total (m i j) (o i j) with q | q
    · rw [Int.min_eq_left q, Int.min_eq_left (c1.2 q)]
    · rw [Int.min_eq_right q, Int.min_eq_right (c2.2 q)]
  constructor
  · intro h
    refine ⟨fun i j hi hj => ?_, fun i j hi hj => ?_⟩ <;> (have := h i j hi hj; rw [hw i j hi hj, sat_min (a := widW m i j) (b := widW o i j) hg (right_fb (hm.right i j hi hj)) (right_fb (ho.right i j hi hj))] at this)
    · exact this.1
    · exact this.2
  · rintro ⟨h1, h2⟩ i j hi hj
    rw [hw i j hi hj, sat_min (a := widW m i j) (b := widW o i j) hg (right_fb (hm.right i j hi hj)) (right_fb (ho.right i j hi hj))]
    exact ⟨h1 i j hi hj, h2 i j hi hj⟩

end Go.Proofs.YtmelblnflalanaaGreat
