/- Texts of ours, laid together: Fa, Bag, Fb, Fc, Fd, Eb, Ec, Ed, Ef. -/
import Derived.Deep.Draws
import Derived.BigQuiet
import Derived.StillTailTactics
import Derived.Deep.RegionHeld3
import Derived.Test.YtncgapnooabdgaaDoorMg4
/- The document's cells in which nothing is said of a clock: plain. -/
namespace Go.Proofs.YtncgapnooabdgaaDoor
open Go Go.RowKit
set_option linter.unusedVariables false
set_option linter.unusedSimpArgs false

/-- Nothing is said of clock x, in the first p rows and columns. -/
def fgoUp (x : Nat) (m : Mat) (p : Nat) : Mat := fun a b => if a = b then m a b else if a = x ∧ b < p then 2147483647 else if b = x ∧ a < p then m a 0 else m a b
theorem fgoUp_zero (x : Nat) (m : Mat) : fgoUp x m 0 = m := by
  funext a b
  unfold fgoUp
  split
  · rfl
  · rw [if_neg (by omega), if_neg (by omega)]
theorem fgoUp_own (x : Nat) (m : Mat) : fgoUp x m (x + 1) = fgoUp x m x := by
  funext a b
  unfold fgoUp
  split
  · rfl
  · by_cases e : a = x ∧ b < x
    · rw [if_pos e, if_pos (by omega)]
    · rw [if_neg e, if_neg (by omega)]
      by_cases e2 : b = x ∧ a < x
      · rw [if_pos e2, if_pos (by omega)]
      · rw [if_neg e2, if_neg (by omega)]
theorem fgoUp_step (x : Nat) (m : Mat) (p : Nat) (hp : p ≠ x) : upd (upd (fgoUp x m p) x p 2147483647) p x (m p 0) = fgoUp x m (p + 1) := by
  funext a b
  unfold upd
  by_cases h1 : a = p ∧ b = x
  · rw [if_pos h1]
    unfold fgoUp
    rw [if_neg (by omega), if_neg (by omega), if_pos (by omega), h1.1]
  · rw [if_neg h1]
    by_cases h2 : a = x ∧ b = p
    · rw [if_pos h2]
      unfold fgoUp
      rw [if_neg (by omega), if_pos (by omega)]
    · rw [if_neg h2]
      unfold fgoUp
      split
      · rfl
      · by_cases e : a = x ∧ b < p
        · rw [if_pos e, if_pos (show a = x ∧ b < p + 1 by omega)]
        · rw [if_neg e, if_neg (show ¬ (a = x ∧ b < p + 1) by omega)]
          by_cases e2 : b = x ∧ a < p
          · rw [if_pos e2, if_pos (show b = x ∧ a < p + 1 by omega)]
          · rw [if_neg e2, if_neg (show ¬ (b = x ∧ a < p + 1) by omega)]
/-- One clock behind others. -/
theorem fgo_more {n : Nat} {l : List Int} {x : Nat} {m : Mat} (hx : 1 ≤ x) (h0 : goneB l 0 = false) : Agree n (fgoUp x (offM (goneF l m) m) (n + 1)) (offM (goneF (l ++ [(x : Int)]) m) m) := fun i j hi hj => by
  have hb : ∀ a, goneB (l ++ [(x : Int)]) a = true ↔ (goneB l a = true ∨ a = x) := fun a => by
    unfold goneB
    simp only [decide_eq_true_eq, List.mem_append, List.mem_singleton]
    constructor
    · rintro (h | h)
      · exact .inl h
      · exact .inr (by omega)
    · rintro (h | h)
      · exact .inl h
      · exact .inr (by omega)
  unfold fgoUp
  by_cases e : i = j
  · rw [if_pos e]
    unfold offM
    rw [if_pos e, if_pos e]
  · rw [if_neg e]
    by_cases e1 : i = x
    · rw [if_pos ⟨e1, by omega⟩]
      unfold offM goneF
      rw [if_neg e, if_pos ((hb i).2 (.inr e1))]
    · rw [if_neg (fun h => e1 h.1)]
      have hi1 : goneB (l ++ [(x : Int)]) i = goneB l i := by
        cases g : goneB l i with
        | true => exact (hb i).2 (.inl g)
        | false =>
          cases g2 : goneB (l ++ [(x : Int)]) i with
          | false => rfl
          | true =>
            rcases (hb i).1 g2 with h | h
            · rw [g] at h; cases h
            · exact absurd h e1
      by_cases e2 : j = x
      · rw [if_pos ⟨e2, by omega⟩]
        unfold offM goneF
        rw [if_neg e, hi1, (hb j).2 (.inr e2), if_pos rfl]
        by_cases e3 : i = 0
        · rw [if_pos e3, e3, h0, if_neg (by simp)]
        · rw [if_neg e3, h0]
          split
          · rfl
          · rw [if_neg (by simp)]
      · rw [if_neg (fun h => e2 h.1)]
        have hj1 : goneB (l ++ [(x : Int)]) j = goneB l j := by
          cases g : goneB l j with
          | true => exact (hb j).2 (.inl g)
          | false =>
            cases g2 : goneB (l ++ [(x : Int)]) j with
            | false => rfl
            | true =>
              rcases (hb j).1 g2 with h | h
              · rw [g] at h; cases h
              · exact absurd h e2
        unfold offM goneF
        rw [if_neg e, if_neg e, hi1, hj1]
theorem gone_none (m : Mat) : offM (goneF [] m) m = m := by
  funext i j
  unfold offM goneF goneB
  split
  · rfl
  · rw [if_neg (by simp), if_neg (by simp)]
theorem take_more {l : List Int} {p : Nat} (hp : p < l.length) : l.take (p + 1) = l.take p ++ [l.getD p 0] := by
  rw [List.take_succ_eq_append_getElem hp, List.getD_eq_getElem?_getD, List.getElem?_eq_getElem hp]; rfl
theorem clk_zero {n : Nat} {l : List Int} (h : clkE n l = true) : goneB l 0 = false := by
  unfold goneB
  refine decide_eq_false fun hm => ?_
  have := List.all_eq_true.1 h _ hm
  simp only [decide_eq_true_eq] at this
  omega
theorem clk_take {n : Nat} {l : List Int} (h : clkE n l = true) (p : Nat) : clkE n (l.take p) = true := by
  unfold clkE at h ⊢
  rw [List.all_eq_true] at h ⊢
  exact fun x hx => h x (List.mem_of_mem_take hx)
theorem clk_at {n : Nat} {l : List Int} (h : clkE n l = true) {p : Nat} (hp : p < l.length) : ∃ x : Nat, l.getD p 0 = (x : Int) ∧ 1 ≤ x ∧ x ≤ n := by
  have := (all_getD l _ 0).1 h p hp
  simp only [decide_eq_true_eq] at this
  exact ⟨(l.getD p 0).toNat, by omega, by omega, by omega⟩

/-! ### forget -/
/-- The cells under way are a row of the call's own. -/
def FoR (w0 : World) (g n : Nat) (cur : Mat) (wr : World) : Prop := Below w0.heap.size w0 wr ∧ w0.heap.size ≤ g ∧ RowAt wr g 44 .i32 (flat n cur)
theorem FoR.set {w0 wr : World} {g n : Nat} {cur : Mat} (h : FoR w0 g n cur wr) {i j : Nat} (hi : i < n + 1) (hj : j < n + 1) (v : Int) (p : Nat) (hp : p = i * (n + 1) + j) : FoR w0 g n (upd cur i j v) (wr.setCell ⟨g, p, none⟩ (.int .i32 v)) := by
  subst hp
  refine ⟨h.1.setCell (p := ⟨g, _, none⟩) h.2.1 _, h.2.1, ?_⟩
  rw [← flat_upd cur hi hj v]
  exact h.2.2.set _ _

end Go.Proofs.YtncgapnooabdgaaDoor

/- A bag of facts of the memory, each of which stays where nothing old is written. -/
namespace Go.Proofs.YtncgapnooabdgaaDoor
open Go Go.RowKit
set_option linter.unusedVariables false

/-- It stays where nothing old is written. -/
def Stable (P : World → Prop) : Prop := ∀ w w', P w → Below w.heap.size w w' → P w'
structure Bag (w0 : World) (Ps : List (World → Prop)) (w : World) : Prop where
  below : Below w0.heap.size w0 w
  all : ∀ P, P ∈ Ps → P w ∧ Stable P
theorem Bag.start {w0 w : World} (h : Below w0.heap.size w0 w) : Bag w0 [] w := ⟨h, fun _ h => by cases h⟩
theorem Bag.step {w0 w w' : World} {Ps : List (World → Prop)} (h : Bag w0 Ps w) (hb : Below w.heap.size w w') : Bag w0 Ps w' :=
  ⟨h.below.trans (hb.mono h.below.size), fun P hP => ⟨(h.all P hP).2 w w' (h.all P hP).1 hb, (h.all P hP).2⟩⟩
theorem Bag.drewN {w0 w : World} {Ps : List (World → Prop)} (h : Bag w0 Ps w) (q : Nat) : Bag w0 Ps (w.drewN q) := h.step (belowN (Below.refl _ _) q)
theorem Bag.drew {w0 w : World} {Ps : List (World → Prop)} (h : Bag w0 Ps w) : Bag w0 Ps w.drew := h.step (Below.drew (Below.refl _ _))
theorem Bag.alloc {w0 w : World} {Ps : List (World → Prop)} (h : Bag w0 Ps w) (o : Obj) : Bag w0 Ps (w.alloc o) := h.step ((Below.refl _ _).alloc (Nat.le_refl _) o)
theorem Bag.add {w0 w : World} {Ps : List (World → Prop)} {P : World → Prop} (h : Bag w0 Ps w) (hP : P w) (hs : Stable P) : Bag w0 (P :: Ps) w :=
  ⟨h.below, fun Q hQ => by
    rcases List.mem_cons.1 hQ with rfl | hQ
    · exact ⟨hP, hs⟩
    · exact h.all Q hQ⟩
theorem Bag.at {w0 w : World} {Ps : List (World → Prop)} {P : World → Prop} (h : Bag w0 Ps w) (i : Nat) (e : Ps[i]? = some P) : P w :=
  (h.all P (List.mem_of_getElem? e)).1
theorem Bag.tail {w0 w : World} {Ps : List (World → Prop)} {P : World → Prop} (h : Bag w0 (P :: Ps) w) : Bag w0 Ps w := ⟨h.below, fun Q hQ => h.all Q (List.mem_cons_of_mem _ hQ)⟩
theorem stable_zone (T : TypeId) (v : Value) (z : Option (Nat × Mat)) : Stable fun w => ZoneV T w v z := fun _ _ h hb => h.below hb
theorem stable_ints (k : IntKind) (A : Option Addr) (xs : List Int) : Stable fun w => Ints w k A xs := fun _ _ h hb => h.below hb
theorem stable_own (b : Nat) (e : TypeId) (k : IntKind) (v : Value) (xs : List Int) : Stable fun w => OwnI w b e k v xs := fun _ _ h hb => h.later hb
theorem stable_lims (A : Option Addr) (l : List (Int × Int × Int)) : Stable fun w => Lims w A l := fun _ _ h hb => h.below hb

/-- A call that leaves the world alone, in a region that draws. -/
theorem quietL {P : Program} {f : FuncId} {args : Array Value} {w : World} {n : Nat} {v : Value} (h : ∀ W, Calls P f args W fun e w' => e = .returned v ∧ W = w') :
    Calls P f args (w.drewN n) fun e w'' => e = .returned v ∧ ∃ m, w'' = w.drewN m := (h _).mono fun _ _ ⟨he, hm⟩ => ⟨he, n, hm.symm⟩
/-- The same, behind a region that drew. -/
theorem quietA {P : Program} {f : FuncId} {args : Array Value} {w : World} {a n : Nat} {v : Value} (h : ∀ W, Calls P f args W fun e w' => e = .returned v ∧ W = w') :
    Calls P f args (w.drewN (a + n)) fun e w'' => e = .returned v ∧ ∃ m, w'' = w.drewN (a + m) := (h _).mono fun _ _ ⟨he, hm⟩ => ⟨he, n, hm.symm⟩
/-- A call that only draws, behind a region that drew. -/
theorem quietD {P : Program} {f : FuncId} {args : Array Value} {w : World} {a n : Nat} {v : Value} (h : Calls P f args (w.drewN (a + n)) fun e w' => e = .returned v ∧ ∃ q, w' = (w.drewN (a + n)).drewN q) :
    Calls P f args (w.drewN (a + n)) fun e w'' => e = .returned v ∧ ∃ m, w'' = w.drewN (a + m) := h.mono fun _ _ ⟨he, q, hq⟩ => ⟨he, n + q, by rw [hq, World.drewN_drewN, Nat.add_assoc]⟩
theorem backC {P : Program} {f : FuncId} {args : Array Value} {w : World} {e0 : Ending} (h : Calls P f args w fun e w' => e = e0 ∧ w = w') : Calls P f args w fun e w' => e = e0 ∧ w' = w :=
  h.mono fun _ _ ⟨a, b⟩ => ⟨a, b.symm⟩

end Go.Proofs.YtncgapnooabdgaaDoor

/- The document's cells in which nothing is said of a clock; of clocks. -/
namespace Go.Proofs.YtncgapnooabdgaaDoor
open Go Go.RowKit
set_option linter.unusedVariables false
set_option linter.unusedSimpArgs false

/-- It ends with a row of the call's own. -/
def FoEnds (w0 : World) (n N : Nat) (cur : Mat) (e : Ending) (w' : World) : Prop := ∃ g cap, e = .returned (.slice (some ⟨g, 0, none⟩) N cap) ∧ FoR w0 g n cur w'

set_option maxRecDepth 100000 in
set_option maxHeartbeats 1000000 in
theorem fgo_any (n N x g cap : Nat) (m : Mat) (w : World) (hn : n ≤ 8) (hN : N = (n + 1) * (n + 1)) (hx1 : 1 ≤ x) (hx : x ≤ n) (hr : RowAt w g 44 .i32 (flat n m)) :
    Calls Tryd.prog 53 #[.int .i64 n, .slice (some ⟨g, 0, none⟩) N cap, .int .i64 x] w (FoEnds w n N (fgoUp x m (n + 1))) := by
  obtain ⟨i0, hi1, hz0, hz1, hz2⟩ := info_parts infoRB
  have HInf := Lib.hid (And.intro hi1 (And.intro hz0 (And.intro hz1 hz2)))
  clear hi1 hz0 hz1 hz2
  have HR := Lib.hid hr
  have hN81 : N ≤ 81 := by
    have := Nat.mul_le_mul (show n + 1 ≤ 9 by omega) (show n + 1 ≤ 9 by omega)
    omega
  have hN0 : 0 < N := by rw [hN]; exact Nat.mul_pos (by omega) (by omega)
  have hfl := flat_length n m
  have HFL := Lib.hid hfl
  have HN := Lib.hid hN
  have hglt := hr.lt
  clear hr hN hfl
  go_enter Tryd.func53, Tryd.ntmps53
  go_wp2_with (at_builtin; refine wpList_append_lies _ rfl _ _ 22 rfl w.heap.size 44 i0 (.int .i32 0) 1 4 Tryd.underlying22 HInf.out.1 HInf.out.2.1 HInf.out.2.2.1 HInf.out.2.2.2 rfl (by decide) _ _ _ rfl (World.ownsRow_nil _ _ _ _) ⟨g, 0, none⟩ N cap (vals .i32 (flat n m)) rfl (by rw [Nat.mul_one, HN.out, ← HFL.out]; simp [vals]) (by exact row_vals HR.out) (by intro u hu; obtain ⟨c, _, rfl⟩ := List.mem_map.1 hu; rfl) (by omega) ?c3 ?c4 ?c5 _ rfl ?_)
  case c3 => unfold maxLen; omega
  case c4 => omega
  case c5 => exact Nat.le_refl _
  intro gg cp w3 hown hgrow _ _
  have hb : Below w.heap.size w w3 := (Below.refl _ _).grown hgrow (Nat.le_refl _) (fun k hk => by simp [Value.ownBlock] at hk)
  have ho : OwnI w3 w.heap.size 44 .i32 (.slice (some ⟨gg, 0, none⟩) N cp) (flat n m) := by
    unfold OwnI
    rw [HFL.out, ← HN.out]
    exact hown
  obtain ⟨g2, cap2, e2, hge, hrow⟩ := ho.row (by rw [HFL.out, ← HN.out]; exact hN0)
  simp only [Value.slice.injEq, Option.some.injEq, Addr.mk.injEq] at e2
  have e3 := e2.1.1
  clear e2
  subst e3
  have HS := Lib.hid (show FoR w gg n (fgoUp x m 0) w3 from ⟨hb, hge, by rw [fgoUp_zero]; exact hrow⟩)
  have hne : g ≠ gg := by omega
  have hne' : gg ≠ g := by omega
  clear hown hgrow hb ho hge hrow
  go_wp2
  go_loopg [8] (n + 1) (fun q v wr => ∃ p : Nat, v = .int .i64 p ∧ Hid (FoR w gg n (fgoUp x m p) wr) ∧ Hid (p ≤ n + 1 ∧ q + p = n + 1))
  case atStart => exact ⟨0, by simp, HS.out, by omega, by omega⟩
  case round =>
    clear HS
    obtain ⟨p, rfl, HF, HG⟩ := hrel
    by_cases hp : p ≤ n
    · have hpi : (p : Int) ≤ (n : Int) := by omega
      by_cases e : p = x
      · subst e
        have HN2 := Lib.hid (show FoR w gg n (fgoUp p m (p + 1)) wr by rw [fgoUp_own]; exact HF.out)
        go_wp2
        go_roundg (gk - 1)
        case measure => have h := HG.out; omega
        case rel => exact ⟨p + 1, by go_num, HN2.out, by omega, by have h := HG.out; omega⟩
      · have t1 : ((p : Int) == (x : Int)) = false := by simp; omega
        obtain ⟨P, hP, hP1, hP2, hP3⟩ := prod_facts p n hp hn
        obtain ⟨X, hX, hX1, hX2, hX3⟩ := prod_facts x n hx hn
        have hPN : P + n < N := by have := HN.out; omega
        have hXN : X + n < N := by have := HN.out; omega
        have hlt : gg < wr.heap.size := HF.out.2.2.lt
        have c1 := (HR.out.below HF.out.1 hglt).cell P (by rw [flat_length, ← HN.out]; omega)
        have c1' : (flat n m).getD P 0 = m p 0 := by
          have := flat_at m (i := p) (j := 0) (n := n) (by omega) (by omega)
          rw [Nat.add_zero, ← hP2] at this; exact this
        rw [c1'] at c1
        have f1 := HF.out.2.2.frozen (X + p)
        have f2 := HF.out.2.2.frozen (P + x)
        have d1 := HF.out.2.2.cell (X + p) (by rw [flat_length, ← HN.out]; omega)
        have d2 := (HF.out.set (i := x) (j := p) (by omega) (by omega) 2147483647 (X + p) (by rw [hX2])).2.2.cell (P + x) (by rw [flat_length, ← HN.out]; omega)
        have HN2 := Lib.hid (show FoR w gg n (fgoUp x m (p + 1)) ((wr.setCell ⟨gg, X + p, none⟩ (.int .i32 2147483647)).setCell ⟨gg, P + x, none⟩ (.int .i32 (m p 0))) by
          rw [← fgoUp_step x m p e]
          exact (HF.out.set (i := x) (j := p) (by omega) (by omega) 2147483647 (X + p) (by rw [hX2])).set (i := p) (j := x) (by omega) (by omega) (m p 0) (P + x) (by rw [hP2]))
        obtain ⟨y, hy⟩ : ∃ y, y = m p 0 := ⟨_, rfl⟩
        rw [← hy] at c1 HN2
        clear hP2 hP3 hX2 hX3 c1' hy e
        have g1 : IntKind.i64.wrap ((n : Int) + 1) = (n : Int) + 1 := IntWalk.i64_in _ (by omega)
        have g2 : IntKind.i64.wrap (P : Int) = (P : Int) := IntWalk.i64_in _ (by omega)
        have g3 : IntKind.i64.wrap (X : Int) = (X : Int) := IntWalk.i64_in _ (by omega)
        have g4 : IntKind.i64.wrap ((X : Int) + (p : Int)) = (X : Int) + (p : Int) := IntWalk.i64_in _ (by omega)
        have g5 : IntKind.i64.wrap ((P : Int) + (x : Int)) = (P : Int) + (x : Int) := IntWalk.i64_in _ (by omega)
        have l1 : (X : Int) + (p : Int) < (N : Int) := by omega
        have l2 : (P : Int) + (x : Int) < (N : Int) := by omega
        have l3 : 0 ≤ (X : Int) + (p : Int) := by omega
        have l4 : 0 ≤ (P : Int) + (x : Int) := by omega
        have l5 : (P : Int) < (N : Int) := by omega
        have n1 : ((X : Int) + (p : Int)).toNat = X + p := by omega
        have n2 : ((P : Int) + (x : Int)).toNat = P + x := by omega
        go_wp2
        go_roundg (gk - 1)
        case measure => have h := HG.out; omega
        case rel => exact ⟨p + 1, by go_num, HN2.out, by omega, by have h := HG.out; omega⟩
    · have e : p = n + 1 := by have := HG.out.1; omega
      subst e
      have hpi : ¬ (((n + 1 : Nat) : Int) ≤ (n : Int)) := by omega
      go_wp2
      go_ret
      exact ⟨gg, cp, rfl, HF.out⟩

end Go.Proofs.YtncgapnooabdgaaDoor

/- The document's zone of which nothing is said of clocks. -/
namespace Go.Proofs.YtncgapnooabdgaaDoor
open Go Go.RowKit
set_option linter.unusedVariables false
set_option linter.unusedSimpArgs false

theorem stable_ref5 (v : Value) (z : Option (Nat × Mat)) : Stable fun w => RefZ w v z := fun _ _ h hb => h.below hb
def GoneQ (n : Nat) (m : Mat) : Prop := m = (fun _ _ => 0) ∨ ClosedZ n m
theorem clk_all {n : Nat} {l : List Int} (h : ∀ q, q < l.length → 1 ≤ l.getD q 0 ∧ l.getD q 0 ≤ n) : clkE n l = true := (all_getD _ _ 0).2 fun q hq => decide_eq_true (h q hq)
theorem clk_no {n : Nat} {l : List Int} {p : Nat} (hp : p < l.length) (h : ¬ (1 ≤ l.getD p 0 ∧ l.getD p 0 ≤ n)) : clkE n l = false := by
  rw [Bool.eq_false_iff]
  intro ha
  have := (all_getD l _ 0).1 ha p hp
  simp only [decide_eq_true_eq] at this
  exact h this
theorem stable_rowat5 (g : Nat) (e : TypeId) (k : IntKind) (xs : List Int) : Stable fun w => RowAt w g e k xs := fun _ _ h hb => h.later hb
theorem flat_rng5 {n : Nat} {m : Mat} (h : RightM n m) : ∀ q, q < (flat n m).length → -2147483648 ≤ (flat n m).getD q 0 ∧ (flat n m).getD q 0 ≤ 2147483647 := fun q hq => by
  rw [flat_length] at hq
  rw [flat_getD _ _ _ hq]
  have h1 : q / (n + 1) < n + 1 := Nat.div_lt_of_lt_mul hq
  have h2 := Nat.mod_lt q (show 0 < n + 1 by omega)
  exact right_hi (h _ _ (by omega) (by omega))
theorem gone5_nil (A : Option Addr) (c : Nat) (l : List Int) (w : World) : Calls Tryd.prog 24 #[.pointer none, .slice A l.length c] w fun e w' => e = .returned (.tuple #[.pointer none, .int .i64 1]) ∧ w = w' := by
  go_enter Tryd.func24, Tryd.ntmps24
  go_wp2
  go_ret2
  exact ⟨rfl, rfl⟩

set_option maxRecDepth 100000 in
set_option maxHeartbeats 2000000 in
theorem gone5_zone (v : Value) (n : Nat) (m : Mat) (A : Option Addr) (c : Nat) (l : List Int) (w : World) (h : RefZ w v (some (n, m))) (hq : GoneQ n m) (hI : Ints w .i64 A l) (hmax : l.length ≤ 4611686018427387904) :
    Calls Tryd.prog 24 #[v, .slice A l.length c] w (MakesR w n (goneP n m l)) := by
  have HQ := Lib.hid hq
  have HG := Lib.hid (((Bag.start (Below.refl w.heap.size w)).add hI (stable_ints .i64 A l)).add h (stable_ref5 v (some (n, m))))
  have HD := Lib.hid (fun w h => rdim_any v (some (n, m)) w h)
  rw [show dimP (some (n, m)) = n from rfl] at HD
  have HC := Lib.hid (fun w h => rcells_any v (some (n, m)) w h)
  rw [show cellsP (some (n, m)) = flat n m from rfl] at HC
  have HE := Lib.hid (fun w h => rempty_any v (some (n, m)) w h)
  obtain ⟨b, g0, cap0, rfl, hn, hrm, _, _⟩ := h
  have HRM := Lib.hid hrm
  clear hI hq hrm
  go_enter Tryd.func24, Tryd.ntmps24
  go_wp2
  go_loopg [6] l.length (fun g v wr => ∃ p : Nat, v = .int .i64 p ∧ Bag w [fun wx => RefZ wx (.pointer (some ⟨b, 0, none⟩)) (some (n, m)), fun wx => Ints wx .i64 A l] wr ∧ Hid (p ≤ l.length ∧ g + p = l.length ∧ ∀ q, q < p → 1 ≤ l.getD q 0 ∧ l.getD q 0 ≤ n))
  case atStart => exact ⟨0, by simp, HG.out, by omega, by omega, fun q h => by omega⟩
  case round =>
    clear HG
    obtain ⟨p, rfl, H, HP⟩ := hrel
    have HR := Lib.hid H
    clear H
    by_cases hp : p < l.length
    · obtain ⟨b', off, rfl, c1⟩ := (HR.out.at 1 rfl : Ints wr .i64 A l) p hp
      have hpi : (p : Int) < (l.length : Int) := by omega
      obtain ⟨x, hx⟩ : ∃ x, x = l.getD p 0 := ⟨_, rfl⟩
      rw [← hx] at c1
      have HX := Lib.hid hx
      have HDQ := Lib.hid (fun q => backC (HD.out (wr.drewN q) (HR.out.drewN q |>.at 0 rfl)))
      clear hx
      by_cases h1 : x < 1
      · have d1 : decide (x < 1) = true := decide_eq_true h1
        have HEQ := Lib.hid (show goneP n m l = (none, 12) by unfold goneP; rw [clk_no hp (by rw [← HX.out]; omega), if_neg (by simp)])
        clear h1
        go_wp2_with fail
        go_quiet ((go_at_call 39; exact Calls.quiet_of_same (HDQ.out _)))
        go_wp2
        go_ret2
        rw [HEQ.out]
        exact ⟨belowN HR.out.below nq, .pointer none, rfl, rfl⟩
      · have d1 : decide (x < 1) = false := decide_eq_false h1
        by_cases h2 : (n : Int) < x
        · have d2 : decide ((n : Int) < x) = true := decide_eq_true h2
          have HEQ := Lib.hid (show goneP n m l = (none, 12) by unfold goneP; rw [clk_no hp (by rw [← HX.out]; omega), if_neg (by simp)])
          clear h1 h2
          go_wp2_with fail
          go_quiet ((go_at_call 39; exact Calls.quiet_of_same (HDQ.out _)))
          go_wp2
          go_ret2
          rw [HEQ.out]
          exact ⟨belowN HR.out.below nq, .pointer none, rfl, rfl⟩
        · have d2 : decide ((n : Int) < x) = false := decide_eq_false h2
          have HOK := Lib.hid (show 1 ≤ x ∧ x ≤ n by omega)
          clear h1 h2
          go_wp2_with fail
          go_quiet ((go_at_call 39; exact Calls.quiet_of_same (HDQ.out _)))
          have HR2 := Lib.hid (HR.out.drewN nq)
          go_wp2
          go_roundg (gk - 1)
          case measure => have h := HP.out; omega
          case rel =>
            refine ⟨p + 1, by go_num, HR2.out, by omega, by have h := HP.out; omega, fun q hq => ?_⟩
            by_cases e : q = p
            · subst e; rw [← HX.out]; exact HOK.out
            · exact HP.out.2.2 q (by omega)
    · have e : p = l.length := by have := HP.out.1; omega
      subst e
      have HCK := Lib.hid (clk_all HP.out.2.2)
      have HLT := Lib.hid (fun q (hq : q < l.length) => HP.out.2.2 q hq)
      clear HP
      go_wp2_with fail
      refine (HC.out _ (HR.out.at 0 rfl)).mono ?_
      rintro e w2 ⟨lv, rfl, hb, ho⟩
      have hlen : (flat n m).length = (n + 1) * (n + 1) := flat_length n m
      obtain ⟨N, hN⟩ : ∃ N, N = (n + 1) * (n + 1) := ⟨_, rfl⟩
      have hN81 : N ≤ 81 := by
        have := Nat.mul_le_mul (show n + 1 ≤ 9 by omega) (show n + 1 ≤ 9 by omega)
        omega
      rw [← hN] at hlen
      obtain ⟨g1, cp1, hv, hge, hrow⟩ := ho.row (by rw [hlen, hN]; exact Nat.mul_pos (by omega) (by omega))
      rw [hlen] at hv
      subst hv
      have HN := Lib.hid hN
      have HR2 := Lib.hid (HR.out.step hb)
      have HROW := Lib.hid hrow
      clear hb ho hrow hge hlen hN HR
      rcases HQ.out with hz | hz
      · have HZE := Lib.hid (show emptyR (some (n, m)) = true by rw [hz]; rfl)
        have HEQ := Lib.hid (show goneP n m l = ofP n (flat n m) by unfold goneP; rw [if_pos HCK.out, if_pos (by rw [hz]; decide)])
        clear hz
        have HOF := Lib.hid (rof_any n (some ⟨g1, 0, none⟩) cp1 (flat n m) w2 HROW.out.ints (by rw [flat_length, ← HN.out]; omega) (flat_rng5 HRM.out))
        rw [flat_length, ← HN.out, Int.toNat_natCast] at HOF
        have HE2 := Lib.hid (HE.out w2 (HR2.out.at 0 rfl))
        rw [show emptyR (some (n, m)) = true from HZE.out] at HE2
        by_cases h0 : l.length = 0
        · have d0 : decide (0 < l.length) = false := decide_eq_false (by omega)
          have d1 : decide ((0 : Int) < (l.length : Int)) = false := decide_eq_false (by omega)
          clear h0
          go_wp2
          refine wp_loop_rounds 1 ?_
          rw [rounds_succ]
          go_wp2_with fail
          refine (HD.out _ (HR2.out.at 0 rfl)).mono ?_
          rintro e w3 ⟨rfl, rfl⟩
          go_wp2_with fail
          refine HOF.out.mono ?_
          rintro e w4 hz
          have HZ4 := Lib.hid hz
          obtain ⟨hb, v, rfl, hv⟩ := hz
          have HB4 := Lib.hid (HR2.out.step hb).below
          clear hb hv
          go_wp2
          go_ret2
          rw [HEQ.out]
          exact ⟨HB4.out, HZ4.out.2⟩
        · have d0 : decide (0 < l.length) = true := decide_eq_true (by omega)
          have d1 : decide ((0 : Int) < (l.length : Int)) = true := decide_eq_true (by omega)
          clear h0
          go_wp2
          refine wp_loop_rounds 1 ?_
          rw [rounds_succ]
          go_wp2_with fail
          refine HE2.out.mono ?_
          rintro e w3 ⟨rfl, rfl⟩
          go_wp2_with fail
          refine (HD.out _ (HR2.out.at 0 rfl)).mono ?_
          rintro e w3 ⟨rfl, rfl⟩
          go_wp2_with fail
          refine HOF.out.mono ?_
          rintro e w4 hz
          have HZ4 := Lib.hid hz
          obtain ⟨hb, v, rfl, hv⟩ := hz
          have HB4 := Lib.hid (HR2.out.step hb).below
          clear hb hv
          go_wp2
          go_ret2
          rw [HEQ.out]
          exact ⟨HB4.out, HZ4.out.2⟩
      · have HEM := Lib.hid (show emptyR (some (n, m)) = false from decide_eq_false fun e => e (hz.full.one 0 (Nat.zero_le _)))
        have HEQ := Lib.hid (show goneP n m l = ofP n (flat n (offM (goneF l m) m)) by unfold goneP; rw [if_pos HCK.out, if_neg (by rw [hz.full.one 0 (Nat.zero_le _)]; omega)])
        have HRG := Lib.hid (flat_rng5 (gone_closed HCK.out hz).full.right)
        have HS := Lib.hid (HR2.out.add (P := fun wx => RowAt wx g1 44 .i32 (flat n (offM (goneF (l.take 0) m) m))) (by rw [List.take_zero, gone_none]; exact HROW.out) (stable_rowat5 _ _ _ _))
        clear hz HROW
        go_wp2
        go_loopg [7, 8] l.length (fun q lv v wr => ∃ p g1 cp1 : Nat, v = .int .i64 p ∧ lv = .slice (some ⟨g1, 0, none⟩) N cp1 ∧ Bag w [fun wx => RowAt wx g1 44 .i32 (flat n (offM (goneF (l.take p) m) m)), fun wx => RefZ wx (.pointer (some ⟨b, 0, none⟩)) (some (n, m)), fun wx => Ints wx .i64 A l] wr ∧ Hid (p ≤ l.length ∧ q + p = l.length))
        case atStart => exact ⟨0, g1, cp1, by simp, rfl, HS.out, by omega, by omega⟩
        case round =>
          clear HS HR2
          obtain ⟨p, g1, cp1, rfl, rfl, H, HP⟩ := hrel
          have HR := Lib.hid H
          clear H
          have HE2 := Lib.hid (HE.out wr (HR.out.at 1 rfl))
          rw [HEM.out] at HE2
          by_cases hp : p < l.length
          · have hpi : (p : Int) < (l.length : Int) := by omega
            obtain ⟨x, hx, hx1, hx2⟩ := clk_at HCK.out hp
            obtain ⟨b', off, rfl, c1⟩ := (HR.out.at 2 rfl : Ints wr .i64 A l) p hp
            rw [hx] at c1
            have HX := Lib.hid hx
            clear hx
            have C1 := Lib.hid (show wr.drew.cell? _ = _ from c1)
            have HRD := Lib.hid (HR.out.drew)
            have HDD := Lib.hid (backC (HD.out wr.drew (HR.out.drew.at 1 rfl)))
            go_wp2_with fail
            refine HE2.out.mono ?_
            rintro e w3 ⟨rfl, rfl⟩
            go_wp2_with fail
            refine wp_region_still_tail 7 (by kernel_rfl) (by kernel_rfl) ?_
            simp only [List.take_succ_cons, List.take_zero, List.drop_succ_cons, List.drop_zero]
            change wpStill _ _ wr.drew _ _ _
            have d1 := C1.out
            clear C1
            repeat still_step
            still_call (HDD.out)
            repeat still_step
            refine wpStill_nil ?_
            go_wp2_with fail
            refine (fgo_any n N x g1 cp1 (offM (goneF (l.take p) m) m) wr.drew hn HN.out hx1 hx2 (HRD.out.at 0 rfl)).mono ?_
            rintro e w5 ⟨g2, cp2, rfl, hb, hge, hrow⟩
            have HRW := Lib.hid (show RowAt w5 g2 44 .i32 (flat n (offM (goneF (l.take (p + 1)) m) m)) by
              rw [take_more hp, HX.out, ← flat_congr (fgo_more hx1 (clk_zero (clk_take HCK.out p)))]; exact hrow)
            have HN2 := Lib.hid ((HRD.out.tail.step hb).add HRW.out (stable_rowat5 _ _ _ _))
            clear hb hge hrow HRD HDD d1
            go_wp2
            go_roundg (gk - 1)
            case measure => have h := HP.out; omega
            case rel => exact ⟨p + 1, g2, cp2, by go_num, rfl, HN2.out, by omega, by have h := HP.out; omega⟩
          · have e : p = l.length := by have := HP.out.1; omega
            subst e
            have HOF := Lib.hid (rof_any n (some ⟨g1, 0, none⟩) cp1 (flat n (offM (goneF l m) m)) wr (by have := (HR.out.at 0 rfl : RowAt wr g1 _ _ _); rw [List.take_length] at this; exact this.ints) (by rw [flat_length, ← HN.out]; omega) HRG.out)
            rw [flat_length, ← HN.out, Int.toNat_natCast] at HOF
            go_wp2_with fail
            refine (HD.out _ (HR.out.at 1 rfl)).mono ?_
            rintro e w3 ⟨rfl, rfl⟩
            go_wp2_with fail
            refine HOF.out.mono ?_
            rintro e w4 hz
            have HZ4 := Lib.hid hz
            obtain ⟨hb, v, rfl, hv⟩ := hz
            have HB4 := Lib.hid (HR.out.step hb).below
            clear hb hv
            go_wp2
            go_ret2
            rw [HEQ.out]
            exact ⟨HB4.out, HZ4.out.2⟩

theorem gone5_any (v : Value) (z : Option (Nat × Mat)) (A : Option Addr) (c : Nat) (l : List Int) (w : World) (h : RefZ w v z) (hz : ∀ n m, z = some (n, m) → GoneQ n m) (hI : Ints w .i64 A l) (hmax : l.length ≤ 4611686018427387904) :
    Calls Tryd.prog 24 #[v, .slice A l.length c] w (MakesR w (dimN z) (goneA z l)) := by
  match z, h, hz with
  | none, h, _ =>
    have h : v = .pointer none := h
    subst h
    exact (gone5_nil A c l w).mono fun e w' ⟨he, hw⟩ => ⟨hw ▸ Below.refl _ _, .pointer none, he, rfl⟩
  | some (n, m), h, hz => exact gone5_zone v n m A c l w h (hz n m rfl) hI hmax

end Go.Proofs.YtncgapnooabdgaaDoor

/- The document's constants; a cell, widened. -/
namespace Go.Proofs.YtncgapnooabdgaaDoor
open Go Go.RowKit
set_option linter.unusedVariables false
set_option linter.unusedSimpArgs false

set_option maxHeartbeats 1000000 in
set_option maxRecDepth 100000 in
theorem right_d (n : Nat) (A : Option Addr) (c : Nat) (l : List Int) (w : World) (hI : Ints w .i64 A l) (hmax : l.length ≤ 4611686018427387904) :
    Calls Tryd.prog 40 #[.int .i64 n, .slice A l.length c] w fun e w' => e = .returned (.int .i64 (rightE n l)) ∧ w = w' := by
  have HI := Lib.hid hI
  clear hI
  by_cases hl : l.length = n
  · have t0 : ((l.length : Int) != (n : Int)) = false := by rw [hl]; simp
    have HL := Lib.hid hl
    have hle : n ≤ l.length := by omega
    have hle2 : l.length ≤ n := by omega
    clear hl
    go_enter Tryd.func40, Tryd.ntmps40
    go_wp2
    go_loopg [5] l.length (fun g v wr => ∃ p : Nat, v = .int .i64 p ∧ w = wr ∧ Hid (p ≤ l.length ∧ g + p = l.length ∧ ∀ q, q < p → cstB (l.getD q 0) = true))
    case atStart => exact ⟨0, by simp, rfl, by omega, by omega, fun q h => by omega⟩
    case round =>
      obtain ⟨p, rfl, rfl, HG⟩ := hrel
      by_cases hp : p < l.length
      · obtain ⟨b', off, rfl, c1⟩ := HI.out p hp
        obtain ⟨x, hx⟩ : ∃ x, x = l.getD p 0 := ⟨_, rfl⟩
        rw [← hx] at c1
        have hpi : (p : Int) < (l.length : Int) := by omega
        have hpn : p < n := by omega
        by_cases hc : cstB x = true
        · have hcc : -1 ≤ x ∧ x ≤ 1048576 := by unfold cstB at hc; simpa only [decide_eq_true_eq] using hc
          have t1 : decide (x < -1) = false := decide_eq_false (by omega)
          have t2 : decide (1048576 < x) = false := decide_eq_false (by omega)
          have HC := Lib.hid hc
          have HX := Lib.hid hx
          clear hc hcc hx
          go_wp2
          go_roundg (gk - 1)
          case measure => have h := HG.out; omega
          case rel =>
            refine ⟨p + 1, by go_num, rfl, by omega, by have h := HG.out; omega, fun q hq => ?_⟩
            by_cases e : q = p
            · subst e; rw [← HX.out]; exact HC.out
            · exact HG.out.2.2 q (by omega)
        · have HE := Lib.hid (show rightE n l = 13 by
            unfold rightE
            rw [if_pos HL.out, if_neg]
            intro ha
            have := (all_getD l cstB 0).1 ha p hp
            rw [← hx] at this
            exact hc this)
          by_cases hlt : x < -1
          · have t1 : decide (x < -1) = true := decide_eq_true hlt
            clear hc hx hlt
            go_wp2
            go_ret
            rw [HE.out]
            exact ⟨rfl, rfl⟩
          · have hgt : 1048576 < x := by
              by_cases h : 1048576 < x
              · exact h
              · exact absurd (show cstB x = true from decide_eq_true (by omega)) hc
            have t1 : decide (x < -1) = false := decide_eq_false hlt
            have t2 : decide (1048576 < x) = true := decide_eq_true hgt
            clear hc hx hlt hgt
            go_wp2
            go_ret
            rw [HE.out]
            exact ⟨rfl, rfl⟩
      · have e : p = l.length := by have := HG.out.1; omega
        have HE := Lib.hid (show rightE n l = 0 by
          unfold rightE
          rw [if_pos HL.out, if_pos ((all_getD l cstB 0).2 (by rw [← e]; exact HG.out.2.2))])
        have hpn : ¬ p < n := by omega
        clear e
        go_wp2
        go_ret
        rw [HE.out]
        exact ⟨rfl, rfl⟩
  · have t0 : ((l.length : Int) != (n : Int)) = true := by simp; omega
    have HE := Lib.hid (show rightE n l = 6 by unfold rightE; rw [if_neg hl])
    clear hl
    go_enter Tryd.func40, Tryd.ntmps40
    go_wp2
    go_ret
    rw [HE.out]
    exact ⟨rfl, rfl⟩

set_option maxHeartbeats 1000000 in
set_option maxRecDepth 100000 in
theorem at_d (A : Option Addr) (c : Nat) (l : List Int) (i : Nat) (w : World) (hI : Ints w .i64 A l) (hi : i ≤ l.length) (h8 : l.length ≤ 8) : Calls Tryd.prog 43 #[.slice A l.length c, .int .i64 i] w fun e w' => e = .returned (.int .i64 (atP l i)) ∧ w = w' := by
  by_cases h0 : i = 0
  · subst h0
    clear hI
    go_enter Tryd.func43, Tryd.ntmps43
    go_wp2
    go_ret
    exact ⟨rfl, rfl⟩
  · obtain ⟨k, rfl⟩ : ∃ k, i = k + 1 := ⟨i - 1, by omega⟩
    obtain ⟨b, off, rfl, c1⟩ := hI k (by omega)
    have t0 : (((k + 1 : Nat) : Int) == 0) = false := by simp; omega
    have g1 : IntKind.i64.wrap (((k + 1 : Nat) : Int) - 1) = k := by rw [show ((k + 1 : Nat) : Int) - 1 = k by omega]; exact IntWalk.i64_in _ (by omega)
    have g2 : (k : Int) < (l.length : Int) := by omega
    rw [show atP l (k + 1) = max (l.getD k 0) 0 by unfold atP; rw [if_neg (by omega)]; rfl]
    generalize l.getD k 0 = x at *
    clear hI h0
    by_cases hx : x < 0
    · have d1 : decide (x < 0) = true := decide_eq_true hx
      rw [show max x 0 = 0 by omega]
      clear hx
      go_enter Tryd.func43, Tryd.ntmps43
      go_wp2
      go_ret
      exact ⟨rfl, rfl⟩
    · have d1 : decide (x < 0) = false := decide_eq_false hx
      rw [show max x 0 = x by omega]
      clear hx
      go_enter Tryd.func43, Tryd.ntmps43
      go_wp2
      go_ret
      exact ⟨rfl, rfl⟩

/-- A cell, widened by constants. -/
def widQ (b : Int) (i : Nat) (x y : Int) : Int := if i ≠ 0 ∧ 2 * x + 1 < b then 2147483647 else if i = 0 then min (max b (-2 * y)) 1 else max b (-2 * y)
theorem widQ_is (lo up : List Int) (i j : Nat) (b : Int) : widP lo up i j b = widQ b i (atP lo i) (atP up j) := rfl

set_option maxHeartbeats 2000000 in
set_option maxRecDepth 100000 in
theorem widened_d (b : Int) (i : Nat) (x y : Int) (w : World) (hi : i ≤ 8) (a0 : 0 ≤ x ∧ x ≤ 1048576) (a1 : 0 ≤ y ∧ y ≤ 1048576) :
    Calls Tryd.prog 42 #[.int .i32 b, .int .i64 i, .int .i64 x, .int .i64 y] w fun e w' => e = .returned (.int .i32 (widQ b i x y)) ∧ w = w' := by
  have g1 : IntKind.i64.wrap (-2 * y) = -2 * y := IntWalk.i64_in _ (by omega)
  have g2 : IntKind.i64.wrap (2 * x) = 2 * x := IntWalk.i64_in _ (by omega)
  have g3 : IntKind.i64.wrap (2 * x + 1) = 2 * x + 1 := IntWalk.i64_in _ (by omega)
  have g5 : IntKind.i32.wrap (2 * x + 1) = 2 * x + 1 := by rw [IntKind.wrap_i32]; omega
  have g6 : IntKind.i32.wrap (-2 * y) = -2 * y := by rw [IntKind.wrap_i32]; omega
  by_cases i0 : i = 0
  · subst i0
    by_cases hb : b < -2 * y
    · have t1 : decide (b < -2 * y) = true := decide_eq_true hb
      have t2 : decide (1 < -2 * y) = false := decide_eq_false (by omega)
      rw [show widQ b 0 x y = -2 * y by unfold widQ; rw [if_neg (by simp), if_pos rfl]; omega]
      clear hb
      go_enter Tryd.func42, Tryd.ntmps42
      go_wp2
      go_ret
      exact ⟨rfl, rfl⟩
    · have t1 : decide (b < -2 * y) = false := decide_eq_false hb
      by_cases h1 : 1 < b
      · have t2 : decide (1 < b) = true := decide_eq_true h1
        rw [show widQ b 0 x y = 1 by unfold widQ; rw [if_neg (by simp), if_pos rfl]; omega]
        clear hb h1
        go_enter Tryd.func42, Tryd.ntmps42
        go_wp2
        go_ret
        exact ⟨rfl, rfl⟩
      · have t2 : decide (1 < b) = false := decide_eq_false h1
        rw [show widQ b 0 x y = b by unfold widQ; rw [if_neg (by simp), if_pos rfl]; omega]
        clear hb h1
        go_enter Tryd.func42, Tryd.ntmps42
        go_wp2
        go_ret
        exact ⟨rfl, rfl⟩
  · have t0 : decide (0 < i) = true := decide_eq_true (by omega)
    have t00 : decide ((0 : Int) < (i : Int)) = true := decide_eq_true (by omega)
    have t01 : ((i : Int) == 0) = false := by simp; omega
    by_cases hb : 2 * x + 1 < b
    · have t1 : decide (2 * x + 1 < b) = true := decide_eq_true hb
      have t2 : decide (2147483647 < -2 * y) = false := decide_eq_false (by omega)
      rw [show widQ b i x y = 2147483647 by unfold widQ; rw [if_pos ⟨i0, hb⟩]]
      clear hb i0
      go_enter Tryd.func42, Tryd.ntmps42
      go_wp2
      go_ret
      exact ⟨rfl, rfl⟩
    · have t1 : decide (2 * x + 1 < b) = false := decide_eq_false hb
      by_cases hc : b < -2 * y
      · have t2 : decide (b < -2 * y) = true := decide_eq_true hc
        rw [show widQ b i x y = -2 * y by unfold widQ; rw [if_neg (fun h => hb h.2), if_neg i0]; omega]
        clear hb hc i0
        go_enter Tryd.func42, Tryd.ntmps42
        go_wp2
        go_ret
        exact ⟨rfl, rfl⟩
      · have t2 : decide (b < -2 * y) = false := decide_eq_false hc
        rw [show widQ b i x y = b by unfold widQ; rw [if_neg (fun h => hb h.2), if_neg i0]; omega]
        clear hb hc i0
        go_enter Tryd.func42, Tryd.ntmps42
        go_wp2
        go_ret
        exact ⟨rfl, rfl⟩

end Go.Proofs.YtncgapnooabdgaaDoor

/- Constants; a cell, widened. -/
namespace Go.Proofs.YtncgapnooabdgaaDoor
open Go Go.RowKit
set_option linter.unusedVariables false
set_option linter.unusedSimpArgs false
attribute [local go_sem] min_ints max_ints

set_option maxHeartbeats 1000000 in
set_option maxRecDepth 100000 in
theorem at_any (A : Option Addr) (c : Nat) (l : List Int) (i : Nat) (w : World) (hI : Ints w .i64 A l) (hi : i ≤ l.length) (h8 : l.length ≤ 8) : Calls Tryd.prog 62 #[.slice A l.length c, .int .i64 i] w fun e w' => e = .returned (.int .i64 (atP l i)) ∧ w = w' := by
  by_cases h0 : i = 0
  · subst h0
    clear hI
    go_enter Tryd.func62, Tryd.ntmps62
    go_wp2
    go_ret
    exact ⟨rfl, rfl⟩
  · obtain ⟨k, rfl⟩ : ∃ k, i = k + 1 := ⟨i - 1, by omega⟩
    obtain ⟨b, off, rfl, c1⟩ := hI k (by omega)
    have t0 : (((k + 1 : Nat) : Int) == 0) = false := by simp; omega
    have g1 : IntKind.i64.wrap (((k + 1 : Nat) : Int) - 1) = k := by rw [show ((k + 1 : Nat) : Int) - 1 = k by omega]; exact IntWalk.i64_in _ (by omega)
    have g2 : (k : Int) < (l.length : Int) := by omega
    rw [show atP l (k + 1) = max (l.getD k 0) 0 by unfold atP; rw [if_neg (by omega)]; rfl]
    generalize l.getD k 0 = x at *
    clear hI h0
    go_enter Tryd.func62, Tryd.ntmps62
    go_wp2
    go_ret
    exact ⟨rfl, rfl⟩

set_option maxHeartbeats 2000000 in
set_option maxRecDepth 100000 in
theorem widened_any (A : Option Addr) (c : Nat) (lo : List Int) (B : Option Addr) (d : Nat) (up : List Int) (i j : Nat) (b : Int) (w : World) (hI : Ints w .i64 A lo) (hJ : Ints w .i64 B up) (hi : i ≤ lo.length) (hj : j ≤ up.length) (h8 : lo.length ≤ 8) (h9 : up.length ≤ 8)
    (h0 : lo.all cstB = true) (h1 : up.all cstB = true) :
    Calls Tryd.prog 38 #[.agg #[.slice A lo.length c, .slice B up.length d], .int .i64 i, .int .i64 j, .int .i32 b] w fun e w' => e = .returned (.int .i32 (widP lo up i j b)) ∧ Below w.heap.size w w' := by
  have HA := Lib.hid (fun w hI => at_any A c lo i w hI hi h8)
  have HB := Lib.hid (fun w hJ => at_any B d up j w hJ hj h9)
  have HBW := Lib.hid (fun o => (Below.refl w.heap.size w).alloc (Nat.le_refl w.heap.size) o)
  have HI := Lib.hid (fun o => hI.below (HBW.out o))
  have HJ := Lib.hid (fun o => hJ.below (HBW.out o))
  have a0 := atP_rng h0 i
  have a1 := atP_rng h1 j
  unfold widP
  generalize atP lo i = x at *
  generalize atP up j = y at *
  have g1 : IntKind.i64.wrap (-2 * y) = -2 * y := IntWalk.i64_in _ (by omega)
  have g2 : IntKind.i64.wrap (2 * x) = 2 * x := IntWalk.i64_in _ (by omega)
  have g3 : IntKind.i64.wrap (2 * x + 1) = 2 * x + 1 := IntWalk.i64_in _ (by omega)
  have g5 : IntKind.i32.wrap (2 * x + 1) = 2 * x + 1 := by rw [IntKind.wrap_i32]; omega
  have g6 : IntKind.i32.wrap (-2 * y) = -2 * y := by rw [IntKind.wrap_i32]; omega
  clear hI hJ h0 h1
  by_cases i0 : i = 0
  · subst i0
    rw [if_neg (by simp), if_pos rfl]
    by_cases hb : b < -2 * y
    · have t1 : decide (b < -2 * y) = true := decide_eq_true hb
      have e : min (max b (-2 * y)) 1 = min (-2 * y) 1 := by omega
      rw [e]
      clear hb e
      go_enter Tryd.func38, Tryd.ntmps38
      go_wp2_with fail
      refine (HB.out _ (HJ.out _)).mono ?_
      rintro e w1 ⟨rfl, rfl⟩
      go_wp2
      go_ret
      exact ⟨rfl, HBW.out _⟩
    · have t1 : decide (b < -2 * y) = false := decide_eq_false hb
      have e : min (max b (-2 * y)) 1 = min b 1 := by omega
      rw [e]
      clear hb e
      go_enter Tryd.func38, Tryd.ntmps38
      go_wp2_with fail
      refine (HB.out _ (HJ.out _)).mono ?_
      rintro e w1 ⟨rfl, rfl⟩
      go_wp2
      go_ret
      exact ⟨rfl, HBW.out _⟩
  · have t0 : ((i : Int) != 0) = true := by simp; omega
    have t00 : ((i : Int) == 0) = false := by simp; omega
    by_cases hb : 2 * x + 1 < b
    · rw [if_pos ⟨i0, hb⟩]
      have t1 : decide (2 * x + 1 < b) = true := decide_eq_true hb
      clear hb i0
      go_enter Tryd.func38, Tryd.ntmps38
      go_wp2_with fail
      refine (HB.out _ (HJ.out _)).mono ?_
      rintro e w1 ⟨rfl, rfl⟩
      go_wp2_with fail
      refine (HA.out _ (HI.out _)).mono ?_
      rintro e w1 ⟨rfl, rfl⟩
      go_wp2
      go_ret
      exact ⟨rfl, HBW.out _⟩
    · rw [if_neg (fun h => hb h.2), if_neg i0]
      have t1 : decide (2 * x + 1 < b) = false := decide_eq_false hb
      by_cases hc : b < -2 * y
      · have t2 : decide (b < -2 * y) = true := decide_eq_true hc
        have e : max b (-2 * y) = -2 * y := by omega
        rw [e]
        clear hb hc e i0
        go_enter Tryd.func38, Tryd.ntmps38
        go_wp2_with fail
        refine (HB.out _ (HJ.out _)).mono ?_
        rintro e w1 ⟨rfl, rfl⟩
        go_wp2_with fail
        refine (HA.out _ (HI.out _)).mono ?_
        rintro e w1 ⟨rfl, rfl⟩
        go_wp2
        go_ret
        exact ⟨rfl, HBW.out _⟩
      · have t2 : decide (b < -2 * y) = false := decide_eq_false hc
        have e : max b (-2 * y) = b := by omega
        rw [e]
        clear hb hc e i0
        go_enter Tryd.func38, Tryd.ntmps38
        go_wp2_with fail
        refine (HB.out _ (HJ.out _)).mono ?_
        rintro e w1 ⟨rfl, rfl⟩
        go_wp2_with fail
        refine (HA.out _ (HI.out _)).mono ?_
        rintro e w1 ⟨rfl, rfl⟩
        go_wp2
        go_ret
        exact ⟨rfl, HBW.out _⟩

set_option maxHeartbeats 1000000 in
set_option maxRecDepth 100000 in
theorem right5_any (b n : Nat) (m : Mat) (A : Option Addr) (c : Nat) (l : List Int) (w : World) (hm : MatAt w b 88 .i32 n m) (hI : Ints w .i64 A l) (hmax : l.length ≤ 4611686018427387904) :
    Calls Tryd.prog 35 #[.pointer (some ⟨b, 0, none⟩), .slice A l.length c] w fun e w' => e = .returned (.int .i64 (rightE n l)) ∧ w = w' := by
  have HD := Lib.hid (dim_zone b n m w hm)
  have HI := Lib.hid hI
  clear hm hI
  by_cases hl : l.length = n
  · have t0 : ((l.length : Int) != (n : Int)) = false := by rw [hl]; simp
    have HL := Lib.hid hl
    clear hl
    go_enter Tryd.func35, Tryd.ntmps35
    go_wp2_with fail
    refine HD.out.mono ?_
    rintro e w1 ⟨rfl, rfl⟩
    go_wp2
    go_loopg [14] l.length (fun g v wr => ∃ p : Nat, v = .int .i64 p ∧ w = wr ∧ Hid (p ≤ l.length ∧ g + p = l.length ∧ ∀ q, q < p → cstB (l.getD q 0) = true))
    case atStart => exact ⟨0, by simp, rfl, by omega, by omega, fun q h => by omega⟩
    case round =>
      obtain ⟨p, rfl, rfl, HG⟩ := hrel
      by_cases hp : p < l.length
      · obtain ⟨b', off, rfl, c1⟩ := HI.out p hp
        obtain ⟨x, hx⟩ : ∃ x, x = l.getD p 0 := ⟨_, rfl⟩
        rw [← hx] at c1
        have hpi : (p : Int) < (l.length : Int) := by omega
        by_cases hc : cstB x = true
        · have hcc : -1 ≤ x ∧ x ≤ 1048576 := by unfold cstB at hc; simpa only [decide_eq_true_eq] using hc
          have t1 : decide (x < -1) = false := decide_eq_false (by omega)
          have t2 : decide (1048576 < x) = false := decide_eq_false (by omega)
          have HC := Lib.hid hc
          have HX := Lib.hid hx
          clear hc hcc hx
          go_wp2
          go_roundg (gk - 1)
          case measure => have h := HG.out; omega
          case rel =>
            refine ⟨p + 1, by go_num, rfl, by omega, by have h := HG.out; omega, fun q hq => ?_⟩
            by_cases e : q = p
            · subst e; rw [← HX.out]; exact HC.out
            · exact HG.out.2.2 q (by omega)
        · have HE := Lib.hid (show rightE n l = 13 by
            unfold rightE
            rw [if_pos HL.out, if_neg]
            intro ha
            have := (all_getD l cstB 0).1 ha p hp
            rw [← hx] at this
            exact hc this)
          by_cases hlt : x < -1
          · have t1 : decide (x < -1) = true := decide_eq_true hlt
            clear hc hx hlt
            go_wp2
            go_ret
            rw [HE.out]
            exact ⟨rfl, rfl⟩
          · have hgt : 1048576 < x := by
              by_cases h : 1048576 < x
              · exact h
              · exact absurd (show cstB x = true from decide_eq_true (by omega)) hc
            have t1 : decide (x < -1) = false := decide_eq_false hlt
            have t2 : decide (1048576 < x) = true := decide_eq_true hgt
            clear hc hx hlt hgt
            go_wp2
            go_ret
            rw [HE.out]
            exact ⟨rfl, rfl⟩
      · have e : p = l.length := by have := HG.out.1; omega
        subst e
        have HE := Lib.hid (show rightE n l = 0 by
          unfold rightE
          rw [if_pos HL.out, if_pos ((all_getD l cstB 0).2 HG.out.2.2)])
        go_wp2
        go_ret
        rw [HE.out]
        exact ⟨rfl, rfl⟩
  · have t0 : ((l.length : Int) != (n : Int)) = true := by simp; omega
    have HE := Lib.hid (show rightE n l = 6 by unfold rightE; rw [if_neg hl])
    clear hl
    go_enter Tryd.func35, Tryd.ntmps35
    go_wp2_with fail
    refine HD.out.mono ?_
    rintro e w1 ⟨rfl, rfl⟩
    go_wp2
    go_ret
    rw [HE.out]
    exact ⟨rfl, rfl⟩

end Go.Proofs.YtncgapnooabdgaaDoor

/- Each cell of a zone, by what it becomes. -/
namespace Go.Proofs.YtncgapnooabdgaaDoor
open Go Go.RowKit
set_option linter.unusedVariables false
set_option linter.unusedSimpArgs false
attribute [local go_sem] min_ints max_ints

/-- The first p cells are done. -/
def doneM (n : Nat) (f : Nat → Nat → Int → Int) (m : Mat) (p : Nat) : Mat := fun i j => if i * (n + 1) + j < p then offM f m i j else m i j
theorem done_zero (n : Nat) (f : Nat → Nat → Int → Int) (m : Mat) : doneM n f m 0 = m := by funext i j; unfold doneM; rw [if_neg (by omega)]
theorem done_all (n : Nat) (f : Nat → Nat → Int → Int) (m : Mat) : Agree n (doneM n f m ((n + 1) * (n + 1))) (offM f m) := fun i j hi hj => by
  unfold doneM
  rw [if_pos (at_lt (by omega) (by omega))]
theorem at_back (n p : Nat) : p / (n + 1) * (n + 1) + p % (n + 1) = p := by rw [Nat.mul_comm]; exact Nat.div_add_mod p (n + 1)
theorem at_only {n i j p : Nat} (hj : j ≤ n) (h : i * (n + 1) + j = p) : i = p / (n + 1) ∧ j = p % (n + 1) := by
  have := at_row (n := n) (i := i) (j := j) (by omega)
  rw [h] at this
  exact ⟨this.1.symm, this.2.symm⟩
theorem done_here (n : Nat) (f : Nat → Nat → Int → Int) (m : Mat) (p : Nat) : doneM n f m p (p / (n + 1)) (p % (n + 1)) = m (p / (n + 1)) (p % (n + 1)) := by
  unfold doneM
  rw [at_back, if_neg (by omega)]
theorem done_set (n : Nat) (f : Nat → Nat → Int → Int) (m : Mat) (p : Nat) (hp : p < (n + 1) * (n + 1)) (hne : p / (n + 1) ≠ p % (n + 1)) :
    (flat n (doneM n f m p)).set p (f (p / (n + 1)) (p % (n + 1)) (m (p / (n + 1)) (p % (n + 1)))) = flat n (doneM n f m (p + 1)) := by
  have h1 : p / (n + 1) < n + 1 := Nat.div_lt_of_lt_mul hp
  have h2 : p % (n + 1) < n + 1 := Nat.mod_lt p (by omega)
  have := flat_upd (doneM n f m p) h1 h2 (f (p / (n + 1)) (p % (n + 1)) (m (p / (n + 1)) (p % (n + 1))))
  rw [at_back] at this
  rw [this]
  refine flat_congr fun i j hi hj => ?_
  unfold upd
  by_cases e : i = p / (n + 1) ∧ j = p % (n + 1)
  · rw [if_pos e, e.1, e.2]
    unfold doneM
    rw [at_back, if_pos (by omega)]
    unfold offM
    rw [if_neg hne]
  · rw [if_neg e]
    unfold doneM
    by_cases c : i * (n + 1) + j < p
    · rw [if_pos c, if_pos (by omega)]
    · rw [if_neg c, if_neg (fun h => e (at_only hj (by omega)))]
theorem done_same (n : Nat) (f : Nat → Nat → Int → Int) (m : Mat) (p : Nat) (he : p / (n + 1) = p % (n + 1)) : flat n (doneM n f m p) = flat n (doneM n f m (p + 1)) :=
  flat_congr fun i j hi hj => by
    unfold doneM
    by_cases c : i * (n + 1) + j < p
    · rw [if_pos c, if_pos (by omega)]
    · rw [if_neg c]
      by_cases d : i * (n + 1) + j < p + 1
      · rw [if_pos d]
        obtain ⟨a, b⟩ := at_only hj (show i * (n + 1) + j = p by omega)
        unfold offM
        rw [if_pos (by omega)]
      · rw [if_neg d]
def EachR (w0 : World) (g n : Nat) (f : Nat → Nat → Int → Int) (m : Mat) (p : Nat) (wr : World) : Prop := Below w0.heap.size w0 wr ∧ RowAt wr g 44 .i32 (flat n (doneM n f m p))
theorem EachR.step {w0 wr w' : World} {g n p : Nat} {f : Nat → Nat → Int → Int} {m : Mat} (h : EachR w0 g n f m p wr) (hb : Below wr.heap.size wr w') : EachR w0 g n f m p w' := ⟨h.1.trans (hb.mono h.1.size), h.2.later hb⟩
theorem EachR.set {w0 wr : World} {g n p : Nat} {f : Nat → Nat → Int → Int} {m : Mat} (h : EachR w0 g n f m p wr) (hg : w0.heap.size ≤ g) (hp : p < (n + 1) * (n + 1)) (hne : p / (n + 1) ≠ p % (n + 1)) (x : Int) (hx : f (p / (n + 1)) (p % (n + 1)) (m (p / (n + 1)) (p % (n + 1))) = x) :
    EachR w0 g n f m (p + 1) (wr.setCell ⟨g, p, none⟩ (.int .i32 x)) := ⟨h.1.setCell (p := ⟨g, _, none⟩) hg _, by rw [← done_set n f m p hp hne, hx]; exact h.2.set p x⟩

theorem flat_rng {n : Nat} {m : Mat} (h : RightM n m) : ∀ q, q < (flat n m).length → -2147483648 ≤ (flat n m).getD q 0 ∧ (flat n m).getD q 0 ≤ 2147483647 := fun q hq => by
  rw [flat_length] at hq
  rw [flat_getD _ _ _ hq]
  have h1 : q / (n + 1) < n + 1 := Nat.div_lt_of_lt_mul hq
  have h2 := Nat.mod_lt q (show 0 < n + 1 by omega)
  exact right_hi (h _ _ (by omega) (by omega))
set_option maxHeartbeats 2000000 in
set_option maxRecDepth 100000 in
theorem each_widened (v : Value) (n : Nat) (m : Mat) (A : Option Addr) (c : Nat) (lo : List Int) (B : Option Addr) (d : Nat) (up : List Int) (w : World) (h : ZoneV 88 w v (some (n, m))) (hI : Ints w .i64 A lo) (hJ : Ints w .i64 B up) (hl : lo.length = n) (hu : up.length = n)
    (h0 : lo.all cstB = true) (h1 : up.all cstB = true) (hro : RightM n (offM (widP lo up) m)) :
    Calls Tryd.prog 37 #[v, .func (.func 38) #[.agg #[.slice A lo.length c, .slice B up.length d]] #[]] w (MakesZ w n (ofP n (flat n (offM (widP lo up) m)))) := by
  have HI := Lib.hid hI
  have HJ := Lib.hid hJ
  have HRB := Lib.hid (flat_rng hro)
  have HLU := Lib.hid (And.intro (And.intro hl hu) (And.intro h0 h1))
  obtain ⟨b, rfl, hn, hr, hm⟩ := h
  have HD := Lib.hid (dim_zone b n m w hm)
  have HC := Lib.hid (cells_zone b n m w hn hm)
  have hN81 : (n + 1) * (n + 1) ≤ 81 := by
    have := Nat.mul_le_mul (show n + 1 ≤ 9 by omega) (show n + 1 ≤ 9 by omega)
    omega
  obtain ⟨N, hN⟩ : ∃ N, N = (n + 1) * (n + 1) := ⟨_, rfl⟩
  have HN := Lib.hid hN
  have hfl : (flat n m).length = N := by rw [flat_length, hN]
  rw [← hN] at hN81
  have g1 : IntKind.i64.wrap ((n : Int) + 1) = (n : Int) + 1 := IntWalk.i64_in _ (by omega)
  have g4 : ((n : Int) + 1 == 0) = false := by simp; omega
  have g5 : ¬ ((n : Int) + 1 = 0) := by omega
  have hNpos : 0 < N := by rw [hN]; exact Nat.mul_pos (by omega) (by omega)
  clear hI hJ hl hu h0 h1 hm hr hN hro
  go_enter Tryd.func37, Tryd.ntmps37
  go_wp2_with fail
  refine HD.out.mono ?_
  rintro e w1 ⟨rfl, rfl⟩
  go_wp2_with fail
  refine HC.out.mono ?_
  rintro e w1 ⟨v', rfl, hb, ho⟩
  obtain ⟨g, cap, rfl, hg, hrow⟩ := ho.row (by rw [hfl]; exact hNpos)
  rw [hfl]
  have HS := Lib.hid (show EachR w g n (widP lo up) m 0 w1 from ⟨hb, by rw [done_zero]; exact hrow⟩)
  have HGG := Lib.hid hg
  clear hb ho hrow hfl HC HD hg
  go_wp2
  go_loopg [17] N (fun q v wr => ∃ p : Nat, v = .int .i64 p ∧ Hid (EachR w g n (widP lo up) m p wr) ∧ Hid (p ≤ N ∧ q + p = N))
  case atStart => exact ⟨0, by simp, HS.out, by omega, by omega⟩
  case round =>
    clear HS
    obtain ⟨p, rfl, HR, HG⟩ := hrel
    by_cases hp : p < N
    · have hsq : p < (n + 1) * (n + 1) := by rw [← HN.out]; exact hp
      have hd9 : p / (n + 1) ≤ n := by have := Nat.div_lt_of_lt_mul hsq; omega
      have hm9 : p % (n + 1) ≤ n := by have := Nat.mod_lt p (show 0 < n + 1 by omega); omega
      have g2 := wrap_tdiv p n (by omega)
      have g3 := wrap_tmod p n (by omega)
      have k1 := w64_div p n (by omega)
      have k2 := w64_mod p n (by omega)
      have c1 := HR.out.2.cell p (by rw [flat_length]; exact hsq)
      have f1 := HR.out.2.frozen p
      have hlt := HR.out.2.lt
      rw [flat_getD _ _ _ hsq, done_here] at c1
      have hpi : (p : Int) < (N : Int) := by omega
      have HEQ := Lib.hid (fun (x : Int) hne (hx : widP lo up (p / (n + 1)) (p % (n + 1)) (m (p / (n + 1)) (p % (n + 1))) = x) (w' : World) (h : EachR w g n (widP lo up) m p w') => h.set HGG.out hsq hne x hx)
      have HSM := Lib.hid (fun he => done_same n (widP lo up) m p he)
      obtain ⟨D, hD⟩ : ∃ D, D = p / (n + 1) := ⟨_, rfl⟩
      obtain ⟨M, hM⟩ : ∃ M, M = p % (n + 1) := ⟨_, rfl⟩
      rw [← hD] at hd9 g2 k1 c1 HEQ HSM
      rw [← hM] at hm9 g3 k2 c1 HEQ HSM
      have HT := Lib.hid (fun (e : ¬ D = M) => And.intro (show ((D : Int) != (M : Int)) = true by simp; omega) (show ((D : Int) == (M : Int)) = false by simp; omega))
      have k3 : IntKind.i64.wrap ((p : Int) / ((n : Int) + 1)) = (D : Int) := by rw [idx_div, ← hD]; exact IntWalk.i64_in _ (by omega)
      have k4 : IntKind.i64.wrap ((p : Int) % ((n : Int) + 1)) = (M : Int) := by rw [idx_mod, ← hM]; exact IntWalk.i64_in _ (by omega)
      have k5 : (p : Int) / ((n : Int) + 1) = (D : Int) := by rw [idx_div, ← hD]
      have k6 : (p : Int) % ((n : Int) + 1) = (M : Int) := by rw [idx_mod, ← hM]
      clear hsq hD hM k1 k2
      by_cases e : D = M
      · subst e
        have HN2 := Lib.hid (show EachR w g n (widP lo up) m (p + 1) wr from ⟨HR.out.1, by rw [← HSM.out rfl]; exact HR.out.2⟩)
        have HN3 := Lib.hid (fun q => HN2.out.step (belowN (Below.refl wr.heap.size wr) q))
        go_wp2_with fail
        go_quiet (fail)
        go_wp2
        go_roundg (gk - 1)
        case measure => have h := HG.out; omega
        case rel => exact ⟨p + 1, by go_num, by first | exact HN2.out | exact HN3.out _, by omega, by have h := HG.out; omega⟩
      · obtain ⟨t1, t2⟩ := HT.out e
        obtain ⟨x, hx⟩ : ∃ x, x = m D M := ⟨_, rfl⟩
        rw [← hx] at c1 HEQ
        obtain ⟨y, hy⟩ : ∃ y, y = widP lo up D M x := ⟨_, rfl⟩
        have HW := Lib.hid (fun q => widened_any A c lo B d up D M x (wr.drewN q) (HI.out.below (belowN HR.out.1 q)) (HJ.out.below (belowN HR.out.1 q)) (by rw [HLU.out.1.1]; exact hd9) (by rw [HLU.out.1.2]; exact hm9) (by rw [HLU.out.1.1]; exact hn) (by rw [HLU.out.1.2]; exact hn) HLU.out.2.1 HLU.out.2.2)
        rw [← hy] at HW
        have HE2 := Lib.hid (HEQ.out y e hy.symm)
        clear hx hy e HEQ HSM
        go_wp2_with fail
        go_quiet (fail)
        go_wp2_with fail
        refine (HW.out nq).mono ?_
        rintro e w2 ⟨rfl, hb⟩
        have c2 := (hb.cell (p := ⟨g, p, none⟩) hlt).trans c1
        have f2 := (hb.frozen (p := ⟨g, p, none⟩) hlt).trans f1
        have hlt2 : g < w2.heap.size := Nat.lt_of_lt_of_le hlt hb.size
        have HN2 := Lib.hid (HE2.out _ (HR.out.step ((belowN (Below.refl wr.heap.size wr) nq).trans hb)))
        clear hb c1 f1 hlt
        go_wp2
        go_roundg (gk - 1)
        case measure => have h := HG.out; omega
        case rel => exact ⟨p + 1, by go_num, HN2.out, by omega, by have h := HG.out; omega⟩
    · have e : p = N := by have := HG.out.1; omega
      subst e
      have hcall := of_any n (some ⟨g, 0, none⟩) cap (flat n (offM (widP lo up) m)) wr (by rw [← flat_congr (done_all n (widP lo up) m), ← HN.out]; exact HR.out.2.ints) (by rw [flat_length, ← HN.out]; omega) HRB.out
      rw [flat_length, ← HN.out, Int.toNat_natCast] at hcall
      have HCL := Lib.hid hcall
      clear hcall
      go_wp2_with fail
      refine HCL.out.mono ?_
      rintro e w2 hz
      have HZ2 := Lib.hid hz
      obtain ⟨hb, v, rfl, hv⟩ := hz
      have HB2 := Lib.hid (HR.out.1.trans (hb.mono HR.out.1.size))
      clear hb hv
      go_wp2
      go_ret2
      exact ⟨HB2.out, HZ2.out.2⟩

end Go.Proofs.YtncgapnooabdgaaDoor

/- Each cell of a zone of which nothing is said of clocks; Gone. -/
namespace Go.Proofs.YtncgapnooabdgaaDoor
open Go Go.RowKit
set_option linter.unusedVariables false
set_option linter.unusedSimpArgs false

/-- A block of nine marks. -/
def marks9 (f : Nat → Bool) : Array Value := ((List.range 9).map fun i => Value.bool (f i)).toArray
def BAt (w : World) (g : Nat) (f : Nat → Bool) : Prop := w.heap[g]? = some (.cells (marks9 f) 91 (0, 0))
section
variable {w w' : World} {g : Nat} {f : Nat → Bool}
theorem BAt.lt (h : BAt w g f) : g < w.heap.size := (Array.getElem?_eq_some_iff.1 h).1
theorem BAt.cell (h : BAt w g f) (i : Nat) (hi : i < 9) : w.cell? ⟨g, i, none⟩ = some (.bool (f i)) := by
  unfold BAt at h
  simp [World.cell?, h, marks9, hi]
theorem BAt.frozen (h : BAt w g f) (i : Nat) : w.frozen? ⟨g, i, none⟩ = false := by
  unfold BAt at h
  simp [World.frozen?, h]
theorem BAt.below (h : BAt w g f) (hb : Below w.heap.size w w') : BAt w' g f := (hb.block g h.lt).trans h
theorem BAt.set (h : BAt w g f) (i : Nat) (hi : i < 9) (f' : Nat → Bool) (hf : ∀ j, j < 9 → f' j = (f j || decide (j = i))) : BAt (w.setCell ⟨g, i, none⟩ (.bool true)) g f' := by
  unfold BAt at h ⊢
  simp only [World.setCell, Array.getElem?_modify, if_true, h, Option.map_some]
  have e : (marks9 f).setIfInBounds i (.bool true) = marks9 f' := by
    apply Array.ext_getElem?
    intro q
    rw [Array.getElem?_setIfInBounds]
    by_cases hq : q < 9
    · have h1 : (marks9 f)[q]? = some (.bool (f q)) := by simp [marks9, hq]
      have h2 : (marks9 f')[q]? = some (.bool (f' q)) := by simp [marks9, hq]
      rw [h1, h2, hf q hq]
      by_cases e : i = q
      · subst e; rw [if_pos rfl, if_pos (by simp [marks9]; omega)]; simp
      · rw [if_neg e]; simp [show ¬ q = i by omega]
    · rw [if_neg (by omega), Array.getElem?_eq_none (by simp [marks9]; omega), Array.getElem?_eq_none (by simp [marks9]; omega)]
  simp [e]
end

set_option maxHeartbeats 1000000 in
set_option maxRecDepth 100000 in
theorem gone1_any (gb zb : Nat) (f : Nat → Bool) (v : Value) (n : Nat) (m : Mat) (i j : Nat) (x : Int) (w : World) (hB : BAt w gb f) (hz : w.cell? ⟨zb, 0, none⟩ = some v) (hv : ZoneV 88 w v (some (n, m))) (hi : i ≤ n) (hj : j ≤ n) :
    Calls Tryd.prog 46 #[.int .i64 i, .int .i64 j, .int .i32 x, .pointer (some ⟨gb, 0, none⟩), .pointer (some ⟨zb, 0, none⟩)] w fun e w' => e = .returned (.int .i32 (if f i = true then 2147483647 else if f j = true then m i 0 else x)) ∧ w = w' := by
  have hn : n ≤ 8 := by obtain ⟨_, _, h, _⟩ := hv; exact h
  have HC := Lib.hid (cell_any v (some (n, m)) i 0 w hv)
  rw [show cellZ (some (n, m)) i 0 = (m i 0, 0) by show cellP n m i 0 = _; unfold cellP; rw [if_pos (by omega)]; rfl] at HC
  have c1 := hB.cell i (by omega)
  have c2 := hB.cell j (by omega)
  have i9 : (i : Int) < 9 := by omega
  have j9 : (j : Int) < 9 := by omega
  obtain ⟨y, hy⟩ : ∃ y, y = m i 0 := ⟨_, rfl⟩
  rw [← hy] at HC ⊢
  clear hB hv hy
  cases hfi : f i with
  | true =>
    rw [if_pos rfl]
    rw [hfi] at c1
    clear hfi c2
    go_enter Tryd.func46, Tryd.ntmps46
    go_wp2
    go_ret
    exact ⟨rfl, rfl⟩
  | false =>
    rw [if_neg (by simp)]
    rw [hfi] at c1
    cases hfj : f j with
    | true =>
      rw [if_pos rfl]
      rw [hfj] at c2
      clear hfi hfj
      go_enter Tryd.func46, Tryd.ntmps46
      go_wp2_with fail
      refine HC.out.mono ?_
      rintro e w1 ⟨rfl, rfl⟩
      go_wp2
      go_ret
      exact ⟨rfl, rfl⟩
    | false =>
      rw [if_neg (by simp)]
      rw [hfj] at c2
      clear hfi hfj
      go_enter Tryd.func46, Tryd.ntmps46
      go_wp2
      go_ret
      exact ⟨rfl, rfl⟩

set_option maxHeartbeats 2000000 in
set_option maxRecDepth 100000 in
theorem each_gone (v : Value) (n : Nat) (m : Mat) (gb zb : Nat) (l : List Int) (w : World) (h : ZoneV 88 w v (some (n, m))) (hg : BAt w gb (goneB l)) (hzb : w.cell? ⟨zb, 0, none⟩ = some v)
    (hro : RightM n (offM (goneF l m) m)) :
    Calls Tryd.prog 37 #[v, .func (.func 46) #[] #[.pointer (some ⟨gb, 0, none⟩), .pointer (some ⟨zb, 0, none⟩)]] w (MakesZ w n (ofP n (flat n (offM (goneF l m) m)))) := by
  have HV := Lib.hid h
  have HRB := Lib.hid (flat_rng hro)
  obtain ⟨b, rfl, hn, hr, hm⟩ := h
  have HD := Lib.hid (dim_zone b n m w hm)
  have HC := Lib.hid (cells_zone b n m w hn hm)
  have hN81 : (n + 1) * (n + 1) ≤ 81 := by
    have := Nat.mul_le_mul (show n + 1 ≤ 9 by omega) (show n + 1 ≤ 9 by omega)
    omega
  obtain ⟨N, hN⟩ : ∃ N, N = (n + 1) * (n + 1) := ⟨_, rfl⟩
  have HN := Lib.hid hN
  have hfl : (flat n m).length = N := by rw [flat_length, hN]
  rw [← hN] at hN81
  have g1 : IntKind.i64.wrap ((n : Int) + 1) = (n : Int) + 1 := IntWalk.i64_in _ (by omega)
  have g4 : ((n : Int) + 1 == 0) = false := by simp; omega
  have g5 : ¬ ((n : Int) + 1 = 0) := by omega
  have hNpos : 0 < N := by rw [hN]; exact Nat.mul_pos (by omega) (by omega)
  have HBA := Lib.hid hg
  have HZB := Lib.hid hzb
  clear hg hzb hm hr hN hro
  go_enter Tryd.func37, Tryd.ntmps37
  go_wp2_with fail
  refine HD.out.mono ?_
  rintro e w1 ⟨rfl, rfl⟩
  go_wp2_with fail
  refine HC.out.mono ?_
  rintro e w1 ⟨v', rfl, hb, ho⟩
  obtain ⟨g, cap, rfl, hg, hrow⟩ := ho.row (by rw [hfl]; exact hNpos)
  rw [hfl]
  have HS := Lib.hid (show EachR w g n (goneF l m) m 0 w1 from ⟨hb, by rw [done_zero]; exact hrow⟩)
  have HGG := Lib.hid hg
  clear hb ho hrow hfl HC HD hg
  go_wp2
  go_loopg [17] N (fun q v wr => ∃ p : Nat, v = .int .i64 p ∧ Hid (EachR w g n (goneF l m) m p wr) ∧ Hid (p ≤ N ∧ q + p = N))
  case atStart => exact ⟨0, by simp, HS.out, by omega, by omega⟩
  case round =>
    clear HS
    obtain ⟨p, rfl, HR, HG⟩ := hrel
    by_cases hp : p < N
    · have hsq : p < (n + 1) * (n + 1) := by rw [← HN.out]; exact hp
      have hd9 : p / (n + 1) ≤ n := by have := Nat.div_lt_of_lt_mul hsq; omega
      have hm9 : p % (n + 1) ≤ n := by have := Nat.mod_lt p (show 0 < n + 1 by omega); omega
      have g2 := wrap_tdiv p n (by omega)
      have g3 := wrap_tmod p n (by omega)
      have k1 := w64_div p n (by omega)
      have k2 := w64_mod p n (by omega)
      have c1 := HR.out.2.cell p (by rw [flat_length]; exact hsq)
      have f1 := HR.out.2.frozen p
      have hlt := HR.out.2.lt
      rw [flat_getD _ _ _ hsq, done_here] at c1
      have hpi : (p : Int) < (N : Int) := by omega
      have HEQ := Lib.hid (fun (x : Int) hne (hx : goneF l m (p / (n + 1)) (p % (n + 1)) (m (p / (n + 1)) (p % (n + 1))) = x) (w' : World) (h : EachR w g n (goneF l m) m p w') => h.set HGG.out hsq hne x hx)
      have HSM := Lib.hid (fun he => done_same n (goneF l m) m p he)
      obtain ⟨D, hD⟩ : ∃ D, D = p / (n + 1) := ⟨_, rfl⟩
      obtain ⟨M, hM⟩ : ∃ M, M = p % (n + 1) := ⟨_, rfl⟩
      rw [← hD] at hd9 g2 k1 c1 HEQ HSM
      rw [← hM] at hm9 g3 k2 c1 HEQ HSM
      have HT := Lib.hid (fun (e : ¬ D = M) => And.intro (show ((D : Int) != (M : Int)) = true by simp; omega) (show ((D : Int) == (M : Int)) = false by simp; omega))
      have k3 : IntKind.i64.wrap ((p : Int) / ((n : Int) + 1)) = (D : Int) := by rw [idx_div, ← hD]; exact IntWalk.i64_in _ (by omega)
      have k4 : IntKind.i64.wrap ((p : Int) % ((n : Int) + 1)) = (M : Int) := by rw [idx_mod, ← hM]; exact IntWalk.i64_in _ (by omega)
      have k5 : (p : Int) / ((n : Int) + 1) = (D : Int) := by rw [idx_div, ← hD]
      have k6 : (p : Int) % ((n : Int) + 1) = (M : Int) := by rw [idx_mod, ← hM]
      clear hsq hD hM k1 k2
      by_cases e : D = M
      · subst e
        have HN2 := Lib.hid (show EachR w g n (goneF l m) m (p + 1) wr from ⟨HR.out.1, by rw [← HSM.out rfl]; exact HR.out.2⟩)
        have HN3 := Lib.hid (fun q => HN2.out.step (belowN (Below.refl wr.heap.size wr) q))
        go_wp2_with fail
        go_quiet (fail)
        go_wp2
        go_roundg (gk - 1)
        case measure => have h := HG.out; omega
        case rel => exact ⟨p + 1, by go_num, by first | exact HN2.out | exact HN3.out _, by omega, by have h := HG.out; omega⟩
      · obtain ⟨t1, t2⟩ := HT.out e
        obtain ⟨x, hx⟩ : ∃ x, x = m D M := ⟨_, rfl⟩
        rw [← hx] at c1 HEQ
        obtain ⟨y, hy⟩ : ∃ y, y = goneF l m D M x := ⟨_, rfl⟩
        have HW := Lib.hid (fun q => gone1_any gb zb (goneB l) (.pointer (some ⟨b, 0, none⟩)) n m D M x (wr.drewN q) (HBA.out.below (belowN HR.out.1 q)) (((belowN HR.out.1 q).cell (p := ⟨zb, 0, none⟩) (World.block_lt_of_cell? w _ HZB.out)).trans HZB.out) (HV.out.below (belowN HR.out.1 q)) hd9 hm9)
        rw [show (if goneB l D = true then (2147483647 : Int) else if goneB l M = true then m D 0 else x) = y from hy.symm] at HW
        have HE2 := Lib.hid (HEQ.out y e hy.symm)
        clear hx hy e HEQ HSM
        go_wp2_with fail
        go_quiet (fail)
        go_wp2_with fail
        refine (HW.out nq).mono ?_
        rintro e w2 ⟨rfl, hb'⟩
        have hb : Below (wr.drewN nq).heap.size (wr.drewN nq) w2 := hb' ▸ Below.refl _ _
        clear hb'
        have c2 := (hb.cell (p := ⟨g, p, none⟩) hlt).trans c1
        have f2 := (hb.frozen (p := ⟨g, p, none⟩) hlt).trans f1
        have hlt2 : g < w2.heap.size := Nat.lt_of_lt_of_le hlt hb.size
        have HN2 := Lib.hid (HE2.out _ (HR.out.step ((belowN (Below.refl wr.heap.size wr) nq).trans hb)))
        clear hb c1 f1 hlt
        go_wp2
        go_roundg (gk - 1)
        case measure => have h := HG.out; omega
        case rel => exact ⟨p + 1, by go_num, HN2.out, by omega, by have h := HG.out; omega⟩
    · have e : p = N := by have := HG.out.1; omega
      subst e
      have hcall := of_any n (some ⟨g, 0, none⟩) cap (flat n (offM (goneF l m) m)) wr (by rw [← flat_congr (done_all n (goneF l m) m), ← HN.out]; exact HR.out.2.ints) (by rw [flat_length, ← HN.out]; omega) HRB.out
      rw [flat_length, ← HN.out, Int.toNat_natCast] at hcall
      have HCL := Lib.hid hcall
      clear hcall
      go_wp2_with fail
      refine HCL.out.mono ?_
      rintro e w2 hz
      have HZ2 := Lib.hid hz
      obtain ⟨hb, v, rfl, hv⟩ := hz
      have HB2 := Lib.hid (HR.out.1.trans (hb.mono HR.out.1.size))
      clear hb hv
      go_wp2
      go_ret2
      exact ⟨HB2.out, HZ2.out.2⟩

end Go.Proofs.YtncgapnooabdgaaDoor

/- The program's zone of which nothing is said of clocks. -/
namespace Go.Proofs.YtncgapnooabdgaaDoor
open Go Go.RowKit
set_option linter.unusedVariables false
set_option linter.unusedSimpArgs false

theorem xempty_any (v : Value) (z : Option (Nat × Mat)) (w : World) (h : ZoneV 88 w v z) : Calls Tryd.prog 23 #[v] w fun e w' => e = .returned (.bool (emptyP z)) ∧ w = w' := by
  match z, h with
  | none, h =>
    have h : v = .pointer none := h
    subst h
    exact empty_nil w
  | some (n, m), h =>
    obtain ⟨b, e, _, _, hm⟩ := h
    subst e
    exact oempty_any b n m w hm
def GoneK (n : Nat) (m : Mat) : Prop := m = (fun _ _ => 0) ∨ ClosedZ n m
theorem gone_nil (A : Option Addr) (c : Nat) (l : List Int) (w : World) : Calls Tryd.prog 21 #[.pointer none, .slice A l.length c] w fun e w' => e = .returned (.tuple #[.pointer none, .int .i64 1]) ∧ Below w.heap.size w w' := by
  go_enter Tryd.func21, Tryd.ntmps21
  go_wp2
  go_ret2
  exact ⟨rfl, (Below.refl _ _).alloc (Nat.le_refl _) _⟩
theorem clkE_all {n : Nat} {l : List Int} (h : ∀ q, q < l.length → 1 ≤ l.getD q 0 ∧ l.getD q 0 ≤ n) : clkE n l = true := (all_getD _ _ 0).2 fun q hq => decide_eq_true (h q hq)
theorem clkE_no {n : Nat} {l : List Int} {p : Nat} (hp : p < l.length) (h : ¬ (1 ≤ l.getD p 0 ∧ l.getD p 0 ≤ n)) : clkE n l = false := by
  rw [Bool.eq_false_iff]
  intro ha
  have := (all_getD l _ 0).1 ha p hp
  simp only [decide_eq_true_eq] at this
  exact h this
theorem goneB_more {l : List Int} {p x : Nat} (hp : p < l.length) (hx : l.getD p 0 = (x : Int)) (j : Nat) : goneB (l.take (p + 1)) j = (goneB (l.take p) j || decide (j = x)) := by
  rw [take_more hp, hx]
  unfold goneB
  rw [Bool.eq_iff_iff]
  simp only [decide_eq_true_eq, Bool.or_eq_true, List.mem_append, List.mem_singleton]
  constructor
  · rintro (h | h)
    · exact .inl h
    · exact .inr (by omega)
  · rintro (h | h)
    · exact .inl h
    · exact .inr (by omega)
theorem stable_bat (g : Nat) (f : Nat → Bool) : Stable fun w => BAt w g f := fun _ _ h hb => h.below hb
theorem stable_cell1 (g : Nat) (v : Value) : Stable fun w => w.cell? ⟨g, 0, none⟩ = some v := fun w _ h hb => (hb.cell (p := ⟨g, 0, none⟩) (World.block_lt_of_cell? w _ h)).trans h
theorem flat_rng6 {n : Nat} {m : Mat} (h : RightM n m) : ∀ q, q < (flat n m).length → -2147483648 ≤ (flat n m).getD q 0 ∧ (flat n m).getD q 0 ≤ 2147483647 := flat_rng h
/-- A cell of one's own, written. -/
theorem Bag.setOwn {w0 w : World} {Ps : List (World → Prop)} {g o : Nat} {v : Value} (h : Bag w0 Ps w) (hg : w0.heap.size ≤ g) (hk : ∀ P, P ∈ Ps → P w → P (w.setCell ⟨g, o, none⟩ v)) : Bag w0 Ps (w.setCell ⟨g, o, none⟩ v) :=
  ⟨h.below.setCell (p := ⟨g, o, none⟩) hg _, fun P hP => ⟨hk P hP (h.all P hP).1, (h.all P hP).2⟩⟩
/-- The marks, so far. -/
def GnR (w0 : World) (T1 : TypeId) (v : Value) (n : Nat) (m : Mat) (A : Option Addr) (l : List Int) (p : Nat) (wr : World) : Prop :=
  Below w0.heap.size w0 wr ∧ ZoneV T1 wr v (some (n, m)) ∧ Ints wr .i64 A l ∧ wr.cell? ⟨w0.heap.size, 0, none⟩ = some v ∧ BAt wr (w0.heap.size + 1) (goneB (l.take p))
theorem GnR.step {w0 wr w' : World} {T1 : TypeId} {v : Value} {n : Nat} {m : Mat} {A : Option Addr} {l : List Int} {p : Nat} (h : GnR w0 T1 v n m A l p wr) (hb : Below wr.heap.size wr w') : GnR w0 T1 v n m A l p w' :=
  ⟨h.1.trans (hb.mono h.1.size), h.2.1.below hb, h.2.2.1.below hb, (stable_cell1 _ _) _ _ h.2.2.2.1 hb, h.2.2.2.2.below hb⟩
theorem zone_old {T1 : TypeId} {w0 wr : World} {v : Value} {z : Option (Nat × Mat)} (h : ZoneV T1 w0 v z) (hb : Below w0.heap.size w0 wr) : ZoneV T1 wr v z := h.below hb
theorem GnR.mark {w0 wr : World} {T1 : TypeId} {v : Value} {n : Nat} {m : Mat} {A : Option Addr} {l : List Int} {p x : Nat} (h : GnR w0 T1 v n m A l p wr) (h0 : ZoneV T1 w0 v (some (n, m))) (hI : Ints w0 .i64 A l) (hp : p < l.length) (hx : l.getD p 0 = (x : Int)) (hx9 : x < 9) :
    GnR w0 T1 v n m A l (p + 1) (wr.setCell ⟨w0.heap.size + 1, x, none⟩ (.bool true)) := by
  have hb : Below w0.heap.size w0 (wr.setCell ⟨w0.heap.size + 1, x, none⟩ (.bool true)) := h.1.setCell (p := ⟨w0.heap.size + 1, x, none⟩) (by show _ ≤ w0.heap.size + 1; omega) _
  refine ⟨hb, h0.below hb, hI.below hb, ?_, h.2.2.2.2.set x hx9 _ fun j _ => goneB_more hp hx j⟩
  rw [World.cell?_setCell_other]
  · exact h.2.2.2.1
  · intro e; simp at e

theorem gone_of {n N g cap : Nat} {m : Mat} {w : World} (h : RightM n m) (hl : (flat n m).length = N) (hN : N ≤ 81) (hr : RowAt w g 44 .i32 (flat n m)) : Calls Tryd.prog 33 #[.int .i64 n, .slice (some ⟨g, 0, none⟩) N cap] w (MakesZ w n (ofP n (flat n m))) := by
  have hcall := of_any n (some ⟨g, 0, none⟩) cap (flat n m) w hr.ints (by rw [hl]; omega) (flat_rng h)
  rw [hl, Int.toNat_natCast] at hcall
  exact hcall
set_option maxRecDepth 100000 in
set_option maxHeartbeats 2000000 in
theorem gone_zone (v : Value) (n : Nat) (m : Mat) (A : Option Addr) (c : Nat) (l : List Int) (w : World) (h : ZoneV 88 w v (some (n, m))) (hq : GoneK n m) (hI : Ints w .i64 A l) (hmax : l.length ≤ 4611686018427387904) :
    Calls Tryd.prog 21 #[v, .slice A l.length c] w (MakesZ w n (goneP n m l)) := by
  have HQ := Lib.hid hq
  have HI := Lib.hid hI
  have HZ := Lib.hid h
  have HE := Lib.hid (fun w h => xempty_any v (some (n, m)) w h)
  have HC := Lib.hid (fun w h => cells_any v (some (n, m)) w h)
  rw [show cellsP (some (n, m)) = flat n m from rfl] at HC
  have HD := Lib.hid (fun w h => odim_any v (some (n, m)) w h)
  rw [show dimN (some (n, m)) = n from rfl] at HD
  obtain ⟨b, rfl, hn, hrm, _⟩ := h
  have HRM := Lib.hid hrm
  have HS := Lib.hid (show GnR w 88 (.pointer (some ⟨b, 0, none⟩)) n m A l 0 ((w.alloc (.cells #[.pointer (some ⟨b, 0, none⟩)] 25)).alloc (.cells #[.bool false, .bool false, .bool false, .bool false, .bool false, .bool false, .bool false, .bool false, .bool false] 91)) by
    have hb1 : Below w.heap.size w (w.alloc (.cells #[.pointer (some ⟨b, 0, none⟩)] 25)) := (Below.refl _ _).alloc (Nat.le_refl _) _
    have hb : Below w.heap.size w ((w.alloc (.cells #[.pointer (some ⟨b, 0, none⟩)] 25)).alloc (.cells #[.bool false, .bool false, .bool false, .bool false, .bool false, .bool false, .bool false, .bool false, .bool false] 91)) := hb1.alloc (by simp) _
    refine ⟨hb, HZ.out.below hb, hI.below hb, ?_, ?_⟩
    · unfold World.cell?
      rw [heap_alloc_old _ _ (by simp), heap_alloc_new]
      rfl
    · unfold BAt
      have := heap_alloc_new (w.alloc (.cells #[.pointer (some ⟨b, 0, none⟩)] 25)) (.cells #[.bool false, .bool false, .bool false, .bool false, .bool false, .bool false, .bool false, .bool false, .bool false] 91)
      rw [show (w.alloc (.cells #[.pointer (some ⟨b, 0, none⟩)] 25)).heap.size = w.heap.size + 1 by simp] at this
      rw [this]
      rfl)
  clear hq hI hrm
  go_enter Tryd.func21, Tryd.ntmps21
  go_wp2
  generalize (w.alloc (.cells #[.pointer (some ⟨b, 0, none⟩)] 25)).alloc (.cells #[.bool false, .bool false, .bool false, .bool false, .bool false, .bool false, .bool false, .bool false, .bool false] 91) = w1 at *
  go_loopg [13] l.length (fun q v wr => ∃ p : Nat, v = .int .i64 p ∧ Hid (GnR w 88 (.pointer (some ⟨b, 0, none⟩)) n m A l p wr) ∧ Hid (p ≤ l.length ∧ q + p = l.length ∧ ∀ q, q < p → 1 ≤ l.getD q 0 ∧ l.getD q 0 ≤ n))
  case atStart => exact ⟨0, by simp, HS.out, by omega, by omega, fun q h => by omega⟩
  case round =>
    clear HS
    obtain ⟨p, rfl, HR, HP⟩ := hrel
    have cz := HR.out.2.2.2.1
    by_cases hp : p < l.length
    · obtain ⟨b', off, rfl, c1⟩ := HR.out.2.2.1 p hp
      have hpi : (p : Int) < (l.length : Int) := by omega
      obtain ⟨x, hx⟩ : ∃ x, x = l.getD p 0 := ⟨_, rfl⟩
      rw [← hx] at c1
      have HX := Lib.hid hx
      clear hx
      by_cases h1 : x < 1
      · have d1 : decide (x < 1) = true := decide_eq_true h1
        have HEQ := Lib.hid (show goneP n m l = (none, 12) by unfold goneP; rw [clkE_no hp (by rw [← HX.out]; omega), if_neg (by simp)])
        clear h1
        go_wp2
        go_ret2
        rw [HEQ.out]
        exact ⟨HR.out.1, .pointer none, rfl, rfl⟩
      · have d1 : decide (x < 1) = false := decide_eq_false h1
        by_cases h2 : (n : Int) < x
        · have d2 : decide ((n : Int) < x) = true := decide_eq_true h2
          have HEQ := Lib.hid (show goneP n m l = (none, 12) by unfold goneP; rw [clkE_no hp (by rw [← HX.out]; omega), if_neg (by simp)])
          clear h1 h2
          go_wp2_with fail
          refine (HD.out _ HR.out.2.1).mono ?_
          rintro e w2 ⟨rfl, rfl⟩
          go_wp2
          go_ret2
          rw [HEQ.out]
          exact ⟨HR.out.1, .pointer none, rfl, rfl⟩
        · have d2 : decide ((n : Int) < x) = false := decide_eq_false h2
          obtain ⟨y, rfl⟩ : ∃ y : Nat, x = y := ⟨x.toNat, by omega⟩
          have HOK := Lib.hid (show 1 ≤ (y : Int) ∧ (y : Int) ≤ n by omega)
          have y9 : (y : Int) < 9 := by omega
          have d3 : decide (n < y) = false := decide_eq_false (by omega)
          have HN2 := Lib.hid (HR.out.mark HZ.out HI.out hp HX.out.symm (show y < 9 by omega))
          have c2 := HR.out.2.2.2.2.cell y (by omega)
          have f2 := HR.out.2.2.2.2.frozen y
          have hlt := HR.out.2.2.2.2.lt
          clear h1 h2
          go_wp2_with fail
          refine (HD.out _ HR.out.2.1).mono ?_
          rintro e w2 ⟨rfl, rfl⟩
          go_wp2
          go_roundg (gk - 1)
          case measure => have h := HP.out; omega
          case rel =>
            refine ⟨p + 1, by go_num, HN2.out, by omega, by have h := HP.out; omega, fun q hq => ?_⟩
            by_cases e : q = p
            · subst e; rw [← HX.out]; exact HOK.out
            · exact HP.out.2.2 q (by omega)
    · have e : p = l.length := by have := HP.out.1; omega
      subst e
      have HCK := Lib.hid (clkE_all HP.out.2.2)
      clear HP
      go_wp2_with fail
      refine (HE.out _ HR.out.2.1).mono ?_
      rcases HQ.out with hz | hz
      · have HZE := Lib.hid (show emptyP (some (n, m)) = true by rw [hz]; rfl)
        have HEQ := Lib.hid (show goneP n m l = ofP n (flat n m) by unfold goneP; rw [if_pos HCK.out, if_pos (by rw [hz]; decide)])
        rw [HZE.out]
        clear hz
        rintro e w2 ⟨rfl, rfl⟩
        have hlen : (flat n m).length = (n + 1) * (n + 1) := flat_length n m
        obtain ⟨N, hN⟩ : ∃ N, N = (n + 1) * (n + 1) := ⟨_, rfl⟩
        have hN81 : N ≤ 81 := by
          have := Nat.mul_le_mul (show n + 1 ≤ 9 by omega) (show n + 1 ≤ 9 by omega)
          omega
        have hN0 : 0 < N := by rw [hN]; exact Nat.mul_pos (by omega) (by omega)
        rw [← hN] at hlen
        have HLEN := Lib.hid hlen
        clear hlen hN
        have HRD := Lib.hid (HR.out.step (Below.drew (Below.refl wr.heap.size wr)))
        have k := HRD.out
        go_wp2_with fail
        go_region_held3 (fun w' => GnR w 88 (.pointer (some ⟨b, 0, none⟩)) n m A l l.length w' ∧ w'.cell? ⟨w.heap.size, 0, none⟩ = some (.pointer (some ⟨b, 0, none⟩))) (first | exact ⟨k, k.2.2.2.1⟩ | go_keep)
          (first | (go_at_call 36; refine (HD.out _ (by exact k.2.1)).mono ?_; rintro e w2 ⟨rfl, rfl⟩) | (go_at_call 18; refine (HC.out _ (by exact k.2.1)).mono ?_; rintro e w3 ⟨lv, rfl, hb, ho⟩; obtain ⟨g1, cp1, hv, _, hrow⟩ := ho.row (by rw [HLEN.out]; exact hN0); rw [HLEN.out] at hv; subst hv; have k := k.step hb; have HRW := Lib.hid hrow; clear hb ho hrow) | (go_at_call 33; refine (gone_of HRM.out HLEN.out hN81 HRW.out).mono ?_; rintro e w4 hz; have HZ4 := Lib.hid hz; obtain ⟨hb, v, rfl, hv⟩ := hz; have k := k.step hb; clear hb hv))
        have HB4 := Lib.hid k.1
        clear k
        go_wp2
        go_ret2
        rw [HEQ.out]
        exact ⟨HB4.out, HZ4.out.2⟩
      · have HZE := Lib.hid (show emptyP (some (n, m)) = false from hz.notEmpty)
        have HEQ := Lib.hid (show goneP n m l = ofP n (flat n (offM (goneF l m) m)) by unfold goneP; rw [if_pos HCK.out, if_neg (by rw [hz.full.one 0 (Nat.zero_le _)]; omega)])
        have HBG := Lib.hid (show BAt wr (w.heap.size + 1) (goneB l) by have := HR.out.2.2.2.2; rw [List.take_length] at this; exact this)
        have HEA := Lib.hid (each_gone (.pointer (some ⟨b, 0, none⟩)) n m (w.heap.size + 1) w.heap.size l wr HR.out.2.1 HBG.out cz (gone_closed HCK.out hz).full.right)
        rw [HZE.out]
        clear hz
        rintro e w2 ⟨rfl, rfl⟩
        go_wp2_with fail
        refine HEA.out.mono ?_
        rintro e w4 hz
        have HZ4 := Lib.hid hz
        obtain ⟨hb, v, rfl, hv⟩ := hz
        have HB4 := Lib.hid (HR.out.step hb).1
        clear hb hv
        go_wp2
        go_ret2
        rw [HEQ.out]
        exact ⟨HB4.out, HZ4.out.2⟩

theorem gone_any (v : Value) (z : Option (Nat × Mat)) (A : Option Addr) (c : Nat) (l : List Int) (w : World) (h : ZoneV 88 w v z) (hz : ∀ n m, z = some (n, m) → GoneK n m) (hI : Ints w .i64 A l) (hmax : l.length ≤ 4611686018427387904) :
    Calls Tryd.prog 21 #[v, .slice A l.length c] w (MakesZ w (dimN z) (goneA z l)) := by
  match z, h, hz with
  | none, h, _ =>
    have h : v = .pointer none := h
    subst h
    exact (gone_nil A c l w).mono fun e w' ⟨he, hw⟩ => ⟨hw, .pointer none, he, rfl⟩
  | some (n, m), h, hz => exact gone_zone v n m A c l w h (hz n m rfl) hI hmax

end Go.Proofs.YtncgapnooabdgaaDoor
