/- Of the statements' text: nowhere; beyond; the document's Add. -/
import Derived.Test.YtgpmfnahjepjjaaPf
import Derived.Test.YtgpmfnahjepjjaaRi
import Derived.Test.YtgpmfnahjepjjaaAp
import Derived.Test.YtgpmfnahjepjjaaLh
namespace Go.Proofs.Ytgpmfnahjepjjaa
open Go Go.RowKit
set_option linter.unusedVariables false
set_option linter.unusedSimpArgs false

set_option maxRecDepth 100000 in
set_option maxHeartbeats 1000000 in
theorem nowhere_any (A : Option Addr) (c : Nat) (B : Option Addr) (d N : Nat) (xs ys : List Int) (w : World) (hI : Ints w .i32 A xs) (hI' : Ints w .i32 B ys) (hx : xs.length = N) (hy : ys.length = N) (hN : N ≤ 1000) :
    Calls Try.prog 37 #[.slice A N c, .slice B N d] w fun e w' => e = .returned (.bool (leL ys xs)) ∧ ∃ q, w' = w.drewN q := by
  have HI := Lib.hid hI
  have HI' := Lib.hid hI'
  have HX := Lib.hid hx
  have HY := Lib.hid hy
  clear hI hI' hx hy
  go_enter Try.func37, Try.ntmps37
  go_wp2
  go_loopg [5] N (fun g x wr => ∃ p k : Nat, x = .int .i64 p ∧ wr = w.drewN k ∧ Hid (p ≤ N ∧ g + p = N ∧ ∀ q, q < p → ys.getD q 0 ≤ xs.getD q 0))
  case atStart => exact ⟨0, 0, by simp, rfl, by omega, by omega, fun q h => by omega⟩
  case round =>
    obtain ⟨p, k, rfl, rfl, HG⟩ := hrel
    by_cases hp : p < N
    · have hpi : (p : Int) < (N : Int) := by omega
      obtain ⟨b1, o1, rfl, c1⟩ := HI.out p (by rw [HX.out]; exact hp)
      obtain ⟨b2, o2, rfl, c2⟩ := HI'.out p (by rw [HY.out]; exact hp)
      obtain ⟨x, hx⟩ : ∃ x, x = xs.getD p 0 := ⟨_, rfl⟩
      obtain ⟨y, hy⟩ : ∃ y, y = ys.getD p 0 := ⟨_, rfl⟩
      rw [← hx] at c1
      rw [← hy] at c2
      have HXX := Lib.hid hx
      have HYY := Lib.hid hy
      clear hx hy
      by_cases hlt : x < y
      · have t1 : decide (x < y) = true := decide_eq_true hlt
        have hf : leL ys xs = false := decide_eq_false fun h => by
          have := h p (by rw [HX.out]; exact hp)
          rw [← HXX.out, ← HYY.out] at this
          omega
        have HF := Lib.hid hf
        clear hlt hf
        go_wp2_with fail
        go_quiet (fail)
        go_wp2
        go_ret
        exact ⟨by rw [HF.out]; rfl, _, World.drewN_drewN _ _ _⟩
      · have t1 : decide (x < y) = false := decide_eq_false hlt
        have HLT := Lib.hid hlt
        clear hlt
        go_wp2_with fail
        go_quiet (fail)
        go_wp2
        go_roundg (gk - 1)
        case measure => have h := HG.out; omega
        case rel =>
          refine ⟨p + 1, _, by go_num, rfl, by omega, by have h := HG.out.2.1; omega, fun q hq => ?_⟩
          by_cases e : q = p
          · subst e; rw [← HXX.out, ← HYY.out]; have := HLT.out; omega
          · exact HG.out.2.2 q (by omega)
    · have hpi : ¬ (p : Int) < (N : Int) := by omega
      have hf : leL ys xs = true := decide_eq_true fun q hq => HG.out.2.2 q (by have := HG.out.1; rw [HX.out] at hq; omega)
      have HF := Lib.hid hf
      clear hf
      go_wp2
      go_ret
      exact ⟨by rw [HF.out]; rfl, _, rfl⟩

set_option maxRecDepth 100000 in
set_option maxHeartbeats 1000000 in
theorem radd_any (a b : Int) (w : World) (ha : -2147483648 ≤ a ∧ a ≤ 2147483647) (hb : -2147483648 ≤ b ∧ b ≤ 2147483647) :
    Calls Try.prog 35 #[.int .i32 a, .int .i32 b] w fun e w' => e = .returned (.tuple #[.int .i32 (sumP [a, b]).1, .int .i64 (sumP [a, b]).2]) ∧ w' = w.alloc (.cells #[.int .i32 a, .int .i32 b] 37) := by
  have HS := Lib.hid (rsum_any (some ⟨w.heap.size, 0, none⟩) 2 [a, b] (w.alloc (.cells #[.int .i32 a, .int .i32 b] 37)) (RowAt.ints (e := 37) ⟨_, heap_alloc_new _ _, by simp [vals]⟩) (by simp) (fun q hq => by
    rcases (show q = 0 ∨ q = 1 by simp at hq; omega) with rfl | rfl
    · exact ha
    · exact hb))
  obtain ⟨o1, ho1⟩ : ∃ o, o = (sumP [a, b]).1 := ⟨_, rfl⟩
  obtain ⟨o2, ho2⟩ : ∃ o, o = (sumP [a, b]).2 := ⟨_, rfl⟩
  rw [← ho1, ← ho2] at HS ⊢
  clear ho1 ho2 ha hb
  go_enter Try.func35, Try.ntmps35
  go_wp2_with fail
  refine HS.out.mono ?_
  rintro e w' ⟨rfl, rfl⟩
  go_wp2
  go_ret2
  exact ⟨rfl, rfl⟩

theorem stable_rowat' (g : Nat) (e : TypeId) (k : IntKind) (xs : List Int) : Stable fun w => RowAt w g e k xs := fun _ _ h hb => h.later hb
theorem rof_pair {w w' : World} {n : Nat} {r : Option Mat × Int} {o : Option Mat} {x : Int} {e : Ending} (h : MakesR w n r e w') (hr : r = (o, x)) : Below w.heap.size w w' ∧ ∃ v, e = .returned (.tuple #[v, .int .i64 x]) ∧ RefZ w' v (o.map fun m => (n, m)) := by
  subst hr; exact h

set_option maxRecDepth 100000 in
set_option maxHeartbeats 2000000 in
/-- The rest of beyond, behind the bound. -/
theorem beyond_any (n : Nat) (A : Option Addr) (c : Nat) (M m m' : Mat) (i j : Nat) (b : Int) (w : World) (hn : n ≤ 8) (hI : Ints w .i32 A (flat n m)) (hcl : Closed n M m') (h0 : ∀ j, j ≤ n → M 0 j ≤ 1) (ha : allR n m') (hz : m = narM n m') (hrm : RightM n m)
    (hi : i ≤ n) (hj : j ≤ n) (hb : rightB b = true) (hlt : b < m i j) :
    Calls Try.prog 36 #[.int .i64 n, .slice A ((n + 1) * (n + 1)) c, .int .i64 i, .int .i64 j, .int .i32 b] w fun e w' => e = .returned (.bool true) ∧ Below w.heap.size w w' := by
  have HB := Lib.hid (beyond_pure hn hcl h0 ha hz hrm hi hj hb hlt)
  have hbn : b ≠ 2147483647 := by
    have := hrm i j hi hj
    unfold rightB at this
    have := of_decide_eq_true this
    omega
  have hbb := rightB_bd hb hbn
  have HNT := Lib.hid (fun w => rnot_yes b w (by simp [someB, hb, hbn]))
  obtain ⟨N, hN⟩ : ∃ N : Nat, N = (n + 1) * (n + 1) := ⟨_, rfl⟩
  have hN81 : N ≤ 81 := by
    have := Nat.mul_le_mul (show n + 1 ≤ 9 by omega) (show n + 1 ≤ 9 by omega)
    omega
  obtain ⟨xs, hxs⟩ : ∃ xs, xs = flat n m := ⟨_, rfl⟩
  have hlx : xs.length = N := by rw [hxs, flat_length, hN]
  rw [← hxs] at hI HB
  have hN0 : 0 < N := by rw [hN]; exact Nat.mul_pos (by omega) (by omega)
  rw [← hN]
  have HN := Lib.hid hN
  obtain ⟨i0, hi1, hz0, hz1, hz2⟩ := info_parts infoRB
  obtain ⟨v1, w1, hrun1, hown1, hgr1⟩ := run_append_fresh (P := Try.prog) w 22 22 37 i0 (.int .i32 0) 1 4 Try.underlying22 hi1 hz0 hz1 hz2 rfl (by decide) A N c (vals .i32 xs) (by simp [vals, hlx])
    (fun e => by
      obtain ⟨b, off, e', _⟩ := hI 0 (by omega)
      rw [e] at e'; cases e') (ints_news hI) (by intro u hu; obtain ⟨x, _, rfl⟩ := List.mem_map.1 hu; rfl) (by unfold maxLen; omega) (by omega)
  have hb1 := below_grown hgr1
  have hown : OwnI w1 w.heap.size 37 .i32 v1 xs := by unfold OwnI; rw [hlx]; exact hown1
  obtain ⟨g, cap, rfl, hg, hrow⟩ := hown.row (by omega)
  rw [hlx] at hrun1
  have HR1 := Lib.hid hrun1
  have HG := Lib.hid ((Bag.start hb1).add hrow (stable_rowat' _ _ _ _))
  have HROW := Lib.hid hrow
  have HB1 := Lib.hid hb1
  have HGE := Lib.hid hg
  obtain ⟨P, hP, hP1, hP2, hP3⟩ := prod_facts j n hj hn
  have hPN : P + n < N := by omega
  have hc := hrow.cell (P + i) (by omega)
  have hf := hrow.frozen (P + i)
  obtain ⟨y, hy⟩ : ∃ y, y = xs.getD (P + i) 0 := ⟨_, rfl⟩
  rw [← hy] at hc
  have HY := Lib.hid hy
  have HP2 := Lib.hid hP2
  have HLX := Lib.hid hlx
  have l1 : (P : Int) + (i : Int) < (N : Int) := by omega
  have l3 : 0 ≤ (P : Int) + (i : Int) := by omega
  have n1 : ((P : Int) + (i : Int)).toNat = P + i := by omega
  obtain ⟨hbb0, hbb1⟩ := hbb
  obtain ⟨L, hL⟩ : ∃ L, L = lowL xs (j * (n + 1) + i) (1 - b) := ⟨_, rfl⟩
  rw [← hL] at HB
  have hLE : L = if 1 - b < y then xs.set (P + i) (1 - b) else xs := by rw [hL, hy]; unfold lowL; rw [← hP2]
  have HLE := Lib.hid hLE
  clear hI hcl h0 ha hz hrm hb hlt hbn hxs hlx hrun1 hown1 hgr1 hb1 hown hrow hg hy hP2 hP3 hL hLE hi1 hz0 hz1 hz2 hN hN0
  -- what is left, once the row is lowered
  have hrest : ∀ w2, Below w.heap.size w w2 → RowAt w2 g 37 .i32 L → True := fun _ _ _ => trivial
  clear hrest
  have HLW := Lib.hid (show (1 - b < y → RowAt (w1.setCell ⟨g, P + i, none⟩ (.int .i32 (1 - b))) g 37 .i32 L) ∧ (¬ 1 - b < y → RowAt w1 g 37 .i32 L) from
    ⟨fun h => by have := HROW.out.set (P + i) (1 - b); rw [HLE.out, if_pos h]; exact this, fun h => by rw [HLE.out, if_neg h]; exact HROW.out⟩)
  have HBW := Lib.hid (HB1.out.setCell (p := ⟨g, P + i, none⟩) HGE.out (.int .i32 (1 - b)))
  have hw : (1 - b < y) ∨ ¬ (1 - b < y) := by omega
  have HCALL := Lib.hid (fun (w2 : World) (h : RowAt w2 g 37 .i32 L) => rof_len n (some ⟨g, 0, none⟩) cap N L w2 (by rw [HB.out.length, ← HN.out]) h.ints (by omega) (fun q hq => right_bd32 (HB.out.right q (by rw [HB.out.length] at hq; exact hq))))
  clear HG HROW
  rcases hw with hlt | hlt
  · have t1 : decide (1 - b < y) = true := decide_eq_true hlt
    have HG2 := Lib.hid ((Bag.start HBW.out).add (HLW.out.1 hlt) (stable_rowat' _ _ _ _))
    clear HLW HLE hlt
    go_enter Try.func36, Try.ntmps36
    go_wp2_with (first | (go_at_call 57; refine (HNT.out _).mono ?_; rintro e w' ⟨rfl, rfl⟩) | (at_builtin; refine wpList_append_run rfl _ _ 22 rfl _ _ _ w1 rfl rfl HR1.out ?_))
    generalize w1.setCell ⟨g, P + i, none⟩ (.int .i32 (1 - b)) = w2 at *
    refine (HCALL.out _ (HG2.out.at 0 rfl)).mono ?_
    rintro e w3 hmk
    rcases HB.out.ends with he | ⟨z, m2, he, hs, hall, hz, hrm, hz1, hk⟩
    · obtain ⟨hb3, v3, rfl, _⟩ := rof_pair hmk he
      have HG3 := Lib.hid (HG2.out.step hb3)
      clear hmk hb3 he HG2 HBW
      go_wp2
      go_ret
      exact ⟨rfl, HG3.out.below⟩
    · obtain ⟨hb3, v3, rfl, hv3⟩ := rof_pair hmk he
      have HG3 := Lib.hid ((HG2.out.step hb3).add hv3 (stable_ref v3 (some (n, z))))
      have HS := Lib.hid hs
      have HALL := Lib.hid hall
      have HZ := Lib.hid hz
      have HRM := Lib.hid hrm
      have HZ1 := Lib.hid hz1
      have HK := Lib.hid hk
      have HIG := Lib.hid (inside_good hn hs hall hz)
      clear hmk hb3 hv3 he HG2 hs hall hz hrm hz1 hk HBW
      go_wp2_with fail
      refine (rempty_any _ _ _ (HG3.out.at 0 rfl)).mono ?_
      rw [show emptyR (some (n, z)) = false from decide_eq_false (fun h => h HZ1.out)]
      rintro e w4 ⟨rfl, rfl⟩
      go_wp2_with fail
      refine (rcells_any _ _ _ (HG3.out.at 0 rfl)).mono ?_
      rintro e w5 ⟨l5, rfl, hb5, ho5⟩
      have ho5 : OwnI w5 w3.heap.size 37 .i32 l5 (flat n z) := ho5
      obtain ⟨A5, c5, rfl, hi5⟩ := ho5.slice
      rw [flat_length, ← HN.out]
      have HG5 := Lib.hid ((HG3.out.step hb5).add hi5 (stable_ints .i32 A5 (flat n z)))
      clear hb5 ho5 hi5 HG3
      have hin := inside_any n A5 c5 (flat n z) (solU n m2) w5 hn (HG5.out.at 0 rfl) (flat_length _ _) (flat_rights HRM.out) HIG.out.1 HIG.out.2.1
      rw [← HN.out] at hin
      have HIN := Lib.hid hin
      clear hin
      go_wp2_with fail
      refine HIN.out.mono ?_
      rintro e w6 ⟨c6, rfl, hb6, hr6⟩
      have HG6 := Lib.hid ((HG5.out.step hb6).add hr6.ints (stable_ints _ _ _))
      clear hb6 hr6 HG5 HIN
      have hkp := keeps_any n (some ⟨g, 0, none⟩) cap L (some ⟨w5.heap.size, 0, none⟩) c6 (lst n (insR n ((n : Int) + 1) (widC n (flat n z)) (n + 2))) ((n : Int) + 1) w6 hn (HG6.out.at 3 rfl).ints (HG6.out.at 0 rfl) HB.out.length (lst_length _ _) HB.out.right (lst_bd HIG.out.2.2.2) (by omega) (by omega)
      rw [HK.out, ← HN.out] at hkp
      have HKP := Lib.hid hkp
      clear hkp
      go_wp2_with fail
      refine HKP.out.mono ?_
      rintro e w7 ⟨rfl, q, rfl⟩
      have HG7 := Lib.hid (HG6.out.drewN q)
      clear HG6 HKP
      go_wp2
      go_ret
      exact ⟨rfl, HG7.out.below⟩
  · have t1 : decide (1 - b < y) = false := decide_eq_false hlt
    have HG2 := Lib.hid ((Bag.start HB1.out).add (HLW.out.2 hlt) (stable_rowat' _ _ _ _))
    clear HLW HLE hlt HBW
    go_enter Try.func36, Try.ntmps36
    go_wp2_with (first | (go_at_call 57; refine (HNT.out _).mono ?_; rintro e w' ⟨rfl, rfl⟩) | (at_builtin; refine wpList_append_run rfl _ _ 22 rfl _ _ _ w1 rfl rfl HR1.out ?_))
    refine (HCALL.out _ (HG2.out.at 0 rfl)).mono ?_
    rintro e w3 hmk
    rcases HB.out.ends with he | ⟨z, m2, he, hs, hall, hz, hrm, hz1, hk⟩
    · obtain ⟨hb3, v3, rfl, _⟩ := rof_pair hmk he
      have HG3 := Lib.hid (HG2.out.step hb3)
      clear hmk hb3 he HG2
      go_wp2
      go_ret
      exact ⟨rfl, HG3.out.below⟩
    · obtain ⟨hb3, v3, rfl, hv3⟩ := rof_pair hmk he
      have HG3 := Lib.hid ((HG2.out.step hb3).add hv3 (stable_ref v3 (some (n, z))))
      have HS := Lib.hid hs
      have HALL := Lib.hid hall
      have HZ := Lib.hid hz
      have HRM := Lib.hid hrm
      have HZ1 := Lib.hid hz1
      have HK := Lib.hid hk
      have HIG := Lib.hid (inside_good hn hs hall hz)
      clear hmk hb3 hv3 he HG2 hs hall hz hrm hz1 hk
      go_wp2_with fail
      refine (rempty_any _ _ _ (HG3.out.at 0 rfl)).mono ?_
      rw [show emptyR (some (n, z)) = false from decide_eq_false (fun h => h HZ1.out)]
      rintro e w4 ⟨rfl, rfl⟩
      go_wp2_with fail
      refine (rcells_any _ _ _ (HG3.out.at 0 rfl)).mono ?_
      rintro e w5 ⟨l5, rfl, hb5, ho5⟩
      have ho5 : OwnI w5 w3.heap.size 37 .i32 l5 (flat n z) := ho5
      obtain ⟨A5, c5, rfl, hi5⟩ := ho5.slice
      rw [flat_length, ← HN.out]
      have HG5 := Lib.hid ((HG3.out.step hb5).add hi5 (stable_ints .i32 A5 (flat n z)))
      clear hb5 ho5 hi5 HG3
      have hin := inside_any n A5 c5 (flat n z) (solU n m2) w5 hn (HG5.out.at 0 rfl) (flat_length _ _) (flat_rights HRM.out) HIG.out.1 HIG.out.2.1
      rw [← HN.out] at hin
      have HIN := Lib.hid hin
      clear hin
      go_wp2_with fail
      refine HIN.out.mono ?_
      rintro e w6 ⟨c6, rfl, hb6, hr6⟩
      have HG6 := Lib.hid ((HG5.out.step hb6).add hr6.ints (stable_ints _ _ _))
      clear hb6 hr6 HG5 HIN
      have hkp := keeps_any n (some ⟨g, 0, none⟩) cap L (some ⟨w5.heap.size, 0, none⟩) c6 (lst n (insR n ((n : Int) + 1) (widC n (flat n z)) (n + 2))) ((n : Int) + 1) w6 hn (HG6.out.at 3 rfl).ints (HG6.out.at 0 rfl) HB.out.length (lst_length _ _) HB.out.right (lst_bd HIG.out.2.2.2) (by omega) (by omega)
      rw [HK.out, ← HN.out] at hkp
      have HKP := Lib.hid hkp
      clear hkp
      go_wp2_with fail
      refine HKP.out.mono ?_
      rintro e w7 ⟨rfl, q, rfl⟩
      have HG7 := Lib.hid (HG6.out.drewN q)
      clear HG6 HKP
      go_wp2
      go_ret
      exact ⟨rfl, HG7.out.below⟩

end Go.Proofs.Ytgpmfnahjepjjaa
