/- What BoundSums tells. -/
import Derived.Test.YtdeblempnmklfaaDoorLm
import Derived.Test.YtdeblempnmklfaaDoorBl
import Derived.Test.YtdeblempnmklfaaDoorAp
namespace Go.Proofs.YtdeblempnmklfaaDoor
open Go Go.RowKit
set_option linter.unusedVariables false
set_option linter.unusedSimpArgs false

set_option maxRecDepth 100000 in
set_option maxHeartbeats 1000000 in
theorem radd01_any (a b : Int) (w : World) (ka : -2147483648 ≤ a ∧ a ≤ 2147483647) (kb : -2147483648 ≤ b ∧ b ≤ 2147483647) : Calls Tryd.prog 20 #[.int .i32 a, .int .i32 b] w (Gives w (sumP [a, b])) := by
  have HJ := Lib.hid (ints_two w 22 a b)
  have HB := Lib.hid ((Below.refl w.heap.size w).alloc (Nat.le_refl _) (.cells #[.int .i32 a, .int .i32 b] 22))
  obtain ⟨r, hr⟩ : ∃ r, r = sumP [a, b] := ⟨_, rfl⟩
  have HS := Lib.hid (fun w' hI => rsum_any (some ⟨w.heap.size, 0, none⟩) 2 [a, b] w' hI (by simp) (fun q hq => by
    have hq : q < 2 := hq
    match q, hq with
    | 0, _ => exact ka
    | 1, _ => exact kb))
  rw [← hr] at HS ⊢
  clear hr ka kb
  go_enter Tryd.func20, Tryd.ntmps20
  go_wp2_with fail
  refine (HS.out _ HJ.out).mono ?_
  rintro e w1 ⟨rfl, rfl⟩
  go_wp2
  go_ret2
  exact ⟨rfl, HB.out⟩

set_option maxRecDepth 100000 in
set_option maxHeartbeats 1000000 in
theorem rnot_any (b : Int) (w : World) (h0 : -2147483648 ≤ b) (h1 : b ≤ 2147483647) : Calls Tryd.prog 23 #[.int .i32 b] w (Makes (notP b) w) := by
  by_cases h : someB b = true
  · have e : notP b = (1 - b, 0) := by
      obtain ⟨hr, hn⟩ : rightB b = true ∧ b ≠ 2147483647 := by simpa [someB] using h
      have hb := rightB_bd hr hn
      rw [notP_yes h]
      unfold ofB
      rw [if_neg (by omega)]
      by_cases e : b % 2 = 1
      · simp [e]; omega
      · simp [e]; omega
    rw [e]
    exact rnot_yes b w h
  · have h : someB b = false := by simpa using h
    have HV := Lib.hid (fun w => rvalue_no b w h h0 h1)
    have HR := Lib.hid (fun w => rright_any b w h0 h1)
    by_cases hn : b = 2147483647
    · subst hn
      rw [show notP 2147483647 = (0, 4) by decide +kernel]
      rw [show rightB 2147483647 = true by decide +kernel] at HR
      clear h h0 h1
      go_enter Tryd.func23, Tryd.ntmps23
      go_wp2_with (first | (go_at_call 19; refine (HR.out _).mono ?_; rintro e w' ⟨rfl, rfl⟩) | (go_at_call 17; refine (HV.out _).mono ?_; rintro e w' ⟨rfl, rfl⟩))
      go_ret2
      exact ⟨rfl, rfl⟩
    · have hr : rightB b = false := by simpa [someB, hn] using h
      rw [show notP b = (0, 7) by unfold notP; simp [h, hr]]
      rw [hr] at HR
      clear h hr hn h0 h1
      go_enter Tryd.func23, Tryd.ntmps23
      go_wp2_with (first | (go_at_call 19; refine (HR.out _).mono ?_; rintro e w' ⟨rfl, rfl⟩) | (go_at_call 17; refine (HV.out _).mono ?_; rintro e w' ⟨rfl, rfl⟩))
      go_ret2
      exact ⟨rfl, rfl⟩

set_option maxRecDepth 100000 in
set_option maxHeartbeats 1000000 in
theorem rleast_any (A : Option Addr) (c : Nat) (l : List Int) (w : World) (hI : Ints w .i32 A l) (hmax : l.length ≤ 4611686018427387904) :
    Calls Tryd.prog 25 #[.slice A l.length c] w fun e w' => e = .returned (.int .i32 (minUp 2147483647 l l.length)) ∧ w = w' := by
  have HI := Lib.hid hI
  clear hI
  go_enter Tryd.func25, Tryd.ntmps25
  go_wp2
  go_loopg [3, 4] l.length (fun g x v wr => ∃ p : Nat, v = .int .i64 p ∧ x = .int .i32 (minUp 2147483647 l p) ∧ w = wr ∧ Hid (p ≤ l.length ∧ g + p = l.length))
  case atStart => exact ⟨0, by simp, rfl, rfl, by omega, by omega⟩
  case round =>
    obtain ⟨p, rfl, rfl, rfl, HG⟩ := hrel
    obtain ⟨m, hm⟩ : ∃ m, m = minUp 2147483647 l p := ⟨_, rfl⟩
    rw [← hm]
    have HM := Lib.hid hm
    clear hm
    by_cases hp : p < l.length
    · obtain ⟨b, off, rfl, hc⟩ := HI.out p hp
      obtain ⟨x, hx⟩ : ∃ x, x = l.getD p 0 := ⟨_, rfl⟩
      rw [← hx] at hc
      have HX := Lib.hid hx
      clear hx
      have hpi : (p : Int) < (l.length : Int) := by omega
      by_cases hl : x < m
      · go_wp2
        go_roundg (gk - 1)
        case measure => have h := HG.out; omega
        case rel => exact ⟨p + 1, by go_num, by rw [show minUp 2147483647 l (p + 1) = min (minUp 2147483647 l p) (l.getD p 0) from rfl, ← HX.out, ← HM.out, Int.min_eq_right (by omega)], rfl, by omega, by have h := HG.out; omega⟩
      · go_wp2
        go_roundg (gk - 1)
        case measure => have h := HG.out; omega
        case rel => exact ⟨p + 1, by go_num, by rw [show minUp 2147483647 l (p + 1) = min (minUp 2147483647 l p) (l.getD p 0) from rfl, ← HX.out, ← HM.out, Int.min_eq_left (by omega)], rfl, by omega, by have h := HG.out; omega⟩
    · have e : p = l.length := by have := HG.out.1; omega
      subst e
      go_wp2
      go_ret
      exact ⟨by rw [HM.out]; rfl, rfl⟩

theorem info01 : (Tryd.prog.info? 22).map (fun i => (i.zero, i.size, i.bytes)) = some (some (.int .i32 0), 1, 4) := by kernel_rfl
theorem below_new {w w' : World} (h : w.grownBy w' none) : Below w.heap.size w w' := (Below.refl w.heap.size w).grown h (Nat.le_refl _) (fun k hk => by cases hk)

set_option maxRecDepth 100000 in
set_option maxHeartbeats 2000000 in
theorem sums_law (a b : Int) (A : Option Addr) (c : Nat) (l : List Int) (w : World) (ka : -2147483648 ≤ a ∧ a ≤ 2147483647) (kb : -2147483648 ≤ b ∧ b ≤ 2147483647) (hI : Ints w .i32 A l) (hs : l.length * 4 ≤ 140737488351232)
    (hk : ∀ q, q < l.length → -2147483648 ≤ l.getD q 0 ∧ l.getD q 0 ≤ 2147483647) (ht : Tab w) :
    Calls Tryd.prog 5 #[.int .i32 a, .int .i32 b, .slice A l.length c] w fun e w' => e = .returned (.bool true) ∧ Below w.heap.size w w' := by
  have hmx : l.length ≤ 4611686018427387904 := by omega
  have HAD := Lib.hid (fun w => add_any a b w)
  have HRA := Lib.hid (fun w => radd01_any a b w ka kb)
  have HSU := Lib.hid (fun A c w hI => sum_any A c l w hI hmx)
  have HRS := Lib.hid (fun A c w hI => rsum_any A c l w hI hmx hk)
  have HNO := Lib.hid (fun w => not_any a w)
  have HRN := Lib.hid (fun w => rnot_any a w ka.1 ka.2)
  have HLE := Lib.hid (fun A c w hI => least_any A c l w hI hmx)
  have HRL := Lib.hid (fun A c w hI => rleast_any A c l w hI hmx)
  obtain ⟨i0, hi1, hz0, hz1, hz2⟩ := info_parts info01
  obtain ⟨v1, w1, hrun1, hown1, hgr1⟩ := run_append_fresh (P := Tryd.prog) w 34 34 22 i0 (.int .i32 0) 1 4 Tryd.underlying34 hi1 hz0 hz1 hz2 rfl (by decide) A l.length c (vals .i32 l) (by simp [vals])
    (fun e => by
      rcases Nat.eq_zero_or_pos l.length with h0 | h0
      · exact h0
      · obtain ⟨b, off, e', _⟩ := hI 0 h0
        rw [e] at e'; cases e') (ints_news hI) (by intro u hu; obtain ⟨x, _, rfl⟩ := List.mem_map.1 hu; rfl) (by unfold maxLen; omega) (by omega)
  have hb1 := below_new hgr1
  have hown1' : OwnI w1 w.heap.size 22 .i32 v1 l := hown1
  obtain ⟨A1, c1, rfl, hi1'⟩ := hown1'.slice
  have HG := Lib.hid ((((Bag.start hb1).add (hI.below hb1) (stable_ints .i32 A l)).add hi1' (stable_ints .i32 A1 l)).add (ht.below hb1) (fun _ _ h hb => Tab.below h hb))
  have HR1 := Lib.hid hrun1
  clear hI hk hi1 hz0 hz1 hz2 hown1 hgr1 hb1 hown1' hi1' hrun1 ht ka kb
  generalize sumP [a, b] = r1 at *
  generalize sumP l = r2 at *
  generalize notP a = r3 at *
  generalize minUp 2147483647 l l.length = m at *
  obtain ⟨x1, e1⟩ := r1
  obtain ⟨x2, e2⟩ := r2
  obtain ⟨x3, e3⟩ := r3
  go_enter Tryd.func5, Tryd.ntmps5
  go_wp2_with (at_builtin; refine wpList_append_run rfl _ _ 34 rfl _ _ _ w1 rfl rfl HR1.out ?_)
  refine (HAD.out _).mono ?_
  rintro e w2 ⟨rfl, hb⟩
  have HG2 := Lib.hid (HG.out.step hb)
  clear hb HG
  go_wp2_with fail
  refine (HRA.out _).mono ?_
  rintro e w3 ⟨rfl, hb⟩
  have HG3 := Lib.hid (HG2.out.step hb)
  clear hb HG2
  go_wp2_with fail
  refine (HSU.out _ _ _ (HG3.out.at 1 rfl)).mono ?_
  rintro e w4 ⟨rfl, hb⟩
  have HG4 := Lib.hid (HG3.out.step hb)
  clear hb HG3
  go_wp2_with fail
  refine (HRS.out _ _ _ (HG4.out.at 2 rfl)).mono ?_
  rintro e w5 ⟨rfl, rfl⟩
  go_wp2_with fail
  refine (HNO.out _).mono ?_
  rintro e w5 ⟨rfl, rfl⟩
  go_wp2_with fail
  refine (HRN.out _).mono ?_
  rintro e w5 ⟨rfl, rfl⟩
  go_wp2_with fail
  refine (live01_any _ (HG4.out.at 0 rfl)).mono ?_
  rintro e w5 ⟨rfl, hb⟩
  have HG5 := Lib.hid (HG4.out.step hb)
  clear hb HG4
  go_wp2_with fail
  refine (HLE.out _ _ _ (HG5.out.at 1 rfl)).mono ?_
  rintro e w6 ⟨rfl, rfl⟩
  go_wp2_with fail
  refine (HRL.out _ _ _ (HG5.out.at 2 rfl)).mono ?_
  rintro e w6 ⟨rfl, rfl⟩
  have HLA := Lib.hid (HG5.out.at 1 rfl)
  have HLB := Lib.hid (HG5.out.at 2 rfl)
  clear HAD HRA HSU HRS HNO HRN HLE HRL
  go_wp2
  go_loopg [20] l.length (fun g x wr => ∃ p q : Nat, x = .int .i64 p ∧ wr = w5.drewN q ∧ Hid (p ≤ l.length ∧ g + p = l.length))
  case atStart => exact ⟨0, 0, by simp, rfl, by omega, by omega⟩
  case round =>
    obtain ⟨t, q, rfl, rfl, HC⟩ := hrel
    by_cases htl : t < l.length
    · obtain ⟨b2, o2, e2, c20⟩ := (show Ints w5 .i32 A1 l from HLA.out) t htl
      obtain ⟨b1, o1, e1, c10⟩ := (show Ints w5 .i32 A l from HLB.out) t htl
      subst e1 e2
      obtain ⟨xx, hxx⟩ : ∃ xx, xx = l.getD t 0 := ⟨_, rfl⟩
      rw [← hxx] at c10 c20
      have htt : (t : Int) < (l.length : Int) := by omega
      clear hxx
      go_wp2_with fail
      go_quiet (fail)
      go_wp2
      go_roundg (gk - 1)
      case measure => have h := HC.out; omega
      case rel => exact ⟨t + 1, _, by go_num, rfl, by omega, by have h := HC.out.2; omega⟩
    · have htt : ¬ (t : Int) < (l.length : Int) := by omega
      go_wp2
      go_ret
      exact ⟨rfl, (HG5.out.drewN q).below⟩

end Go.Proofs.YtdeblempnmklfaaDoor
