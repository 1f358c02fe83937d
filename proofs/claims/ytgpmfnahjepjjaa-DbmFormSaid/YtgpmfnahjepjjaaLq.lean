/- What DbmForm tells. -/
import Derived.Test.YtgpmfnahjepjjaaLp
import Derived.Test.YtgpmfnahjepjjaaBy
import Derived.StillTailTactics
import Derived.Deep.RegionHeld3
namespace Go.Proofs.Ytgpmfnahjepjjaa
open Go Go.RowKit
set_option linter.unusedVariables false
set_option linter.unusedSimpArgs false

theorem shape_zero {n : Nat} {m : Mat} (h : Shape n m) (h0 : m 0 0 < 1) : m = fun _ _ => 0 := by
  rcases h.cases with e | e
  · exact e
  · have := e 0 (Nat.zero_le _)
    omega
/-- Of two zones of which one is empty. -/
theorem form_empty {n : Nat} {m o : Mat} (hn : n ≤ 8) (hm : Shape n m ∧ RightM n m) (ho : Shape n o ∧ RightM n o) (h : (decide (m 0 0 < 1) || decide (o 0 0 < 1)) = true) :
    equalP (some (n, m)) (some (n, o)) = (decide (m 0 0 < 1) && decide (o 0 0 < 1)) ∧ sameL (flat n m) (flat n o) = (decide (m 0 0 < 1) && decide (o 0 0 < 1)) ∧ inclP (some (n, m)) (some (n, o)) = decide (o 0 0 < 1) := by
  have he := equal_law (z := some (n, m)) (o := some (n, o)) hm ho (fun a b e => by simp only [Option.some.injEq, Prod.mk.injEq] at e; omega)
  have he' : eqR (some (n, m)) (some (n, o)) = sameL (flat n m) (flat n o) := by
    show (sameL (flat n m) (flat n o) && decide (n = n)) = _
    simp
  have hi := incl_law (z := some (n, m)) (o := some (n, o)) hm ho
  have hs : sameL (flat n m) (flat n o) = (decide (m 0 0 < 1) && decide (o 0 0 < 1)) := by
    unfold sameL
    rw [Bool.eq_iff_iff]
    simp only [decide_eq_true_eq, Bool.and_eq_true]
    constructor
    · intro e
      have e0 : m 0 0 = o 0 0 := by
        rw [← flat_at m (show 0 < n + 1 by omega) (show 0 < n + 1 by omega), e, flat_at _ (by omega) (by omega)]
      simp only [Bool.or_eq_true, decide_eq_true_eq] at h
      omega
    · intro ⟨h1, h2⟩
      rw [shape_zero hm.1 h1, shape_zero ho.1 h2]
  refine ⟨by rw [he, he', hs], hs, ?_⟩
  rw [hi]
  unfold inclR
  have ha : alikeP (some (n, m)) (some (n, o)) = true := decide_eq_true rfl
  rw [if_pos ha, shape_empty hm.1, shape_empty ho.1, Bool.or_comm, if_pos h]
/-- Of two that are not empty. -/
theorem form_full {n : Nat} {m o : Mat} (hn : n ≤ 8) (hm : Shape n m ∧ RightM n m) (ho : Shape n o ∧ RightM n o) (h1 : decide (m 0 0 < 1) = false) (h2 : decide (o 0 0 < 1) = false) :
    equalP (some (n, m)) (some (n, o)) = sameL (flat n m) (flat n o) ∧ inclP (some (n, m)) (some (n, o)) = leL (flat n o) (flat n m) := by
  have he := equal_law (z := some (n, m)) (o := some (n, o)) hm ho (fun a b e => by simp only [Option.some.injEq, Prod.mk.injEq] at e; omega)
  have he' : eqR (some (n, m)) (some (n, o)) = sameL (flat n m) (flat n o) := by
    show (sameL (flat n m) (flat n o) && decide (n = n)) = _
    simp
  have hi := incl_law (z := some (n, m)) (o := some (n, o)) hm ho
  refine ⟨by rw [he, he'], ?_⟩
  rw [hi]
  unfold inclR
  have ha : alikeP (some (n, m)) (some (n, o)) = true := decide_eq_true rfl
  rw [if_pos ha, shape_empty hm.1, shape_empty ho.1, h1, h2]
  rfl

set_option maxRecDepth 100000 in
set_option maxHeartbeats 2000000 in
/-- The errors' way. -/
theorem form_errs (n : Int) (A : Option Addr) (c : Nat) (cells : List Int) (B : Option Addr) (d : Nat) (other : List Int) (w : World) (hI : Ints w .i32 A cells) (hmax : cells.length ≤ 4611686018427387904)
    (hk : ∀ q, q < cells.length → -2147483648 ≤ cells.getD q 0 ∧ cells.getD q 0 ≤ 2147483647) (hI' : Ints w .i32 B other) (hmax' : other.length ≤ 4611686018427387904)
    (hk' : ∀ q, q < other.length → -2147483648 ≤ other.getD q 0 ∧ other.getD q 0 ≤ 2147483647) (hor : (ofP n cells).2 ≠ 0 ∨ ((ofP n cells).2 = 0 ∧ (ofP n other).2 ≠ 0)) :
    Calls Try.prog 8 #[.int .i64 n, .slice A cells.length c, .slice B other.length d] w fun e w' => e = .returned (.bool true) ∧ Below w.heap.size w w' := by
  have HK := Lib.hid hk
  have HK' := Lib.hid hk'
  have HG := Lib.hid (((Bag.start (Below.refl w.heap.size w)).add hI (stable_ints .i32 A cells)).add hI' (stable_ints .i32 B other))
  have HOR := Lib.hid hor
  clear hI hk hI' hk' hor
  go_enter Try.func8, Try.ntmps8
  go_wp2_with fail
  refine (of_any n A c cells _ (HG.out.at 1 rfl) hmax HK.out).mono ?_
  rintro e w1 ⟨hb, v, rfl, hv⟩
  have HG1 := Lib.hid (HG.out.step hb)
  clear hb hv HG
  obtain ⟨ea, hea⟩ : ∃ ea, ea = (ofP n cells).2 := ⟨_, rfl⟩
  rw [← hea] at HOR ⊢
  have HEA := Lib.hid hea
  clear hea
  go_wp2_with fail
  refine (of_any n B d other _ (HG1.out.at 0 rfl) hmax' HK'.out).mono ?_
  rintro e w2 ⟨hb, u, rfl, hu⟩
  have HG2 := Lib.hid (HG1.out.step hb)
  clear hb hu HG1
  obtain ⟨eb, heb⟩ : ∃ eb, eb = (ofP n other).2 := ⟨_, rfl⟩
  rw [← heb] at HOR ⊢
  have HEB := Lib.hid heb
  clear heb
  have hor : ((ea != 0) = true) ∨ (ea = 0 ∧ (eb != 0) = true) := by
    rcases HOR.out with h | ⟨h1, h2⟩
    · exact .inl (by simp [h])
    · exact .inr ⟨h1, by simp [h2]⟩
  clear HOR
  rcases hor with t1 | ⟨t0, t1⟩
  all_goals
    first | skip | subst t0
    go_wp2_with fail
    refine (rof_any n A c cells _ (HG2.out.at 1 rfl) hmax HK.out).mono ?_
    rintro e w3 ⟨hb, v3, rfl, hv3⟩
    rw [← HEA.out]
    have HG3 := Lib.hid (HG2.out.step hb)
    clear hb hv3 HG2
    go_wp2_with fail
    refine (rof_any n B d other _ (HG3.out.at 0 rfl) hmax' HK'.out).mono ?_
    rintro e w4 ⟨hb, v4, rfl, hv4⟩
    rw [← HEB.out]
    have HG4 := Lib.hid (HG3.out.step hb)
    clear hb hv4 HG3
    go_wp2_with fail
    refine (live_any _).mono ?_
    rintro e w5 ⟨rfl, hb⟩
    have HG5 := Lib.hid (HG4.out.step hb)
    clear hb HG4
    go_wp2
    go_ret
    exact ⟨rfl, HG5.out.below⟩

set_option maxRecDepth 100000 in
set_option maxHeartbeats 4000000 in
theorem form_good (k : Nat) (A : Option Addr) (c : Nat) (cells : List Int) (B : Option Addr) (d : Nat) (other : List Int) (w : World) (hI : Ints w .i32 A cells) (hmax : cells.length ≤ 4611686018427387904)
    (hk : ∀ q, q < cells.length → -2147483648 ≤ cells.getD q 0 ∧ cells.getD q 0 ≤ 2147483647) (hI' : Ints w .i32 B other) (hmax' : other.length ≤ 4611686018427387904)
    (hk' : ∀ q, q < other.length → -2147483648 ≤ other.getD q 0 ∧ other.getD q 0 ≤ 2147483647) (m o M1 : Mat) (hm : ofP k cells = (some m, 0)) (ho : ofP k other = (some o, 0)) (hk8 : k ≤ 8) 
    (hsm : Shape k m ∧ RightM k m) (hso : Shape k o ∧ RightM k o) (hf1 : Fit k 1073741824 M1) (htop : ∀ j, j ≤ k → M1 0 j ≤ 1) (hz1 : ZoneIs k M1 m) :
    Calls Try.prog 8 #[.int .i64 k, .slice A cells.length c, .slice B other.length d] w fun e w' => e = .returned (.bool true) ∧ Below w.heap.size w w' := by
  have HK := Lib.hid hk
  have HK' := Lib.hid hk'
  have HM := Lib.hid hm
  have HO := Lib.hid ho
  have HSM := Lib.hid hsm
  have HSO := Lib.hid hso
  have HF1 := Lib.hid hf1
  have HTOP := Lib.hid htop
  have HZ1 := Lib.hid hz1
  have HG := Lib.hid (((Bag.start (Below.refl w.heap.size w)).add hI (stable_ints .i32 A cells)).add hI' (stable_ints .i32 B other))
  obtain ⟨N, hN⟩ : ∃ N : Nat, N = (k + 1) * (k + 1) := ⟨_, rfl⟩
  have hN81 : N ≤ 81 := by
    have := Nat.mul_le_mul (show k + 1 ≤ 9 by omega) (show k + 1 ≤ 9 by omega)
    omega
  have hNi : ((k : Int) + 1) * ((k : Int) + 1) = (N : Int) := by rw [hN]; simp
  have hk8i : (k : Int) ≤ 8 := by omega
  have HN := Lib.hid hN
  clear hI hk hI' hk' hm ho hsm hso hf1 htop hz1 hN
  go_enter Try.func8, Try.ntmps8
  go_wp2_with fail
  refine (of_any k A c cells _ (HG.out.at 1 rfl) hmax HK.out).mono ?_
  rw [HM.out]
  rintro e w1 ⟨hb, v, rfl, hv⟩
  have HG1 := Lib.hid ((HG.out.step hb).add (show ZoneV 76 w1 v (some (k, m)) from hv) (stable_zone _ v (some (k, m))))
  clear hb hv HG
  go_wp2_with fail
  refine (of_any k B d other _ (HG1.out.at 1 rfl) hmax' HK'.out).mono ?_
  rw [HO.out]
  rintro e w2 ⟨hb, u, rfl, hu⟩
  have HG2 := Lib.hid ((HG1.out.step hb).add (show ZoneV 76 w2 u (some (k, o)) from hu) (stable_zone _ u (some (k, o))))
  clear hb hu HG1
  go_wp2_with fail
  refine (cells_any _ _ _ (HG2.out.at 1 rfl)).mono ?_
  rintro e w3 ⟨l1, rfl, hb, ho1⟩
  have ho1 : OwnI w3 w2.heap.size 37 .i32 l1 (flat k m) := ho1
  obtain ⟨A1, c1, rfl, hi1⟩ := ho1.slice
  have HG3 := Lib.hid ((HG2.out.step hb).add hi1 (stable_ints .i32 A1 (flat k m)))
  clear hb ho1 hi1 HG2
  go_wp2_with fail
  refine (cells_any _ _ _ (HG3.out.at 1 rfl)).mono ?_
  rintro e w4 ⟨l2, rfl, hb, ho2⟩
  have ho2 : OwnI w4 w3.heap.size 37 .i32 l2 (flat k o) := ho2
  obtain ⟨A2, c2, rfl, hi2⟩ := ho2.slice
  have HG4 := Lib.hid ((HG3.out.step hb).add hi2 (stable_ints .i32 A2 (flat k o)))
  clear hb ho2 hi2 HG3
  have HSAME := Lib.hid (fun wx h1 h2 => same_any A1 c1 (flat k m) A2 c2 (flat k o) wx h1 h2 (by rw [flat_length, ← HN.out]; omega) (by rw [flat_length, ← HN.out]; omega))
  rw [flat_length, flat_length, ← HN.out] at HSAME
  rw [flat_length, flat_length, ← HN.out]
  obtain ⟨bx, hbx⟩ : ∃ b, b = decide (m 0 0 < 1) := ⟨_, rfl⟩
  obtain ⟨bo, hbo⟩ : ∃ b, b = decide (o 0 0 < 1) := ⟨_, rfl⟩
  have HBX := Lib.hid hbx
  have HBO := Lib.hid hbo
  have HEX := Lib.hid (fun (wx : World) (h : ZoneV 76 wx v (some (k, m))) => zempty_any v (some (k, m)) wx h)
  have HEO := Lib.hid (fun (wx : World) (h : ZoneV 76 wx u (some (k, o))) => zempty_any u (some (k, o)) wx h)
  rw [show emptyP (some (k, m)) = bx from hbx.symm] at HEX
  rw [show emptyP (some (k, o)) = bo from hbo.symm] at HEO
  clear hbx hbo
  by_cases hor : (bx || bo) = true
  · have hfe := form_empty hk8 HSM.out HSO.out (by rw [← HBX.out, ← HBO.out]; exact hor)
    rw [← HBX.out, ← HBO.out] at hfe
    have HFE := Lib.hid hfe
    rw [hfe.2.1] at HSAME
    clear hfe HZ1 HTOP HF1
    have hcases : (bx = true ∧ bo = true) ∨ (bx = true ∧ bo = false) ∨ (bx = false ∧ bo = true) := by
      revert hor
      cases bx <;> cases bo <;> simp
    clear hor HBX HBO
    rcases hcases with ⟨rfl, rfl⟩ | ⟨rfl, rfl⟩ | ⟨rfl, rfl⟩
    all_goals
      go_wp2_with (first | (go_at_call_of 21 v; refine (HEX.out _ (HG4.out.at 3 rfl)).mono ?_; rintro e w' ⟨rfl, rfl⟩) | (go_at_call_of 21 u; refine (HEO.out _ (HG4.out.at 2 rfl)).mono ?_; rintro e w' ⟨rfl, rfl⟩))
      refine (live_any _).mono ?_
      rintro e w5 ⟨rfl, hb⟩
      have HG5 := Lib.hid (HG4.out.step hb)
      clear hb HG4
      go_wp2_with fail
      refine (equal_any _ _ _ _ _ (HG5.out.at 3 rfl) (HG5.out.at 2 rfl)).mono ?_
      rw [HFE.out.1]
      rintro e w6 ⟨rfl, hb⟩
      have HG6 := Lib.hid (HG5.out.step hb)
      clear hb HG5
      go_wp2_with (first | (go_at_call_of 21 v; refine (HEX.out _ (HG6.out.at 3 rfl)).mono ?_; rintro e w' ⟨rfl, rfl⟩) | (go_at_call_of 21 u; refine (HEO.out _ (HG6.out.at 2 rfl)).mono ?_; rintro e w' ⟨rfl, rfl⟩))
      refine (HSAME.out _ (HG6.out.at 1 rfl) (HG6.out.at 0 rfl)).mono ?_
      rintro e w7 ⟨rfl, q, rfl⟩
      have HG7 := Lib.hid (HG6.out.drewN q)
      generalize w6.drewN q = w7 at *
      clear HG6
      go_wp2_with fail
      refine (equal_any _ _ _ _ _ (HG7.out.at 3 rfl) (HG7.out.at 2 rfl)).mono ?_
      rw [HFE.out.1]
      rintro e w8 ⟨rfl, hb⟩
      have HG8 := Lib.hid (HG7.out.step hb)
      clear hb HG7
      go_wp2_with fail
      refine (includes_any _ _ _ _ _ (HG8.out.at 3 rfl) (HG8.out.at 2 rfl)).mono ?_
      rw [HFE.out.2.2]
      rintro e w9 ⟨rfl, hb⟩
      have HG9 := Lib.hid (HG8.out.step hb)
      clear hb HG8
      go_wp2_with (go_at_call_of 21 u; refine (HEO.out _ (HG9.out.at 2 rfl)).mono ?_; rintro e w' ⟨rfl, rfl⟩)
      go_ret
      exact ⟨rfl, HG9.out.below⟩
  · have hb0 : bx = false ∧ bo = false := by
      revert hor
      cases bx <;> cases bo <;> simp
    obtain ⟨rfl, rfl⟩ := hb0
    have hff := form_full hk8 HSM.out HSO.out HBX.out.symm HBO.out.symm
    have HFF := Lib.hid hff
    obtain ⟨m', hc1, ha, hz, hcl⟩ : ∃ m', closed k M1 = some m' ∧ allR k m' ∧ m = narM k m' ∧ Closed k M1 m' := by
      rcases HZ1.out with ⟨h0, _⟩ | ⟨m', h1, h2, h3, h4⟩
      · exfalso
        have := of_decide_eq_false HBX.out.symm
        rw [h0] at this
        exact this (by decide)
      · exact ⟨m', h1, h2, h3, h4⟩
    have HCL := Lib.hid hcl
    have HA := Lib.hid ha
    have HZ := Lib.hid hz
    have HSOL := Lib.hid (closed_solid hcl HTOP.out)
    have HIG := Lib.hid (inside_good hk8 HSOL.out ha hz)
    have HIK := Lib.hid (inside_keeps hk8 HSOL.out ha hz HSM.out.2)
    clear hff hor hc1 ha hz hcl HZ1 HF1 HBX HBO
    have d0 : decide ((k : Int) < 0) = false := decide_eq_false (by omega)
    go_wp2_with (first | (go_at_call_of 21 v; refine (HEX.out _ (HG4.out.at 3 rfl)).mono ?_; rintro e w' ⟨rfl, rfl⟩) | (go_at_call_of 21 u; refine (HEO.out _ (HG4.out.at 2 rfl)).mono ?_; rintro e w' ⟨rfl, rfl⟩))
    have hin := inside_any k A1 c1 (flat k m) (solU k m') w4 hk8 (HG4.out.at 1 rfl) (flat_length _ _) (flat_rights HSM.out.2) HIG.out.1 HIG.out.2.1
    rw [← HN.out] at hin
    refine hin.mono ?_
    clear hin
    rintro e w5 ⟨c5, rfl, hb5, hr5⟩
    have HG5 := Lib.hid ((HG4.out.step hb5).add hr5.ints (stable_ints _ _ _))
    clear hb5 hr5
    have hkp := keeps_any k A1 c1 (flat k m) (some ⟨w4.heap.size, 0, none⟩) c5 (lst k (insR k ((k : Int) + 1) (widC k (flat k m)) (k + 2))) ((k : Int) + 1) w5 hk8 (HG5.out.at 2 rfl) (HG5.out.at 0 rfl) (flat_length _ _) (lst_length _ _) (flat_rights HSM.out.2) (lst_bd HIG.out.2.2.2) (by omega) (by omega)
    rw [HIK.out, ← HN.out] at hkp
    have HKP := Lib.hid hkp
    clear hkp HG4
    go_wp2_with fail
    refine HKP.out.mono ?_
    rintro e w6 ⟨rfl, q, rfl⟩
    have HG6 := Lib.hid (HG5.out.tail.drewN q)
    generalize w5.drewN q = w6 at *
    clear HG5 HKP HIG HIK HSOL
    go_wp2
    go_loopg [17] (k + 1) (fun g x wr => ∃ i : Nat, x = .int .i64 i ∧ Bag w [fun wx => Ints wx .i32 A2 (flat k o), fun wx => Ints wx .i32 A1 (flat k m), fun wx => ZoneV 76 wx u (some (k, o)), fun wx => ZoneV 76 wx v (some (k, m)), fun wx => Ints wx .i32 B other, fun wx => Ints wx .i32 A cells] wr ∧ Hid (g + i = k + 1))
    case atStart => exact ⟨0, by simp, HG6.out, by show _ = _; omega⟩
    case round =>
      clear HG6
      obtain ⟨i, rfl, H, HC⟩ := hrel
      have HGi := Lib.hid H
      clear H
      by_cases hi : i ≤ k
      · have hii : (i : Int) ≤ (k : Int) := by omega
        go_wp2
        go_loopg [18] (k + 1) (fun g x wr => ∃ j : Nat, x = .int .i64 j ∧ Bag w [fun wx => Ints wx .i32 A2 (flat k o), fun wx => Ints wx .i32 A1 (flat k m), fun wx => ZoneV 76 wx u (some (k, o)), fun wx => ZoneV 76 wx v (some (k, m)), fun wx => Ints wx .i32 B other, fun wx => Ints wx .i32 A cells] wr ∧ Hid (g + j = k + 1))
        case atStart => exact ⟨0, by simp, HGi.out, by show _ = _; omega⟩
        case round =>
          clear HGi
          obtain ⟨j, rfl, H, HC2⟩ := hrel
          have HGj := Lib.hid H
          clear H
          by_cases hj : j ≤ k
          · have hjj : (j : Int) ≤ (k : Int) := by omega
            obtain ⟨P, hP, hP1, hP2, hP3⟩ := prod_facts i k hi hk8
            have hPN : P + k < N := by have := HN.out; omega
            have HP2 := Lib.hid hP2
            clear hP2 hP3
            have g1 : IntKind.i64.wrap ((k : Int) + 1) = (k : Int) + 1 := IntWalk.i64_in _ (by omega)
            have g2 : IntKind.i64.wrap (P : Int) = (P : Int) := IntWalk.i64_in _ (by omega)
            have g3 : IntKind.i64.wrap ((P : Int) + (j : Int)) = (P : Int) + (j : Int) := IntWalk.i64_in _ (by omega)
            have l1 : (P : Int) + (j : Int) < (N : Int) := by omega
            have l3 : 0 ≤ (P : Int) + (j : Int) := by omega
            have n1 : ((P : Int) + (j : Int)).toNat = P + j := by omega
            obtain ⟨x, hx⟩ : ∃ x, x = m i j := ⟨_, rfl⟩
            have HX := Lib.hid hx
            have hxx : (flat k m).getD (P + j) 0 = x := by rw [HP2.out, flat_at _ (by omega) (by omega), hx]
            have HXX := Lib.hid hxx
            clear hx hxx
            go_wp2
            go_loopg [19, 20, 21] (k + 1) (fun g y s e wr => ∃ t : Nat, y = .int .i64 t ∧ Bag w [fun wx => Ints wx .i32 A2 (flat k o), fun wx => Ints wx .i32 A1 (flat k m), fun wx => ZoneV 76 wx u (some (k, o)), fun wx => ZoneV 76 wx v (some (k, m)), fun wx => Ints wx .i32 B other, fun wx => Ints wx .i32 A cells] wr ∧ Hid (g + t = k + 1))
            case atStart => exact ⟨0, by simp, HGj.out, by show _ = _; omega⟩
            case round =>
              clear HGj
              obtain ⟨t, rfl, H, HC3⟩ := hrel
              have HGt := Lib.hid H
              clear H
              by_cases ht : t ≤ k
              · have htt : (t : Int) ≤ (k : Int) := by omega
                obtain ⟨Q, hQ, hQ1, hQ2, hQ3⟩ := prod_facts t k ht hk8
                have hQN : Q + k < N := by have := HN.out; omega
                have g4 : IntKind.i64.wrap (Q : Int) = (Q : Int) := IntWalk.i64_in _ (by omega)
                have g5 : IntKind.i64.wrap ((P : Int) + (t : Int)) = (P : Int) + (t : Int) := IntWalk.i64_in _ (by omega)
                have g6 : IntKind.i64.wrap ((Q : Int) + (j : Int)) = (Q : Int) + (j : Int) := IntWalk.i64_in _ (by omega)
                have l4 : (P : Int) + (t : Int) < (N : Int) := by omega
                have l5 : 0 ≤ (P : Int) + (t : Int) := by omega
                have l6 : (Q : Int) + (j : Int) < (N : Int) := by omega
                have l7 : 0 ≤ (Q : Int) + (j : Int) := by omega
                have n2 : ((P : Int) + (t : Int)).toNat = P + t := by omega
                have n3 : ((Q : Int) + (j : Int)).toNat = Q + j := by omega
                obtain ⟨b1, o1, e1, ca⟩ := (HGt.out.at 1 rfl) (P + t) (by rw [flat_length, ← HN.out]; omega)
                obtain ⟨b2, o2, e2, cb⟩ := (HGt.out.at 1 rfl) (Q + j) (by rw [flat_length, ← HN.out]; omega)
                obtain ⟨b3, o3, e3, cc⟩ := (HGt.out.at 1 rfl) (P + j) (by rw [flat_length, ← HN.out]; omega)
                subst e1
                simp only [Option.some.injEq, Addr.mk.injEq] at e2 e3
                obtain ⟨rfl, rfl, _⟩ := e2
                obtain ⟨rfl, rfl, _⟩ := e3
                rw [HP2.out, flat_at _ (by omega) (by omega), ← HP2.out] at ca
                rw [hQ2, flat_at _ (by omega) (by omega), ← hQ2] at cb
                rw [HXX.out] at cc
                have hlt1 : b1 < wr.heap.size := World.block_lt_of_cell? wr _ cc
                have hap := add_pure HCL.out.tri HA.out HZ.out HSM.out.2 (i := i) (k := t) (j := j) hi ht hj
                have hra := right_bd32 (HSM.out.2 i t hi ht)
                have hrb := right_bd32 (HSM.out.2 t j ht hj)
                obtain ⟨ya, hya⟩ : ∃ y, y = m i t := ⟨_, rfl⟩
                obtain ⟨yb, hyb⟩ : ∃ y, y = m t j := ⟨_, rfl⟩
                rw [← hya] at ca hap hra
                rw [← hyb] at cb hap hrb
                rw [← HX.out] at hap
                have HAD := Lib.hid (fun w => radd_any ya yb w hra hrb)
                obtain ⟨s1, hs1⟩ : ∃ s, s = (sumP [ya, yb]).1 := ⟨_, rfl⟩
                obtain ⟨s2, hs2⟩ : ∃ s, s = (sumP [ya, yb]).2 := ⟨_, rfl⟩
                rw [← hs1, ← hs2] at HAD
                rw [← hs1, ← hs2] at hap
                have HAP := Lib.hid hap
                clear hap hra hrb hya hyb hs1 hs2 hQ2 hQ3
                go_wp2_with fail
                go_region_held3 (fun w' => w'.cell? ⟨b1, o1 + (P + t), none⟩ = some (.int .i32 ya) ∧ w'.cell? ⟨b1, o1 + (Q + j), none⟩ = some (.int .i32 yb)) (first | go_keep | exact ⟨k1, k2⟩)
                  (first | (go_at_call 35; refine (HAD.out _).mono ?_; rintro e w' ⟨rfl, rfl⟩))
                by_cases hs0 : s2 = 0
                · have t2 : decide (s1 < x) = false := decide_eq_false (by have := HAP.out hs0; omega)
                  subst hs0
                  go_wp2
                  go_roundg (gk - 1)
                  case measure => have h := HC3.out; omega
                  case rel =>
                    refine ⟨t + 1, by go_num, ?_, by have h := HC3.out; show _ = _; omega⟩
                    first | exact (HGt.out.drew).alloc _ | exact (HGt.out.drewN _).alloc _ | exact (HGt.out.alloc _).drewN _ | exact (HGt.out.alloc _).drew
                · have t2 : (s2 == 0) = false := by simp [hs0]
                  clear hs0
                  go_wp2
                  go_roundg (gk - 1)
                  case measure => have h := HC3.out; omega
                  case rel =>
                    refine ⟨t + 1, by go_num, ?_, by have h := HC3.out; show _ = _; omega⟩
                    first | exact (HGt.out.drew).alloc _ | exact (HGt.out.drewN _).alloc _ | exact (HGt.out.alloc _).drewN _ | exact (HGt.out.alloc _).drew
              · have htt : ¬ (t : Int) ≤ (k : Int) := by omega
                obtain ⟨b1, o1, e1, ca⟩ := (HGt.out.at 1 rfl) (P + j) (by rw [flat_length, ← HN.out]; omega)
                obtain ⟨b2, o2, e2, cb⟩ := (HGt.out.at 0 rfl) (P + j) (by rw [flat_length, ← HN.out]; omega)
                subst e1 e2
                rw [HXX.out] at ca
                rw [HP2.out, flat_at _ (by omega) (by omega), ← HP2.out] at cb
                obtain ⟨y, hy⟩ : ∃ y, y = o i j := ⟨_, rfl⟩
                rw [← hy] at cb
                have hry := HSO.out.2 i j hi hj
                rw [← hy] at hry
                have HRY := Lib.hid hry
                clear hry hy
                by_cases hlt : y < x
                · have t1 : decide (y < x) = true := decide_eq_true hlt
                  have HLT := Lib.hid (show y < m i j by rw [← HX.out]; exact hlt)
                  clear hlt
                  go_wp2_with fail
                  refine wp_region_still_tail 33 (by kernel_rfl) (by kernel_rfl) ?_
                  simp only [List.take_succ_cons, List.take_zero, List.drop_succ_cons, List.drop_zero]
                  have HGd := Lib.hid HGt.out.drew
                  change wpStill _ _ wr.drew _ _ _
                  clear HGt
                  have hby := beyond_any k (some ⟨b1, o1, none⟩) c1 M1 m m' i j y wr.drew hk8 (HGd.out.at 1 rfl) HCL.out HTOP.out HA.out HZ.out HSM.out.2 hi hj HRY.out HLT.out
                  rw [← HN.out] at hby
                  have HBY := Lib.hid hby
                  clear hby
                  repeat still_step
                  refine wpStill_nil ?_
                  go_wp2_with fail
                  refine HBY.out.mono ?_
                  rintro e w9 ⟨rfl, hb⟩
                  have HG9 := Lib.hid (HGd.out.step hb)
                  clear hb HGd HBY
                  go_wp2
                  go_roundg (k - j)
                  case measure => have h := HC2.out; omega
                  case rel => exact ⟨j + 1, by go_num, HG9.out, by have h := HC2.out; show _ = _; omega⟩
                · have t1 : decide (y < x) = false := decide_eq_false hlt
                  clear hlt
                  go_wp2_with fail
                  go_quiet (fail)
                  go_wp2
                  go_roundg (k - j)
                  case measure => have h := HC2.out; omega
                  case rel => exact ⟨j + 1, by go_num, HGt.out.drewN _, by have h := HC2.out; show _ = _; omega⟩
          · have hjj : ¬ (j : Int) ≤ (k : Int) := by omega
            go_wp2
            go_roundg (k - i)
            case measure => have h := HC.out; omega
            case rel => exact ⟨i + 1, by go_num, HGj.out, by have h := HC.out; show _ = _; omega⟩
      · have hii : ¬ (i : Int) ≤ (k : Int) := by omega
        have HNW := Lib.hid (fun wx h1 h2 => nowhere_any A1 c1 A2 c2 N (flat k m) (flat k o) wx h1 h2 (by rw [flat_length, ← HN.out]) (by rw [flat_length, ← HN.out]) (by omega))
        obtain ⟨r1, hr1⟩ : ∃ r, r = sameL (flat k m) (flat k o) := ⟨_, rfl⟩
        obtain ⟨r2, hr2⟩ : ∃ r, r = leL (flat k o) (flat k m) := ⟨_, rfl⟩
        rw [← hr1] at HSAME
        rw [← hr2] at HNW
        rw [← hr1, ← hr2] at HFF
        clear hr1 hr2
        go_wp2_with fail
        refine (live_any _).mono ?_
        rintro e w10 ⟨rfl, hb⟩
        have HG10 := Lib.hid (HGi.out.step hb)
        clear hb HGi
        go_wp2_with fail
        refine (equal_any _ _ _ _ _ (HG10.out.at 3 rfl) (HG10.out.at 2 rfl)).mono ?_
        rw [HFF.out.1]
        rintro e w11 ⟨rfl, hb⟩
        have HG11 := Lib.hid (HG10.out.step hb)
        clear hb HG10
        go_wp2_with fail
        refine (HSAME.out _ (HG11.out.at 1 rfl) (HG11.out.at 0 rfl)).mono ?_
        rintro e w12 ⟨rfl, q, rfl⟩
        have HG12 := Lib.hid (HG11.out.drewN q)
        generalize w11.drewN q = w12 at *
        clear HG11
        go_wp2_with fail
        refine (includes_any _ _ _ _ _ (HG12.out.at 3 rfl) (HG12.out.at 2 rfl)).mono ?_
        rw [HFF.out.2]
        rintro e w13 ⟨rfl, hb⟩
        have HG13 := Lib.hid (HG12.out.step hb)
        clear hb HG12
        go_wp2_with fail
        refine (HNW.out _ (HG13.out.at 1 rfl) (HG13.out.at 0 rfl)).mono ?_
        rintro e w14 ⟨rfl, q2, rfl⟩
        have HG14 := Lib.hid (HG13.out.drewN q2)
        go_wp2
        go_ret
        exact ⟨rfl, HG14.out.below⟩

theorem form_law (n : Int) (A : Option Addr) (c : Nat) (cells : List Int) (B : Option Addr) (d : Nat) (other : List Int) (w : World) (hI : Ints w .i32 A cells) (hmax : cells.length ≤ 4611686018427387904)
    (hk : ∀ q, q < cells.length → -2147483648 ≤ cells.getD q 0 ∧ cells.getD q 0 ≤ 2147483647) (hI' : Ints w .i32 B other) (hmax' : other.length ≤ 4611686018427387904)
    (hk' : ∀ q, q < other.length → -2147483648 ≤ other.getD q 0 ∧ other.getD q 0 ≤ 2147483647) :
    Calls Try.prog 8 #[.int .i64 n, .slice A cells.length c, .slice B other.length d] w fun e w' => e = .returned (.bool true) ∧ Below w.heap.size w w' := by
  rcases ofP_ok (n := n) (cells := cells) with ⟨h1, m, hm⟩ | ⟨h1, _⟩
  · rcases ofP_ok (n := n) (cells := other) with ⟨h2, o, ho⟩ | ⟨h2, _⟩
    · obtain ⟨hn0, hn8, _, hr, hz⟩ := ofP_good hm
      obtain ⟨k, rfl⟩ : ∃ k : Nat, n = k := ⟨n.toNat, by omega⟩
      rw [Int.toNat_natCast] at hr hz
      have s1 := (ofP_shape hm).2.2
      have s2 := (ofP_shape ho).2.2
      rw [Int.toNat_natCast] at s1 s2
      have r1 : RightM k m := by
        rcases zoneP_is (by omega) (keepUp_fit k cells _ hr) hz with ⟨e, _⟩ | ⟨m', _, ha, e, _⟩
        · rw [e]; exact right_zero k
        · rw [e]; exact narM_right ha
      have r2 : RightM k o := by
        obtain ⟨_, _, _, hr', hz'⟩ := ofP_good ho
        rw [Int.toNat_natCast] at hr' hz'
        rcases zoneP_is (by omega) (keepUp_fit k other _ hr') hz' with ⟨e, _⟩ | ⟨m', _, ha, e, _⟩
        · rw [e]; exact right_zero k
        · rw [e]; exact narM_right ha
      exact form_good k A c cells B d other w hI hmax hk hI' hmax' hk' m o _ (Prod.ext hm h1) (Prod.ext ho h2) (by omega) ⟨s1, r1⟩ ⟨s2, r2⟩ (keepUp_fit k cells _ hr) (keepUp_top hr) (zoneP_is (by omega) (keepUp_fit k cells _ hr) hz)
    · exact form_errs n A c cells B d other w hI hmax hk hI' hmax' hk' (.inr ⟨h1, h2⟩)
  · exact form_errs n A c cells B d other w hI hmax hk hI' hmax' hk' (.inl h1)

end Go.Proofs.Ytgpmfnahjepjjaa
