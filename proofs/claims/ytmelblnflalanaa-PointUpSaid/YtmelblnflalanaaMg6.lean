/- Texts of ours, laid together: Dd, Do, Ob, Oc, Od, Oe, Mab, Mcl, Msm, Pw, Og. -/
import Derived.Test.YtmelblnflalanaaMg5
/- Of, Limits, Universe, Zero: the zone of bounds, or the error. -/
namespace Go.Proofs.Ytmelblnflalanaa
open Go.RowKit
set_option linter.unusedVariables false
set_option linter.unusedSimpArgs false
attribute [local go_sem] min_ints max_ints

theorem few_yes (n : Int) (w : World) (h : 0 ≤ n ∧ n ≤ 8) : Calls Try.prog 22 #[.int .i64 n] w fun e w' => e = .returned (.bool true) ∧ w = w' :=
  (few_any n w).mono fun _ _ k => ⟨by rw [k.1, decide_eq_true h], k.2⟩
theorem few_no (n : Int) (w : World) (h : ¬ (0 ≤ n ∧ n ≤ 8)) : Calls Try.prog 22 #[.int .i64 n] w fun e w' => e = .returned (.bool false) ∧ w = w' :=
  (few_any n w).mono fun _ _ k => ⟨by rw [k.1, decide_eq_false h], k.2⟩

/-- A function that makes a zone ends with this answer. -/
def MakesZ (w0 : World) (n : Nat) (r : Option Mat × Int) (e : Ending) (w' : World) : Prop :=
  Below w0.heap.size w0 w' ∧ ∃ v, e = .returned (.tuple #[v, .int .i64 r.2]) ∧ ZoneV 109 w' v (r.1.map fun m => (n, m))

/-- The wide matrix while it is filled: it lies in the first new block. -/
def KeepR (w0 : World) (n : Nat) (m : Mat) (wr : World) : Prop :=
  Below w0.heap.size w0 wr ∧ MatAt wr w0.heap.size 104 .i64 n m ∧ Fit n 1073741824 m

theorem KeepR.step {w0 wr w' : World} {n : Nat} {m : Mat} (h : KeepR w0 n m wr) {i j : Nat} {b : Int} (ho : Only w0.heap.size wr w') (hm : MatAt w' w0.heap.size 104 .i64 n (keepM m i j b)) (hb : rightB b = true) :
    KeepR w0 n (keepM m i j b) w' :=
  ⟨h.1.trans (ho.below (Nat.le_refl _) h.1.size), hm, keepM_fit h.2.2 _ _ hb⟩
theorem KeepR.alloc {w0 wr : World} {n : Nat} {m : Mat} (h : KeepR w0 n m wr) (o : Obj) : KeepR w0 n m (wr.alloc o) := ⟨h.1.alloc h.1.size o, h.2.1.alloc o, h.2.2⟩

theorem of_makes {w0 wr w1 : World} {n : Nat} {m : Mat} {e : Ending} (h : KeepR w0 n m wr) (hz : ZoneEnds wr w0.heap.size n m e w1) : MakesZ w0 n (zoneP n m) e w1 :=
  ⟨h.1.trans (hz.1.below (Nat.le_refl _) h.1.size), hz.2⟩


theorem limOk_parts {n : Nat} {x : Int × Int × Int} (h : limOk n x = true) : (0 ≤ x.1 ∧ x.1 ≤ n ∧ 0 ≤ x.2.1 ∧ x.2.1 ≤ n) ∧ rightB x.2.2 = true := by
  simpa [limOk] using h

set_option maxRecDepth 100000 in
set_option maxHeartbeats 2000000 in
theorem limits_yes (n : Nat) (A : Option Addr) (c : Nat) (l : List (Int × Int × Int)) (w : World) (hn : n ≤ 8) (hI : Lims w A l) (hmax : l.length ≤ 4611686018427387904)
    (hk : ∀ q, q < l.length → -2147483648 ≤ (l.getD q (0, 0, 0)).2.2 ∧ (l.getD q (0, 0, 0)).2.2 ≤ 2147483647) :
    Calls Try.prog 20 #[.int .i64 n, .slice A l.length c] w (MakesZ w n (limP n l)) := by
  have HI := Lib.hid hI
  have HK := Lib.hid hk
  clear hI hk
  go_enter Try.func20, Try.ntmps20
  go_wp2_with fail
  refine (few_yes _ _ (by omega)).mono ?_
  rintro e w' ⟨rfl, rfl⟩
  go_wp2_with fail
  refine (open_any n _ hn).mono ?_
  rintro e w1 ⟨rfl, hb1, hm1⟩
  have HS := Lib.hid (show KeepR w n (limUp n l 0) w1 from ⟨hb1, hm1, openM_fit n⟩)
  clear hb1 hm1
  go_wp2
  go_loopg [16] l.length (fun g v wr => ∃ p : Nat, v = .int .i64 p ∧ KeepR w n (limUp n l p) wr ∧ Hid (p ≤ l.length ∧ g + p = l.length ∧ ∀ q, q < p → limOk n (l.getD q (0, 0, 0)) = true))
  case atStart => exact ⟨0, by simp, HS.out, by omega, by omega, fun q h => by omega⟩
  case round =>
    clear HS
    obtain ⟨p, rfl, H, HG⟩ := hrel
    have HR := Lib.hid H
    clear H
    by_cases hp : p < l.length
    · obtain ⟨b, off, rfl, c1, c2, c3⟩ := HI.out.below HR.out.1 p hp
      have hb := HK.out p hp
      obtain ⟨x, hx⟩ : ∃ x, x = l.getD p (0, 0, 0) := ⟨_, rfl⟩
      rw [← hx] at c1 c2 c3 hb
      have HX := Lib.hid hx
      clear hx
      obtain ⟨xi, xj, xb⟩ := x
      obtain ⟨hb0, hb1⟩ := hb
      simp only at c1 c2 c3 hb0 hb1
      by_cases hr : limOk n (xi, xj, xb) = true
      · obtain ⟨⟨i0, i1, j0, j1⟩, hrr⟩ := limOk_parts hr
        simp only at i0 i1 j0 j1 hrr
        have HRR := Lib.hid hrr
        have HOK := Lib.hid hr
        clear hr hrr
        go_wp2_with fail
        refine (right_yes _ _ HRR.out).mono ?_
        rintro e w' ⟨rfl, rfl⟩
        go_wp2_with fail
        refine (keep_any _ _ _ xi.toNat xj.toNat n _ _ _ (by omega) (by omega) (by exact HR.out.2.1.alloc _) (by omega) (by omega) hb0 hb1).mono ?_
        rintro e w2 ⟨rfl, ho, hm2⟩
        have HN := Lib.hid (show KeepR w n (limUp n l (p + 1)) w2 from by
          have hx : l.getD p (0, 0, 0) = (xi, xj, xb) := HX.out.symm
          have e : limUp n l (p + 1) = keepM (limUp n l p) xi.toNat xj.toNat xb := by
            show keepM (limUp n l p) (l.getD p (0, 0, 0)).1.toNat (l.getD p (0, 0, 0)).2.1.toNat (l.getD p (0, 0, 0)).2.2 = _
            rw [hx]
          rw [e]
          exact (HR.out.alloc _).step ho hm2 HRR.out)
        clear ho hm2
        go_wp2
        go_roundg (gk - 1)
        case measure => have := HG.out; omega
        case rel =>
          refine ⟨p + 1, by go_num, HN.out, by omega, by have := HG.out.2.1; omega, fun q hq => ?_⟩
          by_cases e : q = p
          · subst e; rw [← HX.out]; exact HOK.out
          · exact HG.out.2.2 q (by omega)
      · have hall : l.all (limOk n) = false := by
          rw [Bool.eq_false_iff]
          intro ha
          have := (all_getD l (limOk n) (0, 0, 0)).1 ha p hp
          rw [← HX.out] at this
          exact hr this
        have hz : limP n l = (none, 7) := by
          unfold limP; rw [if_pos (by omega)]; simp only [Int.toNat_natCast]; rw [hall]; rfl
        have HZ := Lib.hid hz
        have HR2 := Lib.hid hr
        clear hr hz hall
        have hend : ∀ w2, Below wr.heap.size wr w2 → MakesZ w n (limP n l) (.returned (.tuple #[.pointer none, .int .i64 7])) w2 := fun w2 h2 => by
          rw [HZ.out]; exact ⟨HR.out.1.trans (h2.mono HR.out.1.size), .pointer none, rfl, rfl⟩
        have HE := Lib.hid hend
        clear hend
        by_cases a1 : xi < 0
        · have d1 : decide (xi < 0) = true := decide_eq_true a1
          go_wp2
          go_ret2
          exact HE.out _ ((Below.refl _ _).alloc (Nat.le_refl _) _)
        · have d1 : decide (xi < 0) = false := decide_eq_false a1
          by_cases a2 : (n : Int) < xi
          · have d2 : decide ((n : Int) < xi) = true := decide_eq_true a2
            go_wp2
            go_ret2
            exact HE.out _ ((Below.refl _ _).alloc (Nat.le_refl _) _)
          · have d2 : decide ((n : Int) < xi) = false := decide_eq_false a2
            by_cases a3 : xj < 0
            · have d3 : decide (xj < 0) = true := decide_eq_true a3
              go_wp2
              go_ret2
              exact HE.out _ ((Below.refl _ _).alloc (Nat.le_refl _) _)
            · have d3 : decide (xj < 0) = false := decide_eq_false a3
              by_cases a4 : (n : Int) < xj
              · have d4 : decide ((n : Int) < xj) = true := decide_eq_true a4
                go_wp2
                go_ret2
                exact HE.out _ ((Below.refl _ _).alloc (Nat.le_refl _) _)
              · have d4 : decide ((n : Int) < xj) = false := decide_eq_false a4
                have hrf : rightB xb = false := by
                  rw [Bool.eq_false_iff]
                  intro h
                  exact HR2.out (by simp only [limOk, h, Bool.and_true, decide_eq_true_eq]; omega)
                have HRR := Lib.hid hrf
                clear hrf
                go_wp2_with fail
                refine (right_no _ _ HRR.out).mono ?_
                rintro e w' ⟨rfl, rfl⟩
                go_wp2
                go_ret2
                exact HE.out _ ((Below.refl _ _).alloc (Nat.le_refl _) _)
    · have e : p = l.length := by have := HG.out.1; omega
      go_wp2_with fail
      refine (zone_any _ n _ _ hn HR.out.2.1 HR.out.2.2).mono ?_
      rintro e w2 hz
      have HZ := Lib.hid hz
      obtain ⟨ho, v, rfl, hv⟩ := hz
      clear ho hv
      subst e
      go_wp2
      go_ret2
      have hall : l.all (limOk n) = true := (all_getD l (limOk n) (0, 0, 0)).2 HG.out.2.2
      have hz : limP n l = zoneP n (limUp n l l.length) := by
        unfold limP; rw [if_pos (by omega)]; simp only [Int.toNat_natCast]; rw [if_pos hall]
      rw [hz]
      exact of_makes HR.out HZ.out

set_option maxRecDepth 100000 in
set_option maxHeartbeats 1000000 in
theorem limits_clock (n : Int) (v : Value) (l : List (Int × Int × Int)) (w : World) (hn : ¬ (0 ≤ n ∧ n ≤ 8)) :
    Calls Try.prog 20 #[.int .i64 n, v] w (MakesZ w n.toNat (limP n l)) := by
  have hz : limP n l = (none, 12) := by unfold limP; rw [if_neg hn]
  rw [hz]
  clear hz
  have HN := Lib.hid hn
  clear hn
  go_enter Try.func20, Try.ntmps20
  go_wp2_with fail
  refine (few_no _ _ HN.out).mono ?_
  rintro e w' ⟨rfl, rfl⟩
  go_wp2
  go_ret2
  exact ⟨Below.refl _ _, .pointer none, rfl, rfl⟩

/-- Limits, whatever it is given. -/
theorem limits_any (n : Int) (A : Option Addr) (c : Nat) (l : List (Int × Int × Int)) (w : World) (hI : Lims w A l) (hmax : l.length ≤ 4611686018427387904)
    (hk : ∀ q, q < l.length → -2147483648 ≤ (l.getD q (0, 0, 0)).2.2 ∧ (l.getD q (0, 0, 0)).2.2 ≤ 2147483647) :
    Calls Try.prog 20 #[.int .i64 n, .slice A l.length c] w (MakesZ w n.toNat (limP n l)) := by
  by_cases hn : 0 ≤ n ∧ n ≤ 8
  · obtain ⟨k, rfl⟩ : ∃ k : Nat, n = k := ⟨n.toNat, by omega⟩
    exact limits_yes k A c l w (by omega) hI hmax hk
  · exact limits_clock n _ l w hn

/-- The limits of Zero. -/
def zeroUp (n : Nat) : Nat → Mat
  | 0 => openM n
  | p + 1 => keepM (zeroUp n p) p 0 1
theorem zeroUp_fit (n : Nat) : ∀ p, Fit n 1073741824 (zeroUp n p)
  | 0 => openM_fit n
  | p + 1 => keepM_fit (zeroUp_fit n p) _ _ (by decide)
/-- What Zero answers. -/
def zerP (n : Int) : Option Mat × Int := if 0 ≤ n ∧ n ≤ 8 then zoneP n.toNat (zeroUp n.toNat (n.toNat + 1)) else (none, 12)

end Go.Proofs.Ytmelblnflalanaa

/- Of: the zone of bounds, or the error. -/
namespace Go.Proofs.Ytmelblnflalanaa
open Go Go.RowKit
set_option linter.unusedVariables false
set_option linter.unusedSimpArgs false


theorem w64_div (p n : Nat) (hp : p ≤ 1000000) : wrap64 ((p : Int) / ((n : Int) + 1)) = ((p / (n + 1) : Nat) : Int) := by
  rw [idx_div]
  have : p / (n + 1) ≤ p := Nat.div_le_self _ _
  generalize p / (n + 1) = q at this ⊢
  exact IntWalk.wrap64_in _ ⟨by omega, by omega⟩
theorem w64_mod (p n : Nat) (hp : p ≤ 1000000) : wrap64 ((p : Int) % ((n : Int) + 1)) = ((p % (n + 1) : Nat) : Int) := by
  rw [idx_mod]
  have : p % (n + 1) ≤ p := Nat.mod_le _ _
  generalize p % (n + 1) = q at this ⊢
  exact IntWalk.wrap64_in _ ⟨by omega, by omega⟩

set_option maxRecDepth 100000 in
set_option maxHeartbeats 2000000 in
theorem of_yes (n : Nat) (A : Option Addr) (c : Nat) (cells : List Int) (w : World) (hn : n ≤ 8) (hI : Ints w .i32 A cells) (hlen : (cells.length : Int) = ((n : Int) + 1) * ((n : Int) + 1))
    (hk : ∀ q, q < cells.length → -2147483648 ≤ cells.getD q 0 ∧ cells.getD q 0 ≤ 2147483647) :
    Calls Try.prog 5 #[.int .i64 n, .slice A cells.length c] w (MakesZ w n (ofP n cells)) := by
  have hl81 : cells.length ≤ 81 := by
    have : ((n : Int) + 1) * ((n : Int) + 1) ≤ 9 * 9 := Int.mul_le_mul (by omega) (by omega) (by omega) (by omega)
    omega
  have hm : ((n : Int) + 1) * ((n : Int) + 1) ≤ 81 := by omega
  have hm0 : 0 ≤ ((n : Int) + 1) * ((n : Int) + 1) := by omega
  have HL := Lib.hid hlen
  have HI := Lib.hid hI
  have HK := Lib.hid hk
  have t1 : ((cells.length : Int) != ((n : Int) + 1) * ((n : Int) + 1)) = false := by simp [hlen]
  clear hlen hI hk
  go_enter Try.func5, Try.ntmps5
  go_wp2_with fail
  refine (few_yes _ _ (by omega)).mono ?_
  rintro e w' ⟨rfl, rfl⟩
  go_wp2_with fail
  refine (open_any n _ hn).mono ?_
  rintro e w1 ⟨rfl, hb1, hm1⟩
  have HS := Lib.hid (show KeepR w n (keepUp n cells 0) w1 from ⟨hb1, hm1, openM_fit n⟩)
  clear hb1 hm1
  go_wp2
  go_loopg [26] cells.length (fun g v wr => ∃ p : Nat, v = .int .i64 p ∧ KeepR w n (keepUp n cells p) wr ∧ Hid (p ≤ cells.length ∧ g + p = cells.length ∧ ∀ q, q < p → rightB (cells.getD q 0) = true))
  case atStart => exact ⟨0, by simp, HS.out, by omega, by omega, fun q h => by omega⟩
  case round =>
    clear HS
    obtain ⟨p, rfl, H, HG⟩ := hrel
    have HR := Lib.hid H
    clear H
    by_cases hp : p < cells.length
    · obtain ⟨b, off, rfl, hc⟩ := HI.out.below HR.out.1 p hp
      have hb := HK.out p hp
      obtain ⟨x, hx⟩ : ∃ x, x = cells.getD p 0 := ⟨_, rfl⟩
      rw [← hx] at hc hb
      have HX := Lib.hid hx
      clear hx
      obtain ⟨hb0, hb1⟩ := hb
      by_cases hr : rightB x = true
      · have HRR := Lib.hid hr
        clear hr
        go_wp2_with fail
        refine (right_yes _ _ HRR.out).mono ?_
        rintro e w' ⟨rfl, rfl⟩
        have hd := idx_div p n
        have hmo := idx_mod p n
        have hdlt : p / (n + 1) < 9 := by
          have h1 := HL.out
          have h2 : p < (n + 1) * (n + 1) := by
            have : ((p : Nat) : Int) < (((n + 1) * (n + 1) : Nat) : Int) := by push_cast; omega
            omega
          have := Nat.div_lt_of_lt_mul h2
          omega
        have hmlt : p % (n + 1) < 9 := by have := Nat.mod_lt p (show 0 < n + 1 by omega); omega
        have HD := Lib.hid hd
        have HM := Lib.hid hmo
        clear hd hmo
        go_wp2_with fail
        have g1 : IntKind.i64.wrap ((n : Int) + 1) = (n : Int) + 1 := IntWalk.i64_in _ (by omega)
        have g2 := wrap_tdiv p n (by omega)
        have g3 := wrap_tmod p n (by omega)
        have g4 : ((n : Int) + 1 == 0) = false := by simp; omega
        have g5 : ¬ ((n : Int) + 1 = 0) := by omega

        refine wp_region_still_tail 10 (by kernel_rfl) (by kernel_rfl) ?_
        simp only [List.take_succ_cons, List.take_zero, List.drop_succ_cons, List.drop_zero]
        change wpStill _ _ wr.drew _ _ _
        generalize wr.drew = w2
        repeat still_step
        refine wpStill_nil ?_
        go_wp2_with fail
        refine (keep_any _ _ _ (p / (n + 1)) (p % (n + 1)) n _ _ _ hdlt hmlt (by exact HR.out.2.1.drew) (by first | rfl | exact idx_div p n | exact w64_div p n (by omega)) (by first | rfl | exact idx_mod p n | exact w64_mod p n (by omega)) hb0 hb1).mono ?_
        rintro e w2 ⟨rfl, ho, hm2⟩
        have HN := Lib.hid (show KeepR w n (keepUp n cells (p + 1)) w2 from by
          have hx : cells.getD p 0 = x := HX.out.symm
          have e : keepUp n cells (p + 1) = keepM (keepUp n cells p) (p / (n + 1)) (p % (n + 1)) x := by rw [← hx]; rfl
          rw [e]
          exact HR.out.step ((Only.drew (Only.refl _ _)).trans ho) hm2 HRR.out)
        clear ho hm2
        go_wp2
        go_roundg (gk - 1)
        case measure => have := HG.out; omega
        case rel =>
          refine ⟨p + 1, by go_num, HN.out, by omega, by have := HG.out.2.1; omega, fun q hq => ?_⟩
          by_cases e : q = p
          · subst e; rw [← HX.out]; exact HRR.out
          · exact HG.out.2.2 q (by omega)
      · have hrf : rightB x = false := by simpa using hr
        have HRR := Lib.hid hrf
        clear hr hrf
        go_wp2_with fail
        refine (right_no _ _ HRR.out).mono ?_
        rintro e w' ⟨rfl, rfl⟩
        go_wp2
        go_ret2
        have hall : cells.all rightB = false := by
          rw [Bool.eq_false_iff]
          intro ha
          have := (all_getD cells rightB 0).1 ha p hp
          rw [← HX.out, HRR.out] at this
          cases this
        have hz : ofP n cells = (none, 7) := by
          unfold ofP; rw [if_pos (by omega), if_pos HL.out, hall]; rfl
        exact ⟨HR.out.1, .pointer none, by rw [hz]; rfl, by rw [hz]; rfl⟩
    · have e : p = cells.length := by have := HG.out.1; omega
      go_wp2_with fail
      refine (zone_any _ n _ _ hn HR.out.2.1 HR.out.2.2).mono ?_
      rintro e w2 hz
      have HZ := Lib.hid hz
      obtain ⟨ho, v, rfl, hv⟩ := hz
      clear ho hv
      subst e
      go_wp2
      go_ret2
      have hall : cells.all rightB = true := (all_getD cells rightB 0).2 HG.out.2.2
      have hz : ofP n cells = zoneP n (keepUp n cells cells.length) := by
        unfold ofP; rw [if_pos (by omega), if_pos HL.out, if_pos hall]; rfl
      rw [hz]
      exact of_makes HR.out HZ.out

set_option maxRecDepth 100000 in
set_option maxHeartbeats 1000000 in
theorem of_clock (n : Int) (A : Option Addr) (c : Nat) (cells : List Int) (w : World) (hn : ¬ (0 ≤ n ∧ n ≤ 8)) :
    Calls Try.prog 5 #[.int .i64 n, .slice A cells.length c] w (MakesZ w n.toNat (ofP n cells)) := by
  have hz : ofP n cells = (none, 12) := by unfold ofP; rw [if_neg hn]
  rw [hz]
  clear hz
  have HN := Lib.hid hn
  clear hn
  go_enter Try.func5, Try.ntmps5
  go_wp2_with fail
  refine (few_no _ _ HN.out).mono ?_
  rintro e w' ⟨rfl, rfl⟩
  go_wp2
  go_ret2
  exact ⟨Below.refl _ _, .pointer none, rfl, rfl⟩

set_option maxRecDepth 100000 in
set_option maxHeartbeats 1000000 in
theorem of_long (n : Nat) (A : Option Addr) (c : Nat) (cells : List Int) (w : World) (hn : n ≤ 8) (hlen : ¬ (cells.length : Int) = ((n : Int) + 1) * ((n : Int) + 1)) (hmax : cells.length ≤ 4611686018427387904) :
    Calls Try.prog 5 #[.int .i64 n, .slice A cells.length c] w (MakesZ w n (ofP n cells)) := by
  have hz : ofP n cells = (none, 6) := by unfold ofP; rw [if_pos (by omega), if_neg hlen]
  rw [hz]
  clear hz
  have hm : ((n : Int) + 1) * ((n : Int) + 1) ≤ 9 * 9 := Int.mul_le_mul (by omega) (by omega) (by omega) (by omega)
  have hm0 : 0 ≤ ((n : Int) + 1) * ((n : Int) + 1) := Int.mul_nonneg (by omega) (by omega)
  have t1 : ((cells.length : Int) != ((n : Int) + 1) * ((n : Int) + 1)) = true := by simpa using hlen
  clear hlen
  go_enter Try.func5, Try.ntmps5
  go_wp2_with fail
  refine (few_yes _ _ (by omega)).mono ?_
  rintro e w' ⟨rfl, rfl⟩
  go_wp2
  go_ret2
  exact ⟨Below.refl _ _, .pointer none, rfl, rfl⟩

/-- Of, whatever it is given. -/
theorem of_any (n : Int) (A : Option Addr) (c : Nat) (cells : List Int) (w : World) (hI : Ints w .i32 A cells) (hmax : cells.length ≤ 4611686018427387904)
    (hk : ∀ q, q < cells.length → -2147483648 ≤ cells.getD q 0 ∧ cells.getD q 0 ≤ 2147483647) :
    Calls Try.prog 5 #[.int .i64 n, .slice A cells.length c] w (MakesZ w n.toNat (ofP n cells)) := by
  by_cases hn : 0 ≤ n ∧ n ≤ 8
  · obtain ⟨k, rfl⟩ : ∃ k : Nat, n = k := ⟨n.toNat, by omega⟩
    by_cases hl : (cells.length : Int) = ((k : Int) + 1) * ((k : Int) + 1)
    · exact of_yes k A c cells w (by omega) hI hl hk
    · exact of_long k A c cells w (by omega) hl hmax
  · exact of_clock n A c cells w hn

end Go.Proofs.Ytmelblnflalanaa

/- The cells of a zone, opened. -/
namespace Go.Proofs.Ytmelblnflalanaa
open Go Go.RowKit
set_option linter.unusedVariables false
set_option linter.unusedSimpArgs false
attribute [local go_sem] min_ints max_ints

/-- How many clocks a zone has; none: 0. -/
def dimN (z : Option (Nat × Mat)) : Nat := match z with | some (n, _) => n | none => 0
/-- The first p cells of a row, as a matrix. -/
def fillUp (n : Nat) (l : List Int) (p : Nat) : Mat := fun i j => if i < n + 1 ∧ j < n + 1 ∧ i * (n + 1) + j < p then l.getD (i * (n + 1) + j) 0 else 0
theorem fillUp_zero (n : Nat) (l : List Int) : fillUp n l 0 = fun _ _ => 0 := by
  funext i j
  unfold fillUp
  rw [if_neg (by omega)]
theorem fillUp_next (n : Nat) (l : List Int) (p : Nat) (hp : p < (n + 1) * (n + 1)) : fillUp n l (p + 1) = upd (fillUp n l p) (p / (n + 1)) (p % (n + 1)) (l.getD p 0) := by
  have h1 : p / (n + 1) < n + 1 := Nat.div_lt_of_lt_mul hp
  have h2 := Nat.mod_lt p (show 0 < n + 1 by omega)
  have h3 := Nat.div_add_mod p (n + 1)
  rw [Nat.mul_comm] at h3
  funext i j
  unfold fillUp upd
  by_cases e : i = p / (n + 1) ∧ j = p % (n + 1)
  · obtain ⟨e1, e2⟩ := e
    have e3 : i * (n + 1) + j = p := by rw [e1, e2]; exact h3
    rw [if_pos ⟨by omega, by omega, by omega⟩, if_pos ⟨e1, e2⟩, e3]
  · rw [if_neg e]
    show _ = (if i < n + 1 ∧ j < n + 1 ∧ i * (n + 1) + j < p then l.getD (i * (n + 1) + j) 0 else 0)
    by_cases c : i < n + 1 ∧ j < n + 1
    · have hne : i * (n + 1) + j ≠ p := fun e' => e (by
        rw [← e']
        refine ⟨?_, ?_⟩
        · rw [Nat.mul_comm, Nat.mul_add_div (by omega), Nat.div_eq_of_lt c.2]; rfl
        · rw [Nat.mul_comm, Nat.mul_add_mod, Nat.mod_eq_of_lt c.2])
      by_cases d : i * (n + 1) + j < p
      · rw [if_pos ⟨c.1, c.2, by omega⟩, if_pos ⟨c.1, c.2, d⟩]
      · rw [if_neg (by omega), if_neg (by omega)]
    · rw [if_neg (by omega), if_neg (by omega)]

theorem odim_any (v : Value) (z : Option (Nat × Mat)) (w : World) (h : ZoneV 109 w v z) : Calls Try.prog 35 #[v] w fun e w' => e = .returned (.int .i64 (dimN z)) ∧ w = w' := by
  match z, h with
  | none, h =>
    have h : v = .pointer none := h
    subst h
    exact dim_nil w
  | some (n, m), ⟨b, e, hn, _, hm⟩ =>
    subst e
    exact dim_zone b n m w hm

theorem zero_work (n : Nat) : (Try.zeroCells71).setIfInBounds 0 (Value.int .i64 n) = matCells .i32 n (fun _ _ => 0) := rfl

set_option maxHeartbeats 1000000 in
set_option maxRecDepth 100000 in
theorem oopen_any (v : Value) (z : Option (Nat × Mat)) (w : World) (h : ZoneV 109 w v z) (hz : dimN z ≤ 8) (hl : (cellsP z).length ≤ 81) :
    Calls Try.prog 31 #[v] w fun e w' => e = .returned (.pointer (some ⟨w.heap.size, 0, none⟩)) ∧ Below w.heap.size w w' ∧ MatAt w' w.heap.size 71 .i32 (dimN z) (fillUp (dimN z) (cellsP z) (cellsP z).length) := by
  have HD := Lib.hid (fun w h => odim_any v z w h)
  have HC := Lib.hid (fun w h => cells_any v z w h)
  have HZ := Lib.hid h
  obtain ⟨n, hn⟩ : ∃ n, n = dimN z := ⟨_, rfl⟩
  have hlen : (cellsP z).length ≤ (n + 1) * (n + 1) := by
    rw [hn]
    match z with
    | none => simp [cellsP]
    | some (k, m) => show (flat k m).length ≤ _; rw [flat_length]; exact Nat.le_refl _
  rw [← hn] at HD hz ⊢
  obtain ⟨l, hl'⟩ : ∃ l, l = cellsP z := ⟨_, rfl⟩
  rw [← hl'] at HC hl hlen ⊢
  have HLEN := Lib.hid hlen
  clear h hn hl' hlen
  go_enter Try.func31, Try.ntmps31
  go_wp2_with fail
  refine (HD.out _ HZ.out).mono ?_
  rintro e w1 ⟨rfl, rfl⟩
  go_wp2_with fail
  have HB1 := Lib.hid ((Below.refl w.heap.size w).alloc (Nat.le_refl _) (.cells ((Try.zeroCells71).setIfInBounds 0 (Value.int .i64 n)) 71))
  have hm : MatAt (w.alloc (.cells ((Try.zeroCells71).setIfInBounds 0 (Value.int .i64 n)) 71)) w.heap.size 71 .i32 n (fillUp n l 0) := by
    rw [fillUp_zero]
    unfold MatAt
    rw [heap_alloc_new, zero_work]
  have HM1 := Lib.hid hm
  have HZ1 := Lib.hid (HZ.out.below HB1.out)
  clear hm HZ HD
  generalize w.alloc (.cells ((Try.zeroCells71).setIfInBounds 0 (Value.int .i64 n)) 71) = w1 at *
  refine (HC.out _ HZ1.out).mono ?_
  rintro e w2 ⟨v', rfl, hb2, ho⟩
  have HM2 := Lib.hid (HM1.out.later hb2)
  have HB2 := Lib.hid (HB1.out.trans (hb2.mono HB1.out.size))
  obtain ⟨A, c, rfl, hI⟩ : ∃ A c, v' = .slice A l.length c ∧ ∀ wr, Only w.heap.size w2 wr → Ints wr .i32 A l := by
    by_cases h0 : 0 < l.length
    · obtain ⟨g, cap, e1, e2, e3⟩ := ho.row h0
      have := HM1.out.lt
      exact ⟨_, cap, e1, fun wr hw => (e3.only hw (by omega)).ints⟩
    · obtain ⟨A, cap, e1, _⟩ := ho.slice
      exact ⟨A, cap, e1, fun wr hw j hj => by omega⟩
  have HI := Lib.hid hI
  clear hb2 ho hI HC HZ1 HM1 HB1
  have g1 : IntKind.i64.wrap ((n : Int) + 1) = (n : Int) + 1 := IntWalk.i64_in _ (by omega)
  have g4 : ((n : Int) + 1 == 0) = false := by simp; omega
  have g5 : ¬ ((n : Int) + 1 = 0) := by omega
  go_wp2
  go_loopg [14] l.length (fun g v wr => ∃ p : Nat, v = .int .i64 p ∧ Hid (Only w.heap.size w2 wr ∧ MatAt wr w.heap.size 71 .i32 n (fillUp n l p)) ∧ Hid (p ≤ l.length ∧ g + p = l.length))
  case atStart => exact ⟨0, by simp, ⟨Only.refl _ _, HM2.out⟩, by omega, by omega⟩
  case round =>
    clear HM2
    obtain ⟨p, rfl, HR, HG⟩ := hrel
    by_cases hp : p < l.length
    · obtain ⟨b, off, rfl, hc⟩ := (HI.out _ HR.out.1) p hp
      obtain ⟨x, hx⟩ : ∃ x, x = l.getD p 0 := ⟨_, rfl⟩
      rw [← hx] at hc
      have HX := Lib.hid hx
      clear hx
      have hsq : p < (n + 1) * (n + 1) := by have := HLEN.out; omega
      have hd9 : p / (n + 1) < 9 := by
        have := Nat.div_lt_of_lt_mul hsq
        omega
      have hm9 : p % (n + 1) < 9 := by have := Nat.mod_lt p (show 0 < n + 1 by omega); omega
      have c0 := HR.out.2.head
      have c1 := HR.out.2.cell (p / (n + 1)) (p % (n + 1)) hd9 hm9
      have f1 := HR.out.2.frozen (1 + p / (n + 1) * 9 + p % (n + 1))
      have hlt := HR.out.2.lt
      have k1 := w64_div p n (by omega)
      have k2 := w64_mod p n (by omega)
      obtain ⟨D, hD⟩ : ∃ D, D = p / (n + 1) := ⟨_, rfl⟩
      obtain ⟨M, hM⟩ : ∃ M, M = p % (n + 1) := ⟨_, rfl⟩
      rw [← hD] at hd9 c1 f1 k1
      rw [← hM] at hm9 c1 f1 k2
      have k3 : IntKind.i64.wrap ((p : Int) / ((n : Int) + 1)) = (D : Int) := by rw [idx_div, ← hD]; exact IntWalk.i64_in _ (by omega)
      have k4 : (p : Int) % ((n : Int) + 1) = (M : Int) := by rw [idx_mod, ← hM]
      have k5 : (p : Int).tmod ((n : Int) + 1) = (M : Int) := by rw [Int.tmod_eq_emod_of_nonneg (by omega)]; exact k4
      have hd9i : (D : Int) < 9 := by omega
      have hm9i : (M : Int) < 9 := by omega
      have HSQ := Lib.hid hsq
      have HDM := Lib.hid (And.intro hD hM)
      clear hsq hD hM
      go_wp2_with fail
      go_region
      go_wp2
      go_roundg (gk - 1)
      case measure => have h := HG.out; omega
      case rel =>
        refine ⟨p + 1, by go_num, ⟨(HR.out.1.setCell _ _).drew, ?_⟩, by omega, by have h := HG.out; omega⟩
        rw [fillUp_next n l p HSQ.out, ← HDM.out.1, ← HDM.out.2, ← HX.out]
        exact HR.out.2.set D M hd9 hm9 x
    · have e : p = l.length := by have := HG.out.1; omega
      subst e
      go_wp2
      go_ret
      exact ⟨rfl, HB2.out.trans (HR.out.1.below (Nat.le_refl _) HB2.out.size), HR.out.2⟩

end Go.Proofs.Ytmelblnflalanaa

/- The zone of cells under way. -/
namespace Go.Proofs.Ytmelblnflalanaa
open Go Go.RowKit
set_option linter.unusedVariables false
set_option linter.unusedSimpArgs false
attribute [local go_sem] min_ints max_ints

/-- The rows that shut has gathered. -/
def ShutR (w0 : World) (n : Nat) (m : Mat) (i : Nat) (v : Value) (wr : World) : Prop :=
  Below w0.heap.size w0 wr ∧ wr.ownsRow w0.heap.size 52 1 v (i * (n + 1)) (vals .i32 (rowsL n m i)) ∧ i ≤ n + 1

theorem ShutR.own {w0 wr : World} {n : Nat} {m : Mat} {v : Value} (h : ShutR w0 n m (n + 1) v wr) : OwnI wr w0.heap.size 52 .i32 v (flat n m) := by
  unfold OwnI
  rw [flat_length]
  exact h.2.1

set_option maxRecDepth 100000 in
set_option maxHeartbeats 1000000 in
theorem shut_any (b n : Nat) (m : Mat) (w : World) (hn : n ≤ 8) (h : MatAt w b 71 .i32 n m) (hk : ∀ i j, i < n + 1 → j < n + 1 → -2147483648 ≤ m i j ∧ m i j ≤ 2147483647) :
    Calls Try.prog 33 #[.pointer (some ⟨b, 0, none⟩)] w (MakesZ w n (ofP n (flat n m))) := by
  have h0 := h.head
  have H := Lib.hid h
  have HK := Lib.hid hk
  clear h hk
  obtain ⟨N, hN⟩ : ∃ N, N = (n + 1) * (n + 1) := ⟨_, rfl⟩
  have hN81 : N ≤ 81 := by
    have := Nat.mul_le_mul (show n + 1 ≤ 9 by omega) (show n + 1 ≤ 9 by omega)
    omega
  have g1 : IntKind.i64.wrap ((n : Int) + 1) = (n : Int) + 1 := IntWalk.i64_in _ (by omega)
  have g2 : ((n : Int) + 1) * ((n : Int) + 1) = (N : Int) := by rw [hN]; push_cast; rfl
  have g3 : IntKind.i64.wrap (N : Int) = (N : Int) := IntWalk.i64_in _ (by omega)
  have HN := Lib.hid hN
  obtain ⟨i0, hi1, hz0, hz1, hz2⟩ := info_parts infoB
  have hmk := run_make_own (P := Try.prog) w.drew w.heap.size 22 52 i0 (.int .i32 0) 1 Try.underlying22 hi1 hz0 hz1 .i64 .i64 N (by rw [hz2]; omega) (by unfold maxLen; omega) (Nat.le_refl _)
  obtain ⟨w1, hrun, hown, hgr⟩ := hmk
  have HI := Lib.hid (And.intro hi1 (And.intro hz0 (And.intro hz1 hz2)))
  have hrun' : (Instr.makeSlice 22 (.int .i64 0) (.int .i64 (N : Int))).run Try.prog w.drew = .ok (.slice (some ⟨w.heap.size, 0, none⟩) 0 N) w1 := hrun
  have hb1 : Below w.heap.size w w1 := (Below.drew (Below.refl w.heap.size w)).grown hgr (Nat.le_refl _) (fun k hk => by cases hk)
  have HS := Lib.hid (show ShutR w n m 0 (.slice (some ⟨w.heap.size, 0, none⟩) 0 N) w1 from ⟨hb1, by simpa [rowsL, vals] using hown, by omega⟩)
  have HM1 := Lib.hid (H.out.later hb1)
  have hd1 := HM1.out.head
  clear hN hi1 hz0 hz1 hz2 hown hgr hb1 hrun
  go_enter Try.func33, Try.ntmps33
  go_wp2_with fail
  go_region
  clear hrun' h0
  go_wp2
  go_loopg [4, 26] (n + 1) (fun g v x wr => ∃ i : Nat, x = .int .i64 i ∧ Hid (ShutR w n m i v wr) ∧ Hid (g + i = n + 1))
  case atStart => exact ⟨0, by simp, HS.out, by show _ = _; omega⟩
  case round =>
    clear HS HM1 hd1
    obtain ⟨i, rfl, HR, HG⟩ := hrel
    have HM := Lib.hid (H.out.later HR.out.1)
    have h0 := HM.out.head
    by_cases hi : i < n + 1
    · have hii : (i : Int) < (n : Int) + 1 := by omega
      have i9 : (i : Int) < 9 := by omega
      have n9 : (n : Int) + 1 ≤ 9 := by omega
      have D0 := Lib.hid (show wr.drew.cell? _ = _ from h0)
      have hin : i * (n + 1) ≤ 8 * 9 := Nat.mul_le_mul (by omega) (by omega)
      have hsl := slice_row b (1 + i * 9) n hn
      go_wp2_with fail
      refine wp_region_still_tail 13 (by kernel_rfl) (by kernel_rfl) ?_
      simp only [List.take_succ_cons, List.take_zero, List.drop_succ_cons, List.drop_zero]
      change wpStill _ _ wr.drew _ _ _
      generalize wr.drew = w2 at *
      have d0 := D0.out
      clear D0
      repeat still_step
      refine wpStill_nil ?_
      go_wp2_with (at_builtin; refine wpList_append_own _ rfl _ _ 22 rfl w.heap.size 52 i0 (.int .i32 0) 1 4 Try.underlying22 HI.out.1 HI.out.2.1 HI.out.2.2.1 HI.out.2.2.2 rfl (by decide) _ _ _ rfl (own_drew HR.out.2.1) ⟨b, 1 + i * 9, none⟩ (n + 1) 9 ((List.range (n + 1)).map (fun c => Value.int .i32 (m i c))) rfl (by simp) (row_cells HM.out.drew (by omega) hn) (by intro u hu; obtain ⟨c, _, rfl⟩ := List.mem_map.1 hu; rfl) ?c3 ?c4 ?c5 ?_)
      case c3 => unfold maxLen; omega
      case c4 => omega
      case c5 => exact HR.out.1.size
      intro v' w3 hown hgrow _
      have HS3 := Lib.hid (show ShutR w n m (i + 1) v' w3 from by
        refine ⟨(Below.drew HR.out.1).grown hgrow HR.out.1.size (fun k hk => ?_), ?_, by omega⟩
        · exact (HR.out.2.1.lt k hk).1
        · have e : (i + 1) * (n + 1) = i * (n + 1) + (n + 1) := by rw [Nat.add_mul]; omega
          rw [e]
          have e2 : vals .i32 (rowsL n m (i + 1)) = vals .i32 (rowsL n m i) ++ (List.range (n + 1)).map (fun c => Value.int .i32 (m i c)) := by
            simp [vals, rowsL]
          rw [e2, List.range_succ, List.map_append]; exact hown)
      clear hown hgrow
      go_wp2
      go_roundg (gk - 1)
      case measure => have h := HG.out; omega
      case rel => exact ⟨i + 1, by go_num, HS3.out, by have h := HG.out; show _ = _; omega⟩
    · have hii : ¬ (i : Int) < (n : Int) + 1 := by omega
      have e : i = n + 1 := by have := HR.out.2.2; omega
      subst e
      have hown := ShutR.own HR.out
      obtain ⟨A, c, rfl, hints⟩ := hown.slice
      have HOF := Lib.hid (of_any n A c (flat n m) wr hints (by rw [flat_length, ← HN.out]; omega) (fun q hq => by
        rw [flat_length] at hq
        rw [flat_getD _ _ _ hq]
        have a1 : q / (n + 1) < n + 1 := Nat.div_lt_of_lt_mul hq
        have a2 := Nat.mod_lt q (show 0 < n + 1 by omega)
        exact HK.out _ _ a1 a2))
      have HB := Lib.hid HR.out.1
      clear hown hints HR HM
      go_wp2_with fail
      refine HOF.out.mono ?_
      rintro e w2 ⟨hb, v, rfl, hv⟩
      have HV := Lib.hid hv
      have HB2 := Lib.hid (HB.out.trans (hb.mono HB.out.size))
      clear hb hv
      obtain ⟨ee, hee⟩ : ∃ ee, ee = (ofP n (flat n m)).2 := ⟨_, rfl⟩
      rw [← hee]
      have HE := Lib.hid hee
      clear hee
      go_wp2
      go_ret2
      exact ⟨HB2.out, v, by rw [HE.out]; rfl, HV.out⟩

end Go.Proofs.Ytmelblnflalanaa

/- When time passes. -/
namespace Go.Proofs.Ytmelblnflalanaa
open Go Go.RowKit
set_option linter.unusedVariables false
set_option linter.unusedSimpArgs false
attribute [local go_sem] min_ints max_ints

/-- All cells are numbers of 32 bits. -/
def Rng (n : Nat) (m : Mat) : Prop := ∀ i j, i < n + 1 → j < n + 1 → -2147483648 ≤ m i j ∧ m i j ≤ 2147483647
theorem rng_upd {n : Nat} {m : Mat} (h : Rng n m) (a b : Nat) (x : Int) (h0 : -2147483648 ≤ x) (h1 : x ≤ 2147483647) : Rng n (upd m a b x) := fun i j hi hj => by
  unfold upd
  by_cases e : i = a ∧ j = b
  · rw [if_pos e]; exact ⟨h0, h1⟩
  · rw [if_neg e]; exact h i j hi hj
/-- The opened cells of a zone. -/
def openW (z : Option (Nat × Mat)) : Mat := fillUp (dimN z) (cellsP z) (cellsP z).length
theorem openW_in {n : Nat} {m : Mat} {i j : Nat} (hi : i < n + 1) (hj : j < n + 1) : openW (some (n, m)) i j = m i j := by
  show fillUp n (flat n m) (flat n m).length i j = m i j
  unfold fillUp
  have hlt : i * (n + 1) + j < (n + 1) * (n + 1) := by
    have := Nat.mul_le_mul_right (n + 1) (show i ≤ n by omega)
    have e : (n + 1) * (n + 1) = n * (n + 1) + (n + 1) := by rw [Nat.add_mul]; omega
    omega
  rw [if_pos ⟨hi, hj, by rw [flat_length]; exact hlt⟩, flat_at m hi hj]
theorem rng_open {n : Nat} {m : Mat} (h : RightM n m) : Rng n (openW (some (n, m))) := fun i j hi hj => by
  rw [openW_in hi hj]
  have := h i j (by omega) (by omega)
  unfold rightB at this
  have := of_decide_eq_true this
  omega

/-- No bound on how great the first p clocks are. -/
def upUp (m : Mat) : Nat → Mat
  | 0 => m
  | p + 1 => if p = 0 then upUp m p else upd (upUp m p) p 0 2147483647
theorem rng_up {n : Nat} {m : Mat} (h : Rng n m) : ∀ p, Rng n (upUp m p)
  | 0 => h
  | p + 1 => by
    unfold upUp
    split
    · exact rng_up h p
    · exact rng_upd (rng_up h p) _ _ _ (by decide) (by decide)
/-- The cells behind Up. -/
def upW (z : Option (Nat × Mat)) : Mat := if emptyP z then openW z else upUp (openW z) (dimN z + 1)

theorem oempty_any (b n : Nat) (m : Mat) (w : World) (hm : MatAt w b 109 .i32 n m) : Calls Try.prog 32 #[.pointer (some ⟨b, 0, none⟩)] w fun e w' => e = .returned (.bool (emptyP (some (n, m)))) ∧ w = w' := empty_zone b n m w hm

set_option maxHeartbeats 1000000 in
set_option maxRecDepth 100000 in
theorem up_nil (w : World) : Calls Try.prog 8 #[.pointer none] w fun e w' => e = .returned (.tuple #[.pointer none, .int .i64 1]) ∧ w = w' := by
  go_enter Try.func8, Try.ntmps8
  go_wp2
  go_ret2
  exact ⟨rfl, rfl⟩

set_option maxHeartbeats 1000000 in
set_option maxRecDepth 100000 in
theorem up_zone (v : Value) (n : Nat) (m : Mat) (w : World) (h : ZoneV 109 w v (some (n, m))) : Calls Try.prog 8 #[v] w (MakesZ w n (ofP n (flat n (upW (some (n, m)))))) := by
  have HZ := Lib.hid h
  obtain ⟨b, rfl, hn, hr, hm⟩ := h
  have hl : (cellsP (some (n, m))).length ≤ 81 := cellsP_short _ fun k m' e => by simp at e; omega
  have HO := Lib.hid (fun w h => oopen_any (.pointer (some ⟨b, 0, none⟩)) (some (n, m)) w h hn hl)
  have HM := Lib.hid hm
  have HRG := Lib.hid (rng_open hr)
  have HSH := Lib.hid (fun c m' w h hk => shut_any c n m' w hn h hk)
  clear hm hl hr
  go_enter Try.func8, Try.ntmps8
  go_wp2_with fail
  refine (HO.out _ HZ.out).mono ?_
  rintro e w1 ⟨rfl, hb, hw⟩
  have HB1 := Lib.hid hb
  have HW1 := Lib.hid (show MatAt w1 w.heap.size 71 .i32 n (openW (some (n, m))) from hw)
  have HM1 := Lib.hid (HM.out.later hb)
  clear hb hw HM HZ HO
  go_wp2_with fail
  refine (oempty_any b n m _ HM1.out).mono ?_
  cases he : emptyP (some (n, m)) with
  | true =>
    have HEQ := Lib.hid (show upW (some (n, m)) = openW (some (n, m)) by unfold upW; rw [if_pos he])
    rintro e w2 ⟨rfl, rfl⟩
    go_wp2_with fail
    refine (HSH.out _ _ _ HW1.out HRG.out).mono ?_
    rintro e w2 hz
    have HZ2 := Lib.hid hz
    obtain ⟨hb, v, rfl, hv⟩ := hz
    have HB2 := Lib.hid (HB1.out.trans (hb.mono HB1.out.size))
    clear hb hv
    go_wp2
    go_ret2
    rw [HEQ.out]
    exact ⟨HB2.out, HZ2.out.2⟩
  | false =>
    have HEQ := Lib.hid (show upW (some (n, m)) = upUp (openW (some (n, m))) (n + 1) by unfold upW; rw [if_neg (by simp [he])]; rfl)
    rintro e w2 ⟨rfl, rfl⟩
    obtain ⟨M, hM⟩ : ∃ M, M = openW (some (n, m)) := ⟨_, rfl⟩
    rw [← hM] at HEQ HW1 HRG
    clear hM he HM1
    go_wp2
    go_loopg [5] n (fun g v wr => ∃ p : Nat, v = .int .i64 p ∧ Hid (Only w.heap.size w1 wr ∧ MatAt wr w.heap.size 71 .i32 n (upUp M p)) ∧ Hid (1 ≤ p ∧ p ≤ n + 1 ∧ g + p = n + 1))
    case atStart => exact ⟨1, by simp, ⟨Only.refl _ _, HW1.out⟩, by omega, by omega, by omega⟩
    case round =>
      clear HW1
      obtain ⟨p, rfl, HR, HG⟩ := hrel
      have c0 := HR.out.2.head
      have hlt := HR.out.2.lt
      by_cases hp : p ≤ n
      · have hpi : (p : Int) ≤ (n : Int) := by omega
        have hp9 : (p : Int) < 9 := by omega
        have c1 := HR.out.2.cell p 0 (by omega) (by omega)
        have f1 := HR.out.2.frozen (1 + p * 9)
        simp only [Nat.add_zero] at c1
        go_wp2
        go_roundg (gk - 1)
        case measure => have h := HG.out; omega
        case rel =>
          refine ⟨p + 1, by go_num, ⟨HR.out.1.setCell _ _, ?_⟩, by omega, by omega, by have h := HG.out; omega⟩
          have e : upUp M (p + 1) = upd (upUp M p) p 0 2147483647 := by
            have h := HG.out
            rw [upUp, if_neg (by omega)]
          rw [e]
          exact HR.out.2.set p 0 (by omega) (by omega) _
      · have e : p = n + 1 := by have := HG.out; omega
        subst e
        have hpi : ¬ (((n + 1 : Nat) : Int) ≤ (n : Int)) := by omega
        have HB2 := Lib.hid (HB1.out.trans (HR.out.1.below (Nat.le_refl _) HB1.out.size))
        go_wp2_with fail
        refine (HSH.out _ _ _ HR.out.2 (rng_up HRG.out _)).mono ?_
        rintro e w2 hz
        have HZ2 := Lib.hid hz
        obtain ⟨hb, v, rfl, hv⟩ := hz
        have HB3 := Lib.hid (HB2.out.trans (hb.mono HB2.out.size))
        clear hb hv
        go_wp2
        go_ret2
        rw [HEQ.out]
        exact ⟨HB3.out, HZ2.out.2⟩

end Go.Proofs.Ytmelblnflalanaa

/- All from which time leads to a zone. -/
namespace Go.Proofs.Ytmelblnflalanaa
open Go Go.RowKit
set_option linter.unusedVariables false
set_option linter.unusedSimpArgs false
attribute [local go_sem] min_ints max_ints

theorem rng_less {n : Nat} {m : Mat} (h : Rng n m) (a b : Nat) (ha : a < n + 1) (hb : b < n + 1) (x : Int) (h0 : -2147483648 ≤ x) (h1 : x ≤ 2147483647) : Rng n (lessM m a b x) := by
  have := h a b ha hb
  unfold lessM
  exact rng_upd h a b _ (by omega) (by omega)
/-- Column i made as strict as the first j cells. -/
def downIn (m : Mat) (i : Nat) : Nat → Mat
  | 0 => m
  | j + 1 => if j = 0 then downIn m i j else lessM (downIn m i j) 0 i (downIn m i j j i)
def downUp (n : Nat) (m : Mat) : Nat → Mat
  | 0 => m
  | i + 1 => if i = 0 then downUp n m i else downIn (upd (downUp n m i) 0 i 1) i (n + 1)
theorem rng_downIn {n : Nat} {m : Mat} (h : Rng n m) (i : Nat) (hi : i < n + 1) : ∀ j, j ≤ n + 1 → Rng n (downIn m i j)
  | 0, _ => h
  | j + 1, hj => by
    have := rng_downIn h i hi j (by omega)
    unfold downIn
    split
    · exact this
    · exact rng_less this 0 i (by omega) hi _ (this j i (by omega) hi).1 (this j i (by omega) hi).2
theorem rng_down {n : Nat} {m : Mat} (h : Rng n m) : ∀ i, i ≤ n + 1 → Rng n (downUp n m i)
  | 0, _ => h
  | i + 1, hi => by
    have := rng_down h i (by omega)
    unfold downUp
    split
    · exact this
    · exact rng_downIn (rng_upd this _ _ _ (by decide) (by decide)) i (by omega) _ (Nat.le_refl _)
/-- The cells behind Down. -/
def downW (z : Option (Nat × Mat)) : Mat := if emptyP z then openW z else downUp (dimN z) (openW z) (dimN z + 1)

set_option maxHeartbeats 1000000 in
set_option maxRecDepth 100000 in
theorem down_nil (w : World) : Calls Try.prog 12 #[.pointer none] w fun e w' => e = .returned (.tuple #[.pointer none, .int .i64 1]) ∧ w = w' := by
  go_enter Try.func12, Try.ntmps12
  go_wp2
  go_ret2
  exact ⟨rfl, rfl⟩

set_option maxHeartbeats 1000000 in
set_option maxRecDepth 100000 in
theorem down_zone (v : Value) (n : Nat) (m : Mat) (w : World) (h : ZoneV 109 w v (some (n, m))) : Calls Try.prog 12 #[v] w (MakesZ w n (ofP n (flat n (downW (some (n, m)))))) := by
  have HZ := Lib.hid h
  obtain ⟨b, rfl, hn, hr, hm⟩ := h
  have hl : (cellsP (some (n, m))).length ≤ 81 := cellsP_short _ fun k m' e => by simp at e; omega
  have HO := Lib.hid (fun w h => oopen_any (.pointer (some ⟨b, 0, none⟩)) (some (n, m)) w h hn hl)
  have HM := Lib.hid hm
  have HRG := Lib.hid (rng_open hr)
  have HSH := Lib.hid (fun c m' w h hk => shut_any c n m' w hn h hk)
  clear hm hl hr
  go_enter Try.func12, Try.ntmps12
  go_wp2_with fail
  refine (HO.out _ HZ.out).mono ?_
  rintro e w1 ⟨rfl, hb, hw⟩
  have HB1 := Lib.hid hb
  have HW1 := Lib.hid (show MatAt w1 w.heap.size 71 .i32 n (openW (some (n, m))) from hw)
  have HM1 := Lib.hid (HM.out.later hb)
  clear hb hw HM HZ HO
  go_wp2_with fail
  refine (oempty_any b n m _ HM1.out).mono ?_
  cases he : emptyP (some (n, m)) with
  | true =>
    have HEQ := Lib.hid (show downW (some (n, m)) = openW (some (n, m)) by unfold downW; rw [if_pos he])
    rintro e w2 ⟨rfl, rfl⟩
    go_wp2_with fail
    refine (HSH.out _ _ _ HW1.out HRG.out).mono ?_
    rintro e w2 hz
    have HZ2 := Lib.hid hz
    obtain ⟨hb, v, rfl, hv⟩ := hz
    have HB2 := Lib.hid (HB1.out.trans (hb.mono HB1.out.size))
    clear hb hv
    go_wp2
    go_ret2
    rw [HEQ.out]
    exact ⟨HB2.out, HZ2.out.2⟩
  | false =>
    have HEQ := Lib.hid (show downW (some (n, m)) = downUp n (openW (some (n, m))) (n + 1) by unfold downW; rw [if_neg (by simp [he])]; rfl)
    rintro e w2 ⟨rfl, rfl⟩
    obtain ⟨M, hM⟩ : ∃ M, M = openW (some (n, m)) := ⟨_, rfl⟩
    rw [← hM] at HEQ HW1 HRG
    clear hM he HM1
    go_wp2
    go_loopg [5] n (fun g v wr => ∃ p : Nat, v = .int .i64 p ∧ Hid (Only w.heap.size w1 wr ∧ MatAt wr w.heap.size 71 .i32 n (downUp n M p)) ∧ Hid (1 ≤ p ∧ p ≤ n + 1 ∧ g + p = n + 1))
    case atStart => exact ⟨1, by simp, ⟨Only.refl _ _, HW1.out⟩, by omega, by omega, by omega⟩
    case round =>
      clear HW1
      obtain ⟨p, rfl, HR, HG⟩ := hrel
      have c0 := HR.out.2.head
      have hlt := HR.out.2.lt
      by_cases hp : p ≤ n
      · have hpi : (p : Int) ≤ (n : Int) := by omega
        have hp9 : (p : Int) < 9 := by omega
        have c1 := HR.out.2.cell 0 p (by omega) (by omega)
        have f1 := HR.out.2.frozen (1 + p)
        simp only [Nat.zero_mul, Nat.add_zero] at c1
        go_wp2_with fail
        have HM2 := Lib.hid (HR.out.2.set 0 p (by omega) (by omega) 1)
        have HO2 := Lib.hid (HR.out.1.setCell (1 + p) (.int .i32 1))
        simp only [Nat.zero_mul, Nat.add_zero] at HM2
        generalize wr.setCell ⟨w.heap.size, 1 + p, none⟩ (.int .i32 1) = w3 at *
        go_loopg [6] n (fun g v wr => ∃ q : Nat, v = .int .i64 q ∧ Hid (Only w.heap.size w1 wr ∧ MatAt wr w.heap.size 71 .i32 n (downIn (upd (downUp n M p) 0 p 1) p q)) ∧ Hid (1 ≤ q ∧ q ≤ n + 1 ∧ g + q = n + 1))
        case atStart => exact ⟨1, by simp, ⟨HO2.out, HM2.out⟩, by omega, by omega, by omega⟩
        case round =>
          clear HM2 HO2 c0 hlt c1 f1
          obtain ⟨q, rfl, HS, HH⟩ := hrel
          have c0 := HS.out.2.head
          have hlt := HS.out.2.lt
          by_cases hq : q ≤ n
          · have hqi : (q : Int) ≤ (n : Int) := by omega
            have hq9 : (q : Int) < 9 := by omega
            have c1 := HS.out.2.cell q p (by omega) (by omega)
            obtain ⟨x, hx⟩ : ∃ x, x = downIn (upd (downUp n M p) 0 p 1) p q q p := ⟨_, rfl⟩
            rw [← hx] at c1
            have HX := Lib.hid hx
            clear hx
            go_wp2_with fail
            refine (less_any w.heap.size 0 p n _ x _ (by omega) (by omega) HS.out.2).mono ?_
            rintro e w4 ⟨rfl, ho, hm⟩
            have HS4 := Lib.hid (And.intro (HS.out.1.trans ho) hm)
            clear ho hm
            go_wp2
            go_roundg (gk - 1)
            case measure => have h := HH.out; omega
            case rel =>
              refine ⟨q + 1, by go_num, ⟨HS4.out.1, ?_⟩, by omega, by omega, by have h := HH.out; omega⟩
              have e : downIn (upd (downUp n M p) 0 p 1) p (q + 1) = lessM (downIn (upd (downUp n M p) 0 p 1) p q) 0 p x := by
                have h := HH.out
                rw [downIn, if_neg (by omega), HX.out]
              rw [e]
              exact HS4.out.2
          · have e : q = n + 1 := by have := HH.out; omega
            subst e
            have hqi : ¬ (((n + 1 : Nat) : Int) ≤ (n : Int)) := by omega
            go_wp2
            go_roundg (n - p)
            case measure => have h := HG.out; omega
            case rel =>
              refine ⟨p + 1, by go_num, ⟨HS.out.1, ?_⟩, by omega, by omega, by have h := HG.out; omega⟩
              have e : downUp n M (p + 1) = downIn (upd (downUp n M p) 0 p 1) p (n + 1) := by
                have h := HG.out
                rw [downUp, if_neg (by omega)]
              rw [e]
              exact HS.out.2
      · have e : p = n + 1 := by have := HG.out; omega
        subst e
        have hpi : ¬ (((n + 1 : Nat) : Int) ≤ (n : Int)) := by omega
        have HB2 := Lib.hid (HB1.out.trans (HR.out.1.below (Nat.le_refl _) HB1.out.size))
        go_wp2_with fail
        refine (HSH.out _ _ _ HR.out.2 (rng_down HRG.out _ (Nat.le_refl _))).mono ?_
        rintro e w2 hz
        have HZ2 := Lib.hid hz
        obtain ⟨hb, v, rfl, hv⟩ := hz
        have HB3 := Lib.hid (HB2.out.trans (hb.mono HB2.out.size))
        clear hb hv
        go_wp2
        go_ret2
        rw [HEQ.out]
        exact ⟨HB3.out, HZ2.out.2⟩

end Go.Proofs.Ytmelblnflalanaa

/- The closed form hangs on the cells of the clocks alone; the program's wide matrix and the document's have the same ones. -/
namespace Go.Proofs.Ytmelblnflalanaa
set_option linter.unusedVariables false

/-- The same cells of clocks 0 to n. -/
def Agree (n : Nat) (m o : Mat) : Prop := ∀ i j, i ≤ n → j ≤ n → m i j = o i j
theorem Agree.fwd {n : Nat} {m o : Mat} (h : Agree n m o) {k : Nat} (hk : k ≤ n) : Agree n (fw k n m) (fw k n o) := fun i j hi hj => by
  unfold fw; rw [if_pos ⟨hi, hj⟩, if_pos ⟨hi, hj⟩, h i j hi hj, h i k hi hk, h k j hk hj]
theorem closeP_agree {n : Nat} : ∀ s k m o, Agree n m o → k + s ≤ n + 1 → (closeP n s k m = none ∧ closeP n s k o = none) ∨ ∃ m' o', closeP n s k m = some m' ∧ closeP n s k o = some o' ∧ Agree n m' o'
  | 0, k, m, o, h, _ => .inr ⟨m, o, rfl, rfl, h⟩
  | s + 1, k, m, o, h, hk => by
    have hf := h.fwd (k := k) (by omega)
    simp only [closeP]
    by_cases hd : ∀ i, i ≤ n → 1 ≤ fw k n m i i
    · have hd' : ∀ i, i ≤ n → 1 ≤ fw k n o i i := fun i hi => by rw [← hf i i hi hi]; exact hd i hi
      rw [if_pos hd, if_pos hd']
      exact closeP_agree s (k + 1) _ _ hf (by omega)
    · have hd' : ¬ ∀ i, i ≤ n → 1 ≤ fw k n o i i := fun h' => hd fun i hi => by rw [hf i i hi hi]; exact h' i hi
      rw [if_neg hd, if_neg hd']
      exact .inl ⟨rfl, rfl⟩
theorem closed_agree {n : Nat} {m o : Mat} (h : Agree n m o) : (closed n m = none ∧ closed n o = none) ∨ ∃ m' o', closed n m = some m' ∧ closed n o = some o' ∧ Agree n m' o' :=
  closeP_agree (n + 1) 0 m o h (by omega)
theorem narM_agree {n : Nat} {m o : Mat} (h : Agree n m o) : narM n m = narM n o := by
  funext i j; unfold narM
  by_cases hij : i ≤ n ∧ j ≤ n
  · rw [if_pos hij, if_pos hij, h i j hij.1 hij.2]
  · rw [if_neg hij, if_neg hij]
theorem zoneP_agree {n : Nat} {m o : Mat} (h : Agree n m o) : zoneP n m = zoneP n o := by
  unfold zoneP
  rcases closed_agree h with ⟨h1, h2⟩ | ⟨m', o', h1, h2, h3⟩
  · rw [h1, h2]
  · rw [h1, h2]
    simp only
    by_cases ha : allR n m'
    · have hb : allR n o' := fun i hi j hj => by rw [← h3 i j hi hj]; exact ha i hi j hj
      rw [if_pos ha, if_pos hb, narM_agree h3]
    · have hb : ¬ allR n o' := fun hb => ha fun i hi j hj => by rw [h3 i j hi hj]; exact hb i hi j hj
      rw [if_neg ha, if_neg hb]

/-- The wide matrix of a row of bounds. -/
def widM (n : Nat) (cells : List Int) : Mat := fun i j => wid (cells.getD (i * (n + 1) + j) 0)
theorem widUp_flat {n : Nat} {cells : List Int} : widUp cells ((n + 1) * (n + 1)) = flat n (widM n cells) := by
  apply list_ext0 (by rw [widUp_length, flat_length])
  intro p hp
  rw [widUp_length] at hp
  rw [widUp_getD _ _ _ hp, flat_getD _ _ _ hp]
  show _ = wid (cells.getD (p / (n + 1) * (n + 1) + p % (n + 1)) 0)
  rw [Nat.mul_comm, Nat.div_add_mod]
theorem widM_bd {n : Nat} {cells : List Int} (h : ∀ q, q < (n + 1) * (n + 1) → rightB (cells.getD q 0) = true) : ∀ i j, i ≤ n → j ≤ n → Bd 1073741824 (widM n cells i j) := fun i j hi hj => by
  have hr := h (i * (n + 1) + j) (at_lt (by omega) (by omega))
  unfold widM wid
  by_cases e : cells.getD (i * (n + 1) + j) 0 = 2147483647
  · rw [if_pos e]; exact .inl rfl
  · rw [if_neg e]
    have := rightB_bd hr e
    exact .inr (by omega)

/-- What keeping the first p cells leaves of a cell. -/
theorem keepUp_cell (n : Nat) (cells : List Int) (i j : Nat) (hi : i ≤ n) (hj : j ≤ n) (hr : ∀ q, q < (n + 1) * (n + 1) → rightB (cells.getD q 0) = true) : ∀ p, p ≤ (n + 1) * (n + 1) →
    keepUp n cells p i j = if i * (n + 1) + j < p then (if i = j ∨ i = 0 then min 1 (wid (cells.getD (i * (n + 1) + j) 0)) else wid (cells.getD (i * (n + 1) + j) 0)) else openM n i j
  | 0, _ => by rw [if_neg (by omega)]; rfl
  | p + 1, hp => by
    have ih := keepUp_cell n cells i j hi hj hr p (by omega)
    have hrp := hr p (by omega)
    show keepM (keepUp n cells p) (p / (n + 1)) (p % (n + 1)) (cells.getD p 0) i j = _
    have hopen : openM n i j = if i = j ∨ i = 0 then 1 else none62 := by unfold openM; rw [if_pos ⟨hi, hj⟩]
    by_cases e : i * (n + 1) + j = p
    · have h1 := (at_row (i := i) (show j < n + 1 by omega)).1
      have h2 := (at_row (i := i) (show j < n + 1 by omega)).2
      rw [e] at h1 h2
      rw [if_neg (by omega)] at ih
      rw [if_pos (by omega), h1, h2, e]
      unfold keepM
      by_cases hinf : cells.getD p 0 = 2147483647
      · rw [if_pos hinf, ih, hopen]
        have hw : wid (cells.getD p 0) = none62 := by unfold wid; rw [if_pos hinf]
        rw [hw]
        by_cases hd : i = j ∨ i = 0
        · rw [if_pos hd, if_pos hd]; decide
        · rw [if_neg hd, if_neg hd]
      · rw [if_neg hinf]
        have hw : wid (cells.getD p 0) = cells.getD p 0 := by unfold wid; rw [if_neg hinf]
        have hb := rightB_bd hrp hinf
        rw [hw]
        unfold upd
        rw [if_pos ⟨rfl, rfl⟩, ih, hopen]
        by_cases hd : i = j ∨ i = 0
        · rw [if_pos hd, if_pos hd]
        · rw [if_neg hd, if_neg hd, Int.min_def]
          unfold none62
          rw [if_neg (by omega)]
    · have hne : ¬ (i = p / (n + 1) ∧ j = p % (n + 1)) := fun h => e (by rw [h.1, h.2, Nat.mul_comm]; exact Nat.div_add_mod _ _)
      have hk : keepM (keepUp n cells p) (p / (n + 1)) (p % (n + 1)) (cells.getD p 0) i j = keepUp n cells p i j := by
        unfold keepM
        split
        · rfl
        · unfold upd; rw [if_neg hne]
      rw [hk, ih]
      by_cases hlt : i * (n + 1) + j < p
      · rw [if_pos hlt, if_pos (show i * (n + 1) + j < p + 1 by omega)]
      · rw [if_neg hlt, if_neg (show ¬ i * (n + 1) + j < p + 1 by omega)]

/-- The program's wide matrix is the document's. -/
theorem keep_wide {n : Nat} {cells : List Int} (hr : ∀ q, q < (n + 1) * (n + 1) → rightB (cells.getD q 0) = true) : Agree n (clUp (widM n cells) (n + 1)) (keepUp n cells ((n + 1) * (n + 1))) := fun i j hi hj => by
  rw [keepUp_cell n cells i j hi hj hr _ (Nat.le_refl _), if_pos (at_lt (by omega) (by omega))]
  unfold clUp
  by_cases hd : i = j ∨ i = 0
  · rw [if_pos (by omega), if_pos hd, Int.min_comm]; rfl
  · rw [if_neg (by omega), if_neg hd]; rfl

end Go.Proofs.Ytmelblnflalanaa

/- The diagonal of a closed form, and the shape of every zone. -/
namespace Go.Proofs.Ytmelblnflalanaa
set_option linter.unusedVariables false
set_option linter.unusedSimpArgs false

theorem fw_diag {k n : Nat} {m : Mat} (h : ∀ i, i ≤ n → m i i ≤ 1) : ∀ i, i ≤ n → fw k n m i i ≤ 1 := fun i hi => by
  unfold fw
  rw [if_pos ⟨hi, hi⟩]
  have := h i hi
  omega
theorem closeP_diag {n : Nat} : ∀ s k m m', (∀ i, i ≤ n → m i i ≤ 1) → closeP n s k m = some m' → ∀ i, i ≤ n → m' i i ≤ 1
  | 0, k, m, m', h, e => by
    simp [closeP] at e
    subst e
    exact h
  | s + 1, k, m, m', h, e => by
    unfold closeP at e
    split at e
    · exact closeP_diag s (k + 1) _ m' (fw_diag h) e
    · cases e
theorem closeP_low {n : Nat} : ∀ s k m m', closeP n (s + 1) k m = some m' → ∀ i, i ≤ n → 1 ≤ m' i i
  | 0, k, m, m', e => by
    unfold closeP at e
    split at e
    · simp [closeP] at e
      subst e
      assumption
    · cases e
  | s + 1, k, m, m', e => by
    unfold closeP at e
    split at e
    · exact closeP_low s (k + 1) _ m' e
    · cases e
/-- On the diagonal of a closed form stands 0, reached. -/
theorem closed_diag {n : Nat} {m m' : Mat} (h : ∀ i, i ≤ n → m i i ≤ 1) (e : closed n m = some m') : ∀ i, i ≤ n → m' i i = 1 := fun i hi => by
  have h1 := closeP_diag _ _ _ _ h e i hi
  have h2 := closeP_low _ _ _ _ e i hi
  omega

/-- The shape of a zone: nothing outside; empty: all 0; else 1 on the diagonal. -/
structure Shape (n : Nat) (m : Mat) : Prop where
  inside : Inside n m
  cases : m = (fun _ _ => 0) ∨ ∀ i, i ≤ n → m i i = 1
theorem zoneP_shape {n : Nat} {m z : Mat} (h : ∀ i, i ≤ n → m i i ≤ 1) (e : (zoneP n m).1 = some z) : Shape n z := by
  unfold zoneP at e
  split at e
  · simp at e
    subst e
    exact ⟨fun _ _ _ => rfl, .inl rfl⟩
  · rename_i m' hm
    split at e
    · simp at e
      subst e
      refine ⟨narM_inside _ _, .inr fun i hi => ?_⟩
      unfold narM
      rw [if_pos ⟨hi, hi⟩, closed_diag h hm i hi]
      decide
    · cases e
theorem ofP_shape {n : Int} {cells : List Int} {z : Mat} (e : (ofP n cells).1 = some z) : 0 ≤ n ∧ n ≤ 8 ∧ Shape n.toNat z := by
  unfold ofP at e
  split at e
  · rename_i hn
    refine ⟨hn.1, hn.2, ?_⟩
    split at e
    · split at e
      · rename_i hr
        have hr' := (all_getD cells rightB 0).1 hr
        exact zoneP_shape (fun i hi => (keepUp_fit _ _ _ hr').diag i hi) e
      · cases e
    · cases e
  · cases e
theorem limP_shape {n : Int} {l : List (Int × Int × Int)} {z : Mat} (e : (limP n l).1 = some z) : 0 ≤ n ∧ n ≤ 8 ∧ Shape n.toNat z := by
  unfold limP at e
  split at e
  · rename_i hn
    refine ⟨hn.1, hn.2, ?_⟩
    split at e
    · rename_i hr
      have hr' := (all_getD l (limOk n.toNat) (0, 0, 0)).1 hr
      exact zoneP_shape (fun i hi => (limUp_fit _ _ _ hr').diag i hi) e
    · cases e
  · cases e
/-- Two that hold the same within are the same. -/
theorem inside_ext {n : Nat} {m o : Mat} (hm : Inside n m) (ho : Inside n o) (h : ∀ i j, i ≤ n → j ≤ n → m i j = o i j) : m = o := by
  funext a c
  by_cases hb : a ≤ n ∧ c ≤ n
  · exact h a c hb.1 hb.2
  · rw [hm a c (by omega), ho a c (by omega)]

end Go.Proofs.Ytmelblnflalanaa

/- What bounds mean: valuations on a grid. The closed form has the same ones, it is closed, and it is its own closed form. -/
namespace Go.Proofs.Ytmelblnflalanaa
set_option linter.unusedVariables false
set_option linter.unusedSimpArgs false

/-! ### sums of wide bounds -/
theorem wsum_min {a b : Int} (ha : a ≠ none62) (hb : b ≠ none62) : wsum a b = (a - a % 2) + (b - b % 2) + min (a % 2) (b % 2) := by
  unfold wsum
  rw [if_neg (by simp [ha, hb])]
  rcases two_cases a b with ⟨h, h1⟩ | ⟨h, h1, h2⟩ <;> rw [h] <;> omega
theorem wsum_none_left (b : Int) : wsum none62 b = none62 := by simp [wsum]
theorem wsum_none_right (a : Int) : wsum a none62 = none62 := by simp [wsum]
theorem wsum_comm (a b : Int) : wsum a b = wsum b a := by
  by_cases ha : a = none62
  · rw [ha, wsum_none_left, wsum_none_right]
  · by_cases hb : b = none62
    · rw [hb, wsum_none_left, wsum_none_right]
    · rw [wsum_min ha hb, wsum_min hb ha]; omega
/-- A wide bound that may be added a few times. -/
abbrev FB (a : Int) : Prop := Bd 288230376151711744 a
theorem FB.fin {a : Int} (h : FB a) (hn : a ≠ none62) : -288230376151711744 ≤ a ∧ a ≤ 288230376151711744 := by
  rcases h with h | h
  · exact absurd h hn
  · exact h
theorem FB.le {a : Int} (h : FB a) : a ≤ none62 := by
  unfold none62
  rcases h with h | h
  · unfold none62 at h; omega
  · omega
theorem wsum_fin_ne {a b : Int} (ha : FB a) (hb : FB b) (h1 : a ≠ none62) (h2 : b ≠ none62) : wsum a b ≠ none62 := by
  rw [wsum_min h1 h2]
  have := ha.fin h1
  have := hb.fin h2
  unfold none62
  omega
theorem wsum_assoc {a b c : Int} (ha : FB a) (hb : FB b) (hc : FB c) : wsum (wsum a b) c = wsum a (wsum b c) := by
  by_cases h1 : a = none62
  · rw [h1, wsum_none_left, wsum_none_left, wsum_none_left]
  · by_cases h2 : b = none62
    · rw [h2, wsum_none_right, wsum_none_left, wsum_none_right]
    · by_cases h3 : c = none62
      · rw [h3, wsum_none_right, wsum_none_right, wsum_none_right]
      · have e1 := wsum_fin_ne ha hb h1 h2
        have e2 := wsum_fin_ne hb hc h2 h3
        rw [wsum_min e1 h3, wsum_min h1 e2, wsum_min h1 h2, wsum_min h2 h3]
        omega
theorem wsum_le {a a' b b' : Int} (ha : FB a) (ha' : FB a') (hb : FB b) (hb' : FB b') (h1 : a ≤ a') (h2 : b ≤ b') : wsum a b ≤ wsum a' b' := by
  by_cases e1 : a' = none62
  · rw [e1, wsum_none_left]
    by_cases e2 : a = none62
    · rw [e2, wsum_none_left]; exact Int.le_refl _
    · by_cases e3 : b = none62
      · rw [e3, wsum_none_right]; exact Int.le_refl _
      · have := ha.fin e2
        have := hb.fin e3
        rw [wsum_min e2 e3]; unfold none62; omega
  · by_cases e2 : b' = none62
    · rw [e2, wsum_none_right]
      by_cases e3 : a = none62
      · rw [e3, wsum_none_left]; exact Int.le_refl _
      · by_cases e4 : b = none62
        · rw [e4, wsum_none_right]; exact Int.le_refl _
        · have := ha.fin e3
          have := hb.fin e4
          rw [wsum_min e3 e4]; unfold none62; omega
    · have f1 := ha'.fin e1
      have f2 := hb'.fin e2
      have e3 : a ≠ none62 := fun h => by unfold none62 at h; omega
      have e4 : b ≠ none62 := fun h => by unfold none62 at h; omega
      rw [wsum_min e3 e4, wsum_min e1 e2]
      omega

/-! ### the closed form is closed -/
/-- No way by a clock ahead of k is stricter. -/
def Tri (n : Nat) (m : Mat) (k : Nat) : Prop := ∀ l, l < k → ∀ i j, i ≤ n → j ≤ n → m i j ≤ wsum (m i l) (m l j)
theorem fw_le (k n : Nat) (m : Mat) (i j : Nat) : fw k n m i j ≤ m i j := by
  unfold fw; split
  · omega
  · exact Int.le_refl _
theorem half_fb {a : Int} (h : Bd 1125899906842624 a) : FB a := h.mono (by omega)
theorem sum_fb {a b : Int} (h : Bd 1125899906842624 a) (h' : Bd 1125899906842624 b) : FB (wsum a b) := (h.sum h').mono (by omega)
theorem fw_tri {n k : Nat} {m : Mat} (hf : ∀ i j, i ≤ n → j ≤ n → Bd 1125899906842624 (m i j)) (hk : k ≤ n) (hd : ∀ i, i ≤ n → m i i = 1) (ht : Tri n m k) : Tri n (fw k n m) (k + 1) := by
  intro l hl i j hi hj
  by_cases e : l = k
  · subst e
    rw [fw_col (hd l hk), fw_row (hd l hk)]
    unfold fw
    rw [if_pos ⟨hi, hj⟩]
    omega
  · have hlk : l < k := by omega
    have hln : l ≤ n := by omega
    have t1 := ht l hlk i j hi hj
    have t2 := ht l hlk k j hk hj
    have t3 := ht l hlk i k hi hk
    have t4 := ht l hlk k k hk hk
    rw [hd k hk] at t4
    have fa := hf i l hi hln
    have fb := hf l j hln hj
    have fc := hf i k hi hk
    have fd := hf k j hk hj
    have fp := hf k l hk hln
    have fq := hf l k hln hk
    unfold fw
    rw [if_pos ⟨hi, hj⟩, if_pos ⟨hi, hln⟩, if_pos ⟨hln, hj⟩]
    generalize m i j = x at *
    generalize m i l = a at *
    generalize m l j = b at *
    generalize m i k = c at *
    generalize m k j = d at *
    generalize m k l = p at *
    generalize m l k = q at *
    have g2 : wsum c d ≤ wsum (wsum c p) b := by
      rw [wsum_assoc (half_fb fc) (half_fb fp) (half_fb fb)]
      exact wsum_le (half_fb fc) (half_fb fc) (half_fb fd) (sum_fb fp fb) (Int.le_refl _) t2
    have g3 : wsum c d ≤ wsum a (wsum q d) := by
      rw [← wsum_assoc (half_fb fa) (half_fb fq) (half_fb fd)]
      exact wsum_le (half_fb fc) (sum_fb fa fq) (half_fb fd) (half_fb fd) t3 (Int.le_refl _)
    have g4 : wsum c d ≤ wsum (wsum c p) (wsum q d) := by
      rw [wsum_assoc (half_fb fc) (half_fb fp) (sum_fb fq fd), ← wsum_assoc (half_fb fp) (half_fb fq) (half_fb fd)]
      refine wsum_le (half_fb fc) (half_fb fc) (half_fb fd) ?_ (Int.le_refl _) ?_
      · have := ((fp.sum fq).sum fd)
        exact this.mono (by omega)
      · have := wsum_le (a := 1) (b := d) (a' := wsum p q) (b' := d) (.inr (by omega)) (sum_fb fp fq) (half_fb fd) (half_fb fd) t4 (Int.le_refl _)
        rwa [wsum_one_left] at this
    have m1 : min a (wsum c p) = a ∨ min a (wsum c p) = wsum c p := by omega
    have m2 : min b (wsum q d) = b ∨ min b (wsum q d) = wsum q d := by omega
    rcases m1 with m1 | m1 <;> rcases m2 with m2 | m2 <;> rw [m1, m2]
    · omega
    · omega
    · omega
    · omega

theorem four_le {k : Nat} (h : k ≤ 9) : (1073741824 : Int) * 4 ^ k ≤ 281474976710656 := by
  have := pow2_le h
  omega
theorem fit_bd {n k : Nat} {m : Mat} (h : Fit n (1073741824 * 4 ^ k) m) (hk : k ≤ 9) : ∀ i j, i ≤ n → j ≤ n → Bd 1125899906842624 (m i j) := fun i j hi hj => (h.bd i j hi hj).mono (by have := four_le hk; omega)
theorem fit_next {n k : Nat} {m : Mat} (h : Fit n (1073741824 * 4 ^ k) m) (hk : k ≤ n) : Fit n (1073741824 * 4 ^ (k + 1)) (fw k n m) := by
  have := h.fwd hk (by have := one_le_pow2 k; omega)
  exact ⟨fun i j hi hj => (this.bd i j hi hj).mono (pow2_step k), this.diag⟩

/-- What a closed form is. -/
structure Closed (n : Nat) (m m' : Mat) : Prop where
  tri : Tri n m' (n + 1)
  bd : ∀ i j, i ≤ n → j ≤ n → Bd 1125899906842624 (m' i j)
  one : ∀ i, i ≤ n → m' i i = 1
  le : ∀ i j, m' i j ≤ m i j
theorem closeP_closed {n : Nat} (hn : n ≤ 8) : ∀ s k m m', k + s = n + 1 → Fit n (1073741824 * 4 ^ k) m → Tri n m k → (∀ i, i ≤ n → s = 0 → m i i = 1) → closeP n s k m = some m' → Closed n m m'
  | 0, k, m, m', hk, hf, ht, h1, e => by
    simp [closeP] at e
    subst e
    have : k = n + 1 := by omega
    subst this
    exact ⟨ht, fit_bd hf (by omega), fun i hi => h1 i hi rfl, fun _ _ => Int.le_refl _⟩
  | s + 1, k, m, m', hk, hf, ht, h1, e => by
    unfold closeP at e
    split at e
    · rename_i hd
      have hone : ∀ i, i ≤ n → m i i = 1 := fun i hi => by
        have a := hd i hi
        have b := fw_le k n m i i
        have c := hf.diag i hi
        omega
      have hf' := fit_next hf (show k ≤ n by omega)
      have hone' : ∀ i, i ≤ n → fw k n m i i = 1 := fun i hi => by
        have a := hd i hi
        have b := hf'.diag i hi
        omega
      have ht' := fw_tri (fit_bd hf (by omega)) (by omega) hone ht
      have := closeP_closed hn s (k + 1) (fw k n m) m' (by omega) hf' ht' (fun i hi _ => hone' i hi) e
      exact ⟨this.tri, this.bd, this.one, fun i j => Int.le_trans (this.le i j) (fw_le k n m i j)⟩
    · cases e
theorem closed_closed {n : Nat} {m m' : Mat} (hn : n ≤ 8) (hf : Fit n 1073741824 m) (e : closed n m = some m') : Closed n m m' :=
  closeP_closed hn (n + 1) 0 m m' (by omega) (by simpa using hf) (fun l hl => by omega) (fun i hi h => by omega) e

/-- What is closed is its own closed form. -/
theorem fw_id {k n : Nat} {m : Mat} (hk : k ≤ n) (ht : Tri n m (n + 1)) : fw k n m = m := by
  funext i j
  unfold fw
  split
  · rename_i h
    have := ht k (by omega) i j h.1 h.2
    omega
  · rfl
theorem closeP_id {n : Nat} {m : Mat} (ht : Tri n m (n + 1)) (h1 : ∀ i, i ≤ n → m i i = 1) : ∀ s k, k + s ≤ n + 1 → closeP n s k m = some m
  | 0, k, _ => rfl
  | s + 1, k, hk => by
    unfold closeP
    rw [fw_id (by omega) ht, if_pos (fun i hi => by rw [h1 i hi]; exact Int.le_refl _)]
    exact closeP_id ht h1 s (k + 1) (by omega)
theorem closed_id {n : Nat} {m : Mat} (ht : Tri n m (n + 1)) (h1 : ∀ i, i ≤ n → m i i = 1) : closed n m = some m := closeP_id ht h1 _ _ (by omega)

/-! ### valuations -/
/-- Does a difference, in units of a grid, keep a wide bound? -/
def sat (g b x : Int) : Prop := b = none62 ∨ x < b / 2 * g + b % 2
theorem sat_mono {g a b x : Int} (hg : 1 ≤ g) (hb : FB b) (h : a ≤ b) (hs : sat g a x) : sat g b x := by
  rcases hb with hb | hb
  · exact .inl hb
  · right
    rcases hs with hs | hs
    · unfold none62 at hs; omega
    · by_cases e : a / 2 = b / 2
      · rw [← e]; omega
      · have h2 : (a / 2 + 1) * g ≤ b / 2 * g := Int.mul_le_mul_of_nonneg_right (by omega) (by omega)
        rw [Int.add_mul, Int.one_mul] at h2
        omega
theorem sat_sum {g a b x y : Int} (h1 : sat g a x) (h2 : sat g b y) : sat g (wsum a b) (x + y) := by
  by_cases ha : a = none62
  · left; rw [ha, wsum_none_left]
  · by_cases hb : b = none62
    · left; rw [hb, wsum_none_right]
    · right
      rw [wsum_min ha hb]
      rcases h1 with h1 | h1
      · exact absurd h1 ha
      · rcases h2 with h2 | h2
        · exact absurd h2 hb
        · have e1 : (a - a % 2 + (b - b % 2) + min (a % 2) (b % 2)) / 2 = a / 2 + b / 2 := by omega
          have e2 : (a - a % 2 + (b - b % 2) + min (a % 2) (b % 2)) % 2 = min (a % 2) (b % 2) := by omega
          rw [e1, e2, Int.add_mul]
          omega
theorem sat_min {g a b x : Int} (hg : 1 ≤ g) (ha : FB a) (hb : FB b) : sat g (min a b) x ↔ sat g a x ∧ sat g b x := by
  constructor
  · intro h
    exact ⟨sat_mono hg ha (by omega) h, sat_mono hg hb (by omega) h⟩
  · intro ⟨h1, h2⟩
    rcases (show min a b = a ∨ min a b = b by omega) with e | e <;> rw [e] <;> assumption
theorem sat_zero {g b : Int} (hg : 1 ≤ g) (hs : sat g b 0) : 1 ≤ b := by
  rcases hs with hs | hs
  · rw [hs]; decide
  · by_cases h : 1 ≤ b
    · exact h
    · exfalso
      by_cases e : b = 0
      · subst e; simp at hs
      · have h2 : b / 2 * g ≤ -1 * g := Int.mul_le_mul_of_nonneg_right (by omega) (by omega)
        omega
theorem sat_one {g x : Int} (hx : x ≤ 0) : sat g 1 x := .inr (by simp; omega)

/-- Does a valuation keep all cells? -/
def satM (n : Nat) (g : Int) (m : Mat) (v : Nat → Int) : Prop := ∀ i j, i ≤ n → j ≤ n → sat g (m i j) (v i - v j)
theorem satM_fw {n k : Nat} {g : Int} {m : Mat} {v : Nat → Int} (hg : 1 ≤ g) (hf : ∀ i j, i ≤ n → j ≤ n → Bd 1125899906842624 (m i j)) (hk : k ≤ n) : satM n g (fw k n m) v ↔ satM n g m v := by
  constructor
  · intro h i j hi hj
    exact sat_mono hg (half_fb (hf i j hi hj)) (fw_le k n m i j) (h i j hi hj)
  · intro h i j hi hj
    unfold fw
    rw [if_pos ⟨hi, hj⟩, sat_min hg (half_fb (hf i j hi hj)) (sum_fb (hf i k hi hk) (hf k j hk hj))]
    refine ⟨h i j hi hj, ?_⟩
    have := sat_sum (h i k hi hk) (h k j hk hj)
    rwa [show v i - v k + (v k - v j) = v i - v j by omega] at this
def ClosedSat (n : Nat) (g : Int) (m : Mat) (v : Nat → Int) : Option Mat → Prop
  | none => ¬ satM n g m v
  | some m' => satM n g m v ↔ satM n g m' v
theorem closeP_sat {n : Nat} {g : Int} (hn : n ≤ 8) (hg : 1 ≤ g) (v : Nat → Int) : ∀ s k m, k + s = n + 1 → Fit n (1073741824 * 4 ^ k) m → ClosedSat n g m v (closeP n s k m)
  | 0, k, m, _, _ => Iff.rfl
  | s + 1, k, m, hk, hf => by
    have e := satM_fw (v := v) hg (fit_bd hf (by omega)) (show k ≤ n by omega)
    unfold closeP
    split
    · have ih := closeP_sat hn hg v s (k + 1) (fw k n m) (by omega) (fit_next hf (by omega))
      revert ih
      cases closeP n s (k + 1) (fw k n m) with
      | none => exact fun ih h => ih (e.2 h)
      | some m' => exact fun ih => e.symm.trans ih
    · rename_i hd
      intro hs
      refine hd fun i hi => ?_
      have := (e.2 hs) i i hi hi
      rw [Int.sub_self] at this
      exact sat_zero hg this
theorem closed_sat {n : Nat} {g : Int} {m : Mat} (hn : n ≤ 8) (hg : 1 ≤ g) (v : Nat → Int) (hf : Fit n 1073741824 m) : ClosedSat n g m v (closed n m) :=
  closeP_sat hn hg v (n + 1) 0 m (by omega) (by simpa using hf)

/-! ### zones of their own cells -/
/-- The wide cells of narrow ones, with what holds of all valuations. -/
def wideZ (z : Mat) : Mat := fun i j => if i = j ∨ i = 0 then min 1 (wid (z i j)) else wid (z i j)
theorem keep_flat {n : Nat} {z : Mat} (hr : RightM n z) : Agree n (keepUp n (flat n z) ((n + 1) * (n + 1))) (wideZ z) := fun i j hi hj => by
  rw [keepUp_cell n (flat n z) i j hi hj (fun q hq => by
    rw [flat_getD _ _ _ hq]
    have h1 : q / (n + 1) < n + 1 := Nat.div_lt_of_lt_mul hq
    have h2 := Nat.mod_lt q (show 0 < n + 1 by omega)
    exact hr _ _ (by omega) (by omega)) _ (Nat.le_refl _), if_pos (at_lt (by omega) (by omega)), flat_at _ (by omega) (by omega)]
  rfl
theorem flat_right {n : Nat} {z : Mat} (hr : RightM n z) : (flat n z).all rightB = true := (all_getD _ _ 0).2 fun q hq => by
  rw [flat_length] at hq
  rw [flat_getD _ _ _ hq]
  have h1 : q / (n + 1) < n + 1 := Nat.div_lt_of_lt_mul hq
  have h2 := Nat.mod_lt q (show 0 < n + 1 by omega)
  exact hr _ _ (by omega) (by omega)
/-- What Of tells of a matrix. -/
theorem of_flat {n : Nat} {z : Mat} (hn : n ≤ 8) (hr : RightM n z) : ofP n (flat n z) = zoneP n (wideZ z) := by
  unfold ofP
  rw [if_pos (by omega), if_pos (by rw [flat_length]; simp), if_pos (flat_right hr), flat_length, Int.toNat_natCast]
  exact zoneP_agree (keep_flat hr)
theorem wid_nar {x : Int} (h : inR x) : wid (nar x) = x := by
  unfold nar wid
  rcases h with h | h
  · rw [if_pos h, if_pos rfl, h]
  · have e1 : ¬ x = none62 := by unfold none62; omega
    rw [if_neg e1, if_neg (by omega)]
theorem zoneP_zero (n : Nat) : zoneP n (wideZ fun _ _ => 0) = (some (fun _ _ => 0), 0) := by
  have h : closed n (wideZ fun _ _ => 0) = none := by
    unfold closed closeP
    rw [if_neg]
    intro h
    have h1 := h 0 (by omega)
    have h2 := fw_le 0 n (wideZ fun _ _ => 0) 0 0
    have h3 : wideZ (fun _ _ => 0) 0 0 = 0 := by decide
    omega
  unfold zoneP
  rw [h]
/-- What a zone's own matrix is: empty, or closed. -/
inductive ZoneIs (n : Nat) (M z : Mat) : Prop
  | empty (h : z = fun _ _ => 0) (e : closed n M = none)
  | full (m' : Mat) (e : closed n M = some m') (h : allR n m') (hz : z = narM n m') (hc : Closed n M m')
theorem zoneP_is {n : Nat} {M z : Mat} (hn : n ≤ 8) (hf : Fit n 1073741824 M) (e : (zoneP n M).1 = some z) : ZoneIs n M z := by
  unfold zoneP at e
  cases hc : closed n M with
  | none => rw [hc] at e; simp at e; exact .empty e.symm hc
  | some m' =>
    rw [hc] at e
    simp only at e
    by_cases ha : allR n m'
    · rw [if_pos ha] at e
      simp at e
      exact .full m' hc ha e.symm (closed_closed hn hf hc)
    · rw [if_neg ha] at e; cases e
/-- Of a zone's own cells: the zone. -/
theorem of_again {n : Nat} {M z : Mat} (hn : n ≤ 8) (hf : Fit n 1073741824 M) (h0 : ∀ j, j ≤ n → M 0 j ≤ 1) (e : (zoneP n M).1 = some z) : ofP n (flat n z) = (some z, 0) := by
  rcases zoneP_is hn hf e with ⟨h, _⟩ | ⟨m', hm, ha, hz, hc⟩
  · subst h
    rw [of_flat hn (right_zero n), zoneP_zero]
  · have hr : RightM n z := by rw [hz]; exact narM_right ha
    rw [of_flat hn hr]
    have hag : Agree n (wideZ z) m' := fun i j hi hj => by
      have e1 : z i j = nar (m' i j) := by rw [hz]; unfold narM; rw [if_pos ⟨hi, hj⟩]
      have e2 := wid_nar (ha i hi j hj)
      unfold wideZ
      rw [e1, e2]
      split
      · rename_i hij
        have : m' i j ≤ 1 := by
          rcases hij with hij | hij
          · subst hij; rw [hc.one i hi]; exact Int.le_refl _
          · subst hij; exact Int.le_trans (hc.le 0 j) (h0 j hj)
        omega
      · rfl
    rw [zoneP_agree hag]
    unfold zoneP
    rw [closed_id hc.tri hc.one]
    simp only
    rw [if_pos ha, hz]

end Go.Proofs.Ytmelblnflalanaa

/- Zones, empty or full; what the zone of their changed cells is. -/
namespace Go.Proofs.Ytmelblnflalanaa
set_option linter.unusedVariables false
set_option linter.unusedSimpArgs false

/-- Cells, wide. -/
def widW (m : Mat) : Mat := fun i j => wid (m i j)
theorem wid_upd (m : Mat) (a b : Nat) (x : Int) : widW (upd m a b x) = upd (widW m) a b (wid x) := by
  funext i j
  unfold widW upd
  split <;> rfl
theorem wid_min {x y : Int} (hx : x ≤ 2147483647) (hy : y ≤ 2147483647) : wid (min x y) = min (wid x) (wid y) := by
  unfold wid none62
  rw [Int.min_def, Int.min_def]
  split <;> split <;> split <;> (try split) <;> omega
theorem wid_less (m : Mat) (a b : Nat) (x : Int) (h : m a b ≤ 2147483647) (hx : x ≤ 2147483647) : widW (lessM m a b x) = lessM (widW m) a b (wid x) := by
  unfold lessM
  rw [wid_upd, wid_min h hx]
  rfl
theorem right_hi {x : Int} (h : rightB x = true) : -2147483648 ≤ x ∧ x ≤ 2147483647 := by
  unfold rightB at h
  have := of_decide_eq_true h
  omega
theorem right_min {x y : Int} (hx : rightB x = true) (hy : rightB y = true) : rightB (min x y) = true := by
  rw [Int.min_def]; split <;> assumption
/-- Cells that bounds of a zone may be. -/
structure OkM (n : Nat) (m : Mat) : Prop where
  right : RightM n m
  diag : ∀ i, i ≤ n → m i i ≤ 1
  top : ∀ j, j ≤ n → m 0 j ≤ 1
theorem OkM.upd {n : Nat} {m : Mat} (h : OkM n m) (a b : Nat) (x : Int) (hr : rightB x = true) (hd : a = b → x ≤ 1) (ht : a = 0 → x ≤ 1) : OkM n (upd m a b x) := by
  refine ⟨fun i j hi hj => ?_, fun i hi => ?_, fun j hj => ?_⟩
  · unfold Go.Proofs.Ytmelblnflalanaa.upd; split
    · exact hr
    · exact h.right i j hi hj
  · unfold Go.Proofs.Ytmelblnflalanaa.upd; split
    · rename_i e; exact hd (by omega)
    · exact h.diag i hi
  · unfold Go.Proofs.Ytmelblnflalanaa.upd; split
    · rename_i e; exact ht (by omega)
    · exact h.top j hj
theorem OkM.less {n : Nat} {m : Mat} (h : OkM n m) (a b : Nat) (ha : a ≤ n) (hb : b ≤ n) (x : Int) (hr : rightB x = true) : OkM n (lessM m a b x) := by
  refine h.upd a b _ (right_min (h.right a b ha hb) hr) (fun e => ?_) (fun e => ?_)
  · subst e; have := h.diag a ha; omega
  · subst e; have := h.top b hb; omega
theorem OkM.fit {n : Nat} {m : Mat} (h : OkM n m) : Fit n 1073741824 (widW m) := by
  refine ⟨fun i j hi hj => ?_, fun i hi => ?_⟩
  · unfold widW wid
    split
    · exact .inl rfl
    · rename_i e
      have := rightB_bd (h.right i j hi hj) e
      exact .inr (by omega)
  · have := h.diag i hi
    unfold widW wid
    rw [if_neg (by omega)]; exact this
theorem OkM.wtop {n : Nat} {m : Mat} (h : OkM n m) : ∀ j, j ≤ n → widW m 0 j ≤ 1 := fun j hj => by
  have := h.top j hj
  unfold widW wid
  rw [if_neg (by omega)]; exact this
/-- What Of tells of such cells. -/
theorem ofP_wid {n : Nat} {m : Mat} (hn : n ≤ 8) (h : OkM n m) : ofP n (flat n m) = zoneP n (widW m) := by
  rw [of_flat hn h.right]
  refine zoneP_agree fun i j hi hj => ?_
  unfold wideZ
  split
  · rename_i e
    have : m i j ≤ 1 := by
      rcases e with e | e
      · subst e; exact h.diag i hi
      · subst e; exact h.top j hj
    unfold widW
    have e2 : wid (m i j) = m i j := by unfold wid; rw [if_neg (by omega)]
    rw [e2]; omega
  · rfl
/-- The zone is not empty. -/
structure FullZ (n : Nat) (m : Mat) : Prop where
  right : RightM n m
  one : ∀ i, i ≤ n → m i i = 1
  top : ∀ j, j ≤ n → m 0 j ≤ 1
theorem FullZ.ok {n : Nat} {m : Mat} (h : FullZ n m) : OkM n m := ⟨h.right, fun i hi => by rw [h.one i hi]; exact Int.le_refl _, h.top⟩
theorem keepUp_top4 {n : Nat} {cells : List Int} (hr : ∀ q, q < (n + 1) * (n + 1) → rightB (cells.getD q 0) = true) : ∀ j, j ≤ n → keepUp n cells ((n + 1) * (n + 1)) 0 j ≤ 1 := fun j hj => by
  rw [keepUp_cell n cells 0 j (Nat.zero_le _) hj hr _ (Nat.le_refl _), if_pos (at_lt (by omega) (by omega)), if_pos (.inr rfl)]
  omega
theorem full_of {n : Nat} {M m' : Mat} (h0 : ∀ j, j ≤ n → M 0 j ≤ 1) (ha : allR n m') (hc : Closed n M m') : FullZ n (narM n m') := by
  have hcell : ∀ i j, i ≤ n → j ≤ n → m' i j ≤ 1 → narM n m' i j = m' i j := fun i j hi hj hle => by
    unfold narM nar
    rw [if_pos ⟨hi, hj⟩, if_neg (by unfold none62; omega)]
  refine ⟨narM_right ha, fun i hi => ?_, fun j hj => ?_⟩
  · rw [hcell i i hi hi (by rw [hc.one i hi]; exact Int.le_refl _), hc.one i hi]
  · have : m' 0 j ≤ 1 := Int.le_trans (hc.le 0 j) (h0 j hj)
    rw [hcell 0 j (by omega) hj this]; exact this
/-- A zone is empty, or full. -/
theorem zone_kinds {n : Int} {cells : List Int} {k : Nat} {m : Mat} (e : zOf n cells = some (k, m)) : (0 ≤ n ∧ n ≤ 8 ∧ k = n.toNat) ∧ (m = (fun _ _ => 0) ∨ FullZ k m) := by
  unfold zOf at e
  cases hz : (ofP n cells).1 with
  | none => rw [hz] at e; cases e
  | some m0 =>
    rw [hz] at e
    simp only [Option.map_some, Option.some.injEq, Prod.mk.injEq] at e
    obtain ⟨e1, e2⟩ := e
    subst e2
    unfold ofP at hz
    split at hz
    · rename_i hn
      split at hz
      · rename_i hl
        split at hz
        · rename_i hr
          obtain ⟨q, rfl⟩ : ∃ q : Nat, n = q := ⟨n.toNat, by omega⟩
          rw [Int.toNat_natCast] at hz e1
          subst e1
          have hl' : cells.length = (q + 1) * (q + 1) := by exact_mod_cast hl
          have hr' : ∀ p, p < (q + 1) * (q + 1) → rightB (cells.getD p 0) = true := fun p hp => (all_getD cells rightB 0).1 hr p (by omega)
          rw [hl'] at hz
          refine ⟨by omega, ?_⟩
          rcases zoneP_is (by omega) (keepUp_fit q cells _ hr') hz with ⟨h, _⟩ | ⟨m', hm, ha, hzz, hc⟩
          · exact .inl h
          · right; rw [hzz]; exact full_of (keepUp_top4 hr') ha hc
        · cases hz
      · cases hz
    · cases hz
theorem FullZ.notEmpty {n : Nat} {m : Mat} (h : FullZ n m) : emptyP (some (n, m)) = false := decide_eq_false (by have := h.one 0 (by omega); omega)

/-- The same cells, opened. -/
theorem Agree.upd {n : Nat} {m o : Mat} (h : Agree n m o) (a b : Nat) (x : Int) : Agree n (upd m a b x) (upd o a b x) := fun i j hi hj => by
  unfold Go.Proofs.Ytmelblnflalanaa.upd; split
  · rfl
  · exact h i j hi hj
theorem Agree.less {n : Nat} {m o : Mat} (h : Agree n m o) (a b : Nat) (ha : a ≤ n) (hb : b ≤ n) (x : Int) : Agree n (lessM m a b x) (lessM o a b x) := by
  unfold lessM; rw [h a b ha hb]; exact h.upd a b _
theorem open_agree (n : Nat) (m : Mat) : Agree n (openW (some (n, m))) m := fun i j hi hj => openW_in (by omega) (by omega)

/-! ### empty zones -/
theorem flat_open (n : Nat) (m : Mat) : flat n (openW (some (n, m))) = flat n m := flat_congr (open_agree n m)
theorem ofP_zero (n : Nat) (hn : n ≤ 8) : ofP n (flat n (openW (some (n, fun _ _ => 0)))) = (some (fun _ _ => 0), 0) := by
  rw [flat_open, of_flat hn (right_zero n), zoneP_zero]

/-! ### Up -/
def upD (M : Mat) : Nat → Mat
  | 0 => M
  | p + 1 => if p = 0 then upD M p else upd (upD M p) p 0 none62
theorem wid_up (m : Mat) : ∀ p, widW (upUp m p) = upD (widW m) p
  | 0 => rfl
  | p + 1 => by
    unfold upUp upD
    split
    · exact wid_up m p
    · rw [wid_upd, wid_up m p]; rfl
theorem Agree.up {n : Nat} {m o : Mat} (h : Agree n m o) : ∀ p, Agree n (upUp m p) (upUp o p)
  | 0 => h
  | p + 1 => by
    unfold upUp
    split
    · exact h.up p
    · exact (h.up p).upd _ _ _
theorem OkM.up {n : Nat} {m : Mat} (h : OkM n m) : ∀ p, OkM n (upUp m p)
  | 0 => h
  | p + 1 => by
    unfold upUp
    split
    · exact h.up p
    · rename_i e; exact (h.up p).upd _ _ _ (by decide) (fun e' => absurd e' e) (fun e' => absurd e' e)
theorem up_same {n : Nat} {m : Mat} (hn : n ≤ 8) (h : FullZ n m) : ofP n (flat n (upW (some (n, m)))) = zoneP n (upD (widW m) (n + 1)) := by
  have e : upW (some (n, m)) = upUp (openW (some (n, m))) (n + 1) := by unfold upW; rw [h.notEmpty]; rfl
  rw [e, flat_congr ((open_agree n m).up (n + 1)), ofP_wid hn (h.ok.up _), wid_up]
theorem up_zero (n : Nat) (hn : n ≤ 8) : ofP n (flat n (upW (some (n, fun _ _ => 0)))) = (some (fun _ _ => 0), 0) := by
  have e : upW (some (n, fun _ _ => 0)) = openW (some (n, fun _ _ => 0)) := by unfold upW; rw [if_pos (show emptyP (some (n, fun _ _ => 0)) = true from rfl)]
  rw [e]; exact ofP_zero n hn

/-! ### Down -/
theorem OkM.downIn {n : Nat} {m : Mat} (h : OkM n m) (i : Nat) (hi : i ≤ n) : ∀ j, j ≤ n + 1 → OkM n (downIn m i j)
  | 0, _ => h
  | j + 1, hj => by
    have ih := h.downIn i hi j (by omega)
    unfold Go.Proofs.Ytmelblnflalanaa.downIn
    split
    · exact ih
    · exact ih.less 0 i (by omega) hi _ (ih.right j i (by omega) hi)
theorem OkM.down {n : Nat} {m : Mat} (h : OkM n m) : ∀ i, i ≤ n + 1 → OkM n (downUp n m i)
  | 0, _ => h
  | i + 1, hi => by
    have ih := h.down i (by omega)
    unfold downUp
    split
    · exact ih
    · exact (ih.upd 0 i 1 (by decide) (fun _ => Int.le_refl _) (fun _ => Int.le_refl _)).downIn i (by omega) _ (Nat.le_refl _)
theorem wid_downIn {n : Nat} {m : Mat} (h : OkM n m) (i : Nat) (hi : i ≤ n) : ∀ j, j ≤ n + 1 → widW (downIn m i j) = downIn (widW m) i j
  | 0, _ => rfl
  | j + 1, hj => by
    have ih := wid_downIn h i hi j (by omega)
    have ok := h.downIn i hi j (by omega)
    unfold downIn
    split
    · exact ih
    · rw [wid_less _ _ _ _ (right_hi (ok.right 0 i (by omega) hi)).2 (right_hi (ok.right j i (by omega) hi)).2, ih, ← ih]
      rfl
theorem wid_down {n : Nat} {m : Mat} (h : OkM n m) : ∀ i, i ≤ n + 1 → widW (downUp n m i) = downUp n (widW m) i
  | 0, _ => rfl
  | i + 1, hi => by
    have ih := wid_down h i (by omega)
    have ok := h.down i (by omega)
    unfold downUp
    split
    · exact ih
    · rw [wid_downIn (ok.upd 0 i 1 (by decide) (fun _ => Int.le_refl _) (fun _ => Int.le_refl _)) i (by omega) _ (Nat.le_refl _), wid_upd, ih]
      rfl
theorem Agree.downIn {n : Nat} {m o : Mat} (h : Agree n m o) (i : Nat) (hi : i ≤ n) : ∀ j, j ≤ n + 1 → Agree n (downIn m i j) (downIn o i j)
  | 0, _ => h
  | j + 1, hj => by
    have ih := h.downIn i hi j (by omega)
    unfold Go.Proofs.Ytmelblnflalanaa.downIn
    split
    · exact ih
    · rw [ih j i (by omega) hi]; exact ih.less 0 i (by omega) hi _
theorem Agree.down {n : Nat} {m o : Mat} (h : Agree n m o) : ∀ i, i ≤ n + 1 → Agree n (downUp n m i) (downUp n o i)
  | 0, _ => h
  | i + 1, hi => by
    unfold downUp
    split
    · exact h.down i (by omega)
    · exact ((h.down i (by omega)).upd 0 i 1).downIn i (by omega) _ (Nat.le_refl _)
theorem down_same {n : Nat} {m : Mat} (hn : n ≤ 8) (h : FullZ n m) : ofP n (flat n (downW (some (n, m)))) = zoneP n (downUp n (widW m) (n + 1)) := by
  have e : downW (some (n, m)) = downUp n (openW (some (n, m))) (n + 1) := by unfold downW; rw [h.notEmpty]; rfl
  rw [e, flat_congr ((open_agree n m).down (n + 1) (Nat.le_refl _)), ofP_wid hn (h.ok.down _ (Nat.le_refl _)), wid_down h.ok _ (Nat.le_refl _)]
theorem down_zero (n : Nat) (hn : n ≤ 8) : ofP n (flat n (downW (some (n, fun _ _ => 0)))) = (some (fun _ _ => 0), 0) := by
  have e : downW (some (n, fun _ _ => 0)) = openW (some (n, fun _ _ => 0)) := by unfold downW; rw [if_pos (show emptyP (some (n, fun _ _ => 0)) = true from rfl)]
  rw [e]; exact ofP_zero n hn

end Go.Proofs.Ytmelblnflalanaa

/- A clock set to a number. -/
namespace Go.Proofs.Ytmelblnflalanaa
open Go Go.RowKit
set_option linter.unusedVariables false
set_option linter.unusedSimpArgs false
attribute [local go_sem] min_ints max_ints

/-- Is a number a clock's? -/
def isB (n : Nat) (x : Int) : Bool := decide (1 ≤ x ∧ x ≤ n)
set_option maxHeartbeats 1000000 in
set_option maxRecDepth 100000 in
theorem is_any (n : Nat) (x : Int) (w : World) : Calls Try.prog 68 #[.agg #[.int .i64 n], .int .i64 x] w fun e w' => e = .returned (.bool (isB n x)) ∧ Below w.heap.size w w' := by
  have hb : ∀ o, Below w.heap.size w (w.alloc o) := fun o => (Below.refl _ w).alloc (Nat.le_refl _) o
  by_cases h1 : 1 ≤ x
  · by_cases h2 : x ≤ n
    · rw [show isB n x = true from decide_eq_true ⟨h1, h2⟩]
      have d1 : decide ((1 : Int) ≤ x) = true := decide_eq_true h1
      go_enter Try.func68, Try.ntmps68
      go_wp2
      go_ret
      exact ⟨by first | rfl | simp [*], hb _⟩
    · rw [show isB n x = false from decide_eq_false (by omega)]
      have d1 : decide ((1 : Int) ≤ x) = true := decide_eq_true h1
      go_enter Try.func68, Try.ntmps68
      go_wp2
      go_ret
      exact ⟨by first | rfl | simp [*], hb _⟩
  · rw [show isB n x = false from decide_eq_false (by omega)]
    have d1 : decide ((1 : Int) ≤ x) = false := decide_eq_false h1
    go_enter Try.func68, Try.ntmps68
    go_wp2
    go_ret
    exact ⟨by first | rfl | simp [*], hb _⟩

/-- The error of a clock that is to be set. -/
def setE (z : Option (Nat × Mat)) (c k : Int) : Int := match z with
  | none => 1
  | some (n, _) => if isB n c = true then (if 0 ≤ k ∧ k ≤ 1048576 then 0 else 13) else 12
set_option maxHeartbeats 1000000 in
set_option maxRecDepth 100000 in
theorem oset_any (v : Value) (z : Option (Nat × Mat)) (c k : Int) (w : World) (h : ZoneV 109 w v z) : Calls Try.prog 43 #[v, .int .i64 c, .int .i64 k] w fun e w' => e = .returned (.int .i64 (setE z c k)) ∧ Below w.heap.size w w' := by
  match z, h with
  | none, h =>
    have h : v = .pointer none := h
    subst h
    show Calls Try.prog 43 _ _ fun e w' => e = .returned (.int .i64 1) ∧ Below w.heap.size w w'
    go_enter Try.func43, Try.ntmps43
    go_wp2
    go_ret
    exact ⟨rfl, Below.refl _ _⟩
  | some (n, m), ⟨b, e, hn, hr, hm⟩ =>
    subst e
    have HD := Lib.hid (fun w hm => dim_zone b n m w hm)
    have HI := Lib.hid (fun w => is_any n c w)
    have HM := Lib.hid hm
    obtain ⟨i, hi⟩ : ∃ i, i = isB n c := ⟨_, rfl⟩
    rw [← hi] at HI
    have HE := Lib.hid (show setE (some (n, m)) c k = if i = true then (if 0 ≤ k ∧ k ≤ 1048576 then 0 else 13) else 12 by rw [hi]; rfl)
    obtain ⟨r, hr'⟩ : ∃ r, r = setE (some (n, m)) c k := ⟨_, rfl⟩
    rw [← hr'] at HE ⊢
    clear hi hr' hm hr
    go_enter Try.func43, Try.ntmps43
    go_wp2_with fail
    refine (HD.out _ HM.out).mono ?_
    rintro e w1 ⟨rfl, rfl⟩
    go_wp2_with fail
    refine (HI.out _).mono ?_
    rintro e w1 ⟨rfl, hb⟩
    have HB := Lib.hid hb
    clear hb
    cases i with
    | false =>
      have HR := Lib.hid (show r = 12 by rw [HE.out]; rfl)
      go_wp2
      go_ret
      exact ⟨by rw [HR.out]; rfl, HB.out⟩
    | true =>
      by_cases k0 : k < 0
      · have HR := Lib.hid (show r = 13 by rw [HE.out, if_pos rfl, if_neg (by omega)])
        have d1 : decide (k < 0) = true := decide_eq_true k0
        clear HE
        go_wp2
        go_ret
        exact ⟨by rw [HR.out]; rfl, HB.out⟩
      · have d1 : decide (k < 0) = false := decide_eq_false k0
        by_cases k1 : 1048576 < k
        · have HR := Lib.hid (show r = 13 by rw [HE.out, if_pos rfl, if_neg (by omega)])
          clear HE
          go_wp2
          go_ret
          exact ⟨by rw [HR.out]; rfl, HB.out⟩
        · have HR := Lib.hid (show r = 0 by rw [HE.out, if_pos rfl, if_pos (by omega)])
          clear HE
          go_wp2
          go_ret
          exact ⟨by rw [HR.out]; rfl, HB.out⟩

end Go.Proofs.Ytmelblnflalanaa
