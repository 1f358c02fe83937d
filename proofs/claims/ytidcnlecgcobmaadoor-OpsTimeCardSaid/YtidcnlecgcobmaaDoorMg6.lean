/- Texts of ours, laid together: Pk, Bq, Ok, Op, Ol, Qt, Row. -/
import Derived.Test.YtidcnlecgcobmaaDoorRows
import Derived.WalkKit
import Derived.ProofKit
import Derived.OpenShut
import Derived.Carry
import Derived.Test.YtidcnlecgcobmaaDoorMg5
/- What keeps bounds, and sums and opposites: plain. -/
namespace Go.Proofs.YtidcnlecgcobmaaDoor
open Go Go.RowKit
set_option linter.unusedVariables false
set_option linter.unusedSimpArgs false

theorem keeps_inf {x d : Int} (hd : 1 ≤ d) : keepsB 2147483647 x d = true := decide_eq_true ⟨hd, .inl rfl⟩
theorem keeps_fin {b x d : Int} (h : someB b = true) (hd : 1 ≤ d) : keepsB b x d = decide (x < b / 2 * d + b % 2) := by
  have hn : b ≠ 2147483647 := by rintro rfl; exact absurd h (by decide +kernel)
  unfold keepsB
  congr 1
  simp [h, hn, hd]
theorem some_parts {b : Int} (h : someB b = true) : rightB b = true ∧ b ≠ 2147483647 := by simpa [someB] using h

/-- Two differences that keep both have a sum that keeps the sum's bound. -/
theorem plus_keeps {a b x y d : Int} (hd : 1 ≤ d) (h : (sumP [a, b]).2 = 0) (h1 : keepsB a x d = true) (h2 : keepsB b y d = true) : keepsB (sumP [a, b]).1 (x + y) d = true := by
  obtain ⟨ha, hb⟩ := sum_ok h
  by_cases i : a = 2147483647 ∨ b = 2147483647
  · rw [sum_two_inf ha hb i]; exact keeps_inf hd
  · have ia : a ≠ 2147483647 := fun e => i (.inl e)
    have ib : b ≠ 2147483647 := fun e => i (.inr e)
    rw [sum_two ha hb ia ib] at h ⊢
    obtain ⟨_, _, e1, e2, e3, e4⟩ := ofB_ok h
    rw [keeps_fin (fin_some ha ia) hd] at h1
    rw [keeps_fin (fin_some hb ib) hd] at h2
    rw [keeps_fin (fin_some e3 e4) hd, e1]
    have h1 := of_decide_eq_true h1
    have h2 := of_decide_eq_true h2
    rw [Int.add_mul]
    generalize a / 2 * d = P at *
    generalize b / 2 * d = Q at *
    generalize (ofB (a / 2 + b / 2) (decide (a % 2 = 1) && decide (b % 2 = 1))).1 = c at *
    apply decide_eq_true
    by_cases ra : a % 2 = 1
    · by_cases rb : b % 2 = 1
      · have : c % 2 = 1 := of_decide_eq_true (by rw [e2]; simp [ra, rb])
        omega
      · omega
    · omega

/-- The smaller bound is the stricter one. -/
theorem stricter_keeps {a b x d : Int} (ha : rightB a = true) (hb : rightB b = true) (hd : 1 ≤ d) (hab : a ≤ b) (h : keepsB a x d = true) : keepsB b x d = true := by
  by_cases ib : b = 2147483647
  · rw [ib]; exact keeps_inf hd
  · have h2 := rightB_bd hb ib
    have ia : a ≠ 2147483647 := by omega
    rw [keeps_fin (fin_some ha ia) hd] at h
    rw [keeps_fin (fin_some hb ib) hd]
    have h := of_decide_eq_true h
    apply decide_eq_true
    by_cases e : a / 2 = b / 2
    · rw [e] at h; omega
    · have hm := Int.mul_le_mul_of_nonneg_right (show a / 2 + 1 ≤ b / 2 by omega) (show (0 : Int) ≤ d by omega)
      rw [Int.add_mul, Int.one_mul] at hm
      generalize a / 2 * d = P at *
      generalize b / 2 * d = Q at *
      omega

theorem not_fin {a : Int} (h : someB a = true) : notP a = (1 - a, 0) := by
  obtain ⟨hr, hn⟩ := some_parts h
  have hb := rightB_bd hr hn
  unfold notP
  rw [if_pos h]
  unfold ofB
  rw [if_neg (by omega)]
  by_cases e : a % 2 = 1
  · simp [e]; omega
  · simp [e]; omega
theorem not_keeps {a x d : Int} (h : someB a = true) (hd : 1 ≤ d) : keepsB (1 - a) (-x) d = !keepsB a x d := by
  obtain ⟨hr, hn⟩ := some_parts h
  have hb := rightB_bd hr hn
  have hs : someB (1 - a) = true := fin_some (decide_eq_true (.inr (by omega))) (by omega)
  rw [keeps_fin h hd, keeps_fin hs hd]
  have e : (1 - a) / 2 = -(a / 2) := by omega
  rw [e, Int.neg_mul]
  generalize a / 2 * d = P
  by_cases c : x < P + a % 2
  · rw [decide_eq_true c, decide_eq_false (by omega)]; rfl
  · rw [decide_eq_false c, decide_eq_true (by omega)]; rfl

end Go.Proofs.YtidcnlecgcobmaaDoor

/- Parse of the program: what a text tells of. -/
namespace Go.Proofs.YtidcnlecgcobmaaDoor
open Go Go.RowKit
set_option linter.unusedVariables false
set_option linter.unusedSimpArgs false

theorem bytes_app (a b : List UInt8) : (⟨a.toArray⟩ : ByteArray) ++ ⟨b.toArray⟩ = ⟨(a ++ b).toArray⟩ := by
  have h : ((⟨a.toArray⟩ : ByteArray) ++ ⟨b.toArray⟩).data = (a ++ b).toArray := by simp
  cases hx : (⟨a.toArray⟩ : ByteArray) ++ ⟨b.toArray⟩ with
  | mk d => rw [hx] at h; exact congrArg ByteArray.mk h
theorem printB_L (b : Int) : printB b = ⟨(printL b).toArray⟩ := by
  unfold printB printL
  by_cases hn : b = 2147483647
  · rw [if_pos hn, if_pos hn]
  · rw [if_neg hn, if_neg hn]
    by_cases h : someB b = true
    · rw [if_pos h, if_pos h]
      by_cases e : b % 2 = 1
      · rw [if_pos e, if_pos e]; exact bytes_app [60, 61] _
      · rw [if_neg e, if_neg e]; exact bytes_app [60] _
    · rw [if_neg h, if_neg h]

/-- A package's variable holds an interface's value. -/
def Sent (name : String) (w : World) : Prop := ∃ tp p, w.var? Tryd.prog name = some #[.iface tp p]
theorem Sent.below {name : String} {w w' : World} (h : Sent name w) (hb : Below w.heap.size w w') : Sent name w' := by
  obtain ⟨tp, p, h⟩ := h
  refine ⟨tp, p, ?_⟩
  unfold World.var? at *
  cases hg : Tryd.prog.globalNamed name with
  | none => simp [hg] at h
  | some g =>
    simp only [hg, Option.bind_some] at h ⊢
    have hlt : g < w.heap.size := by
      rcases Nat.lt_or_ge g w.heap.size with h' | h'
      · exact h'
      · rw [Array.getElem?_eq_none h'] at h; simp at h
    rw [hb.block g hlt]
    exact h

/-- How Atoi ends. -/
def AtoiEnds (w : World) (l : List UInt8) (e : Ending) (w' : World) : Prop :=
  Below w.heap.size w w' ∧ ((∃ v, e = .returned (.tuple #[.int .i64 v, .nilIface]) ∧ Lib.atoiAll l = .ok v) ∨ (∃ v T N, e = .returned (.tuple #[.int .i64 v, .iface T (.pointer (some ⟨N, 0, none⟩))]) ∧ ∀ v', Lib.atoiAll l ≠ .ok v'))

/-- The steps of Parse at the text of a bound. -/
theorem steps_of {b : Int} (h : someB b = true) : Lib.hasPrefix (printL b) [60] = true ∧ Lib.hasPrefix (Lib.trimPrefix (printL b) [60]) [61] = decide (b % 2 = 1) ∧ Lib.trimPrefix (Lib.trimPrefix (printL b) [60]) [61] = Lib.itoa (b / 2) := by
  obtain ⟨c, r, e, n1, n2⟩ := itoa_head (b / 2)
  have hc : ((61 : UInt8) == c) = false := beq_eq_false_iff_ne.2 (Ne.symm n1)
  rw [printL_some h, e]
  by_cases x : b % 2 = 1
  · rw [if_pos x, decide_eq_true x]
    refine ⟨rfl, rfl, rfl⟩
  · rw [if_neg x, decide_eq_false x]
    have e1 : Lib.trimPrefix ([60] ++ c :: r) [60] = c :: r := rfl
    have e2 : Lib.hasPrefix (c :: r) [61] = false := by simp [Lib.hasPrefix, List.isPrefixOf, hc]
    exact ⟨rfl, by rw [e1, e2], by rw [e1, Lib.trimPrefix, e2]; rfl⟩

/-- What Parse answers, in a world with new blocks. -/
def Parses (w : World) (s : List UInt8) (e : Ending) (w' : World) : Prop := Below w.heap.size w w' ∧ ∃ r, ParsesTo s r ∧ e = .returned (.tuple #[.int .i32 r.1, .int .i64 r.2])

theorem trim_le (s p : List UInt8) : (Lib.trimPrefix s p).length ≤ s.length := by
  unfold Lib.trimPrefix
  split
  · rw [List.length_drop]; omega
  · omega
theorem wrong_no {s : List UInt8} (h0 : s ≠ [105, 110, 102]) (h : ∀ b, someB b = true → printL b ≠ s) : ParsesTo s (0, 7) := .inr (.inr ⟨h0, h, rfl⟩)

end Go.Proofs.YtidcnlecgcobmaaDoor

/- Print of a zone. -/
namespace Go.Proofs.YtidcnlecgcobmaaDoor
open Go Go.RowKit
set_option linter.unusedVariables false
set_option linter.unusedSimpArgs false

theorem zprint_nil (w : World) : Calls Tryd.prog 72 #[.pointer none] w (Says w ⟨(printZ none).toArray⟩) := by
  go_enter Tryd.func72, Tryd.ntmps72
  go_wp2
  go_ret
  exact ⟨rfl, Below.refl _ _⟩

set_option maxHeartbeats 1000000 in
set_option maxRecDepth 100000 in
theorem zprint_empty (b n : Nat) (m : Mat) (w : World) (hn : n ≤ 8) (hm : MatAt w b 126 .i32 n m) (he : m 0 0 < 1) (ht : Tab w) :
    Calls Tryd.prog 72 #[.pointer (some ⟨b, 0, none⟩)] w (Says w ⟨(printZ (some (n, m))).toArray⟩) := by
  have HM := Lib.hid hm
  have h0 := hm.head
  have hl := itoa_len n hn
  have HI := Lib.hid (fun w ht => itoa_any n (by omega) (by omega) w ht)
  have HT := Lib.hid ht
  have HE := Lib.hid (show printZ (some (n, m)) = Lib.itoa n ++ [58] ++ [32, 101, 109, 112, 116, 121] by show (if m 0 0 < 1 then Lib.itoa n ++ [58] ++ [32, 101, 109, 112, 116, 121] else zoneT n m (n + 1)) = _; rw [if_pos he])
  have HEM := Lib.hid (fun w hm => empty_zone b n m w hm)
  rw [decide_eq_true he] at HEM
  generalize Lib.itoa n = L at *
  have l1 : ¬ (9223372036854775807 < L.length + 1) := by omega
  have l2 : ¬ (9223372036854775807 < L.length + 1 + 6) := by omega
  clear hm he ht
  go_enter Tryd.func72, Tryd.ntmps72
  go_wp2_with fail
  refine (HI.out _ HT.out).mono ?_
  rintro e w1 ⟨rfl, hb⟩
  have HB := Lib.hid hb
  have HM1 := Lib.hid (HM.out.later hb)
  clear hb
  go_wp2_with fail
  refine (HEM.out _ HM1.out).mono ?_
  rintro e w2 ⟨rfl, rfl⟩
  go_wp2
  go_ret
  refine ⟨?_, HB.out⟩
  rw [HE.out, ← bytes_app, ← bytes_app]
  rfl

end Go.Proofs.YtidcnlecgcobmaaDoor

/- Print of a zone that is not empty. -/
namespace Go.Proofs.YtidcnlecgcobmaaDoor
open Go Go.RowKit
set_option linter.unusedVariables false
set_option linter.unusedSimpArgs false

theorem right_bits {x : Int} (h : rightB x = true) : -2147483648 ≤ x ∧ x ≤ 2147483647 := by
  unfold rightB at h
  have := of_decide_eq_true h
  omega
theorem rowT_len {n i : Nat} {m : Mat} (hn : n ≤ 8) (hi : i ≤ n) (hr : RightM n m) : ∀ j, j ≤ n + 1 → (rowT m i j).length ≤ j * 76
  | 0, _ => by simp [rowT]
  | j + 1, hj => by
    have h1 := rowT_len hn hi hr j (by omega)
    have hb := right_bits (hr i j hi (by omega))
    have h2 := cellL_len m i j (by omega) (by omega) hb.1 hb.2
    show (rowT m i j ++ cellL m i j).length ≤ _
    rw [List.length_append]
    omega
theorem zoneT_len {n : Nat} {m : Mat} (hn : n ≤ 8) (hr : RightM n m) : ∀ i, i ≤ n + 1 → (zoneT n m i).length ≤ 22 + i * 684
  | 0, _ => by
    have := itoa_len n hn
    show (Lib.itoa n ++ [58]).length ≤ _
    rw [List.length_append]
    simp
    omega
  | i + 1, hi => by
    have h1 := zoneT_len hn hr i (by omega)
    have h2 := rowT_len hn (show i ≤ n by omega) hr (n + 1) (Nat.le_refl _)
    have h3 : (n + 1) * 76 ≤ 684 := by omega
    show (zoneT n m i ++ rowT m i (n + 1)).length ≤ _
    rw [List.length_append]
    omega
theorem cellL_yes {m : Mat} {i j : Nat} (h : i ≠ j ∧ m i j ≠ 2147483647 ∧ (i ≠ 0 ∨ m i j < 1)) : cellL m i j = [32, 120] ++ Lib.itoa i ++ [45, 120] ++ Lib.itoa j ++ printL (m i j) := by unfold cellL; rw [if_pos h]
theorem cellL_no {m : Mat} {i j : Nat} (h : ¬ (i ≠ j ∧ m i j ≠ 2147483647 ∧ (i ≠ 0 ∨ m i j < 1))) : cellL m i j = [] := by unfold cellL; rw [if_neg h]
theorem rowT_no {m : Mat} {i j : Nat} {T S : List UInt8} (hs : S = T ++ rowT m i j) (h : ¬ (i ≠ j ∧ m i j ≠ 2147483647 ∧ (i ≠ 0 ∨ m i j < 1))) : S = T ++ rowT m i (j + 1) := by
  rw [hs, rowT, cellL_no h, List.append_nil]
theorem rowT_yes {m : Mat} {i j : Nat} {T S : List UInt8} (hs : S = T ++ rowT m i j) (h : i ≠ j ∧ m i j ≠ 2147483647 ∧ (i ≠ 0 ∨ m i j < 1)) :
    S ++ ([32, 120] ++ Lib.itoa i ++ [45, 120] ++ Lib.itoa j ++ printL (m i j)) = T ++ rowT m i (j + 1) := by
  rw [hs, rowT, cellL_yes h, List.append_assoc]

set_option maxHeartbeats 2000000 in
set_option maxRecDepth 100000 in
theorem zprint_full (b n : Nat) (m : Mat) (w : World) (hn : n ≤ 8) (hm : MatAt w b 126 .i32 n m) (hr : RightM n m) (he : ¬ m 0 0 < 1) (ht : Tab w) :
    Calls Tryd.prog 72 #[.pointer (some ⟨b, 0, none⟩)] w (Says w ⟨(printZ (some (n, m))).toArray⟩) := by
  have HM := Lib.hid hm
  have h0 := hm.head
  have HI := Lib.hid (fun (k : Nat) (hk : k ≤ 8) w ht => itoa_any k (by omega) (by omega) w ht)
  have HP := Lib.hid (fun x w ht => print_any x w ht)
  have HT := Lib.hid ht
  have HE := Lib.hid (show printZ (some (n, m)) = zoneT n m (n + 1) by show (if m 0 0 < 1 then Lib.itoa n ++ [58] ++ [32, 101, 109, 112, 116, 121] else zoneT n m (n + 1)) = _; rw [if_neg he])
  have HEM := Lib.hid (fun w hm => empty_zone b n m w hm)
  rw [decide_eq_false he] at HEM
  have HLI := Lib.hid itoa_len
  have HR := Lib.hid hr
  have HZ0 := Lib.hid (show zoneT n m 0 = Lib.itoa n ++ [58] from rfl)
  obtain ⟨L, hL⟩ : ∃ L, L = Lib.itoa n := ⟨_, rfl⟩
  have hl := itoa_len n hn
  rw [← hL] at hl HZ0
  have l1 : ¬ (9223372036854775807 < L.length + 1) := by omega
  have HI0 := Lib.hid (HI.out n hn)
  rw [← hL] at HI0
  clear hm he ht hr hL
  go_enter Tryd.func72, Tryd.ntmps72
  go_wp2_with fail
  refine (HI0.out _ HT.out).mono ?_
  rintro e w1 ⟨rfl, hb⟩
  have HB := Lib.hid hb
  have HM1 := Lib.hid (HM.out.later hb)
  clear hb
  go_wp2_with fail
  refine (HEM.out _ HM1.out).mono ?_
  rintro e w2 ⟨rfl, rfl⟩
  have HT1 := Lib.hid (HT.out.below HB.out)
  have hh := HM1.out.head
  clear HI0 HEM h0 HT
  go_wp2
  go_loopg [3, 26] (n + 1) (fun g v x wr => ∃ i : Nat, ∃ S : List UInt8, x = .int .i64 i ∧ v = .string ⟨S.toArray⟩ ∧ Hid (S = zoneT n m i) ∧ Hid (Below w.heap.size w wr ∧ Below w1.heap.size w1 wr) ∧ Hid (i ≤ n + 1 ∧ g + i = n + 1))
  case atStart => exact ⟨0, L ++ [58], by simp, by rw [← bytes_app], HZ0.out.symm, ⟨HB.out, Below.refl _ _⟩, by omega, by omega⟩
  case round =>
    clear hh l1
    obtain ⟨i, S, rfl, rfl, HS, HW, HG⟩ := hrel
    have hh := (HM1.out.later HW.out.2).head
    by_cases hi : i < n + 1
    · have hii : (i : Int) < (n : Int) + 1 := by omega
      go_wp2
      go_loopg [3, 35] (n + 1) (fun g v x wr => ∃ j : Nat, ∃ S : List UInt8, x = .int .i64 j ∧ v = .string ⟨S.toArray⟩ ∧ Hid (S = zoneT n m i ++ rowT m i j) ∧ Hid (Below w.heap.size w wr ∧ Below w1.heap.size w1 wr) ∧ Hid (j ≤ n + 1 ∧ g + j = n + 1))
      case atStart => exact ⟨0, S, by simp, rfl, by show _ = _; rw [HS.out, rowT, List.append_nil], HW.out, by omega, by omega⟩
      case round =>
        clear HS HW hh
        obtain ⟨j, S, rfl, rfl, HS, HW, HG2⟩ := hrel
        have hh := (HM1.out.later HW.out.2).head
        by_cases hj : j < n + 1
        · have hjj : (j : Int) < (n : Int) + 1 := by omega
          have i9 : (i : Int) < 9 := by omega
          have j9 : (j : Int) < 9 := by omega
          have c1 := (HM1.out.later HW.out.2).cell i j (by omega) (by omega)
          have HLS := Lib.hid (show S.length ≤ 22 + i * 684 + j * 76 by
            rw [HS.out, List.length_append]
            have a := zoneT_len hn HR.out i (by omega)
            have b := rowT_len hn (show i ≤ n by omega) HR.out j (by omega)
            omega)
          have HPL := Lib.hid (show (printL (m i j)).length ≤ 30 from printL_short _ (right_bits (HR.out i j (by omega) (by omega))).1 (right_bits (HR.out i j (by omega) (by omega))).2)
          obtain ⟨x, hx⟩ : ∃ x, x = m i j := ⟨_, rfl⟩
          rw [← hx] at c1 HPL
          have HX := Lib.hid hx
          clear hx
          by_cases a1 : i = j
          · subst a1
            have t1 : ((i : Int) != (i : Int)) = false := by simp
            have HS2 := Lib.hid (rowT_no HS.out (fun h => h.1 rfl))
            go_wp2
            go_roundg (gk - 1)
            case measure => have h := HG2.out; omega
            case rel => exact ⟨i + 1, S, by go_num, rfl, HS2.out, HW.out, by omega, by have h := HG2.out; omega⟩
          · have t1 : ((i : Int) != (j : Int)) = true := by simp; omega
            by_cases a2 : x = 2147483647
            · subst a2
              have HS2 := Lib.hid (rowT_no HS.out (fun h => h.2.1 HX.out.symm))
              clear a1
              go_wp2
              go_roundg (gk - 1)
              case measure => have h := HG2.out; omega
              case rel => exact ⟨j + 1, S, by go_num, rfl, HS2.out, HW.out, by omega, by have h := HG2.out; omega⟩
            · have t2 : (x != 2147483647) = true := by simp [a2]
              by_cases a3 : i ≠ 0 ∨ x < 1
              · have hyes : i ≠ j ∧ m i j ≠ 2147483647 ∧ (i ≠ 0 ∨ m i j < 1) := by rw [← HX.out]; exact ⟨a1, a2, a3⟩
                have HS2 := Lib.hid (rowT_yes HS.out hyes)
                have HT2 := Lib.hid (HT1.out.below HW.out.2)
                have HIi := Lib.hid (HI.out i (by omega))
                have HIj := Lib.hid (HI.out j (by omega))
                have li := itoa_len i (by omega)
                have lj := itoa_len j (by omega)
                have lx := HPL.out
                have ls := HLS.out
                have HPX := Lib.hid (HP.out x)
                rw [printB_L] at HPX
                rw [← HX.out] at HS2
                generalize Lib.itoa i = I at *
                generalize Lib.itoa j = J at *
                generalize printL x = P at *
                have k1 : ¬ (9223372036854775807 < 2 + I.length) := by omega
                have k2 : ¬ (9223372036854775807 < 2 + I.length + 2) := by omega
                have k3 : ¬ (9223372036854775807 < 2 + I.length + 2 + J.length) := by omega
                have k4 : ¬ (9223372036854775807 < 2 + I.length + 2 + J.length + P.length) := by omega
                have k5 : ¬ (9223372036854775807 < S.length + (2 + I.length + 2 + J.length + P.length)) := by omega
                clear HPL HLS hyes a1 a2 li lj lx ls
                rcases (show ((i : Int) != 0) = true ∨ (((i : Int) != 0) = false ∧ decide (x < 1) = true) by
                  by_cases z : i = 0
                  · subst z; right; exact ⟨rfl, decide_eq_true (by omega)⟩
                  · left; simp; omega) with t3 | ⟨t3, t4⟩
                all_goals
                  clear a3
                  go_wp2_with fail
                  refine (HIi.out _ HT2.out).mono ?_
                  rintro e w3 ⟨rfl, hb⟩
                  have HT3 := Lib.hid (HT2.out.below hb)
                  have HW3 := Lib.hid (And.intro (HW.out.1.trans (hb.mono HW.out.1.size)) (HW.out.2.trans (hb.mono HW.out.2.size)))
                  clear hb HT2
                  go_wp2_with fail
                  refine (HIj.out _ HT3.out).mono ?_
                  rintro e w4 ⟨rfl, hb⟩
                  have HT4 := Lib.hid (HT3.out.below hb)
                  have HW4 := Lib.hid (And.intro (HW3.out.1.trans (hb.mono HW3.out.1.size)) (HW3.out.2.trans (hb.mono HW3.out.2.size)))
                  clear hb HT3
                  go_wp2_with fail
                  refine (HPX.out _ HT4.out).mono ?_
                  rintro e w5 ⟨rfl, hb⟩
                  have HW5 := Lib.hid (And.intro (HW4.out.1.trans (hb.mono HW4.out.1.size)) (HW4.out.2.trans (hb.mono HW4.out.2.size)))
                  clear hb HT4
                  go_wp2
                  go_roundg (gk - 1)
                  case measure => have h := HG2.out; omega
                  case rel =>
                    refine ⟨j + 1, S ++ ([32, 120] ++ I ++ [45, 120] ++ J ++ P), by go_num, ?_, HS2.out, HW5.out, by omega, by have h := HG2.out; omega⟩
                    rw [← bytes_app, ← bytes_app, ← bytes_app, ← bytes_app, ← bytes_app]
              · have HS2 := Lib.hid (rowT_no HS.out (fun h => a3 (by have h2 := h.2.2; rw [← HX.out] at h2; exact h2)))
                have t3 : ((i : Int) != 0) = false := by simp; omega
                have t4 : decide (x < 1) = false := decide_eq_false (by omega)
                clear a1 a2 a3
                go_wp2
                go_roundg (gk - 1)
                case measure => have h := HG2.out; omega
                case rel => exact ⟨j + 1, S, by go_num, rfl, HS2.out, HW.out, by omega, by have h := HG2.out; omega⟩
        · have e : j = n + 1 := by have := HG2.out.1; omega
          subst e
          have hjj : ¬ ((n + 1 : Nat) : Int) < (n : Int) + 1 := by omega
          go_wp2
          go_roundg (n - i)
          case measure => have h := HG.out; omega
          case rel => exact ⟨i + 1, S, by go_num, rfl, HS.out, HW.out, by omega, by omega⟩
    · have e : i = n + 1 := by have := HG.out.1; omega
      subst e
      have hii : ¬ ((n + 1 : Nat) : Int) < (n : Int) + 1 := by omega
      go_wp2
      go_ret
      exact ⟨by rw [HE.out, ← HS.out]; rfl, HW.out.1⟩

/-- Print of any zone. -/
theorem zprint_any (v : Value) (z : Option (Nat × Mat)) (w : World) (h : ZoneV 126 w v z) (ht : Tab w) : Calls Tryd.prog 72 #[v] w (Says w ⟨(printZ z).toArray⟩) := by
  match z, h with
  | none, h =>
    have h : v = .pointer none := h
    subst h
    exact zprint_nil w
  | some (n, m), ⟨b, e, hn, hr, hm⟩ =>
    subst e
    by_cases he : m 0 0 < 1
    · exact zprint_empty b n m w hn hm he ht
    · exact zprint_full b n m w hn hm hr he ht

end Go.Proofs.YtidcnlecgcobmaaDoor

/- What live tells of the operations, whatever is asked. -/
namespace Go.Proofs.YtidcnlecgcobmaaDoor
open Go Go.RowKit
set_option linter.unusedVariables false
set_option linter.unusedSimpArgs false

theorem some_of {r : Option Mat × Int} (h1 : r.1.isSome = true) (h2 : r.2 = 0) : r = (some (r.1.getD fun _ _ => 0), 0) := by
  obtain ⟨a, b⟩ := r
  cases a
  · cases h1
  · simp only at h2; subst h2; rfl

/-- The zones that live makes: of zeroes, later, less than 3, set to 0. -/
def lz0 : Mat := (zerP 2).1.getD fun _ _ => 0
theorem lz0_is : zerP 2 = (some lz0, 0) := some_of (by decide +kernel) (by decide +kernel)
theorem lz0_flat : flat 2 lz0 = [1, 1, 1, 1, 1, 1, 1, 1, 1] := by decide +kernel
theorem lu1_flat : flat 2 (upW (some (2, lz0))) = [1, 1, 1, 2147483647, 1, 1, 2147483647, 1, 1] := by
  have e : emptyP (some (2, lz0)) = false := by decide +kernel
  have e2 : openW (some (2, lz0)) = fillUp 2 [1, 1, 1, 1, 1, 1, 1, 1, 1] 9 := by
    show fillUp 2 (flat 2 lz0) (flat 2 lz0).length = _
    rw [lz0_flat]; rfl
  unfold upW
  rw [e, if_neg (by simp), e2]
  decide +kernel
def lz1 : Mat := (ofP 2 [1, 1, 1, 2147483647, 1, 1, 2147483647, 1, 1]).1.getD fun _ _ => 0
theorem lz1_is : ofP ((2 : Nat) : Int) (flat 2 (upW (some (2, lz0)))) = (some lz1, 0) := by
  rw [lu1_flat]; exact some_of (by decide +kernel) (by decide +kernel)
theorem lz1_flat : flat 2 lz1 = [1, 1, 1, 2147483647, 1, 1, 2147483647, 1, 1] := by decide +kernel
def lz2 : Mat := (ofP 2 [1, 1, 1, 6, 1, 1, 2147483647, 1, 1]).1.getD fun _ _ => 0
theorem lz2_is : conP 2 (openW (some (2, lz1))) [(1, 0, 6)] = (some lz2, 0) := by
  have e2 : openW (some (2, lz1)) = fillUp 2 [1, 1, 1, 2147483647, 1, 1, 2147483647, 1, 1] 9 := by
    show fillUp 2 (flat 2 lz1) (flat 2 lz1).length = _
    rw [lz1_flat]; rfl
  unfold conP
  rw [if_pos (by decide +kernel), e2, show flat 2 (conUp (fillUp 2 [1, 1, 1, 2147483647, 1, 1, 2147483647, 1, 1] 9) [(1, 0, 6)] [((1 : Int), (0 : Int), (6 : Int))].length) = [1, 1, 1, 6, 1, 1, 2147483647, 1, 1] by decide +kernel]
  exact some_of (by decide +kernel) (by decide +kernel)
theorem lz2_flat : flat 2 lz2 = [1, 1, 1, 6, 1, 1, 6, 1, 1] := by decide +kernel
theorem lz2_text : printZ (some (2, lz2)) = [50, 58, 32, 120, 49, 45, 120, 48, 60, 51, 32, 120, 49, 45, 120, 50, 60, 61, 48, 32, 120, 50, 45, 120, 48, 60, 51, 32, 120, 50, 45, 120, 49, 60, 61, 48] := by decide +kernel
def lz3 : Mat := (ofP 2 [1, 1, 1, 1, 1, 2147483647, 6, 6, 1]).1.getD fun _ _ => 0
theorem lz3_is : ofP ((2 : Nat) : Int) (flat 2 (resetW (some (2, lz2)) 1 0)) = (some lz3, 0) := by
  have e : emptyP (some (2, lz2)) = false := by decide +kernel
  have e2 : openW (some (2, lz2)) = fillUp 2 [1, 1, 1, 6, 1, 1, 6, 1, 1] 9 := by
    show fillUp 2 (flat 2 lz2) (flat 2 lz2).length = _
    rw [lz2_flat]; rfl
  unfold resetW
  rw [e, if_neg (by simp), e2, show flat 2 (setW (fillUp 2 [1, 1, 1, 6, 1, 1, 6, 1, 1] 9) (dimN (some (2, lz2))) 1 0) = [1, 1, 1, 1, 1, 2147483647, 6, 6, 1] by decide +kernel]
  exact some_of (by decide +kernel) (by decide +kernel)
theorem lz3_text : printZ (some (2, lz3)) = [50, 58, 32, 120, 49, 45, 120, 48, 60, 61, 48, 32, 120, 49, 45, 120, 50, 60, 61, 48, 32, 120, 50, 45, 120, 48, 60, 51, 32, 120, 50, 45, 120, 49, 60, 51] := by decide +kernel

theorem lims_new (w : World) (e : TypeId) (a b c : Int) : Lims (w.alloc (.cells #[.int .i64 a, .int .i64 b, .int .i32 c] e (0, 0))) (some ⟨w.heap.size, 0, none⟩) [(a, b, c)] := by
  have h1 := heap_alloc_new w (.cells #[.int .i64 a, .int .i64 b, .int .i32 c] e (0, 0))
  intro j hj
  have e0 : j = 0 := by simp at hj; omega
  subst e0
  refine ⟨w.heap.size, 0, rfl, ?_, ?_, ?_⟩ <;> (unfold World.cell?; rw [h1]; rfl)

set_option maxRecDepth 100000 in
set_option maxHeartbeats 2000000 in
theorem live04_any (w : World) (ht : Tab w) : Calls Tryd.prog 17 #[] w fun e w' => e = .returned (.bool true) ∧ Below w.heap.size w w' := by
  have HT := Lib.hid ht
  have HZ0 := Lib.hid (fun w => zero_any 2 w)
  rw [lz0_is] at HZ0
  have HU := Lib.hid (fun v w h => up_zone v 2 lz0 w h)
  rw [lz1_is] at HU
  have HC := Lib.hid (fun v A c w h hI => constrain_zone v 2 lz1 A c [(1, 0, 6)] w h hI (by simp) (fun q hq => by
    have : q = 0 := by simp at hq; omega
    subst this; decide))
  rw [lz2_is] at HC
  have HRS := Lib.hid (fun v w h => reset_right v 2 lz2 1 0 w h (by omega) (by omega))
  rw [lz3_is] at HRS
  have HP2 := Lib.hid (fun v w h ht => zprint_any v (some (2, lz2)) w h ht)
  rw [lz2_text] at HP2
  have HP3 := Lib.hid (fun v w h ht => zprint_any v (some (2, lz3)) w h ht)
  rw [lz3_text] at HP3
  clear ht
  go_enter Tryd.func17, Tryd.ntmps17
  go_wp2_with fail
  refine (HZ0.out _).mono ?_
  rintro e w1 ⟨hb, v, rfl, hv⟩
  have HB1 := Lib.hid hb
  have HV1 := Lib.hid (show ZoneV 126 w1 v (some (2, lz0)) from hv)
  clear hb hv
  go_wp2_with fail
  refine (HU.out _ _ HV1.out).mono ?_
  rintro e w2 ⟨hb, v2, rfl, hv⟩
  have HB2 := Lib.hid (HB1.out.trans (hb.mono HB1.out.size))
  have HV2 := Lib.hid (show ZoneV 126 w2 v2 (some (2, lz1)) from hv)
  obtain ⟨b2, e2, _⟩ := hv
  subst e2
  clear hb HB1 HV1
  go_wp2_with fail
  have HB3 := Lib.hid ((Below.refl w2.heap.size w2).alloc (Nat.le_refl _) (.cells #[.int .i64 1, .int .i64 0, .int .i32 6] 68))
  have HL3 := Lib.hid (lims_new w2 68 1 0 6)
  have HV3 := Lib.hid (HV2.out.below HB3.out)
  have HB3 := Lib.hid (HB2.out.trans (HB3.out.mono HB2.out.size))
  generalize w2.alloc (.cells #[.int .i64 1, .int .i64 0, .int .i32 6] 68) = w3 at *
  refine (HC.out _ _ _ _ HV3.out HL3.out).mono ?_
  rintro e w4 ⟨hb, v4, rfl, hv⟩
  have HB4 := Lib.hid (HB3.out.trans (hb.mono HB3.out.size))
  have HV4 := Lib.hid (show ZoneV 126 w4 v4 (some (2, lz2)) from hv)
  obtain ⟨b4, e4, _⟩ := hv
  subst e4
  clear hb HB2 HV2 HB3 HV3 HL3
  go_wp2_with fail
  refine (HRS.out _ _ HV4.out).mono ?_
  rintro e w5 ⟨hb, v5, rfl, hv⟩
  have HB5 := Lib.hid (HB4.out.trans (hb.mono HB4.out.size))
  have HV5 := Lib.hid (show ZoneV 126 w5 v5 (some (2, lz3)) from hv)
  have HV4' := Lib.hid (HV4.out.below hb)
  have HT5 := Lib.hid (HT.out.below HB5.out)
  obtain ⟨b5, e5, _⟩ := hv
  subst e5
  clear hb HB4 HV4
  go_wp2_with fail
  refine (HP2.out _ _ HV4'.out HT5.out).mono ?_
  rintro e w6 ⟨rfl, hb⟩
  have HB6 := Lib.hid (HB5.out.trans (hb.mono HB5.out.size))
  have HV6 := Lib.hid (HV5.out.below hb)
  have HT6 := Lib.hid (HT5.out.below hb)
  clear hb
  go_wp2_with fail
  refine (HP3.out _ _ HV6.out HT6.out).mono ?_
  rintro e w7 ⟨rfl, hb⟩
  have HB7 := Lib.hid (HB6.out.trans (hb.mono HB6.out.size))
  clear hb
  go_wp2
  go_ret
  exact ⟨by first | rfl | decide, HB7.out⟩

end Go.Proofs.YtidcnlecgcobmaaDoor

/- What OpsTime tells. -/
namespace Go.Proofs.YtidcnlecgcobmaaDoor
open Go Go.RowKit
set_option linter.unusedVariables false
set_option linter.unusedSimpArgs false

/-- What Up, Down answer, of a zone or nil. -/
def upA (z : Option (Nat × Mat)) : Option Mat × Int := match z with | none => (none, 1) | some (k, m) => ofP k (flat k (upW (some (k, m))))
def downA (z : Option (Nat × Mat)) : Option Mat × Int := match z with | none => (none, 1) | some (k, m) => ofP k (flat k (downW (some (k, m))))
theorem up_any (v : Value) (z : Option (Nat × Mat)) (w : World) (h : ZoneV 126 w v z) : Calls Tryd.prog 20 #[v] w (MakesZ w (dimN z) (upA z)) := by
  match z, h with
  | none, h =>
    have h : v = .pointer none := h
    subst h
    exact (up_nil w).mono fun e w' ⟨he, hw⟩ => ⟨hw ▸ Below.refl _ _, .pointer none, he, rfl⟩
  | some (k, m), h => exact up_zone v k m w h
theorem down_any (v : Value) (z : Option (Nat × Mat)) (w : World) (h : ZoneV 126 w v z) : Calls Tryd.prog 22 #[v] w (MakesZ w (dimN z) (downA z)) := by
  match z, h with
  | none, h =>
    have h : v = .pointer none := h
    subst h
    exact (down_nil w).mono fun e w' ⟨he, hw⟩ => ⟨hw ▸ Below.refl _ _, .pointer none, he, rfl⟩
  | some (k, m), h => exact down_zone v k m w h
/-- A zone that Of made. -/
def KindZ (z : Option (Nat × Mat)) : Prop := ∀ k m, z = some (k, m) → k ≤ 8 ∧ (m = (fun _ _ => 0) ∨ FullZ k m)
theorem kind_of (n : Int) (cells : List Int) : KindZ (zOf n cells) := fun k m e => by
  have h := zone_kinds e
  exact ⟨by omega, h.2⟩
theorem up4_any (v : Value) (z : Option (Nat × Mat)) (w : World) (h : RefZ w v z) (hk : KindZ z) : Calls Tryd.prog 21 #[v] w (MakesR w (dimN z) (upA z)) := by
  match z, h, hk with
  | none, h, _ =>
    have h : v = .pointer none := h
    subst h
    exact (up4_nil w).mono fun e w' ⟨he, hw⟩ => ⟨hw ▸ Below.refl _ _, .pointer none, he, rfl⟩
  | some (k, m), h, hk =>
    obtain ⟨hn, rfl | hf⟩ := hk k m rfl
    · show Calls _ _ _ _ (MakesR w k (ofP k (flat k (upW (some (k, fun _ _ => 0))))))
      rw [up_zero k hn]
      exact up4_empty v k w h
    · show Calls _ _ _ _ (MakesR w k (ofP k (flat k (upW (some (k, m))))))
      rw [up_same hn hf]
      exact up4_full v k m w h hf
theorem down4_any (v : Value) (z : Option (Nat × Mat)) (w : World) (h : RefZ w v z) (hk : KindZ z) : Calls Tryd.prog 23 #[v] w (MakesR w (dimN z) (downA z)) := by
  match z, h, hk with
  | none, h, _ =>
    have h : v = .pointer none := h
    subst h
    exact (down4_nil w).mono fun e w' ⟨he, hw⟩ => ⟨hw ▸ Below.refl _ _, .pointer none, he, rfl⟩
  | some (k, m), h, hk =>
    obtain ⟨hn, rfl | hf⟩ := hk k m rfl
    · show Calls _ _ _ _ (MakesR w k (ofP k (flat k (downW (some (k, fun _ _ => 0))))))
      rw [down_zero k hn]
      exact down4_empty v k w h
    · show Calls _ _ _ _ (MakesR w k (ofP k (flat k (downW (some (k, m))))))
      rw [down_same hn hf]
      exact down4_full v k m w h hf
theorem stable_ref (v : Value) (z : Option (Nat × Mat)) : Stable fun w => RefZ w v z := fun _ _ h hb => h.below hb
theorem stable_tab : Stable Tab := fun _ _ h hb => h.below hb

set_option maxRecDepth 100000 in
set_option maxHeartbeats 2000000 in
theorem time_any (n : Int) (A : Option Addr) (c : Nat) (cells : List Int) (w : World) (hI : Ints w .i32 A cells) (hmax : cells.length ≤ 4611686018427387904)
    (hk : ∀ q, q < cells.length → -2147483648 ≤ cells.getD q 0 ∧ cells.getD q 0 ≤ 2147483647) (ht : Tab w) :
    Calls Tryd.prog 4 #[.int .i64 n, .slice A cells.length c] w fun e w' => e = .returned (.bool true) ∧ Below w.heap.size w w' := by
  have HBO := Lib.hid (both04_any n A c cells w hI hmax hk)
  have HK := Lib.hid (kind_of n cells)
  have HT := Lib.hid ht
  unfold Both4Ends at HBO
  obtain ⟨z, hz⟩ : ∃ z, z = zOf n cells := ⟨_, rfl⟩
  rw [← hz] at HBO HK
  have HU := Lib.hid (fun v w h => up_any v z w h)
  have HU4 := Lib.hid (fun v w h => up4_any v z w h HK.out)
  have HDN := Lib.hid (fun v w h => down_any v z w h)
  have HDN4 := Lib.hid (fun v w h => down4_any v z w h HK.out)
  generalize upA z = U at *
  generalize downA z = D at *
  obtain ⟨Um, Ue⟩ := U
  obtain ⟨Dm, De⟩ := D
  clear hI hk ht hz
  go_enter Tryd.func4, Tryd.ntmps4
  go_wp2_with fail
  refine HBO.out.mono ?_
  rintro e w1 ⟨hb, v, v', rfl, hv, hv'⟩
  have HG1 := Lib.hid ((((Bag.start hb).add (HT.out.below hb) stable_tab).add hv' (stable_ref _ _)).add hv (stable_zone _ _ _))
  clear hb hv hv' HBO HT
  go_wp2_with fail
  refine (HU.out _ _ (HG1.out.at 0 rfl)).mono ?_
  rintro e w2 ⟨hb, a, rfl, ha⟩
  have HG2 := Lib.hid ((HG1.out.step hb).add ha (stable_zone _ _ _))
  clear hb ha HG1
  go_wp2_with fail
  refine (HU4.out _ _ (HG2.out.at 2 rfl)).mono ?_
  rintro e w3 ⟨hb, b, rfl, ha⟩
  have HG3 := Lib.hid ((HG2.out.step hb).add ha (stable_ref _ _))
  clear hb ha HG2
  go_wp2_with fail
  refine (HDN.out _ _ (HG3.out.at 2 rfl)).mono ?_
  rintro e w4 ⟨hb, d, rfl, ha⟩
  have HG4 := Lib.hid ((HG3.out.step hb).add ha (stable_zone _ _ _))
  clear hb ha HG3
  go_wp2_with fail
  refine (HDN4.out _ _ (HG4.out.at 4 rfl)).mono ?_
  rintro e w5 ⟨hb, d', rfl, ha⟩
  have HG5 := Lib.hid ((HG4.out.step hb).add ha (stable_ref _ _))
  clear hb ha HG4
  go_wp2_with fail
  refine (live04_any _ (HG5.out.at 6 rfl)).mono ?_
  rintro e w6 ⟨rfl, hb⟩
  have HG6 := Lib.hid (HG5.out.step hb)
  clear hb HG5
  go_wp2_with fail
  refine (same04_any _ _ _ _ (HG6.out.at 3 rfl) (HG6.out.at 2 rfl)).mono ?_
  rintro e w7 ⟨rfl, hb⟩
  have HG7 := Lib.hid (HG6.out.step hb)
  clear hb HG6
  go_wp2_with fail
  refine (same04_any _ _ _ _ (HG7.out.at 1 rfl) (HG7.out.at 0 rfl)).mono ?_
  rintro e w8 ⟨rfl, hb⟩
  have HG8 := Lib.hid (HG7.out.step hb)
  clear hb HG7
  go_wp2_with fail
  refine (same04_any _ _ _ _ (HG8.out.at 4 rfl) (HG8.out.at 5 rfl)).mono ?_
  rintro e w9 ⟨rfl, hb⟩
  have HG9 := Lib.hid (HG8.out.step hb)
  clear hb HG8
  go_wp2
  go_ret
  exact ⟨by simp, HG9.out.below⟩

end Go.Proofs.YtidcnlecgcobmaaDoor

/- How a law's call ends: it tells true, and what came in reads as before. -/
namespace Go.Proofs.YtidcnlecgcobmaaDoor
open Go Go.ChangeShapes Go.WideShapes Go.ChangeAt Go.RowKit
set_option linter.unusedVariables false
set_option linter.unusedSimpArgs false

section
variable {H : Type} {enc : TypeId × Value → H} {P : Program} {W W' : World}
/-- All that came in reads as before, where below the old heap's size nothing has turned. -/
theorem stays_all (hl : laidOutB P = true) {sp : Nat → Bool} : ∀ {ts : List TypeId} {vs : List Value} {ds : List (DataW H)} {ps : List MemPlace},
    (∀ t ∈ ts, P.readableRec t = true ∧ t < P.types.size) → DataW.TrodAll enc P W 0 (fun _ => true) true ts vs ds ps → (∀ p ∈ ps, W.sameAt W' p) → (∀ p ∈ ps, sp p.block = true) →
    DataW.TrodAll enc P W' 0 sp true ts vs ds ps
  | [], [], [], _, _, h, _, _ => h
  | t :: _, _ :: _, _ :: _, _, ht, ⟨p, q, h1, h2, e⟩, hk, hs =>
    ⟨p, q, WideElems.Trod_stays hl (ht t (List.mem_cons.2 (.inl rfl))).1 (ht t (List.mem_cons.2 (.inl rfl))).2 h1 (fun x hx => hk x (by rw [e]; exact List.mem_append_left _ hx)) (fun x hx => hs x (by rw [e]; exact List.mem_append_left _ hx)),
      stays_all hl (fun t ht' => ht t (List.mem_cons.2 (.inr ht'))) h2 (fun x hx => hk x (by rw [e]; exact List.mem_append_right _ hx)) (fun x hx => hs x (by rw [e]; exact List.mem_append_right _ hx)), e⟩

/-- The post of a law's row, out of true and Below. -/
theorem law_post {f : Func} {s : ChangeSpec} {args : Array Value} {ds gs : List (DataW H)} {before : List MemPlace} {tb : TypeId} {apart fresh handsOn again : Bool}
    (hl : laidOutB P = true) (hr : ∀ t ∈ f.params.toList, P.readableRec t = true ∧ t < P.types.size) (hv : s.vars = [])
    (hres : f.resultTypes = #[tb]) (hb : P.underlying tb = some .bool) (hfn : s.fn H (ds ++ gs) = { results := [.lit (.bool true)], args := ds })
    (hW : DataW.Whole enc P f.params.toList s.vars apart W args.toList ds gs before) (hbel : Below W.heap.size W W') :
    s.post enc P f apart fresh handsOn again W args (.bool true) W' := by
  have hlt := hW.lt
  have hW' := hW
  obtain ⟨p, q, hA, hV, rfl, hz, hn⟩ := hW'
  rw [hv] at hV
  obtain ⟨rfl, rfl⟩ := trodVars_none hV
  simp only [List.append_nil] at hW hlt hz hn hfn
  have hargs : ∀ sp : Nat → Bool, (∀ x ∈ p, sp x.block = true) → DataW.TrodAll enc P W' 0 sp true f.params.toList args.toList ds p :=
    fun sp hs => stays_all hl hr hA (fun x hx => hbel.same (hlt x hx)) hs
  have hone : ∀ (b : Nat) (sp : Nat → Bool) (hd : Bool), DataW.TrodAll enc P W' b sp hd f.resultTypes.toList ((Value.bool true).resultList f.resultTypes.size) [.lit (.bool true)] [] := by
    intro b sp hd
    rw [hres]
    exact trodAll_mk1 (shut_bool hb true)
  have hvars : ∀ sp : Nat → Bool, DataW.TrodVars enc P W' sp s.vars ([] : List (DataW H)) [] := by
    intro sp
    rw [hv]
    rfl
  refine ⟨ds, [], p, [], p, [], hW, ?_, ?_, ?_, hbel.frame _, fun _ => ⟨ok_one hres rfl (okWide_bool_mk hb true), ?_⟩⟩
  · simp only [List.append_nil, hfn]; exact hone _ _ _
  · simp only [List.append_nil, hfn]; exact hargs _ (fun x hx => by simpa using hlt x hx)
  · simp only [List.append_nil, hfn]; exact hvars _
  · refine ⟨[.lit (.bool true)] ++ ds, [], [] ++ p, ⟨[] ++ p, [], trodAll_append (hargs _ (fun _ _ => rfl)) (hone _ _ _), hvars _, by simp, ?_, ?_⟩, ?_⟩
    · intro b off hp
      have hp' : MemPlace.cell b off ∈ p := by simpa using hp
      rw [hbel.frozen (p := ⟨b, off, none⟩) (hlt _ hp')]
      exact hz b off hp'
    · intro ha
      simpa using hn ha
    · intro x hx _
      simpa using hx

/-- A slice of numbers that came in. -/
theorem came_row {t e : TypeId} {k : IntKind} {v : Value} {d : DataW H} {ps : List MemPlace} {r : Reach} {base : Nat} (ht : P.underlying t = some (.slice e)) (he : P.underlying e = some (.int k)) (hc : P.cellsOf e = 1)
    (hval : Value.okWide P W r base t v) (h : DataW.Trod enc P W 0 (fun _ => true) true t v d ps) :
    ∃ A c xs, v = .slice A xs.length c ∧ Ints W k A xs ∧ (∀ n ∈ xs, (Lit.int k n).wf = true) ∧ (xs = [] ∨ ∃ el sp, d = .slice el sp ∧ el.length = xs.length) := by
  obtain ⟨a0, len, cap, rfl⟩ := okWide_slice ht hval
  obtain ⟨fuel, hf⟩ := h
  rcases open_ints ht he hc hf with ⟨hcs, hx⟩ | ⟨a, len', cap', zs, hcs, _, hle, hmax, hall, hx, hcell, hwf⟩
  · simp [Value.cells] at hcs
    obtain ⟨rfl, rfl, rfl⟩ := hcs
    exact ⟨none, 0, [], rfl, fun j hj => by simp at hj, by simp, .inl rfl⟩
  · simp [Value.cells] at hcs
    obtain ⟨rfl, rfl, rfl⟩ := hcs
    have hz : zs.length = cap := by simpa using hall
    simp only [Prod.mk.injEq] at hx
    refine ⟨some a, cap, zs.take len, by rw [List.length_take]; congr 1; omega, ?_, fun n hn => hwf n (List.mem_of_mem_take hn), .inr ⟨_, _, hx.1, by simp [lits]⟩⟩
    intro j hj
    rw [List.length_take] at hj
    obtain ⟨b, off, rfl, hcell'⟩ := ints_at hcell (by omega)
    refine ⟨b, off, rfl, ?_⟩
    rw [hcell' j (by omega)]
    congr 2
    simp [List.getD_eq_getElem?_getD, List.getElem?_take, show j < len by omega]
/-- Its length is within what the machine can hold. -/
theorem came_short {ts : List TypeId} {ds : List (DataW H)} {j : Nat} {t e : TypeId} {d : DataW H} {xs : List Int} {m : Nat} (hsz : (DataW.weightsEach P ts ds).all (· ≤ reachBytes) = true) (ht : ts[j]? = some t) (hd : ds[j]? = some d)
    (hu : P.underlying t = some (.slice e)) (hm : P.bytesOf e = m) (hm1 : 1 ≤ m) (h : xs = [] ∨ ∃ el sp, d = .slice el sp ∧ el.length = xs.length) : xs.length * m ≤ 140737488351232 := by
  rcases h with rfl | ⟨el, sp, rfl, he⟩
  · simp
  · have h1 := sized_slice hsz ht hd hu
    rw [hm] at h1
    have h2 : el.length * m ≤ (el.length + sp.length) * m := Nat.mul_le_mul_right _ (by omega)
    rw [← he]
    exact Nat.le_trans h2 h1
/-- The bounds of 32 bits. -/
theorem came_i32 {xs : List Int} (h : ∀ n ∈ xs, (Lit.int .i32 n).wf = true) : ∀ q, q < xs.length → -2147483648 ≤ xs.getD q 0 ∧ xs.getD q 0 ≤ 2147483647 := by
  intro q hq
  have h1 := h (xs.getD q 0) (by rw [List.getD_eq_getElem?_getD, List.getElem?_eq_getElem hq]; exact List.getElem_mem hq)
  exact bounds_i32 h1
/-- A pair of numbers that came in. -/
theorem came_pair {t e : TypeId} {k : IntKind} {v : Value} {d : DataW H} {ps : List MemPlace} {r : Reach} {base : Nat} (ht : P.underlying t = some (.array 2 e)) (he : P.underlying e = some (.int k)) (hc : P.cellsOf e = 1) (hct : P.cellsOf t = 2)
    (hval : Value.okWide P W r base t v) (h : DataW.Trod enc P W 0 (fun _ => true) true t v d ps) :
    ∃ x y, v = .agg #[.int k x, .int k y] ∧ (Lit.int k x).wf = true ∧ (Lit.int k y).wf = true := by
  obtain ⟨cs, rfl, hsz, _⟩ : ∃ cs, v = .agg cs ∧ cs.size = P.cellsOf t ∧ Row.okWide P W r base t cs := by
    simpa [Value.okWide, ht] using hval
  rw [hct] at hsz
  obtain ⟨l⟩ := cs
  match l, hsz with
  | [a, b], _ =>
    obtain ⟨fuel, hf⟩ := h
    obtain ⟨xs, m, _, hx, hlen, hn, hel⟩ := DataW.trod_array ht hf
    have h0 := hel 0 (by omega)
    have h1 := hel 1 (by omega)
    simp [Value.cells, hc] at h0 h1
    rw [List.getElem?_eq_getElem (by omega)] at h0 h1
    obtain ⟨x, e0, _, w0⟩ := DataW.trod_int he h0
    obtain ⟨y, e1, _, w1⟩ := DataW.trod_int he h1
    simp at e0 e1
    subst e0 e1
    exact ⟨x, y, rfl, w0, w1⟩
end

end Go.Proofs.YtidcnlecgcobmaaDoor
