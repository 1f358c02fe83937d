/- Texts of ours, laid together: Bd, Bp, Pk, Bq, Ok, Op, Ol, Qt, Px, Rx, Ml, On, Ql, Oq. -/
import Derived.Test.YtidcnlecgcobmaaDoorShelf
import Derived.Lib.AppendIntMem
import Derived.Lib.LaidTab
import Derived.Lib.ItoaLen
import Derived.Deep.OwnRows
import Derived.StillTailTactics
import Derived.Test.YtidcnlecgcobmaaDoorMg5
/- Sum, Add, Not of the program. -/
namespace Go.Proofs.YtidcnlecgcobmaaDoor
open Go Go.RowKit
set_option linter.unusedVariables false
set_option linter.unusedSimpArgs false

/-- A bound and an error, in a world with new blocks. -/
def Gives (w : World) (r : Int × Int) (e : Ending) (w' : World) : Prop := e = .returned (.tuple #[.int .i32 r.1, .int .i64 r.2]) ∧ Below w.heap.size w w'

set_option maxRecDepth 100000 in
set_option maxHeartbeats 1000000 in
theorem sum_any (A : Option Addr) (c : Nat) (l : List Int) (w : World) (hI : Ints w .i32 A l) (hmax : l.length ≤ 4611686018427387904) :
    Calls Tryd.prog 121 #[.slice A l.length c] w (Gives w (sumP l)) := by
  have HF := Lib.hid (fun w hI => fold_total A c l w hI hmax)
  have HI := Lib.hid hI
  rw [sum_pass]
  unfold totUp tot at HF
  obtain ⟨v, hv⟩ : ∃ v, v = sumAll l l.length := ⟨_, rfl⟩
  obtain ⟨r, hr⟩ : ∃ v, v = redAll l l.length := ⟨_, rfl⟩
  obtain ⟨i, hi⟩ : ∃ v, v = infUp l l.length := ⟨_, rfl⟩
  obtain ⟨x, hx⟩ : ∃ v, v = badUp l l.length := ⟨_, rfl⟩
  rw [← hv, ← hr, ← hi, ← hx] at HF ⊢
  clear hI hv hr hi hx
  go_enter Tryd.func121, Tryd.ntmps121
  go_wp2_with fail
  refine (HF.out _ HI.out).mono ?_
  rintro e w1 ⟨rfl, hb⟩
  have HB := Lib.hid hb
  clear hb
  have hnew : ∀ (o : Obj), Below w.heap.size w (w1.alloc o) := fun o => HB.out.alloc HB.out.size o
  have HN := Lib.hid hnew
  clear hnew
  cases x with
  | true =>
    rw [show sumR v r i true = (0, 7) from rfl]
    go_wp2
    go_ret2
    exact ⟨rfl, HN.out _⟩
  | false =>
    cases i with
    | true =>
      rw [show sumR v r true false = (2147483647, 0) from rfl]
      go_wp2
      go_ret2
      exact ⟨rfl, HN.out _⟩
    | false =>
      rw [show sumR v r false false = ofB v r from rfl]
      go_wp2_with fail
      refine (made_any v r _).mono ?_
      rintro e w' ⟨rfl, rfl⟩
      go_wp2
      go_ret2
      exact ⟨rfl, HN.out _⟩

/-- Two or three bounds in a block that was just laid. -/
theorem ints_two (w : World) (e : TypeId) (a b : Int) : Ints (w.alloc (.cells #[.int .i32 a, .int .i32 b] e (0, 0))) .i32 (some ⟨w.heap.size, 0, none⟩) [a, b] := by
  exact RowAt.ints (e := e) ⟨#[.int .i32 a, .int .i32 b], heap_alloc_new _ _, by simp [vals]⟩
theorem ints_three (w : World) (e : TypeId) (a b c : Int) : Ints (w.alloc (.cells #[.int .i32 a, .int .i32 b, .int .i32 c] e (0, 0))) .i32 (some ⟨w.heap.size, 0, none⟩) [a, b, c] := by
  exact RowAt.ints (e := e) ⟨#[.int .i32 a, .int .i32 b, .int .i32 c], heap_alloc_new _ _, by simp [vals]⟩
theorem Gives.on {w w1 : World} {r : Int × Int} {e : Ending} {w' : World} (h : Gives w1 r e w') (hb : Below w.heap.size w w1) : Gives w r e w' := ⟨h.1, hb.trans (h.2.mono hb.size)⟩

set_option maxRecDepth 100000 in
set_option maxHeartbeats 1000000 in
theorem add_any (a b : Int) (w : World) : Calls Tryd.prog 114 #[.int .i32 a, .int .i32 b] w (Gives w (sumP [a, b])) := by
  have HJ := Lib.hid (ints_two w 64 a b)
  have HB := Lib.hid ((Below.refl w.heap.size w).alloc (Nat.le_refl _) (.cells #[.int .i32 a, .int .i32 b] 64))
  obtain ⟨r, hr⟩ : ∃ r, r = sumP [a, b] := ⟨_, rfl⟩
  have HS := Lib.hid (fun w' hI => sum_any (some ⟨w.heap.size, 0, none⟩) 2 [a, b] w' hI (by simp))
  rw [← hr] at HS ⊢
  clear hr
  go_enter Tryd.func114, Tryd.ntmps114
  go_wp2_with fail
  refine (HS.out _ HJ.out).mono ?_
  intro e w1 hg
  have HG := Lib.hid (hg.on HB.out)
  obtain ⟨rfl, _⟩ := hg
  go_wp2
  go_ret2
  exact ⟨rfl, HG.out.2⟩

theorem notP_yes {b : Int} (h : someB b = true) : notP b = ofB (-(b / 2)) (!decide (b % 2 = 1)) := by unfold notP; rw [if_pos h]
end Go.Proofs.YtidcnlecgcobmaaDoor

/- What Print tells of a bound; live. -/
namespace Go.Proofs.YtidcnlecgcobmaaDoor
open Go Go.RowKit
set_option linter.unusedVariables false
set_option linter.unusedSimpArgs false

/-- The library's table of powers of ten lies as its package laid it. -/
def Tab (w : World) : Prop := Lib.TabIs Tryd.prog w "internal/strconv.uint64pow10" .u64 Lib.pow10Tab
theorem Tab.below {w w' : World} (h : Tab w) (hb : Below w.heap.size w w') : Tab w' := Lib.tabBelow_of_tabIs h w' hb

/-- A bound as a text. -/
def printB (b : Int) : ByteArray :=
  if b = 2147483647 then ⟨#[105, 110, 102]⟩ else if someB b then (if b % 2 = 1 then ⟨#[60, 61]⟩ else ⟨#[60]⟩) ++ ⟨(Lib.itoa (b / 2)).toArray⟩ else ⟨#[]⟩
/-- A text, in a world with new blocks. -/
def Says (w : World) (s : ByteArray) (e : Ending) (w' : World) : Prop := e = .returned (.string s) ∧ Below w.heap.size w w'

set_option maxRecDepth 100000 in
set_option maxHeartbeats 1000000 in
theorem itoa_any (n : Int) (h0 : -9223372036854775808 ≤ n) (h1 : n ≤ 9223372036854775807) (w : World) (ht : Tab w) : Calls Tryd.prog 107 #[.int .i64 n] w (Says w ⟨(Lib.itoa n).toArray⟩) :=
  (Tryd.strconv_Itoa n h0 h1 w ht).mono fun e w' ⟨h, k, os, hw⟩ => ⟨h, by rw [hw]; exact Lib.below_grow _ w (Nat.le_refl _) k os⟩

set_option maxRecDepth 100000 in
set_option maxHeartbeats 1000000 in
theorem print_any (b : Int) (w : World) (ht : Tab w) : Calls Tryd.prog 108 #[.int .i32 b] w (Says w (printB b)) := by
  by_cases hn : b = 2147483647
  · subst hn
    have HV := Lib.hid (fun w => value_no 2147483647 w (by decide))
    rw [show printB 2147483647 = ⟨#[105, 110, 102]⟩ from rfl]
    clear ht
    go_enter Tryd.func108, Tryd.ntmps108
    go_wp2_with fail
    refine (HV.out _).mono ?_
    rintro e w' ⟨rfl, rfl⟩
    go_wp2
    go_ret
    exact ⟨rfl, Below.refl _ _⟩
  · have t0 : (b == 2147483647) = false := by simp [hn]
    by_cases h : someB b = true
    · have HV := Lib.hid (fun w => value_yes b w h)
      have hb : -268435456 ≤ b / 2 ∧ b / 2 ≤ 268435456 := by
        obtain ⟨hr, hn⟩ : rightB b = true ∧ b ≠ 2147483647 := by simpa [someB] using h
        have := rightB_bd hr hn
        omega
      have HT := Lib.hid ht
      by_cases hz : b % 2 = 1
      · have e : printB b = ⟨#[60, 61]⟩ ++ ⟨(Lib.itoa (b / 2)).toArray⟩ := by unfold printB; rw [if_neg hn, if_pos h, if_pos hz]
        rw [decide_eq_true hz] at HV
        rw [e]
        obtain ⟨q, hq⟩ : ∃ q, q = b / 2 := ⟨_, rfl⟩
        rw [← hq] at hb HV ⊢
        have HQ := Lib.hid hb
        clear e h hz hq hb ht
        go_enter Tryd.func108, Tryd.ntmps108
        go_wp2_with fail
        refine (HV.out _).mono ?_
        rintro e w' ⟨rfl, rfl⟩
        go_wp2_with fail
        refine (itoa_any q (by have := HQ.out; omega) (by have := HQ.out; omega) _ HT.out).mono ?_
        rintro e w' ⟨rfl, hb⟩
        have HB := Lib.hid hb
        clear hb
        have hl := Lib.itoa_length_le q (by have := HQ.out; omega) (by have := HQ.out; omega)
        have hl2 : ¬ (9223372036854775807 < 2 + (Lib.itoa q).length) := by omega
        have hl1 : ¬ (9223372036854775807 < 1 + (Lib.itoa q).length) := by omega
        go_wp2
        go_ret
        exact ⟨rfl, HB.out⟩
      · have e : printB b = ⟨#[60]⟩ ++ ⟨(Lib.itoa (b / 2)).toArray⟩ := by unfold printB; rw [if_neg hn, if_pos h, if_neg hz]
        rw [decide_eq_false hz] at HV
        rw [e]
        obtain ⟨q, hq⟩ : ∃ q, q = b / 2 := ⟨_, rfl⟩
        rw [← hq] at hb HV ⊢
        have HQ := Lib.hid hb
        clear e h hz hq hb ht
        go_enter Tryd.func108, Tryd.ntmps108
        go_wp2_with fail
        refine (HV.out _).mono ?_
        rintro e w' ⟨rfl, rfl⟩
        go_wp2_with fail
        refine (itoa_any q (by have := HQ.out; omega) (by have := HQ.out; omega) _ HT.out).mono ?_
        rintro e w' ⟨rfl, hb⟩
        have HB := Lib.hid hb
        clear hb
        have hl := Lib.itoa_length_le q (by have := HQ.out; omega) (by have := HQ.out; omega)
        have hl2 : ¬ (9223372036854775807 < 2 + (Lib.itoa q).length) := by omega
        have hl1 : ¬ (9223372036854775807 < 1 + (Lib.itoa q).length) := by omega
        go_wp2
        go_ret
        exact ⟨rfl, HB.out⟩
    · have h : someB b = false := by simpa using h
      have HV := Lib.hid (fun w => value_no b w h)
      have e : printB b = ⟨#[]⟩ := by unfold printB; rw [if_neg hn, if_neg (by simp [h])]
      rw [e]
      clear e h hn ht
      go_enter Tryd.func108, Tryd.ntmps108
      go_wp2_with fail
      refine (HV.out _).mono ?_
      rintro e w' ⟨rfl, rfl⟩
      go_wp2
      go_ret
      exact ⟨rfl, Below.refl _ _⟩

/-- What live tells, whatever is asked. -/
theorem printB_five : printB (-5) = ⟨#[60, 61, 45, 51]⟩ := by decide +kernel
end Go.Proofs.YtidcnlecgcobmaaDoor

/- What keeps bounds, and sums and opposites: plain. -/
namespace Go.Proofs.YtidcnlecgcobmaaDoor
open Go Go.RowKit
set_option linter.unusedVariables false
set_option linter.unusedSimpArgs false

theorem keeps_inf {x d : Int} (hd : 1 ≤ d) : keepsB 2147483647 x d = true := decide_eq_true ⟨hd, .inl rfl⟩
theorem keeps_fin {b x d : Int} (h : someB b = true) (hd : 1 ≤ d) : keepsB b x d = decide (x < b / 2 * d + b % 2) := by
  have hn : b ≠ 2147483647 := by rintro rfl; exact absurd h (by decide +kernel)
  unfold keepsB
  congr 1
  simp [h, hn, hd]
theorem some_parts {b : Int} (h : someB b = true) : rightB b = true ∧ b ≠ 2147483647 := by simpa [someB] using h

/-- Two differences that keep both have a sum that keeps the sum's bound. -/
theorem plus_keeps {a b x y d : Int} (hd : 1 ≤ d) (h : (sumP [a, b]).2 = 0) (h1 : keepsB a x d = true) (h2 : keepsB b y d = true) : keepsB (sumP [a, b]).1 (x + y) d = true := by
  obtain ⟨ha, hb⟩ := sum_ok h
  by_cases i : a = 2147483647 ∨ b = 2147483647
  · rw [sum_two_inf ha hb i]; exact keeps_inf hd
  · have ia : a ≠ 2147483647 := fun e => i (.inl e)
    have ib : b ≠ 2147483647 := fun e => i (.inr e)
    rw [sum_two ha hb ia ib] at h ⊢
    obtain ⟨_, _, e1, e2, e3, e4⟩ := ofB_ok h
    rw [keeps_fin (fin_some ha ia) hd] at h1
    rw [keeps_fin (fin_some hb ib) hd] at h2
    rw [keeps_fin (fin_some e3 e4) hd, e1]
    have h1 := of_decide_eq_true h1
    have h2 := of_decide_eq_true h2
    rw [Int.add_mul]
    generalize a / 2 * d = P at *
    generalize b / 2 * d = Q at *
    generalize (ofB (a / 2 + b / 2) (decide (a % 2 = 1) && decide (b % 2 = 1))).1 = c at *
    apply decide_eq_true
    by_cases ra : a % 2 = 1
    · by_cases rb : b % 2 = 1
      · have : c % 2 = 1 := of_decide_eq_true (by rw [e2]; simp [ra, rb])
        omega
      · omega
    · omega

/-- The smaller bound is the stricter one. -/
theorem stricter_keeps {a b x d : Int} (ha : rightB a = true) (hb : rightB b = true) (hd : 1 ≤ d) (hab : a ≤ b) (h : keepsB a x d = true) : keepsB b x d = true := by
  by_cases ib : b = 2147483647
  · rw [ib]; exact keeps_inf hd
  · have h2 := rightB_bd hb ib
    have ia : a ≠ 2147483647 := by omega
    rw [keeps_fin (fin_some ha ia) hd] at h
    rw [keeps_fin (fin_some hb ib) hd]
    have h := of_decide_eq_true h
    apply decide_eq_true
    by_cases e : a / 2 = b / 2
    · rw [e] at h; omega
    · have hm := Int.mul_le_mul_of_nonneg_right (show a / 2 + 1 ≤ b / 2 by omega) (show (0 : Int) ≤ d by omega)
      rw [Int.add_mul, Int.one_mul] at hm
      generalize a / 2 * d = P at *
      generalize b / 2 * d = Q at *
      omega

theorem not_fin {a : Int} (h : someB a = true) : notP a = (1 - a, 0) := by
  obtain ⟨hr, hn⟩ := some_parts h
  have hb := rightB_bd hr hn
  unfold notP
  rw [if_pos h]
  unfold ofB
  rw [if_neg (by omega)]
  by_cases e : a % 2 = 1
  · simp [e]; omega
  · simp [e]; omega
theorem not_keeps {a x d : Int} (h : someB a = true) (hd : 1 ≤ d) : keepsB (1 - a) (-x) d = !keepsB a x d := by
  obtain ⟨hr, hn⟩ := some_parts h
  have hb := rightB_bd hr hn
  have hs : someB (1 - a) = true := fin_some (decide_eq_true (.inr (by omega))) (by omega)
  rw [keeps_fin h hd, keeps_fin hs hd]
  have e : (1 - a) / 2 = -(a / 2) := by omega
  rw [e, Int.neg_mul]
  generalize a / 2 * d = P
  by_cases c : x < P + a % 2
  · rw [decide_eq_true c, decide_eq_false (by omega)]; rfl
  · rw [decide_eq_false c, decide_eq_true (by omega)]; rfl

end Go.Proofs.YtidcnlecgcobmaaDoor

/- Parse of the program: what a text tells of. -/
namespace Go.Proofs.YtidcnlecgcobmaaDoor
open Go Go.RowKit
set_option linter.unusedVariables false
set_option linter.unusedSimpArgs false

theorem bytes_app (a b : List UInt8) : (⟨a.toArray⟩ : ByteArray) ++ ⟨b.toArray⟩ = ⟨(a ++ b).toArray⟩ := by
  have h : ((⟨a.toArray⟩ : ByteArray) ++ ⟨b.toArray⟩).data = (a ++ b).toArray := by simp
  cases hx : (⟨a.toArray⟩ : ByteArray) ++ ⟨b.toArray⟩ with
  | mk d => rw [hx] at h; exact congrArg ByteArray.mk h
theorem printB_L (b : Int) : printB b = ⟨(printL b).toArray⟩ := by
  unfold printB printL
  by_cases hn : b = 2147483647
  · rw [if_pos hn, if_pos hn]
  · rw [if_neg hn, if_neg hn]
    by_cases h : someB b = true
    · rw [if_pos h, if_pos h]
      by_cases e : b % 2 = 1
      · rw [if_pos e, if_pos e]; exact bytes_app [60, 61] _
      · rw [if_neg e, if_neg e]; exact bytes_app [60] _
    · rw [if_neg h, if_neg h]

/-- A package's variable holds an interface's value. -/
def Sent (name : String) (w : World) : Prop := ∃ tp p, w.var? Tryd.prog name = some #[.iface tp p]
theorem Sent.below {name : String} {w w' : World} (h : Sent name w) (hb : Below w.heap.size w w') : Sent name w' := by
  obtain ⟨tp, p, h⟩ := h
  refine ⟨tp, p, ?_⟩
  unfold World.var? at *
  cases hg : Tryd.prog.globalNamed name with
  | none => simp [hg] at h
  | some g =>
    simp only [hg, Option.bind_some] at h ⊢
    have hlt : g < w.heap.size := by
      rcases Nat.lt_or_ge g w.heap.size with h' | h'
      · exact h'
      · rw [Array.getElem?_eq_none h'] at h; simp at h
    rw [hb.block g hlt]
    exact h

/-- How Atoi ends. -/
def AtoiEnds (w : World) (l : List UInt8) (e : Ending) (w' : World) : Prop :=
  Below w.heap.size w w' ∧ ((∃ v, e = .returned (.tuple #[.int .i64 v, .nilIface]) ∧ Lib.atoiAll l = .ok v) ∨ (∃ v T N, e = .returned (.tuple #[.int .i64 v, .iface T (.pointer (some ⟨N, 0, none⟩))]) ∧ ∀ v', Lib.atoiAll l ≠ .ok v'))

/-- The steps of Parse at the text of a bound. -/
theorem steps_of {b : Int} (h : someB b = true) : Lib.hasPrefix (printL b) [60] = true ∧ Lib.hasPrefix (Lib.trimPrefix (printL b) [60]) [61] = decide (b % 2 = 1) ∧ Lib.trimPrefix (Lib.trimPrefix (printL b) [60]) [61] = Lib.itoa (b / 2) := by
  obtain ⟨c, r, e, n1, n2⟩ := itoa_head (b / 2)
  have hc : ((61 : UInt8) == c) = false := beq_eq_false_iff_ne.2 (Ne.symm n1)
  rw [printL_some h, e]
  by_cases x : b % 2 = 1
  · rw [if_pos x, decide_eq_true x]
    refine ⟨rfl, rfl, rfl⟩
  · rw [if_neg x, decide_eq_false x]
    have e1 : Lib.trimPrefix ([60] ++ c :: r) [60] = c :: r := rfl
    have e2 : Lib.hasPrefix (c :: r) [61] = false := by simp [Lib.hasPrefix, List.isPrefixOf, hc]
    exact ⟨rfl, by rw [e1, e2], by rw [e1, Lib.trimPrefix, e2]; rfl⟩

/-- What Parse answers, in a world with new blocks. -/
def Parses (w : World) (s : List UInt8) (e : Ending) (w' : World) : Prop := Below w.heap.size w w' ∧ ∃ r, ParsesTo s r ∧ e = .returned (.tuple #[.int .i32 r.1, .int .i64 r.2])

theorem trim_le (s p : List UInt8) : (Lib.trimPrefix s p).length ≤ s.length := by
  unfold Lib.trimPrefix
  split
  · rw [List.length_drop]; omega
  · omega
theorem wrong_no {s : List UInt8} (h0 : s ≠ [105, 110, 102]) (h : ∀ b, someB b = true → printL b ≠ s) : ParsesTo s (0, 7) := .inr (.inr ⟨h0, h, rfl⟩)

end Go.Proofs.YtidcnlecgcobmaaDoor

/- Print of a zone. -/
namespace Go.Proofs.YtidcnlecgcobmaaDoor
open Go Go.RowKit
set_option linter.unusedVariables false
set_option linter.unusedSimpArgs false

theorem zprint_nil (w : World) : Calls Tryd.prog 72 #[.pointer none] w (Says w ⟨(printZ none).toArray⟩) := by
  go_enter Tryd.func72, Tryd.ntmps72
  go_wp2
  go_ret
  exact ⟨rfl, Below.refl _ _⟩

set_option maxHeartbeats 1000000 in
set_option maxRecDepth 100000 in
theorem zprint_empty (b n : Nat) (m : Mat) (w : World) (hn : n ≤ 8) (hm : MatAt w b 126 .i32 n m) (he : m 0 0 < 1) (ht : Tab w) :
    Calls Tryd.prog 72 #[.pointer (some ⟨b, 0, none⟩)] w (Says w ⟨(printZ (some (n, m))).toArray⟩) := by
  have HM := Lib.hid hm
  have h0 := hm.head
  have hl := itoa_len n hn
  have HI := Lib.hid (fun w ht => itoa_any n (by omega) (by omega) w ht)
  have HT := Lib.hid ht
  have HE := Lib.hid (show printZ (some (n, m)) = Lib.itoa n ++ [58] ++ [32, 101, 109, 112, 116, 121] by show (if m 0 0 < 1 then Lib.itoa n ++ [58] ++ [32, 101, 109, 112, 116, 121] else zoneT n m (n + 1)) = _; rw [if_pos he])
  have HEM := Lib.hid (fun w hm => empty_zone b n m w hm)
  rw [decide_eq_true he] at HEM
  generalize Lib.itoa n = L at *
  have l1 : ¬ (9223372036854775807 < L.length + 1) := by omega
  have l2 : ¬ (9223372036854775807 < L.length + 1 + 6) := by omega
  clear hm he ht
  go_enter Tryd.func72, Tryd.ntmps72
  go_wp2_with fail
  refine (HI.out _ HT.out).mono ?_
  rintro e w1 ⟨rfl, hb⟩
  have HB := Lib.hid hb
  have HM1 := Lib.hid (HM.out.later hb)
  clear hb
  go_wp2_with fail
  refine (HEM.out _ HM1.out).mono ?_
  rintro e w2 ⟨rfl, rfl⟩
  go_wp2
  go_ret
  refine ⟨?_, HB.out⟩
  rw [HE.out, ← bytes_app, ← bytes_app]
  rfl

end Go.Proofs.YtidcnlecgcobmaaDoor

/- Print of a zone that is not empty. -/
namespace Go.Proofs.YtidcnlecgcobmaaDoor
open Go Go.RowKit
set_option linter.unusedVariables false
set_option linter.unusedSimpArgs false

theorem right_bits {x : Int} (h : rightB x = true) : -2147483648 ≤ x ∧ x ≤ 2147483647 := by
  unfold rightB at h
  have := of_decide_eq_true h
  omega
theorem rowT_len {n i : Nat} {m : Mat} (hn : n ≤ 8) (hi : i ≤ n) (hr : RightM n m) : ∀ j, j ≤ n + 1 → (rowT m i j).length ≤ j * 76
  | 0, _ => by simp [rowT]
  | j + 1, hj => by
    have h1 := rowT_len hn hi hr j (by omega)
    have hb := right_bits (hr i j hi (by omega))
    have h2 := cellL_len m i j (by omega) (by omega) hb.1 hb.2
    show (rowT m i j ++ cellL m i j).length ≤ _
    rw [List.length_append]
    omega
theorem zoneT_len {n : Nat} {m : Mat} (hn : n ≤ 8) (hr : RightM n m) : ∀ i, i ≤ n + 1 → (zoneT n m i).length ≤ 22 + i * 684
  | 0, _ => by
    have := itoa_len n hn
    show (Lib.itoa n ++ [58]).length ≤ _
    rw [List.length_append]
    simp
    omega
  | i + 1, hi => by
    have h1 := zoneT_len hn hr i (by omega)
    have h2 := rowT_len hn (show i ≤ n by omega) hr (n + 1) (Nat.le_refl _)
    have h3 : (n + 1) * 76 ≤ 684 := by omega
    show (zoneT n m i ++ rowT m i (n + 1)).length ≤ _
    rw [List.length_append]
    omega
theorem cellL_yes {m : Mat} {i j : Nat} (h : i ≠ j ∧ m i j ≠ 2147483647 ∧ (i ≠ 0 ∨ m i j < 1)) : cellL m i j = [32, 120] ++ Lib.itoa i ++ [45, 120] ++ Lib.itoa j ++ printL (m i j) := by unfold cellL; rw [if_pos h]
theorem cellL_no {m : Mat} {i j : Nat} (h : ¬ (i ≠ j ∧ m i j ≠ 2147483647 ∧ (i ≠ 0 ∨ m i j < 1))) : cellL m i j = [] := by unfold cellL; rw [if_neg h]
theorem rowT_no {m : Mat} {i j : Nat} {T S : List UInt8} (hs : S = T ++ rowT m i j) (h : ¬ (i ≠ j ∧ m i j ≠ 2147483647 ∧ (i ≠ 0 ∨ m i j < 1))) : S = T ++ rowT m i (j + 1) := by
  rw [hs, rowT, cellL_no h, List.append_nil]
theorem rowT_yes {m : Mat} {i j : Nat} {T S : List UInt8} (hs : S = T ++ rowT m i j) (h : i ≠ j ∧ m i j ≠ 2147483647 ∧ (i ≠ 0 ∨ m i j < 1)) :
    S ++ ([32, 120] ++ Lib.itoa i ++ [45, 120] ++ Lib.itoa j ++ printL (m i j)) = T ++ rowT m i (j + 1) := by
  rw [hs, rowT, cellL_yes h, List.append_assoc]

set_option maxHeartbeats 2000000 in
set_option maxRecDepth 100000 in
theorem zprint_full (b n : Nat) (m : Mat) (w : World) (hn : n ≤ 8) (hm : MatAt w b 126 .i32 n m) (hr : RightM n m) (he : ¬ m 0 0 < 1) (ht : Tab w) :
    Calls Tryd.prog 72 #[.pointer (some ⟨b, 0, none⟩)] w (Says w ⟨(printZ (some (n, m))).toArray⟩) := by
  have HM := Lib.hid hm
  have h0 := hm.head
  have HI := Lib.hid (fun (k : Nat) (hk : k ≤ 8) w ht => itoa_any k (by omega) (by omega) w ht)
  have HP := Lib.hid (fun x w ht => print_any x w ht)
  have HT := Lib.hid ht
  have HE := Lib.hid (show printZ (some (n, m)) = zoneT n m (n + 1) by show (if m 0 0 < 1 then Lib.itoa n ++ [58] ++ [32, 101, 109, 112, 116, 121] else zoneT n m (n + 1)) = _; rw [if_neg he])
  have HEM := Lib.hid (fun w hm => empty_zone b n m w hm)
  rw [decide_eq_false he] at HEM
  have HLI := Lib.hid itoa_len
  have HR := Lib.hid hr
  have HZ0 := Lib.hid (show zoneT n m 0 = Lib.itoa n ++ [58] from rfl)
  obtain ⟨L, hL⟩ : ∃ L, L = Lib.itoa n := ⟨_, rfl⟩
  have hl := itoa_len n hn
  rw [← hL] at hl HZ0
  have l1 : ¬ (9223372036854775807 < L.length + 1) := by omega
  have HI0 := Lib.hid (HI.out n hn)
  rw [← hL] at HI0
  clear hm he ht hr hL
  go_enter Tryd.func72, Tryd.ntmps72
  go_wp2_with fail
  refine (HI0.out _ HT.out).mono ?_
  rintro e w1 ⟨rfl, hb⟩
  have HB := Lib.hid hb
  have HM1 := Lib.hid (HM.out.later hb)
  clear hb
  go_wp2_with fail
  refine (HEM.out _ HM1.out).mono ?_
  rintro e w2 ⟨rfl, rfl⟩
  have HT1 := Lib.hid (HT.out.below HB.out)
  have hh := HM1.out.head
  clear HI0 HEM h0 HT
  go_wp2
  go_loopg [3, 26] (n + 1) (fun g v x wr => ∃ i : Nat, ∃ S : List UInt8, x = .int .i64 i ∧ v = .string ⟨S.toArray⟩ ∧ Hid (S = zoneT n m i) ∧ Hid (Below w.heap.size w wr ∧ Below w1.heap.size w1 wr) ∧ Hid (i ≤ n + 1 ∧ g + i = n + 1))
  case atStart => exact ⟨0, L ++ [58], by simp, by rw [← bytes_app], HZ0.out.symm, ⟨HB.out, Below.refl _ _⟩, by omega, by omega⟩
  case round =>
    clear hh l1
    obtain ⟨i, S, rfl, rfl, HS, HW, HG⟩ := hrel
    have hh := (HM1.out.later HW.out.2).head
    by_cases hi : i < n + 1
    · have hii : (i : Int) < (n : Int) + 1 := by omega
      go_wp2
      go_loopg [3, 35] (n + 1) (fun g v x wr => ∃ j : Nat, ∃ S : List UInt8, x = .int .i64 j ∧ v = .string ⟨S.toArray⟩ ∧ Hid (S = zoneT n m i ++ rowT m i j) ∧ Hid (Below w.heap.size w wr ∧ Below w1.heap.size w1 wr) ∧ Hid (j ≤ n + 1 ∧ g + j = n + 1))
      case atStart => exact ⟨0, S, by simp, rfl, by show _ = _; rw [HS.out, rowT, List.append_nil], HW.out, by omega, by omega⟩
      case round =>
        clear HS HW hh
        obtain ⟨j, S, rfl, rfl, HS, HW, HG2⟩ := hrel
        have hh := (HM1.out.later HW.out.2).head
        by_cases hj : j < n + 1
        · have hjj : (j : Int) < (n : Int) + 1 := by omega
          have i9 : (i : Int) < 9 := by omega
          have j9 : (j : Int) < 9 := by omega
          have c1 := (HM1.out.later HW.out.2).cell i j (by omega) (by omega)
          have HLS := Lib.hid (show S.length ≤ 22 + i * 684 + j * 76 by
            rw [HS.out, List.length_append]
            have a := zoneT_len hn HR.out i (by omega)
            have b := rowT_len hn (show i ≤ n by omega) HR.out j (by omega)
            omega)
          have HPL := Lib.hid (show (printL (m i j)).length ≤ 30 from printL_short _ (right_bits (HR.out i j (by omega) (by omega))).1 (right_bits (HR.out i j (by omega) (by omega))).2)
          obtain ⟨x, hx⟩ : ∃ x, x = m i j := ⟨_, rfl⟩
          rw [← hx] at c1 HPL
          have HX := Lib.hid hx
          clear hx
          by_cases a1 : i = j
          · subst a1
            have t1 : ((i : Int) != (i : Int)) = false := by simp
            have HS2 := Lib.hid (rowT_no HS.out (fun h => h.1 rfl))
            go_wp2
            go_roundg (gk - 1)
            case measure => have h := HG2.out; omega
            case rel => exact ⟨i + 1, S, by go_num, rfl, HS2.out, HW.out, by omega, by have h := HG2.out; omega⟩
          · have t1 : ((i : Int) != (j : Int)) = true := by simp; omega
            by_cases a2 : x = 2147483647
            · subst a2
              have HS2 := Lib.hid (rowT_no HS.out (fun h => h.2.1 HX.out.symm))
              clear a1
              go_wp2
              go_roundg (gk - 1)
              case measure => have h := HG2.out; omega
              case rel => exact ⟨j + 1, S, by go_num, rfl, HS2.out, HW.out, by omega, by have h := HG2.out; omega⟩
            · have t2 : (x != 2147483647) = true := by simp [a2]
              by_cases a3 : i ≠ 0 ∨ x < 1
              · have hyes : i ≠ j ∧ m i j ≠ 2147483647 ∧ (i ≠ 0 ∨ m i j < 1) := by rw [← HX.out]; exact ⟨a1, a2, a3⟩
                have HS2 := Lib.hid (rowT_yes HS.out hyes)
                have HT2 := Lib.hid (HT1.out.below HW.out.2)
                have HIi := Lib.hid (HI.out i (by omega))
                have HIj := Lib.hid (HI.out j (by omega))
                have li := itoa_len i (by omega)
                have lj := itoa_len j (by omega)
                have lx := HPL.out
                have ls := HLS.out
                have HPX := Lib.hid (HP.out x)
                rw [printB_L] at HPX
                rw [← HX.out] at HS2
                generalize Lib.itoa i = I at *
                generalize Lib.itoa j = J at *
                generalize printL x = P at *
                have k1 : ¬ (9223372036854775807 < 2 + I.length) := by omega
                have k2 : ¬ (9223372036854775807 < 2 + I.length + 2) := by omega
                have k3 : ¬ (9223372036854775807 < 2 + I.length + 2 + J.length) := by omega
                have k4 : ¬ (9223372036854775807 < 2 + I.length + 2 + J.length + P.length) := by omega
                have k5 : ¬ (9223372036854775807 < S.length + (2 + I.length + 2 + J.length + P.length)) := by omega
                clear HPL HLS hyes a1 a2 li lj lx ls
                rcases (show ((i : Int) != 0) = true ∨ (((i : Int) != 0) = false ∧ decide (x < 1) = true) by
                  by_cases z : i = 0
                  · subst z; right; exact ⟨rfl, decide_eq_true (by omega)⟩
                  · left; simp; omega) with t3 | ⟨t3, t4⟩
                all_goals
                  clear a3
                  go_wp2_with fail
                  refine (HIi.out _ HT2.out).mono ?_
                  rintro e w3 ⟨rfl, hb⟩
                  have HT3 := Lib.hid (HT2.out.below hb)
                  have HW3 := Lib.hid (And.intro (HW.out.1.trans (hb.mono HW.out.1.size)) (HW.out.2.trans (hb.mono HW.out.2.size)))
                  clear hb HT2
                  go_wp2_with fail
                  refine (HIj.out _ HT3.out).mono ?_
                  rintro e w4 ⟨rfl, hb⟩
                  have HT4 := Lib.hid (HT3.out.below hb)
                  have HW4 := Lib.hid (And.intro (HW3.out.1.trans (hb.mono HW3.out.1.size)) (HW3.out.2.trans (hb.mono HW3.out.2.size)))
                  clear hb HT3
                  go_wp2_with fail
                  refine (HPX.out _ HT4.out).mono ?_
                  rintro e w5 ⟨rfl, hb⟩
                  have HW5 := Lib.hid (And.intro (HW4.out.1.trans (hb.mono HW4.out.1.size)) (HW4.out.2.trans (hb.mono HW4.out.2.size)))
                  clear hb HT4
                  go_wp2
                  go_roundg (gk - 1)
                  case measure => have h := HG2.out; omega
                  case rel =>
                    refine ⟨j + 1, S ++ ([32, 120] ++ I ++ [45, 120] ++ J ++ P), by go_num, ?_, HS2.out, HW5.out, by omega, by have h := HG2.out; omega⟩
                    rw [← bytes_app, ← bytes_app, ← bytes_app, ← bytes_app, ← bytes_app]
              · have HS2 := Lib.hid (rowT_no HS.out (fun h => a3 (by have h2 := h.2.2; rw [← HX.out] at h2; exact h2)))
                have t3 : ((i : Int) != 0) = false := by simp; omega
                have t4 : decide (x < 1) = false := decide_eq_false (by omega)
                clear a1 a2 a3
                go_wp2
                go_roundg (gk - 1)
                case measure => have h := HG2.out; omega
                case rel => exact ⟨j + 1, S, by go_num, rfl, HS2.out, HW.out, by omega, by have h := HG2.out; omega⟩
        · have e : j = n + 1 := by have := HG2.out.1; omega
          subst e
          have hjj : ¬ ((n + 1 : Nat) : Int) < (n : Int) + 1 := by omega
          go_wp2
          go_roundg (n - i)
          case measure => have h := HG.out; omega
          case rel => exact ⟨i + 1, S, by go_num, rfl, HS.out, HW.out, by omega, by omega⟩
    · have e : i = n + 1 := by have := HG.out.1; omega
      subst e
      have hii : ¬ ((n + 1 : Nat) : Int) < (n : Int) + 1 := by omega
      go_wp2
      go_ret
      exact ⟨by rw [HE.out, ← HS.out]; rfl, HW.out.1⟩

/-- Print of any zone. -/
theorem zprint_any (v : Value) (z : Option (Nat × Mat)) (w : World) (h : ZoneV 126 w v z) (ht : Tab w) : Calls Tryd.prog 72 #[v] w (Says w ⟨(printZ z).toArray⟩) := by
  match z, h with
  | none, h =>
    have h : v = .pointer none := h
    subst h
    exact zprint_nil w
  | some (n, m), ⟨b, e, hn, hr, hm⟩ =>
    subst e
    by_cases he : m 0 0 < 1
    · exact zprint_empty b n m w hn hm he ht
    · exact zprint_full b n m w hn hm hr he ht

end Go.Proofs.YtidcnlecgcobmaaDoor

/- What live tells of the operations, whatever is asked. -/
namespace Go.Proofs.YtidcnlecgcobmaaDoor
open Go Go.RowKit
set_option linter.unusedVariables false
set_option linter.unusedSimpArgs false

theorem some_of {r : Option Mat × Int} (h1 : r.1.isSome = true) (h2 : r.2 = 0) : r = (some (r.1.getD fun _ _ => 0), 0) := by
  obtain ⟨a, b⟩ := r
  cases a
  · cases h1
  · simp only at h2; subst h2; rfl

/-- The zones that live makes: of zeroes, later, less than 3, set to 0. -/
def lz0 : Mat := (zerP 2).1.getD fun _ _ => 0
theorem lz0_is : zerP 2 = (some lz0, 0) := some_of (by decide +kernel) (by decide +kernel)
theorem lz0_flat : flat 2 lz0 = [1, 1, 1, 1, 1, 1, 1, 1, 1] := by decide +kernel
theorem lu1_flat : flat 2 (upW (some (2, lz0))) = [1, 1, 1, 2147483647, 1, 1, 2147483647, 1, 1] := by
  have e : emptyP (some (2, lz0)) = false := by decide +kernel
  have e2 : openW (some (2, lz0)) = fillUp 2 [1, 1, 1, 1, 1, 1, 1, 1, 1] 9 := by
    show fillUp 2 (flat 2 lz0) (flat 2 lz0).length = _
    rw [lz0_flat]; rfl
  unfold upW
  rw [e, if_neg (by simp), e2]
  decide +kernel
def lz1 : Mat := (ofP 2 [1, 1, 1, 2147483647, 1, 1, 2147483647, 1, 1]).1.getD fun _ _ => 0
theorem lz1_is : ofP ((2 : Nat) : Int) (flat 2 (upW (some (2, lz0)))) = (some lz1, 0) := by
  rw [lu1_flat]; exact some_of (by decide +kernel) (by decide +kernel)
theorem lz1_flat : flat 2 lz1 = [1, 1, 1, 2147483647, 1, 1, 2147483647, 1, 1] := by decide +kernel
def lz2 : Mat := (ofP 2 [1, 1, 1, 6, 1, 1, 2147483647, 1, 1]).1.getD fun _ _ => 0
theorem lz2_is : conP 2 (openW (some (2, lz1))) [(1, 0, 6)] = (some lz2, 0) := by
  have e2 : openW (some (2, lz1)) = fillUp 2 [1, 1, 1, 2147483647, 1, 1, 2147483647, 1, 1] 9 := by
    show fillUp 2 (flat 2 lz1) (flat 2 lz1).length = _
    rw [lz1_flat]; rfl
  unfold conP
  rw [if_pos (by decide +kernel), e2, show flat 2 (conUp (fillUp 2 [1, 1, 1, 2147483647, 1, 1, 2147483647, 1, 1] 9) [(1, 0, 6)] [((1 : Int), (0 : Int), (6 : Int))].length) = [1, 1, 1, 6, 1, 1, 2147483647, 1, 1] by decide +kernel]
  exact some_of (by decide +kernel) (by decide +kernel)
theorem lz2_flat : flat 2 lz2 = [1, 1, 1, 6, 1, 1, 6, 1, 1] := by decide +kernel
theorem lz2_text : printZ (some (2, lz2)) = [50, 58, 32, 120, 49, 45, 120, 48, 60, 51, 32, 120, 49, 45, 120, 50, 60, 61, 48, 32, 120, 50, 45, 120, 48, 60, 51, 32, 120, 50, 45, 120, 49, 60, 61, 48] := by decide +kernel
def lz3 : Mat := (ofP 2 [1, 1, 1, 1, 1, 2147483647, 6, 6, 1]).1.getD fun _ _ => 0
theorem lz3_is : ofP ((2 : Nat) : Int) (flat 2 (resetW (some (2, lz2)) 1 0)) = (some lz3, 0) := by
  have e : emptyP (some (2, lz2)) = false := by decide +kernel
  have e2 : openW (some (2, lz2)) = fillUp 2 [1, 1, 1, 6, 1, 1, 6, 1, 1] 9 := by
    show fillUp 2 (flat 2 lz2) (flat 2 lz2).length = _
    rw [lz2_flat]; rfl
  unfold resetW
  rw [e, if_neg (by simp), e2, show flat 2 (setW (fillUp 2 [1, 1, 1, 6, 1, 1, 6, 1, 1] 9) (dimN (some (2, lz2))) 1 0) = [1, 1, 1, 1, 1, 2147483647, 6, 6, 1] by decide +kernel]
  exact some_of (by decide +kernel) (by decide +kernel)
theorem lz3_text : printZ (some (2, lz3)) = [50, 58, 32, 120, 49, 45, 120, 48, 60, 61, 48, 32, 120, 49, 45, 120, 50, 60, 61, 48, 32, 120, 50, 45, 120, 48, 60, 51, 32, 120, 50, 45, 120, 49, 60, 51] := by decide +kernel

theorem lims_new (w : World) (e : TypeId) (a b c : Int) : Lims (w.alloc (.cells #[.int .i64 a, .int .i64 b, .int .i32 c] e (0, 0))) (some ⟨w.heap.size, 0, none⟩) [(a, b, c)] := by
  have h1 := heap_alloc_new w (.cells #[.int .i64 a, .int .i64 b, .int .i32 c] e (0, 0))
  intro j hj
  have e0 : j = 0 := by simp at hj; omega
  subst e0
  refine ⟨w.heap.size, 0, rfl, ?_, ?_, ?_⟩ <;> (unfold World.cell?; rw [h1]; rfl)

set_option maxRecDepth 100000 in
set_option maxHeartbeats 2000000 in
theorem live04_any (w : World) (ht : Tab w) : Calls Tryd.prog 17 #[] w fun e w' => e = .returned (.bool true) ∧ Below w.heap.size w w' := by
  have HT := Lib.hid ht
  have HZ0 := Lib.hid (fun w => zero_any 2 w)
  rw [lz0_is] at HZ0
  have HU := Lib.hid (fun v w h => up_zone v 2 lz0 w h)
  rw [lz1_is] at HU
  have HC := Lib.hid (fun v A c w h hI => constrain_zone v 2 lz1 A c [(1, 0, 6)] w h hI (by simp) (fun q hq => by
    have : q = 0 := by simp at hq; omega
    subst this; decide))
  rw [lz2_is] at HC
  have HRS := Lib.hid (fun v w h => reset_right v 2 lz2 1 0 w h (by omega) (by omega))
  rw [lz3_is] at HRS
  have HP2 := Lib.hid (fun v w h ht => zprint_any v (some (2, lz2)) w h ht)
  rw [lz2_text] at HP2
  have HP3 := Lib.hid (fun v w h ht => zprint_any v (some (2, lz3)) w h ht)
  rw [lz3_text] at HP3
  clear ht
  go_enter Tryd.func17, Tryd.ntmps17
  go_wp2_with fail
  refine (HZ0.out _).mono ?_
  rintro e w1 ⟨hb, v, rfl, hv⟩
  have HB1 := Lib.hid hb
  have HV1 := Lib.hid (show ZoneV 126 w1 v (some (2, lz0)) from hv)
  clear hb hv
  go_wp2_with fail
  refine (HU.out _ _ HV1.out).mono ?_
  rintro e w2 ⟨hb, v2, rfl, hv⟩
  have HB2 := Lib.hid (HB1.out.trans (hb.mono HB1.out.size))
  have HV2 := Lib.hid (show ZoneV 126 w2 v2 (some (2, lz1)) from hv)
  obtain ⟨b2, e2, _⟩ := hv
  subst e2
  clear hb HB1 HV1
  go_wp2_with fail
  have HB3 := Lib.hid ((Below.refl w2.heap.size w2).alloc (Nat.le_refl _) (.cells #[.int .i64 1, .int .i64 0, .int .i32 6] 68))
  have HL3 := Lib.hid (lims_new w2 68 1 0 6)
  have HV3 := Lib.hid (HV2.out.below HB3.out)
  have HB3 := Lib.hid (HB2.out.trans (HB3.out.mono HB2.out.size))
  generalize w2.alloc (.cells #[.int .i64 1, .int .i64 0, .int .i32 6] 68) = w3 at *
  refine (HC.out _ _ _ _ HV3.out HL3.out).mono ?_
  rintro e w4 ⟨hb, v4, rfl, hv⟩
  have HB4 := Lib.hid (HB3.out.trans (hb.mono HB3.out.size))
  have HV4 := Lib.hid (show ZoneV 126 w4 v4 (some (2, lz2)) from hv)
  obtain ⟨b4, e4, _⟩ := hv
  subst e4
  clear hb HB2 HV2 HB3 HV3 HL3
  go_wp2_with fail
  refine (HRS.out _ _ HV4.out).mono ?_
  rintro e w5 ⟨hb, v5, rfl, hv⟩
  have HB5 := Lib.hid (HB4.out.trans (hb.mono HB4.out.size))
  have HV5 := Lib.hid (show ZoneV 126 w5 v5 (some (2, lz3)) from hv)
  have HV4' := Lib.hid (HV4.out.below hb)
  have HT5 := Lib.hid (HT.out.below HB5.out)
  obtain ⟨b5, e5, _⟩ := hv
  subst e5
  clear hb HB4 HV4
  go_wp2_with fail
  refine (HP2.out _ _ HV4'.out HT5.out).mono ?_
  rintro e w6 ⟨rfl, hb⟩
  have HB6 := Lib.hid (HB5.out.trans (hb.mono HB5.out.size))
  have HV6 := Lib.hid (HV5.out.below hb)
  have HT6 := Lib.hid (HT5.out.below hb)
  clear hb
  go_wp2_with fail
  refine (HP3.out _ _ HV6.out HT6.out).mono ?_
  rintro e w7 ⟨rfl, hb⟩
  have HB7 := Lib.hid (HB6.out.trans (hb.mono HB6.out.size))
  clear hb
  go_wp2
  go_ret
  exact ⟨by first | rfl | decide, HB7.out⟩

end Go.Proofs.YtidcnlecgcobmaaDoor

/- What OpsTime tells. -/
namespace Go.Proofs.YtidcnlecgcobmaaDoor
open Go Go.RowKit
set_option linter.unusedVariables false
set_option linter.unusedSimpArgs false

/-- What Up, Down answer, of a zone or nil. -/
def upA (z : Option (Nat × Mat)) : Option Mat × Int := match z with | none => (none, 1) | some (k, m) => ofP k (flat k (upW (some (k, m))))
def downA (z : Option (Nat × Mat)) : Option Mat × Int := match z with | none => (none, 1) | some (k, m) => ofP k (flat k (downW (some (k, m))))
theorem up_any (v : Value) (z : Option (Nat × Mat)) (w : World) (h : ZoneV 126 w v z) : Calls Tryd.prog 20 #[v] w (MakesZ w (dimN z) (upA z)) := by
  match z, h with
  | none, h =>
    have h : v = .pointer none := h
    subst h
    exact (up_nil w).mono fun e w' ⟨he, hw⟩ => ⟨hw ▸ Below.refl _ _, .pointer none, he, rfl⟩
  | some (k, m), h => exact up_zone v k m w h
theorem down_any (v : Value) (z : Option (Nat × Mat)) (w : World) (h : ZoneV 126 w v z) : Calls Tryd.prog 22 #[v] w (MakesZ w (dimN z) (downA z)) := by
  match z, h with
  | none, h =>
    have h : v = .pointer none := h
    subst h
    exact (down_nil w).mono fun e w' ⟨he, hw⟩ => ⟨hw ▸ Below.refl _ _, .pointer none, he, rfl⟩
  | some (k, m), h => exact down_zone v k m w h
/-- A zone that Of made. -/
def KindZ (z : Option (Nat × Mat)) : Prop := ∀ k m, z = some (k, m) → k ≤ 8 ∧ (m = (fun _ _ => 0) ∨ FullZ k m)
theorem kind_of (n : Int) (cells : List Int) : KindZ (zOf n cells) := fun k m e => by
  have h := zone_kinds e
  exact ⟨by omega, h.2⟩
theorem up4_any (v : Value) (z : Option (Nat × Mat)) (w : World) (h : RefZ w v z) (hk : KindZ z) : Calls Tryd.prog 21 #[v] w (MakesR w (dimN z) (upA z)) := by
  match z, h, hk with
  | none, h, _ =>
    have h : v = .pointer none := h
    subst h
    exact (up4_nil w).mono fun e w' ⟨he, hw⟩ => ⟨hw ▸ Below.refl _ _, .pointer none, he, rfl⟩
  | some (k, m), h, hk =>
    obtain ⟨hn, rfl | hf⟩ := hk k m rfl
    · show Calls _ _ _ _ (MakesR w k (ofP k (flat k (upW (some (k, fun _ _ => 0))))))
      rw [up_zero k hn]
      exact up4_empty v k w h
    · show Calls _ _ _ _ (MakesR w k (ofP k (flat k (upW (some (k, m))))))
      rw [up_same hn hf]
      exact up4_full v k m w h hf
theorem down4_any (v : Value) (z : Option (Nat × Mat)) (w : World) (h : RefZ w v z) (hk : KindZ z) : Calls Tryd.prog 23 #[v] w (MakesR w (dimN z) (downA z)) := by
  match z, h, hk with
  | none, h, _ =>
    have h : v = .pointer none := h
    subst h
    exact (down4_nil w).mono fun e w' ⟨he, hw⟩ => ⟨hw ▸ Below.refl _ _, .pointer none, he, rfl⟩
  | some (k, m), h, hk =>
    obtain ⟨hn, rfl | hf⟩ := hk k m rfl
    · show Calls _ _ _ _ (MakesR w k (ofP k (flat k (downW (some (k, fun _ _ => 0))))))
      rw [down_zero k hn]
      exact down4_empty v k w h
    · show Calls _ _ _ _ (MakesR w k (ofP k (flat k (downW (some (k, m))))))
      rw [down_same hn hf]
      exact down4_full v k m w h hf
theorem stable_ref (v : Value) (z : Option (Nat × Mat)) : Stable fun w => RefZ w v z := fun _ _ h hb => h.below hb
theorem stable_tab : Stable Tab := fun _ _ h hb => h.below hb

set_option maxRecDepth 100000 in
set_option maxHeartbeats 2000000 in
theorem time_any (n : Int) (A : Option Addr) (c : Nat) (cells : List Int) (w : World) (hI : Ints w .i32 A cells) (hmax : cells.length ≤ 4611686018427387904)
    (hk : ∀ q, q < cells.length → -2147483648 ≤ cells.getD q 0 ∧ cells.getD q 0 ≤ 2147483647) (ht : Tab w) :
    Calls Tryd.prog 4 #[.int .i64 n, .slice A cells.length c] w fun e w' => e = .returned (.bool true) ∧ Below w.heap.size w w' := by
  have HBO := Lib.hid (both04_any n A c cells w hI hmax hk)
  have HK := Lib.hid (kind_of n cells)
  have HT := Lib.hid ht
  unfold Both4Ends at HBO
  obtain ⟨z, hz⟩ : ∃ z, z = zOf n cells := ⟨_, rfl⟩
  rw [← hz] at HBO HK
  have HU := Lib.hid (fun v w h => up_any v z w h)
  have HU4 := Lib.hid (fun v w h => up4_any v z w h HK.out)
  have HDN := Lib.hid (fun v w h => down_any v z w h)
  have HDN4 := Lib.hid (fun v w h => down4_any v z w h HK.out)
  generalize upA z = U at *
  generalize downA z = D at *
  obtain ⟨Um, Ue⟩ := U
  obtain ⟨Dm, De⟩ := D
  clear hI hk ht hz
  go_enter Tryd.func4, Tryd.ntmps4
  go_wp2_with fail
  refine HBO.out.mono ?_
  rintro e w1 ⟨hb, v, v', rfl, hv, hv'⟩
  have HG1 := Lib.hid ((((Bag.start hb).add (HT.out.below hb) stable_tab).add hv' (stable_ref _ _)).add hv (stable_zone _ _ _))
  clear hb hv hv' HBO HT
  go_wp2_with fail
  refine (HU.out _ _ (HG1.out.at 0 rfl)).mono ?_
  rintro e w2 ⟨hb, a, rfl, ha⟩
  have HG2 := Lib.hid ((HG1.out.step hb).add ha (stable_zone _ _ _))
  clear hb ha HG1
  go_wp2_with fail
  refine (HU4.out _ _ (HG2.out.at 2 rfl)).mono ?_
  rintro e w3 ⟨hb, b, rfl, ha⟩
  have HG3 := Lib.hid ((HG2.out.step hb).add ha (stable_ref _ _))
  clear hb ha HG2
  go_wp2_with fail
  refine (HDN.out _ _ (HG3.out.at 2 rfl)).mono ?_
  rintro e w4 ⟨hb, d, rfl, ha⟩
  have HG4 := Lib.hid ((HG3.out.step hb).add ha (stable_zone _ _ _))
  clear hb ha HG3
  go_wp2_with fail
  refine (HDN4.out _ _ (HG4.out.at 4 rfl)).mono ?_
  rintro e w5 ⟨hb, d', rfl, ha⟩
  have HG5 := Lib.hid ((HG4.out.step hb).add ha (stable_ref _ _))
  clear hb ha HG4
  go_wp2_with fail
  refine (live04_any _ (HG5.out.at 6 rfl)).mono ?_
  rintro e w6 ⟨rfl, hb⟩
  have HG6 := Lib.hid (HG5.out.step hb)
  clear hb HG5
  go_wp2_with fail
  refine (same04_any _ _ _ _ (HG6.out.at 3 rfl) (HG6.out.at 2 rfl)).mono ?_
  rintro e w7 ⟨rfl, hb⟩
  have HG7 := Lib.hid (HG6.out.step hb)
  clear hb HG6
  go_wp2_with fail
  refine (same04_any _ _ _ _ (HG7.out.at 1 rfl) (HG7.out.at 0 rfl)).mono ?_
  rintro e w8 ⟨rfl, hb⟩
  have HG8 := Lib.hid (HG7.out.step hb)
  clear hb HG7
  go_wp2_with fail
  refine (same04_any _ _ _ _ (HG8.out.at 4 rfl) (HG8.out.at 5 rfl)).mono ?_
  rintro e w9 ⟨rfl, hb⟩
  have HG9 := Lib.hid (HG8.out.step hb)
  clear hb HG8
  go_wp2
  go_ret
  exact ⟨by simp, HG9.out.below⟩

end Go.Proofs.YtidcnlecgcobmaaDoor

/- What of a zone keeps bounds: plain. -/
namespace Go.Proofs.YtidcnlecgcobmaaDoor
set_option linter.unusedVariables false
set_option linter.unusedSimpArgs false

theorem zoneP_low {n : Nat} {M : Mat} (h : M 0 0 < 1) : zoneP n M = (some (fun _ _ => 0), 0) := by
  have hc : closed n M = none := by
    unfold closed closeP
    rw [if_neg]
    intro h'
    have h1 := h' 0 (by omega)
    have h2 := fw_le 0 n M 0 0
    omega
  unfold zoneP
  rw [hc]
theorem zero_ok (n : Nat) : OkM n (fun _ _ => 0) := ⟨right_zero n, fun _ _ => by show (0 : Int) ≤ 1; omega, fun _ _ => by show (0 : Int) ≤ 1; omega⟩
theorem clk_parts {n : Nat} {x : Int × Int × Int} (h : clkB n x = true) : (0 ≤ x.1 ∧ x.1 ≤ n) ∧ (0 ≤ x.2.1 ∧ x.2.1 ≤ n) := by
  unfold clkB anyB at h
  simpa only [Bool.and_eq_true, decide_eq_true_eq] using h
theorem OkM.con {n : Nat} {m : Mat} {l : List (Int × Int × Int)} (h : OkM n m) (hc : l.all (clkB n) = true) (hb : l.all bdB = true) : ∀ p, p ≤ l.length → OkM n (conUp m l p)
  | 0, _ => h
  | p + 1, hp => by
    have ih := h.con hc hb p (by omega)
    have a := clk_parts ((all_getD l (clkB n) (0, 0, 0)).1 hc p (by omega))
    have b := (all_getD l bdB (0, 0, 0)).1 hb p (by omega)
    exact ih.less _ _ (by omega) (by omega) _ b
theorem Agree.con {n : Nat} {m o : Mat} {l : List (Int × Int × Int)} (h : Agree n m o) (hc : l.all (clkB n) = true) : ∀ p, p ≤ l.length → Agree n (conUp m l p) (conUp o l p)
  | 0, _ => h
  | p + 1, hp => by
    have ih := h.con hc p (by omega)
    have a := clk_parts ((all_getD l (clkB n) (0, 0, 0)).1 hc p (by omega))
    exact ih.less _ _ (by omega) (by omega) _
theorem con_le (m : Mat) (l : List (Int × Int × Int)) (i j : Nat) : ∀ p, conUp m l p i j ≤ m i j
  | 0 => Int.le_refl _
  | p + 1 => by
    have ih := con_le m l i j p
    unfold conUp lessM upd
    split
    · rename_i e
      rw [e.1, e.2] at ih ⊢
      omega
    · exact ih
theorem conE_parts {n : Nat} {l : List (Int × Int × Int)} (h : conE n l = 0) : l.all (clkB n) = true ∧ l.all bdB = true := by
  unfold conE at h
  by_cases a : l.all (clkB n) = true
  · rw [if_pos a] at h
    by_cases b : l.all bdB = true
    · exact ⟨a, b⟩
    · rw [if_neg b] at h; omega
  · rw [if_neg a] at h; omega
/-- What the document's Constrain answers. -/
def conQ (n : Nat) (m : Mat) (l : List (Int × Int × Int)) : Option Mat × Int :=
  if conE n l = 0 then (if m 0 0 = 1 then zoneP n (widW (conUp m l l.length)) else (some (fun _ _ => 0), 0)) else (none, conE n l)
theorem con_same {n : Nat} {m : Mat} (hn : n ≤ 8) (h : m = (fun _ _ => 0) ∨ FullZ n m) (l : List (Int × Int × Int)) : conP n (openW (some (n, m))) l = conQ n m l := by
  unfold conP conQ
  by_cases he : conE n l = 0
  · rw [if_pos he, if_pos he]
    obtain ⟨hc, hb⟩ := conE_parts he
    have hok : OkM n m := by
      rcases h with rfl | h
      · exact zero_ok n
      · exact h.ok
    rw [flat_congr ((open_agree n m).con hc l.length (Nat.le_refl _)), ofP_wid hn (hok.con hc hb _ (Nat.le_refl _))]
    rcases h with rfl | h
    · rw [if_neg (by decide)]
      refine zoneP_low ?_
      have := con_le (fun _ _ => 0) l 0 0 l.length
      unfold widW wid
      rw [if_neg (by omega)]; omega
    · rw [if_pos (h.one 0 (by omega))]
  · rw [if_neg he, if_neg he]

end Go.Proofs.YtidcnlecgcobmaaDoor

/- The document's Constrain. -/
namespace Go.Proofs.YtidcnlecgcobmaaDoor
open Go Go.RowKit
set_option linter.unusedVariables false
set_option linter.unusedSimpArgs false

theorem con4_nil (l : Value) (w : World) : Calls Tryd.prog 16 #[.pointer none, l] w fun e w' => e = .returned (.tuple #[.pointer none, .int .i64 1]) ∧ w = w' := by
  go_enter Tryd.func16, Tryd.ntmps16
  go_wp2
  go_ret2
  exact ⟨rfl, rfl⟩
theorem lims_len {w : World} {A : Option Addr} {l : List (Int × Int × Int)} {p : Nat} (h : Lims w A l) (hp : p < l.length) : ∃ b off x y z, A = some ⟨b, off, none⟩ ∧ l.getD p (0, 0, 0) = (x, y, z) ∧ w.cell? ⟨b, off + p * 3, none⟩ = some (.int .i64 x) ∧ w.cell? ⟨b, off + p * 3 + 1, none⟩ = some (.int .i64 y) ∧ w.cell? ⟨b, off + p * 3 + 2, none⟩ = some (.int .i32 z) := by
  obtain ⟨b, off, e, a1, a2, a3⟩ := h p hp
  exact ⟨b, off, _, _, _, e, rfl, a1, a2, a3⟩

set_option maxRecDepth 100000 in
set_option maxHeartbeats 4000000 in
theorem con4_zone (v : Value) (n : Nat) (m : Mat) (A : Option Addr) (c : Nat) (l : List (Int × Int × Int)) (w : World) (h : RefZ w v (some (n, m))) (hok : OkM n m) (hI : Lims w A l) (hmax : l.length ≤ 4611686018427387904)
    (hk : ∀ q, q < l.length → -2147483648 ≤ (l.getD q (0, 0, 0)).2.2 ∧ (l.getD q (0, 0, 0)).2.2 ≤ 2147483647) :
    Calls Tryd.prog 16 #[v, .slice A l.length c] w (MakesR w n (conQ n m l)) := by
  have HI := Lib.hid hI
  have HK := Lib.hid hk
  have HZ := Lib.hid h
  have HOK := Lib.hid hok
  have HDM := Lib.hid (fun W (h : RefZ W v (some (n, m))) => show Calls _ _ _ W fun e w' => e = .returned (.int .i64 n) ∧ w' = W from backC (rdim_any v _ W h))
  have HDQ := Lib.hid (fun W (h : RefZ W v (some (n, m))) => show Calls _ _ _ W fun e w' => e = .returned (.int .i64 n) ∧ W = w' from rdim_any v _ W h)
  have HE := Lib.hid (fun W (h : RefZ W v (some (n, m))) => rempty_any v _ W h)
  have HO := Lib.hid (fun W h => open4_any v n m W h)
  obtain ⟨bz, gz, capz, rfl, hn, _⟩ := h.parts
  clear h hI hk hok
  go_enter Tryd.func16, Tryd.ntmps16
  go_wp2
  go_loopg [6] l.length (fun g v wr => ∃ p : Nat, v = .int .i64 p ∧ Hid (Below w.heap.size w wr) ∧ Hid (p ≤ l.length ∧ g + p = l.length ∧ ∀ q, q < p → clkB n (l.getD q (0, 0, 0)) = true))
  case atStart => exact ⟨0, by simp, Below.refl _ _, by omega, by omega, fun q h => by omega⟩
  case round =>
    obtain ⟨p, rfl, HR, HG⟩ := hrel
    by_cases hp : p < l.length
    · obtain ⟨b, off, xi, xj, xb, rfl, hx, c1, c2, c3⟩ := lims_len (HI.out.below HR.out) hp
      have HX := Lib.hid hx
      have HZR := Lib.hid (HZ.out.below HR.out)
      have hbad : ¬ (0 ≤ xi ∧ xi ≤ n ∧ 0 ≤ xj ∧ xj ≤ n) → conQ n m l = (none, 12) := fun hf => by
        have : l.all (clkB n) = false := by
          rw [Bool.eq_false_iff]
          intro ha
          have := clk_parts ((all_getD l (clkB n) (0, 0, 0)).1 ha p hp)
          rw [HX.out] at this
          exact hf ⟨this.1.1, this.1.2, this.2.1, this.2.2⟩
        unfold conQ conE
        rw [if_neg (by simp [this]), this]
        rfl
      have HBAD := Lib.hid hbad
      have hpi : (p : Int) < (l.length : Int) := by omega
      clear hbad hx
      by_cases a1 : xi < 0
      · have HE12 := Lib.hid (HBAD.out (by omega))
        have d1 : decide (xi < 0) = true := decide_eq_true a1
        go_wp2_with fail
        go_quiet (fail)
        go_wp2
        go_ret2
        rw [HE12.out]
        exact ⟨belowN HR.out _, .pointer none, rfl, rfl⟩
      · have d1 : decide (xi < 0) = false := decide_eq_false a1
        by_cases a2 : (n : Int) < xi
        · have HE12 := Lib.hid (HBAD.out (by omega))
          have d2 : decide ((n : Int) < xi) = true := decide_eq_true a2
          go_wp2_with fail
          go_quiet ((go_at_call 64; exact Calls.quiet_of_same (HDM.out _ (by exact HZR.out))))
          go_wp2
          go_ret2
          rw [HE12.out]
          exact ⟨belowN HR.out _, .pointer none, rfl, rfl⟩
        · have d2 : decide ((n : Int) < xi) = false := decide_eq_false a2
          by_cases a3 : xj < 0
          · have HE12 := Lib.hid (HBAD.out (by omega))
            have d3 : decide (xj < 0) = true := decide_eq_true a3
            go_wp2_with fail
            go_quiet ((go_at_call 64; exact Calls.quiet_of_same (HDM.out _ (by exact HZR.out))))
            go_wp2
            go_ret2
            rw [HE12.out]
            exact ⟨belowN HR.out _, .pointer none, rfl, rfl⟩
          · have d3 : decide (xj < 0) = false := decide_eq_false a3
            by_cases a4 : (n : Int) < xj
            · have HE12 := Lib.hid (HBAD.out (by omega))
              have d4 : decide ((n : Int) < xj) = true := decide_eq_true a4
              go_wp2_with fail
              go_quiet ((go_at_call 64; exact Calls.quiet_of_same (HDM.out _ (by exact HZR.out))))
              go_wp2
              go_ret2
              rw [HE12.out]
              exact ⟨belowN HR.out _, .pointer none, rfl, rfl⟩
            · have d4 : decide ((n : Int) < xj) = false := decide_eq_false a4
              have HCL := Lib.hid (show clkB n (xi, xj, xb) = true by unfold clkB anyB; simp only [Bool.and_eq_true, decide_eq_true_eq]; omega)
              go_wp2_with fail
              go_quiet ((go_at_call 64; exact Calls.quiet_of_same (HDM.out _ (by exact HZR.out))))
              go_wp2
              go_roundg (gk - 1)
              case measure => have h := HG.out; omega
              case rel =>
                refine ⟨p + 1, by go_num, belowN HR.out _, by omega, by have h := HG.out; omega, fun q hq => ?_⟩
                by_cases e : q = p
                · subst e; rw [HX.out]; exact HCL.out
                · exact HG.out.2.2 q (by omega)
    · have e : p = l.length := by have := HG.out.1; omega
      subst e
      have hall : l.all (clkB n) = true := (all_getD l (clkB n) (0, 0, 0)).2 HG.out.2.2
      have HALL := Lib.hid hall
      have HR0 := Lib.hid HR.out
      clear hall HG HR
      go_wp2
      go_loopg [7] l.length (fun g v wr => ∃ p : Nat, v = .int .i64 p ∧ Hid (Below w.heap.size w wr) ∧ Hid (p ≤ l.length ∧ g + p = l.length ∧ ∀ q, q < p → bdB (l.getD q (0, 0, 0)) = true))
      case atStart => exact ⟨0, by simp, HR0.out, by omega, by omega, fun q h => by omega⟩
      case round =>
        clear HR0
        obtain ⟨p, rfl, HR, HG⟩ := hrel
        by_cases hp : p < l.length
        · obtain ⟨b, off, xi, xj, xb, rfl, hx, c1, c2, c3⟩ := lims_len (HI.out.below HR.out) hp
          have hb := HK.out p hp
          rw [hx] at hb
          obtain ⟨hb0, hb1⟩ := hb
          simp only at hb0 hb1
          have HX := Lib.hid hx
          have hpi : (p : Int) < (l.length : Int) := by omega
          clear hx
          by_cases r1 : rightB xb = true
          · have R1 := Lib.hid r1
            clear r1
            go_wp2_with fail
            refine (rright_yes _ _ R1.out hb0 hb1).mono ?_
            rintro e w' ⟨rfl, rfl⟩
            go_wp2
            go_roundg (gk - 1)
            case measure => have h := HG.out; omega
            case rel =>
              refine ⟨p + 1, by go_num, HR.out, by omega, by have h := HG.out; omega, fun q hq => ?_⟩
              by_cases e : q = p
              · subst e; rw [HX.out]; exact R1.out
              · exact HG.out.2.2 q (by omega)
          · have R1 := Lib.hid (Bool.eq_false_iff.2 r1)
            have hE : conQ n m l = (none, 2) := by
              have h1 : l.all bdB = false := by
                rw [Bool.eq_false_iff]
                intro ha
                have := (all_getD l bdB (0, 0, 0)).1 ha p hp
                rw [HX.out] at this
                exact r1 this
              unfold conQ conE
              rw [HALL.out, h1]
              rfl
            have HE2 := Lib.hid hE
            clear r1 hE
            go_wp2_with fail
            refine (rright_no _ _ R1.out hb0 hb1).mono ?_
            rintro e w' ⟨rfl, rfl⟩
            go_wp2
            go_ret2
            rw [HE2.out]
            exact ⟨HR.out, .pointer none, rfl, rfl⟩
        · have e : p = l.length := by have := HG.out.1; omega
          subst e
          have hall : l.all bdB = true := (all_getD l bdB (0, 0, 0)).2 HG.out.2.2
          have HALB := Lib.hid hall
          have hce : conE n l = 0 := by unfold conE; rw [HALL.out, hall]; rfl
          have HCE := Lib.hid hce
          have HB0 := Lib.hid HR.out
          have HZR := Lib.hid (HZ.out.below HR.out)
          clear hall HG HR hce
          go_wp2_with fail
          refine (HE.out _ HZR.out).mono ?_
          by_cases hm : m 0 0 = 1
          · rw [show emptyR (some (n, m)) = false from decide_eq_false (fun h => h hm)]
            have HQ := Lib.hid (show conQ n m l = zoneP n (widW (conUp m l l.length)) by unfold conQ; rw [if_pos HCE.out, if_pos hm])
            clear hm
            rintro e w1 ⟨rfl, rfl⟩
            go_wp2_with fail
            refine (HO.out _ HZR.out).mono ?_
            rintro e w1 ⟨g, cap, rfl, hb, hg, hc⟩
            have HS := Lib.hid (show D4 wr g cap n (widW (conUp m l 0)) w1 from ⟨hb, hg, hc⟩)
            clear hb hg hc
            obtain ⟨w0, rfl⟩ : ∃ x, x = wr := ⟨wr, rfl⟩
            go_wp2
            go_loopg [9] l.length (fun q v wr => ∃ p : Nat, v = .int .i64 p ∧ Hid (D4 w0 g cap n (widW (conUp m l p)) wr) ∧ Hid (p ≤ l.length ∧ q + p = l.length))
            case atStart => exact ⟨0, by simp, HS.out, by omega, by omega⟩
            case round =>
              clear HS
              obtain ⟨p, rfl, HR, HG⟩ := hrel
              have hbw := HB0.out.trans (HR.out.1.mono HB0.out.size)
              by_cases hp : p < l.length
              · obtain ⟨b, off, xi, xj, xb, rfl, hx, c1, c2, c3⟩ := lims_len (HI.out.below hbw) hp
                have hcl := clk_parts ((all_getD l (clkB n) (0, 0, 0)).1 HALL.out p hp)
                have hrb := (all_getD l bdB (0, 0, 0)).1 HALB.out p hp
                have hokp := HOK.out.con HALL.out HALB.out p (by omega)
                have hup : conUp m l (p + 1) = lessM (conUp m l p) xi.toNat xj.toNat xb := by rw [conUp, hx]
                rw [hx] at hcl hrb
                simp only at hcl
                have hrb : rightB xb = true := hrb
                have hwl := wid_less (conUp m l p) xi.toNat xj.toNat xb (right_hi (hokp.right _ _ (by omega) (by omega))).2 (right_hi hrb).2
                rw [← hup] at hwl
                have hbits := right_hi hrb
                obtain ⟨a, rfl⟩ : ∃ a : Nat, xi = a := ⟨xi.toNat, by omega⟩
                obtain ⟨d, rfl⟩ : ∃ d : Nat, xj = d := ⟨xj.toNat, by omega⟩
                rw [Int.toNat_natCast, Int.toNat_natCast] at hwl
                have HWL := Lib.hid hwl
                have HAD := Lib.hid (show a < n + 1 ∧ d < n + 1 by omega)
                have hpi : (p : Int) < (l.length : Int) := by omega
                clear hcl hrb hokp hup hwl hx hbw
                by_cases hinf : xb = 2147483647
                · subst hinf
                  have HN := Lib.hid (show D4 w0 g cap n (widW (conUp m l (p + 1))) _ by
                    rw [HWL.out]
                    have e : lessM (widW (conUp m l p)) a d (wid 2147483647) = widW (conUp m l p) := by
                      unfold lessM
                      have hle : widW (conUp m l p) a d ≤ none62 := by
                        have hokp := HOK.out.con HALL.out HALB.out p (by omega)
                        have := hokp.right a d (by have := HAD.out; omega) (by have := HAD.out; omega)
                        have h2 := right_hi this
                        unfold widW wid none62
                        split <;> omega
                      rw [show wid 2147483647 = none62 from rfl, show min (widW (conUp m l p) a d) none62 = widW (conUp m l p) a d by omega]
                      exact upd_self _ _ _
                    rw [e]; exact HR.out)
                  go_wp2
                  go_roundg (gk - 1)
                  case measure => have h := HG.out; omega
                  case rel => exact ⟨p + 1, by go_num, HN.out, by omega, by have h := HG.out; omega⟩
                · have t1 : (xb != 2147483647) = true := by simp [hinf]
                  have g1 : IntKind.i64.wrap xb = xb := IntWalk.i64_in _ (by omega)
                  have hwb : wid xb = xb := by unfold wid; rw [if_neg hinf]
                  rw [hwb] at HWL
                  clear hinf hwb
                  have D1 := Lib.hid (show wr.drew.cell? _ = _ from c1)
                  have D2 := Lib.hid (show wr.drew.cell? _ = _ from c2)
                  have D3 := Lib.hid (show wr.drew.cell? _ = _ from c3)
                  have HRD := Lib.hid (show D4 w0 g cap n (widW (conUp m l p)) wr.drew from ⟨Below.drew HR.out.1, HR.out.2.1, HR.out.2.2⟩)
                  go_wp2_with fail
                  clear c1 c2 c3
                  refine wp_region_still_tail 17 (by kernel_rfl) (by kernel_rfl) ?_
                  simp only [List.take_succ_cons, List.take_zero, List.drop_succ_cons, List.drop_zero]
                  change wpStill _ _ wr.drew _ _ _
                  have d1 := D1.out
                  have d2 := D2.out
                  have d3 := D3.out
                  clear D1 D2 D3
                  repeat still_step
                  refine wpStill_nil ?_
                  go_wp2_with fail
                  refine (less4_any w0.heap.size g cap n a d _ xb wr.drew hn HAD.out.1 HAD.out.2 HRD.out.ne HRD.out.2.2).mono ?_
                  rintro e w3 ⟨rfl, ho, hc⟩
                  have HN := Lib.hid (show D4 w0 g cap n (widW (conUp m l (p + 1))) w3 by rw [HWL.out]; exact HRD.out.only ho hc)
                  clear ho hc
                  go_wp2
                  go_roundg (gk - 1)
                  case measure => have h := HG.out; omega
                  case rel => exact ⟨p + 1, by go_num, HN.out, by omega, by have h := HG.out; omega⟩
              · have e : p = l.length := by have := HG.out.1; omega
                subst e
                have hokl := HOK.out.con HALL.out HALB.out l.length (Nat.le_refl _)
                have HSH := Lib.hid (shut4_D hn HR.out hokl.fit hokl.wtop)
                clear hokl hbw
                go_wp2_with fail
                refine HSH.out.mono ?_
                rintro e w2 hz
                have HZ2 := Lib.hid hz
                obtain ⟨hb, v, rfl, hv⟩ := hz
                have HB2 := Lib.hid (HB0.out.trans (hb.mono HB0.out.size))
                clear hb hv
                go_wp2
                go_ret2
                rw [HQ.out]
                exact ⟨HB2.out, HZ2.out.2⟩
          · rw [show emptyR (some (n, m)) = true from decide_eq_true hm]
            have HQ := Lib.hid (show conQ n m l = (some (fun _ _ => 0), 0) by unfold conQ; rw [if_pos HCE.out, if_neg hm])
            clear hm
            rintro e w1 ⟨rfl, rfl⟩
            go_wp2_with fail
            refine (HDQ.out _ HZR.out).mono ?_
            rintro e w1 ⟨rfl, rfl⟩
            go_wp2_with fail
            refine (nothing_any n _ hn).mono ?_
            rintro e w2 ⟨v, rfl, hb, hv⟩
            have HB := Lib.hid (HB0.out.trans (hb.mono HB0.out.size))
            have HV := Lib.hid hv
            clear hb hv
            go_wp2
            go_ret2
            rw [HQ.out]
            exact ⟨HB.out, v, rfl, HV.out⟩

end Go.Proofs.YtidcnlecgcobmaaDoor

/- Limits in memory: a copy with marked room behind its end; it is as it was. -/
namespace Go.Proofs.YtidcnlecgcobmaaDoor
open Go Go.RowKit
set_option linter.unusedVariables false
set_option linter.unusedSimpArgs false

/-- Block g begins with N bounds of differences. -/
def TRow (w : World) (g : Nat) (e : TypeId) (N : Nat) (f : Nat → Int × Int × Int) : Prop :=
  ∃ cur : Array Value, w.heap[g]? = some (.cells cur e (0, 0)) ∧ cur.size = N * 3 ∧ ∀ j, j < N → cur[j * 3]? = some (.int .i64 (f j).1) ∧ cur[j * 3 + 1]? = some (.int .i64 (f j).2.1) ∧ cur[j * 3 + 2]? = some (.int .i32 (f j).2.2)
section
variable {w w' : World} {g : Nat} {e : TypeId} {N : Nat} {f : Nat → Int × Int × Int}
theorem TRow.lt (h : TRow w g e N f) : g < w.heap.size := by obtain ⟨cur, h1, _⟩ := h; exact (Array.getElem?_eq_some_iff.1 h1).1
theorem TRow.cell (h : TRow w g e N f) (j : Nat) (hj : j < N) : w.cell? ⟨g, j * 3, none⟩ = some (.int .i64 (f j).1) ∧ w.cell? ⟨g, j * 3 + 1, none⟩ = some (.int .i64 (f j).2.1) ∧ w.cell? ⟨g, j * 3 + 2, none⟩ = some (.int .i32 (f j).2.2) := by
  obtain ⟨cur, h1, _, h2⟩ := h
  obtain ⟨a, b, c⟩ := h2 j hj
  exact ⟨by simp [World.cell?, h1, a], by simp [World.cell?, h1, b], by simp [World.cell?, h1, c]⟩
theorem TRow.frozen (h : TRow w g e N f) (o : Nat) : w.frozen? ⟨g, o, none⟩ = false := by
  obtain ⟨cur, h1, _⟩ := h
  simp [World.frozen?, h1]
theorem TRow.later (h : TRow w g e N f) (hb : Below w.heap.size w w') : TRow w' g e N f := by
  have hlt := h.lt
  obtain ⟨cur, h1, h2⟩ := h
  exact ⟨cur, (hb.block g hlt).trans h1, h2⟩
theorem TRow.drewN (h : TRow w g e N f) (q : Nat) : TRow (w.drewN q) g e N f := h
theorem TRow.congr {f' : Nat → Int × Int × Int} (h : TRow w g e N f) (hf : ∀ j, j < N → f j = f' j) : TRow w g e N f' := by
  obtain ⟨cur, h1, h2, h3⟩ := h
  exact ⟨cur, h1, h2, fun j hj => by rw [← hf j hj]; exact h3 j hj⟩
theorem TRow.set (h : TRow w g e N f) (p : Nat) (hp : p < N) (x y z : Int) :
    TRow (((w.setCell ⟨g, p * 3, none⟩ (.int .i64 x)).setCell ⟨g, p * 3 + 1, none⟩ (.int .i64 y)).setCell ⟨g, p * 3 + 2, none⟩ (.int .i32 z)) g e N (fun j => if j = p then (x, y, z) else f j) := by
  obtain ⟨cur, h1, h2, h3⟩ := h
  refine ⟨((cur.setIfInBounds (p * 3) (.int .i64 x)).setIfInBounds (p * 3 + 1) (.int .i64 y)).setIfInBounds (p * 3 + 2) (.int .i32 z), ?_, by simpa using h2, fun j hj => ?_⟩
  · simp [World.setCell, Array.getElem?_modify, h1]
  · obtain ⟨a, b, c⟩ := h3 j hj
    have s : ∀ q, q < N * 3 → q < cur.size := fun q hq => by omega
    by_cases e : j = p
    · subst e
      simp only [if_true]
      refine ⟨?_, ?_, ?_⟩
      · rw [Array.getElem?_setIfInBounds, if_neg (by omega), Array.getElem?_setIfInBounds, if_neg (by omega), Array.getElem?_setIfInBounds, if_pos rfl, if_pos (by omega)]
      · rw [Array.getElem?_setIfInBounds, if_neg (by omega), Array.getElem?_setIfInBounds, if_pos rfl, if_pos (by simp; omega)]
      · rw [Array.getElem?_setIfInBounds, if_pos rfl, if_pos (by simp; omega)]
    · simp only [if_neg e]
      refine ⟨?_, ?_, ?_⟩ <;>
        rw [Array.getElem?_setIfInBounds, if_neg (by omega), Array.getElem?_setIfInBounds, if_neg (by omega), Array.getElem?_setIfInBounds, if_neg (by omega)] <;> assumption
theorem TRow.lims (h : TRow w g e N f) (l : List (Int × Int × Int)) (hl : l.length ≤ N) (hf : ∀ j, j < l.length → f j = l.getD j (0, 0, 0)) : Lims w (some ⟨g, 0, none⟩) l := fun j hj => by
  obtain ⟨a, b, c⟩ := h.cell j (by omega)
  rw [hf j hj] at a b c
  exact ⟨g, 0, rfl, by rw [Nat.zero_add]; exact a, by rw [Nat.zero_add]; exact b, by rw [Nat.zero_add]; exact c⟩
end
theorem infoL : (Tryd.prog.info? 68).map (fun i => (i.zero, i.size, i.bytes)) = some (some (.agg #[.int .i64 0, .int .i64 0, .int .i32 0]), 3, 24) := by kernel_rfl
theorem trow_made (w : World) (e : TypeId) (N : Nat) : TRow (w.alloc (.cells (madeCells #[.int .i64 0, .int .i64 0, .int .i32 0] (N * 3)) e)) w.heap.size e N (fun _ => (0, 0, 0)) := by
  refine ⟨_, heap_alloc_new _ _, by simp [madeCells], fun j hj => ?_⟩
  have h0 : j * 3 < N * 3 := by omega
  have h1 : j * 3 + 1 < N * 3 := by omega
  have h2 : j * 3 + 2 < N * 3 := by omega
  have e0 : j * 3 % 3 = 0 := by omega
  have e1 : (j * 3 + 1) % 3 = 1 := by omega
  have e2 : (j * 3 + 2) % 3 = 2 := by omega
  simp [madeCells, h0, h1, h2, e0, e1, e2]

/-- The copy, and its marks. -/
def handF (l : List (Int × Int × Int)) (j : Nat) : Int × Int × Int := if j < l.length then l.getD j (0, 0, 0) else (-700 - j + l.length, 0, 0)
/-- The first p places of it. -/
def handUp (l : List (Int × Int × Int)) (p j : Nat) : Int × Int × Int := if j < p then handF l j else (0, 0, 0)

def HandR (w0 : World) (l : List (Int × Int × Int)) (p : Nat) (wr : World) : Prop := Below w0.heap.size w0 wr ∧ TRow wr w0.heap.size 68 (l.length + 9) (handUp l p)
theorem HandR.next {w0 wr : World} {l : List (Int × Int × Int)} {p : Nat} (h : HandR w0 l p wr) (hp : p < l.length + 9) (x y z : Int) (hx : handF l p = (x, y, z)) :
    HandR w0 l (p + 1) (((wr.setCell ⟨w0.heap.size, p * 3, none⟩ (.int .i64 x)).setCell ⟨w0.heap.size, p * 3 + 1, none⟩ (.int .i64 y)).setCell ⟨w0.heap.size, p * 3 + 2, none⟩ (.int .i32 z)) := by
  refine ⟨((h.1.setCell (p := ⟨w0.heap.size, _, none⟩) (Nat.le_refl _) _).setCell (p := ⟨w0.heap.size, _, none⟩) (Nat.le_refl _) _).setCell (p := ⟨w0.heap.size, _, none⟩) (Nat.le_refl _) _, (h.2.set p hp x y z).congr fun j hj => ?_⟩
  unfold handUp
  by_cases e : j = p
  · subst e; rw [if_pos rfl, if_pos (by omega), hx]
  · rw [if_neg e]
    by_cases e2 : j < p
    · rw [if_pos e2, if_pos (by omega)]
    · rw [if_neg e2, if_neg (by omega)]

set_option maxHeartbeats 1000000 in
set_option maxRecDepth 100000 in
theorem handlims_any (A : Option Addr) (c : Nat) (l : List (Int × Int × Int)) (w : World) (hI : Lims w A l) (hmax : l.length ≤ 5864062014634) :
    Calls Tryd.prog 14 #[.slice A l.length c] w fun e w' => e = .returned (.slice (some ⟨w.heap.size, 0, none⟩) l.length (l.length + 9)) ∧ HandR w l (l.length + 9) w' := by
  have HI := Lib.hid hI
  obtain ⟨i0, hi1, hz0, hz1, hz2⟩ := info_parts infoL
  have hmk := fun w => run_make (P := Tryd.prog) w 23 68 i0 (.agg #[.int .i64 0, .int .i64 0, .int .i32 0]) Tryd.underlying23 hi1 hz0 .i64 .i64 ((l.length : Int) + 9) ((l.length : Int) + 9) (by omega) (Int.le_refl _) (by rw [hz2]; omega) (by omega)
  rw [hz1, show ((l.length : Int) + 9).toNat = l.length + 9 by omega] at hmk
  have HS := Lib.hid (show HandR w l 0 (w.alloc (.cells (madeCells #[.int .i64 0, .int .i64 0, .int .i32 0] ((l.length + 9) * 3)) 68)) from ⟨(Below.refl _ _).alloc (Nat.le_refl _) _, (trow_made w _ _).congr fun j _ => by unfold handUp; rw [if_neg (by omega)]⟩)
  clear hI hi1 hz0 hz1 hz2
  go_enter Tryd.func14, Tryd.ntmps14
  go_wp2
  generalize w.alloc (.cells (madeCells #[.int .i64 0, .int .i64 0, .int .i32 0] ((l.length + 9) * 3)) 68) = w1 at *
  go_loopg [4] l.length (fun g v wr => ∃ p : Nat, v = .int .i64 p ∧ Hid (HandR w l p wr) ∧ Hid (p ≤ l.length ∧ g + p = l.length))
  case atStart => exact ⟨0, by simp, HS.out, by omega, by omega⟩
  case round =>
    clear HS
    obtain ⟨p, rfl, HR, HG⟩ := hrel
    by_cases hp : p < l.length
    · obtain ⟨b, off, rfl, c1, c2, c3⟩ := HI.out.below HR.out.1 p hp
      obtain ⟨x, hx⟩ : ∃ x, x = l.getD p (0, 0, 0) := ⟨_, rfl⟩
      rw [← hx] at c1 c2 c3
      have HX := Lib.hid hx
      clear hx
      obtain ⟨xi, xj, xb⟩ := x
      simp only at c1 c2 c3
      obtain ⟨d1, d2, d3⟩ := HR.out.2.cell p (by omega)
      have f1 := HR.out.2.frozen (p * 3)
      have f2 := HR.out.2.frozen (p * 3 + 1)
      have f3 := HR.out.2.frozen (p * 3 + 2)
      have hpi : (p : Int) < (l.length : Int) + 9 := by omega
      have hlt := HR.out.2.lt
      have HN := Lib.hid (HR.out.next (by omega) xi xj xb (by unfold handF; rw [if_pos hp, HX.out]))
      go_wp2
      go_roundg (gk - 1)
      case measure => have h := HG.out; omega
      case rel => exact ⟨p + 1, by go_num, HN.out, by omega, by have h := HG.out; omega⟩
    · have e : p = l.length := by have := HG.out.1; omega
      subst e
      have HR0 := Lib.hid HR.out
      clear HR HG
      go_wp2
      go_loopg [5] 9 (fun g v wr => ∃ p : Nat, v = .int .i64 p ∧ Hid (HandR w l p wr) ∧ Hid (l.length ≤ p ∧ p ≤ l.length + 9 ∧ g + p = l.length + 9))
      case atStart => exact ⟨l.length, by simp, HR0.out, by omega, by omega, by omega⟩
      case round =>
        clear HR0
        obtain ⟨p, rfl, HR, HG⟩ := hrel
        by_cases hp : p < l.length + 9
        · obtain ⟨d1, d2, d3⟩ := HR.out.2.cell p hp
          have f1 := HR.out.2.frozen (p * 3)
          have f2 := HR.out.2.frozen (p * 3 + 1)
          have f3 := HR.out.2.frozen (p * 3 + 2)
          have hpi : (p : Int) < (l.length : Int) + 9 := by omega
          have hlt := HR.out.2.lt
          have g1 : IntKind.i64.wrap (-700 - (p : Int)) = -700 - (p : Int) := IntWalk.i64_in _ (by omega)
          have g2 : IntKind.i64.wrap (-700 - (p : Int) + (l.length : Int)) = -700 - (p : Int) + (l.length : Int) := IntWalk.i64_in _ (by omega)
          have HN := Lib.hid (HR.out.next hp (-700 - (p : Int) + (l.length : Int)) 0 0 (by unfold handF; rw [if_neg (by have := HG.out.1; omega)]))
          go_wp2
          go_roundg (gk - 1)
          case measure => have h := HG.out; omega
          case rel => exact ⟨p + 1, by go_num, HN.out, by have h := HG.out; omega, by omega, by have h := HG.out; omega⟩
        · have e : p = l.length + 9 := by have := HG.out; omega
          subst e
          have hpi : ¬ (((l.length + 9 : Nat) : Int) < (l.length : Int) + 9) := by omega
          go_wp2
          go_ret
          exact ⟨by first | rfl | (congr 2; omega), HR.out⟩
theorem HandR.lims {w0 w : World} {l : List (Int × Int × Int)} (h : HandR w0 l (l.length + 9) w) : Lims w (some ⟨w0.heap.size, 0, none⟩) l :=
  h.2.lims l (by omega) fun j hj => by unfold handUp handF; rw [if_pos (by omega), if_pos hj]

set_option maxRecDepth 100000 in
set_option maxHeartbeats 1000000 in
theorem samelims_eq (A : Option Addr) (c : Nat) (B : Option Addr) (d : Nat) (l : List (Int × Int × Int)) (w : World) (hI : Lims w A l) (hI' : Lims w B l) (hmax : l.length ≤ 5864062014634) :
    Calls Tryd.prog 30 #[.slice A l.length c, .slice B l.length d] w fun e w' => e = .returned (.bool true) ∧ ∃ q, w' = w.drewN q := by
  have HI := Lib.hid hI
  have HI' := Lib.hid hI'
  have t1 : ((l.length : Int) != (l.length : Int)) = false := by simp
  clear hI hI'
  go_enter Tryd.func30, Tryd.ntmps30
  go_wp2
  go_loopg [5] l.length (fun g v wr => ∃ p : Nat, v = .int .i64 p ∧ (∃ q, wr = w.drewN q) ∧ Hid (p ≤ l.length ∧ g + p = l.length))
  case atStart => exact ⟨0, by simp, ⟨0, rfl⟩, by omega, by omega⟩
  case round =>
    obtain ⟨p, rfl, ⟨q, rfl⟩, HG⟩ := hrel
    by_cases hp : p < l.length
    · obtain ⟨b, off, rfl, c1, c2, c3⟩ := HI.out p hp
      obtain ⟨b', off', rfl, d1, d2, d3⟩ := HI'.out p hp
      have hpi : (p : Int) < (l.length : Int) := by omega
      obtain ⟨x, hx⟩ : ∃ x, x = l.getD p (0, 0, 0) := ⟨_, rfl⟩
      rw [← hx] at c1 c2 c3 d1 d2 d3
      clear hx
      obtain ⟨xi, xj, xb⟩ := x
      simp only at c1 c2 c3 d1 d2 d3
      go_wp2_with fail
      go_quiet (fail)
      go_wp2
      go_roundg (gk - 1)
      case measure => have h := HG.out; omega
      case rel => exact ⟨p + 1, by go_num, ⟨_, rfl⟩, by omega, by have h := HG.out; omega⟩
    · have e : p = l.length := by have := HG.out.1; omega
      subst e
      go_wp2
      go_ret
      exact ⟨rfl, ⟨_, rfl⟩⟩

set_option maxRecDepth 100000 in
set_option maxHeartbeats 1000000 in
theorem keptlims_any (B : Option Addr) (d : Nat) (l : List (Int × Int × Int)) (w0 : World) (w : World) (hh : HandR w0 l (l.length + 9) w) (hI : Lims w B l) (hmax : l.length ≤ 5864062014634) :
    Calls Tryd.prog 19 #[.slice (some ⟨w0.heap.size, 0, none⟩) l.length (l.length + 9), .slice B l.length d] w fun e w' => e = .returned (.bool true) ∧ Below w.heap.size w w' := by
  have HH := Lib.hid hh
  have HS := Lib.hid (samelims_eq (some ⟨w0.heap.size, 0, none⟩) (l.length + 9) B d l w hh.lims hI hmax)
  clear hh hI
  go_enter Tryd.func19, Tryd.ntmps19
  go_wp2_with fail
  refine HS.out.mono ?_
  rintro e w1 ⟨rfl, q, rfl⟩
  have HT := Lib.hid (HH.out.2.drewN q)
  have HB := Lib.hid (belowN (Below.refl w.heap.size w) q)
  generalize w.drewN q = w1 at *
  clear HS HH
  go_wp2
  go_loopg [6] 9 (fun g v wr => ∃ p : Nat, v = .int .i64 p ∧ w1 = wr ∧ Hid (l.length ≤ p ∧ p ≤ l.length + 9 ∧ g + p = l.length + 9))
  case atStart => exact ⟨l.length, by simp, rfl, by omega, by omega, by omega⟩
  case round =>
    obtain ⟨p, rfl, rfl, HG⟩ := hrel
    by_cases hp : p < l.length + 9
    · obtain ⟨c1, c2, c3⟩ := HT.out.cell p hp
      have hf : handUp l (l.length + 9) p = (-700 - (p : Int) + (l.length : Int), 0, 0) := by
        unfold handUp handF; rw [if_pos hp, if_neg (by have := HG.out.1; omega)]
      rw [hf] at c1 c2 c3
      simp only at c1 c2 c3
      have hpi : (p : Int) < (l.length : Int) + 9 := by omega
      have g1 : IntKind.i64.wrap (-700 - (p : Int)) = -700 - (p : Int) := IntWalk.i64_in _ (by omega)
      have g2 : IntKind.i64.wrap (-700 - (p : Int) + (l.length : Int)) = -700 - (p : Int) + (l.length : Int) := IntWalk.i64_in _ (by omega)
      clear hf
      go_wp2
      go_roundg (gk - 1)
      case measure => have h := HG.out; omega
      case rel => exact ⟨p + 1, by go_num, rfl, by have h := HG.out; omega, by omega, by have h := HG.out; omega⟩
    · have e : p = l.length + 9 := by have := HG.out; omega
      subst e
      have hpi : ¬ (((l.length + 9 : Nat) : Int) < (l.length : Int) + 9) := by omega
      go_wp2
      go_ret
      exact ⟨rfl, HB.out⟩

end Go.Proofs.YtidcnlecgcobmaaDoor

/- The operations, asked of nil. -/
namespace Go.Proofs.YtidcnlecgcobmaaDoor
open Go Go.RowKit
set_option linter.unusedVariables false
set_option linter.unusedSimpArgs false

/-- No zone, and the error of nil. -/
def NilEnds (w : World) (e : Ending) (w' : World) : Prop := e = .returned (.tuple #[.pointer none, .int .i64 1]) ∧ Below w.heap.size w w'
theorem constrain_nil (l : Value) (w : World) : Calls Tryd.prog 15 #[.pointer none, l] w (NilEnds w) := by
  go_enter Tryd.func15, Tryd.ntmps15
  go_wp2
  go_ret2
  exact ⟨rfl, Below.refl _ _⟩
theorem free_nil (l : Value) (w : World) : Calls Tryd.prog 43 #[.pointer none, l] w (NilEnds w) := by
  go_enter Tryd.func43, Tryd.ntmps43
  go_wp2
  go_ret2
  exact ⟨rfl, Below.refl _ _⟩
theorem copy_nil (a b : Value) (w : World) : Calls Tryd.prog 48 #[.pointer none, a, b] w (NilEnds w) := by
  go_enter Tryd.func48, Tryd.ntmps48
  go_wp2
  go_ret2
  exact ⟨rfl, Below.refl _ _⟩
theorem guards_nil (l : Value) (w : World) : Calls Tryd.prog 25 #[.pointer none, l] w (NilEnds w) := by
  go_enter Tryd.func25, Tryd.ntmps25
  go_wp2
  go_ret2
  exact ⟨rfl, Below.refl _ _⟩
theorem keepz_nil (l : Value) (w : World) : Calls Tryd.prog 50 #[.pointer none, l] w (NilEnds w) := by
  go_enter Tryd.func50, Tryd.ntmps50
  go_wp2
  go_ret2
  exact ⟨rfl, Below.refl _ _⟩
theorem unset_nil (c k : Int) (w : World) : Calls Tryd.prog 42 #[.pointer none, .int .i64 c, .int .i64 k] w (NilEnds w) := by
  have hz : ZoneV 126 w (.pointer none) none := rfl
  have HS := Lib.hid (oset_any _ none c k w hz)
  rw [show setE none c k = 1 from rfl] at HS
  clear hz
  go_enter Tryd.func42, Tryd.ntmps42
  go_wp2_with fail
  refine HS.out.mono ?_
  rintro e w1 ⟨rfl, hb⟩
  have HB := Lib.hid hb
  clear hb
  go_wp2
  go_ret2
  exact ⟨rfl, HB.out⟩

theorem oalike_nil (l : Value) (w : World) : Calls Tryd.prog 84 #[.pointer none, l] w fun e w' => e = .returned (.int .i64 1) ∧ w = w' := by
  go_enter Tryd.func84, Tryd.ntmps84
  go_wp2
  go_ret
  exact ⟨rfl, rfl⟩
theorem and_nil (l : Value) (w : World) : Calls Tryd.prog 34 #[.pointer none, l] w (NilEnds w) := by
  go_enter Tryd.func34, Tryd.ntmps34
  go_wp2_with fail
  refine (oalike_nil l _).mono ?_
  rintro e w1 ⟨rfl, rfl⟩
  go_wp2
  go_ret2
  exact ⟨rfl, Below.refl _ _⟩
theorem hull_nil (l : Value) (w : World) : Calls Tryd.prog 32 #[.pointer none, l] w (NilEnds w) := by
  go_enter Tryd.func32, Tryd.ntmps32
  go_wp2_with fail
  refine (oalike_nil l _).mono ?_
  rintro e w1 ⟨rfl, rfl⟩
  go_wp2
  go_ret2
  exact ⟨rfl, Below.refl _ _⟩

end Go.Proofs.YtidcnlecgcobmaaDoor

/- What OpsLimits tells. -/
namespace Go.Proofs.YtidcnlecgcobmaaDoor
open Go Go.RowKit
set_option linter.unusedVariables false
set_option linter.unusedSimpArgs false

def conA (z : Option (Nat × Mat)) (l : List (Int × Int × Int)) : Option Mat × Int := match z with | none => (none, 1) | some (k, m) => conP k (openW (some (k, m))) l
theorem con_any (v : Value) (z : Option (Nat × Mat)) (A : Option Addr) (c : Nat) (l : List (Int × Int × Int)) (w : World) (h : ZoneV 126 w v z) (hI : Lims w A l) (hmax : l.length ≤ 4611686018427387904)
    (hk : ∀ q, q < l.length → -2147483648 ≤ (l.getD q (0, 0, 0)).2.2 ∧ (l.getD q (0, 0, 0)).2.2 ≤ 2147483647) :
    Calls Tryd.prog 15 #[v, .slice A l.length c] w (MakesZ w (dimN z) (conA z l)) := by
  match z, h with
  | none, h =>
    have h : v = .pointer none := h
    subst h
    exact (constrain_nil _ w).mono fun e w' ⟨he, hw⟩ => ⟨hw, .pointer none, he, rfl⟩
  | some (k, m), h => exact constrain_zone v k m A c l w h hI hmax hk
theorem con4_any (v : Value) (z : Option (Nat × Mat)) (A : Option Addr) (c : Nat) (l : List (Int × Int × Int)) (w : World) (h : RefZ w v z) (hz : KindZ z) (hI : Lims w A l) (hmax : l.length ≤ 4611686018427387904)
    (hk : ∀ q, q < l.length → -2147483648 ≤ (l.getD q (0, 0, 0)).2.2 ∧ (l.getD q (0, 0, 0)).2.2 ≤ 2147483647) :
    Calls Tryd.prog 16 #[v, .slice A l.length c] w (MakesR w (dimN z) (conA z l)) := by
  match z, h, hz with
  | none, h, _ =>
    have h : v = .pointer none := h
    subst h
    exact (con4_nil _ w).mono fun e w' ⟨he, hw⟩ => ⟨hw ▸ Below.refl _ _, .pointer none, he, rfl⟩
  | some (k, m), h, hz =>
    obtain ⟨hn, hf⟩ := hz k m rfl
    show Calls _ _ _ _ (MakesR w k (conP k (openW (some (k, m))) l))
    rw [con_same hn hf l]
    refine con4_zone v k m A c l w h ?_ hI hmax hk
    rcases hf with rfl | hf
    · exact zero_ok k
    · exact hf.ok
theorem stable_hand (w0 : World) (l : List (Int × Int × Int)) (p : Nat) : Stable fun w => HandR w0 l p w := fun _ _ h hb => ⟨h.1.trans (hb.mono h.1.size), h.2.later hb⟩

set_option maxRecDepth 100000 in
set_option maxHeartbeats 2000000 in
theorem limitsl_any (n : Int) (A : Option Addr) (c : Nat) (cells : List Int) (B : Option Addr) (d : Nat) (l : List (Int × Int × Int)) (w : World) (hI : Ints w .i32 A cells) (hmax : cells.length ≤ 4611686018427387904)
    (hk : ∀ q, q < cells.length → -2147483648 ≤ cells.getD q 0 ∧ cells.getD q 0 ≤ 2147483647) (hL : Lims w B l) (hlmax : l.length ≤ 5864062014634)
    (hlk : ∀ q, q < l.length → -2147483648 ≤ (l.getD q (0, 0, 0)).2.2 ∧ (l.getD q (0, 0, 0)).2.2 ≤ 2147483647) (ht : Tab w) :
    Calls Tryd.prog 3 #[.int .i64 n, .slice A cells.length c, .slice B l.length d] w fun e w' => e = .returned (.bool true) ∧ Below w.heap.size w w' := by
  have HBO := Lib.hid (both04_any n A c cells w hI hmax hk)
  have HK := Lib.hid (kind_of n cells)
  have HT := Lib.hid ht
  have HL := Lib.hid hL
  unfold Both4Ends at HBO
  obtain ⟨z, hz⟩ : ∃ z, z = zOf n cells := ⟨_, rfl⟩
  rw [← hz] at HBO HK
  have HC := Lib.hid (fun v A c w h hI => con_any v z A c l w h hI (by omega) hlk)
  have HC4 := Lib.hid (fun v A c w h hI => con4_any v z A c l w h HK.out hI (by omega) hlk)
  generalize conA z l = U at *
  obtain ⟨Um, Ue⟩ := U
  clear hI hk ht hz hL hlk
  go_enter Tryd.func3, Tryd.ntmps3
  go_wp2_with fail
  refine HBO.out.mono ?_
  rintro e w1 ⟨hb, v, v', rfl, hv, hv'⟩
  have HG1 := Lib.hid (((((Bag.start hb).add (HL.out.below hb) (stable_lims _ _)).add (HT.out.below hb) stable_tab).add hv' (stable_ref _ _)).add hv (stable_zone _ _ _))
  clear hb hv hv' HBO HT HL
  go_wp2_with fail
  refine (handlims_any B d l w1 (HG1.out.at 3 rfl) hlmax).mono ?_
  rintro e w2 ⟨rfl, hh⟩
  have HG2 := Lib.hid ((HG1.out.step hh.1).add hh (stable_hand _ _ _))
  clear hh HG1
  go_wp2_with fail
  refine (HC.out _ _ _ _ (HG2.out.at 1 rfl) (by exact ((HG2.out.at 0 rfl : HandR w1 l (l.length + 9) w2).lims))).mono ?_
  rintro e w3 ⟨hb, a, rfl, ha⟩
  have HG3 := Lib.hid ((HG2.out.step hb).add ha (stable_zone _ _ _))
  clear hb ha HG2
  go_wp2_with fail
  refine (HC4.out _ _ _ _ (HG3.out.at 3 rfl) (HG3.out.at 5 rfl)).mono ?_
  rintro e w4 ⟨hb, b, rfl, ha⟩
  have HG4 := Lib.hid ((HG3.out.step hb).add ha (stable_ref _ _))
  clear hb ha HG3
  go_wp2_with fail
  refine (live04_any _ (HG4.out.at 5 rfl)).mono ?_
  rintro e w6 ⟨rfl, hb⟩
  have HG6 := Lib.hid (HG4.out.step hb)
  clear hb HG4
  go_wp2_with fail
  refine (same04_any _ _ _ _ (HG6.out.at 1 rfl) (HG6.out.at 0 rfl)).mono ?_
  rintro e w7 ⟨rfl, hb⟩
  have HG7 := Lib.hid (HG6.out.step hb)
  clear hb HG6
  go_wp2_with fail
  refine (same04_any _ _ _ _ (HG7.out.at 3 rfl) (HG7.out.at 4 rfl)).mono ?_
  rintro e w8 ⟨rfl, hb⟩
  have HG8 := Lib.hid (HG7.out.step hb)
  clear hb HG7
  go_wp2_with fail
  refine (keptlims_any B d l w1 _ (HG8.out.at 2 rfl) (HG8.out.at 6 rfl) hlmax).mono ?_
  rintro e w9 ⟨rfl, hb⟩
  have HG9 := Lib.hid (HG8.out.step hb)
  clear hb HG8
  go_wp2
  go_ret
  exact ⟨by simp, HG9.out.below⟩

end Go.Proofs.YtidcnlecgcobmaaDoor

/- And, Hull: nil among the zones. -/
namespace Go.Proofs.YtidcnlecgcobmaaDoor
open Go Go.RowKit
set_option linter.unusedVariables false
set_option linter.unusedSimpArgs false

/-- A list of addresses that can be read. -/
def Ptrs (w : World) (A : Option Addr) (vs : List Value) : Prop := ∀ j, j < vs.length → ∃ b off, A = some ⟨b, off, none⟩ ∧ w.cell? ⟨b, off + j, none⟩ = some (vs.getD j (.pointer none))
theorem Ptrs.below {w w' : World} {A : Option Addr} {vs : List Value} (h : Ptrs w A vs) (hb : Below w.heap.size w w') : Ptrs w' A vs := fun j hj => by
  obtain ⟨b, off, e, hc⟩ := h j hj
  exact ⟨b, off, e, (hb.cell (p := ⟨b, off + j, none⟩) (World.block_lt_of_cell? w _ hc)).trans hc⟩
theorem ptrs_new (w : World) (e : TypeId) (vs : List Value) : Ptrs (w.alloc (.cells vs.toArray e (0, 0))) (some ⟨w.heap.size, 0, none⟩) vs := fun j hj => by
  refine ⟨_, 0, rfl, ?_⟩
  have h1 := heap_alloc_new w (.cells vs.toArray e (0, 0))
  rw [Nat.zero_add]
  unfold World.cell?
  rw [h1]
  show vs.toArray[j]? = _
  rw [List.getElem?_toArray, List.getElem?_eq_getElem hj, List.getD_eq_getElem?_getD, List.getElem?_eq_getElem hj]
  rfl

set_option maxHeartbeats 1000000 in
set_option maxRecDepth 100000 in
theorem oalike_has (b : Addr) (A : Option Addr) (c : Nat) (vs : List Value) (w : World) (hv : Ptrs w A vs) (hl : vs.length ≤ 4611686018427387904) (hf : ∀ j, j < vs.length → ∃ a, vs.getD j (.pointer none) = .pointer a)
    (hn : ∃ p, p < vs.length ∧ vs.getD p (.pointer none) = .pointer none) :
    Calls Tryd.prog 84 #[.pointer (some b), .slice A vs.length c] w fun e w' => e = .returned (.int .i64 1) ∧ w = w' := by
  have HV := Lib.hid hv
  have HF := Lib.hid hf
  have HN := Lib.hid hn
  clear hv hf hn
  go_enter Tryd.func84, Tryd.ntmps84
  go_wp2
  go_loopg [13] vs.length (fun g v wr => ∃ p : Nat, v = .int .i64 p ∧ w = wr ∧ Hid (p ≤ vs.length ∧ g + p = vs.length ∧ ∀ q, q < p → ¬ vs.getD q (.pointer none) = .pointer none))
  case atStart => exact ⟨0, by simp, rfl, by omega, by omega, fun q h => by omega⟩
  case round =>
    obtain ⟨p, rfl, rfl, HG⟩ := hrel
    by_cases hp : p < vs.length
    · obtain ⟨b', off, rfl, c1⟩ := HV.out p hp
      obtain ⟨a, ha⟩ := HF.out p hp
      rw [ha] at c1
      cases a with
      | none =>
        clear ha
        go_wp2
        go_ret
        exact ⟨rfl, rfl⟩
      | some a =>
        have HA := Lib.hid ha
        clear ha
        go_wp2
        go_roundg (gk - 1)
        case measure => have h := HG.out; omega
        case rel =>
          refine ⟨p + 1, by go_num, rfl, by omega, by have h := HG.out.2.1; omega, fun q hq => ?_⟩
          by_cases e : q = p
          · subst e; rw [HA.out]; intro h; cases h
          · exact HG.out.2.2 q (by omega)
    · have e : p = vs.length := by have := HG.out.1; omega
      obtain ⟨q, hq, hz⟩ := HN.out
      exact absurd hz (HG.out.2.2 q (by omega))
set_option maxHeartbeats 1000000 in
theorem and_has (b : Addr) (A : Option Addr) (c : Nat) (vs : List Value) (w : World) (hv : Ptrs w A vs) (hl : vs.length ≤ 4611686018427387904) (hf : ∀ j, j < vs.length → ∃ a, vs.getD j (.pointer none) = .pointer a)
    (hn : ∃ p, p < vs.length ∧ vs.getD p (.pointer none) = .pointer none) : Calls Tryd.prog 34 #[.pointer (some b), .slice A vs.length c] w (NilEnds w) := by
  have HA := Lib.hid (oalike_has b A c vs w hv hl hf hn)
  clear hv hf hn
  go_enter Tryd.func34, Tryd.ntmps34
  go_wp2_with fail
  refine HA.out.mono ?_
  rintro e w1 ⟨rfl, rfl⟩
  go_wp2
  go_ret2
  exact ⟨rfl, Below.refl _ _⟩
set_option maxHeartbeats 1000000 in
theorem hull_has (b : Addr) (A : Option Addr) (c : Nat) (vs : List Value) (w : World) (hv : Ptrs w A vs) (hl : vs.length ≤ 4611686018427387904) (hf : ∀ j, j < vs.length → ∃ a, vs.getD j (.pointer none) = .pointer a)
    (hn : ∃ p, p < vs.length ∧ vs.getD p (.pointer none) = .pointer none) : Calls Tryd.prog 32 #[.pointer (some b), .slice A vs.length c] w (NilEnds w) := by
  have HA := Lib.hid (oalike_has b A c vs w hv hl hf hn)
  clear hv hf hn
  go_enter Tryd.func32, Tryd.ntmps32
  go_wp2_with fail
  refine HA.out.mono ?_
  rintro e w1 ⟨rfl, rfl⟩
  go_wp2
  go_ret2
  exact ⟨rfl, Below.refl _ _⟩
theorem reset_nil (c k : Int) (w : World) : Calls Tryd.prog 41 #[.pointer none, .int .i64 c, .int .i64 k] w (NilEnds w) :=
  reset_wrong (.pointer none) none c k w rfl (by show (1 : Int) ≠ 0; decide)
theorem up_nil' (w : World) : Calls Tryd.prog 20 #[.pointer none] w (NilEnds w) := (up_nil w).mono fun e w' ⟨he, hw⟩ => ⟨he, hw ▸ Below.refl _ _⟩
theorem down_nil' (w : World) : Calls Tryd.prog 22 #[.pointer none] w (NilEnds w) := (down_nil w).mono fun e w' ⟨he, hw⟩ => ⟨he, hw ▸ Below.refl _ _⟩

end Go.Proofs.YtidcnlecgcobmaaDoor
