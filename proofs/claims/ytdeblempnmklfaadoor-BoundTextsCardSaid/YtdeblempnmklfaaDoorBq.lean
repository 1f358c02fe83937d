/- Parse of the program: what a text tells of. -/
import Derived.Test.YtdeblempnmklfaaDoorBp
import Derived.Test.YtdeblempnmklfaaDoorPt
import Derived.Test.YtdeblempnmklfaaDoorPk
namespace Go.Proofs.YtdeblempnmklfaaDoor
open Go Go.RowKit
set_option linter.unusedVariables false
set_option linter.unusedSimpArgs false

theorem bytes_app (a b : List UInt8) : (⟨a.toArray⟩ : ByteArray) ++ ⟨b.toArray⟩ = ⟨(a ++ b).toArray⟩ := by
  have h : ((⟨a.toArray⟩ : ByteArray) ++ ⟨b.toArray⟩).data = (a ++ b).toArray := by simp
  cases hx : (⟨a.toArray⟩ : ByteArray) ++ ⟨b.toArray⟩ with
  | mk d => rw [hx] at h; exact congrArg ByteArray.mk h
theorem printB_L (b : Int) : printB b = ⟨(printL b).toArray⟩ := by
  unfold printB printL
  by_cases hn : b = 2147483647
  · rw [if_pos hn, if_pos hn]
  · rw [if_neg hn, if_neg hn]
    by_cases h : someB b = true
    · rw [if_pos h, if_pos h]
      by_cases e : b % 2 = 1
      · rw [if_pos e, if_pos e]; exact bytes_app [60, 61] _
      · rw [if_neg e, if_neg e]; exact bytes_app [60] _
    · rw [if_neg h, if_neg h]

/-- A package's variable holds an interface's value. -/
def Sent (name : String) (w : World) : Prop := ∃ tp p, w.var? Tryd.prog name = some #[.iface tp p]
theorem Sent.below {name : String} {w w' : World} (h : Sent name w) (hb : Below w.heap.size w w') : Sent name w' := by
  obtain ⟨tp, p, h⟩ := h
  refine ⟨tp, p, ?_⟩
  unfold World.var? at *
  cases hg : Tryd.prog.globalNamed name with
  | none => simp [hg] at h
  | some g =>
    simp only [hg, Option.bind_some] at h ⊢
    have hlt : g < w.heap.size := by
      rcases Nat.lt_or_ge g w.heap.size with h' | h'
      · exact h'
      · rw [Array.getElem?_eq_none h'] at h; simp at h
    rw [hb.block g hlt]
    exact h

/-- How Atoi ends. -/
def AtoiEnds (w : World) (l : List UInt8) (e : Ending) (w' : World) : Prop :=
  Below w.heap.size w w' ∧ ((∃ v, e = .returned (.tuple #[.int .i64 v, .nilIface]) ∧ Lib.atoiAll l = .ok v) ∨ (∃ v T N, e = .returned (.tuple #[.int .i64 v, .iface T (.pointer (some ⟨N, 0, none⟩))]) ∧ ∀ v', Lib.atoiAll l ≠ .ok v'))

set_option maxRecDepth 100000 in
set_option maxHeartbeats 1000000 in
theorem atoi_any (l : List UInt8) (hl : l.length ≤ 281474976710656) (w : World) (h1 : Sent "strconv.ErrSyntax" w) (h2 : Sent "strconv.ErrRange" w) :
    Calls Tryd.prog 41 #[.string ⟨l.toArray⟩] w (AtoiEnds w l) := by
  have hs : (⟨l.toArray⟩ : ByteArray).size ≤ 281474976710656 := by simpa [ByteArray.size] using hl
  obtain ⟨t1, p1, h1⟩ := h1
  obtain ⟨t2, p2, h2⟩ := h2
  cases h : Lib.atoiAll l with
  | ok v =>
    refine (Tryd.strconv_Atoi_ok ⟨l.toArray⟩ (by omega) v h w).mono fun e w' ⟨he, hw⟩ => ⟨?_, .inl ⟨v, he, h⟩⟩
    rcases hw with rfl | ⟨t, rfl⟩
    · exact Below.refl _ _
    · exact Lib.bytesWorld_below _ _ _
  | «syntax» =>
    refine (Tryd.strconv_Atoi_syntax_var ⟨l.toArray⟩ hs h t1 p1 w h1).mono fun e w' ⟨N, he, _, _, hb⟩ => ⟨hb, .inr ⟨_, _, N, he, fun v' e => ?_⟩⟩
    rw [h] at e; cases e
  | range =>
    refine (Tryd.strconv_Atoi_range_var ⟨l.toArray⟩ hs h t2 p2 w h2).mono fun e w' ⟨N, he, _, _, hb⟩ => ⟨hb, .inr ⟨_, _, N, he, fun v' e => ?_⟩⟩
    rw [h] at e; cases e

/-- The steps of Parse at the text of a bound. -/
theorem steps_of {b : Int} (h : someB b = true) : Lib.hasPrefix (printL b) [60] = true ∧ Lib.hasPrefix (Lib.trimPrefix (printL b) [60]) [61] = decide (b % 2 = 1) ∧ Lib.trimPrefix (Lib.trimPrefix (printL b) [60]) [61] = Lib.itoa (b / 2) := by
  obtain ⟨c, r, e, n1, n2⟩ := itoa_head (b / 2)
  have hc : ((61 : UInt8) == c) = false := beq_eq_false_iff_ne.2 (Ne.symm n1)
  rw [printL_some h, e]
  by_cases x : b % 2 = 1
  · rw [if_pos x, decide_eq_true x]
    refine ⟨rfl, rfl, rfl⟩
  · rw [if_neg x, decide_eq_false x]
    have e1 : Lib.trimPrefix ([60] ++ c :: r) [60] = c :: r := rfl
    have e2 : Lib.hasPrefix (c :: r) [61] = false := by simp [Lib.hasPrefix, List.isPrefixOf, hc]
    exact ⟨rfl, by rw [e1, e2], by rw [e1, Lib.trimPrefix, e2]; rfl⟩

/-- What Parse answers, in a world with new blocks. -/
def Parses (w : World) (s : List UInt8) (e : Ending) (w' : World) : Prop := Below w.heap.size w w' ∧ ∃ r, ParsesTo s r ∧ e = .returned (.tuple #[.int .i32 r.1, .int .i64 r.2])

theorem trim_le (s p : List UInt8) : (Lib.trimPrefix s p).length ≤ s.length := by
  unfold Lib.trimPrefix
  split
  · rw [List.length_drop]; omega
  · omega
theorem wrong_no {s : List UInt8} (h0 : s ≠ [105, 110, 102]) (h : ∀ b, someB b = true → printL b ≠ s) : ParsesTo s (0, 7) := .inr (.inr ⟨h0, h, rfl⟩)

set_option maxRecDepth 100000 in
set_option maxHeartbeats 2000000 in
theorem parse_any (s : List UInt8) (hl : s.length ≤ 140737488351232) (w : World) (ht : Tab w) (h1 : Sent "strconv.ErrSyntax" w) (h2 : Sent "strconv.ErrRange" w) :
    Calls Tryd.prog 28 #[.string ⟨s.toArray⟩] w (Parses w s) := by
  by_cases hi : s = [105, 110, 102]
  · subst hi
    clear ht h1 h2
    go_enter Tryd.func28, Tryd.ntmps28
    go_wp2
    go_ret2
    exact ⟨Below.refl _ _, (2147483647, 0), .inl ⟨rfl, rfl⟩, rfl⟩
  · have HI := Lib.hid hi
    have t0 : (s == [105, 110, 102]) = false := by simp [hi]
    have C1 := Lib.hid (fun w => Tryd.strings_CutPrefix ⟨s.toArray⟩ ⟨#[60]⟩ w)
    have C2 := Lib.hid (fun (l : List UInt8) w => Tryd.strings_CutPrefix ⟨l.toArray⟩ ⟨#[61]⟩ w)
    have HST := Lib.hid (fun b (hb : someB b = true) (e : printL b = s) => e ▸ steps_of hb)
    have HLE := Lib.hid (trim_le (Lib.trimPrefix s [60]) [61])
    have HLF := Lib.hid (trim_le s [60])
    obtain ⟨b1, hb1⟩ : ∃ x, x = Lib.hasPrefix s [60] := ⟨_, rfl⟩
    obtain ⟨l1, hl1⟩ : ∃ x, x = Lib.trimPrefix s [60] := ⟨_, rfl⟩
    rw [show (⟨s.toArray⟩ : ByteArray).data.toList = s from rfl, show (⟨#[60]⟩ : ByteArray).data.toList = [60] from rfl, ← hb1, ← hl1] at C1
    rw [← hl1] at HST HLE HLF
    rw [← hb1] at HST
    have C2 := Lib.hid (C2.out l1)
    obtain ⟨b2, hb2⟩ : ∃ x, x = Lib.hasPrefix l1 [61] := ⟨_, rfl⟩
    obtain ⟨l2, hl2⟩ : ∃ x, x = Lib.trimPrefix l1 [61] := ⟨_, rfl⟩
    rw [show (⟨l1.toArray⟩ : ByteArray).data.toList = l1 from rfl, show (⟨#[61]⟩ : ByteArray).data.toList = [61] from rfl, ← hb2, ← hl2] at C2
    rw [← hl2] at HST HLE
    rw [← hb2] at HST
    have HA := Lib.hid (fun w h1 h2 => atoi_any l2 (by have := HLE.out; have := HLF.out; omega) w h1 h2)
    have HT := Lib.hid ht
    have H1 := Lib.hid h1
    have H2 := Lib.hid h2
    clear ht h1 h2 hi hb1 hl1 hb2 hl2 HLE HLF
    go_enter Tryd.func28, Tryd.ntmps28
    go_wp2_with fail
    refine (C1.out _).mono ?_
    rintro e w1 ⟨rfl, hw⟩
    rw [hw]
    clear hw
    go_wp2_with fail
    refine (C2.out _).mono ?_
    rintro e w1 ⟨rfl, hw⟩
    rw [hw]
    clear hw
    go_wp2_with fail
    refine (HA.out _ H1.out H2.out).mono ?_
    rintro e w2 ⟨hb, hend⟩
    have HB := Lib.hid hb
    have HT2 := Lib.hid (HT.out.below hb)
    clear hb HT H1 H2 C1 C2
    rcases hend with ⟨v, rfl, hv⟩ | ⟨v, T, N, rfl, hv⟩
    · have HV := Lib.hid hv
      clear hv
      go_wp2_with fail
      obtain ⟨r, hr⟩ : ∃ r, r = ofB v b2 := ⟨_, rfl⟩
      have HR := Lib.hid hr
      have HM := Lib.hid (fun w => made_any v b2 w)
      rw [← hr] at HM
      clear hr
      obtain ⟨x, e0⟩ := r
      refine (HM.out _).mono ?_
      rintro e w3 ⟨rfl, rfl⟩
      have hno : ∀ b, someB b = true → printL b = s → b1 = true ∧ x = b ∧ e0 = 0 := fun b hb e => by
        obtain ⟨k1, k2, k3⟩ := HST.out b hb e
        have hd := some_parts hb
        have hbd := rightB_bd hd.1 hd.2
        have e1 := HV.out
        rw [k3, atoiAll_itoa _ (by omega) (by omega)] at e1
        have e2 : b / 2 = v := by injection e1
        have e3 := HR.out
        rw [k2, ← e2, made_back hb] at e3
        simp only [Prod.mk.injEq] at e3
        exact ⟨k1, e3.1, e3.2⟩
      have HNO := Lib.hid hno
      clear hno
      cases b1 with
      | false =>
        go_wp2
        go_ret2
        exact ⟨HB.out, (0, 7), wrong_no HI.out (fun b hb e => by have := (HNO.out b hb e).1; cases this), rfl⟩
      | true =>
        by_cases h0 : e0 = 0
        · subst h0
          go_wp2_with fail
          refine (print_any x _ HT2.out).mono ?_
          rw [printB_L]
          rintro e w4 ⟨rfl, hb⟩
          have HB4 := Lib.hid (HB.out.trans (hb.mono HB.out.size))
          clear hb
          have hs := made_some (v := v) (r := b2) (by rw [← HR.out])
          rw [← HR.out] at hs
          have HS := Lib.hid (show someB x = true from hs)
          clear hs
          by_cases hp : printL x = s
          · have t1 : (printL x == s) = true := by simp [hp]
            have HP := Lib.hid hp
            clear hp
            go_wp2
            go_ret2
            exact ⟨HB4.out, (x, 0), .inr (.inl ⟨x, HS.out, HP.out, rfl⟩), rfl⟩
          · have t1 : (printL x == s) = false := by simp [hp]
            have HP := Lib.hid hp
            clear hp
            go_wp2
            go_ret2
            exact ⟨HB4.out, (0, 7), wrong_no HI.out (fun b hb e => by have := (HNO.out b hb e).2.1; exact HP.out (this ▸ e)), rfl⟩
        · have t1 : (e0 != 0) = true := by simp [h0]
          have H0 := Lib.hid h0
          clear h0
          go_wp2
          go_ret2
          exact ⟨HB.out, (0, 7), wrong_no HI.out (fun b hb e => H0.out (HNO.out b hb e).2.2), rfl⟩
    · have hno : ∀ b, someB b = true → printL b ≠ s := fun b hb e => by
        obtain ⟨k1, k2, k3⟩ := HST.out b hb e
        have hd := some_parts hb
        have hbd := rightB_bd hd.1 hd.2
        exact hv (b / 2) (by rw [k3]; exact atoiAll_itoa _ (by omega) (by omega))
      have HNO := Lib.hid hno
      clear hno hv
      go_wp2_with fail
      obtain ⟨r, hr⟩ : ∃ r, r = ofB v b2 := ⟨_, rfl⟩
      have HM := Lib.hid (fun w => made_any v b2 w)
      rw [← hr] at HM
      clear hr
      obtain ⟨x, e0⟩ := r
      refine (HM.out _).mono ?_
      rintro e w3 ⟨rfl, rfl⟩
      cases b1 with
      | false =>
        go_wp2
        go_ret2
        exact ⟨HB.out, (0, 7), wrong_no HI.out HNO.out, rfl⟩
      | true =>
        go_wp2
        go_ret2
        exact ⟨HB.out, (0, 7), wrong_no HI.out HNO.out, rfl⟩

end Go.Proofs.YtdeblempnmklfaaDoor
