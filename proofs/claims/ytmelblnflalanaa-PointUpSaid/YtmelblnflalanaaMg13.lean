/- Texts of ours, laid together: Jp, Jm, Jn, Jo. -/
import Derived.Test.YtmelblnflalanaaMg12
/- A span made smaller, as point does it. -/
namespace Go.Proofs.Ytmelblnflalanaa
open Go Go.RowKit
set_option linter.unusedVariables false
set_option linter.unusedSimpArgs false

/-- The cells of a span. -/
def spanCs (s : SpanP) : Array Value := #[.int .i64 s.lo.1, .int .i64 s.lo.2, .int .i64 s.hi.1, .int .i64 s.hi.2, .bool s.loIn, .bool s.hiIn, .bool s.ever]
def Span64 (s : SpanP) : Prop := (I64 s.lo.1 ∧ I64 s.lo.2) ∧ I64 s.hi.1 ∧ I64 s.hi.2
/-- What narrow leaves. -/
def NarEnds (w0 : World) (g : Nat) (s : SpanP) (o : Option SpanP) (e : Ending) (w' : World) : Prop := match o with
  | some t => e = .returned (.bool true) ∧ Blx w0 [(g, spanCs t, 40)] w'
  | none => e = .returned (.bool false) ∧ Blx w0 [(g, spanCs s, 40)] w'
theorem even_dec {b : Int} : (b % 2 = 0) = (decide (b % 2 = 1) = false) := by
  refine propext ?_
  rw [decide_eq_false_iff_not]; omega

def tbNrA (gx : Nat) (x1 x2 q d1 d2 de : Int) : List (Nat × Nat × Value) :=
  [(0, 27, .int .i64 q), (1, 28, .agg #[.int .i64 q, .int .i64 1]), (2, 29, .agg #[.int .i64 x1, .int .i64 x2]), (3, 30, .tuple #[.agg #[.int .i64 d1, .int .i64 d2], .int .i64 de]), (4, 26, .tuple #[.agg #[.int .i64 d1, .int .i64 d2], .int .i64 de]), (5, 31, .agg #[.int .i64 d1, .int .i64 d2]), (6, 32, .int .i64 de), (9, 13, .int .i64 de)]
def bsNrA (gx : Nat) (x1 x2 q d1 d2 de : Int) : List (Nat × Value) := [(5, .pointer (some ⟨gx, 0, none⟩)), (9, .int .i64 q)]
def bkNrA (gx : Nat) (x1 x2 q d1 d2 de : Int) : List BlkR := [⟨7, 12, 8, #[.int .i64 0, .int .i64 0], #[.int .i64 d1, .int .i64 d2], 25⟩]

def tbNcA (g gd : Nat) (d1 d2 h1 h2 c : Int) : List (Nat × Nat × Value) :=
  [(0, 36, .agg #[.int .i64 d1, .int .i64 d2]), (1, 37, .pointer (some ⟨g, 0, none⟩)), (2, 38, .pointer (some ⟨g, 0, none⟩)), (3, 39, .pointer (some ⟨g, 2, none⟩)), (4, 40, .agg #[.int .i64 h1, .int .i64 h2]), (5, 41, .int .i64 c), (6, 14, .int .i64 c)]
def bsNcA (g gd : Nat) (d1 d2 h1 h2 c : Int) : List (Nat × Value) := [(0, .pointer (some ⟨g, 0, none⟩)), (12, .pointer (some ⟨gd, 0, none⟩))]

set_option maxRecDepth 100000 in
set_option maxHeartbeats 8000000 in
theorem narrow_above (w0 w : World) (g : Nat) (s : SpanP) (x1 x2 b : Int) (hx1 : I64 x1) (hx2 : I64 x2) (hs : Span64 s) (hb : rightB b = true) (hn : b ≠ 2147483647) (K : Blx w0 [(g, spanCs s, 40)] w) :
    Calls Try.prog 40 #[.pointer (some ⟨g, 0, none⟩), .agg #[.int .i64 x1, .int .i64 x2], .int .i32 b, .bool true] w (NarEnds w0 g s (narrowP s (x1, x2) b true)) := by
  obtain ⟨⟨a1, a2⟩, ⟨h1, h2⟩, li, hi, ev⟩ := s
  obtain ⟨⟨s1, s2⟩, s3, s4⟩ := hs
  have K := Lib.hid (K.new #[.int .i64 x1, .int .i64 x2] 25)
  have hso : someB b = true := by unfold someB; rw [hb]; simp [hn]
  have HV := Lib.hid (fun W => value_yes b W hso)
  have hbd := rightB_bd hb hn
  have HN : narrowP ⟨(a1, a2), (h1, h2), li, hi, ev⟩ (x1, x2) b true = if (subP (b / 2, 1) (x1, x2)).2 = 0 then (if ev = true ∨ cmpP (subP (b / 2, 1) (x1, x2)).1 (h1, h2) < 0 ∨ (cmpP (subP (b / 2, 1) (x1, x2)).1 (h1, h2) = 0 ∧ decide (b % 2 = 1) = false) then some ⟨(a1, a2), (subP (b / 2, 1) (x1, x2)).1, li, decide (b % 2 = 1), false⟩ else some ⟨(a1, a2), (h1, h2), li, hi, ev⟩) else none := by
    unfold narrowP
    simp only [if_true, even_dec]


  have q64 : I64 (b / 2) := by unfold I64; omega
  have one64 : I64 1 := by unfold I64; omega
  have HOF := Lib.hid (fun W => rof2_any (b / 2) W)
  have HSB := Lib.hid (fun W => sub_any (b / 2) 1 x1 x2 q64 one64 hx1 hx2 W)
  have D64 := subP64 (b / 2, 1) (x1, x2)
  obtain ⟨D, hD⟩ : ∃ D, D = subP (b / 2, 1) (x1, x2) := ⟨_, rfl⟩
  rw [← hD] at HSB D64 HN
  obtain ⟨⟨d1, d2⟩, de⟩ := D
  unfold rtV at HSB
  have HCM := Lib.hid (fun W => compare_any d1 d2 h1 h2 D64.1 D64.2 s3 s4 W)
  obtain ⟨c, hc⟩ : ∃ c, c = cmpP (d1, d2) (h1, h2) := ⟨_, rfl⟩
  simp only at HN
  rw [← hc] at HCM HN
  obtain ⟨n, hnn⟩ : ∃ n, n = b / 2 := ⟨_, rfl⟩
  obtain ⟨rc, hrc⟩ : ∃ rc, rc = decide (b % 2 = 1) := ⟨_, rfl⟩
  rw [← hnn] at HV HOF HSB
  rw [← hrc] at HV HN
  obtain ⟨s, hs⟩ : ∃ s : SpanP, s = ⟨(a1, a2), (h1, h2), li, hi, ev⟩ := ⟨_, rfl⟩
  rw [← hs] at HN ⊢
  have HS := Lib.hid hs
  replace HN := Lib.hid HN
  clear hs hc hD hx1 hx2 hb hn hso hbd s1 s2 s3 s4 D64 one64 q64 hrc hnn
  go_enter Try.func40, Try.ntmps40
  go_upto_block 0 with fail
  generalize w.alloc (.cells #[.int .i64 x1, .int .i64 x2] 25) = wa at *
  generalize w.heap.size = gx at *
  simp only [List.cons_append, List.nil_append] at K
  go_wp2_with fail
  refine (HV.out _).mono ?_
  rintro e w' ⟨rfl, rfl⟩
  have hB0 := K.out.below.size
  have hlB := K.out.after
  go_upto_region 4 with fail

  refine wp_region_tab (by kernel_rfl) [5, 9, 27, 28, 29, 30, 26, 31, 32, 12, 13] [[], [0], [], [1, 2], [3], [4], [4], [], [0, 1, 2, 3, 4, 5, 7], [0, 1, 2, 3, 4, 5, 6, 7, 8]]
    (fun L vals wx => Blx w0 [(g, spanCs ⟨(a1, a2), (h1, h2), li, hi, ev⟩, 40), (gx, #[.int .i64 x1, .int .i64 x2], 25)] wx ∧ TabR (tbNrA gx x1 x2 n d1 d2 de) (bsNrA gx x1 x2 n d1 d2 de) L vals ∧ BlksR (bkNrA gx x1 x2 n d1 d2 de) wa.heap.size L vals wx) (by kernel_rfl) rfl ?_ ?_ ?_
  · exact ⟨K.out.drew, TabR.start (by simp [bsNrA]), BlksR.start _ (Nat.le_refl _)⟩
  · intro i hi a L vals wx E hJ hLi hn K hK hK0
    obtain ⟨hI, hT, hB⟩ := hJ
    match i, hi with
    | 0, _ => exact op_moveG rfl rfl rfl rfl ((E 9 (by decide)).trans (hT.rd 1 rfl)) (hK 27 _ _ (by decide) ⟨hI, hT.set 0 rfl (by kernel_rfl) (by kernel_rfl), hB.keep (Below.refl _ _) (by simp [bkNrA])⟩)
    | 1, _ =>
      have e1 := (E 27 (by decide)).trans (hT.val 0 rfl (hn 0 (by decide)))
      exact op_goG rfl rfl rfl rfl Try.func15 (by kernel_rfl) rfl (by simp only [List.map_toArray, List.map_cons, List.map_nil, e1]) (HOF.out _) (fun w' hb => hK 28 _ _ (by decide) ⟨hI.step hb, hT.set 1 rfl (by kernel_rfl) (by kernel_rfl), hB.keep hb (by simp [bkNrA])⟩)
    | 2, _ => exact op_loadG rfl rfl rfl rfl Try.underlying25 rfl (by kernel_rfl) ((E 5 (by decide)).trans (hT.rd 0 rfl)) (hI.l (gx, #[.int .i64 x1, .int .i64 x2], 25) (by simp)) (hK 29 _ _ (by decide) ⟨hI, hT.set 2 rfl (by kernel_rfl) (by kernel_rfl), hB.keep (Below.refl _ _) (by simp [bkNrA])⟩)
    | 3, _ =>
      have e1 := (E 28 (by decide)).trans (hT.val 1 rfl (hn 1 (by decide)))
      have e2 := (E 29 (by decide)).trans (hT.val 2 rfl (hn 2 (by decide)))
      exact op_goG rfl rfl rfl rfl Try.func63 (by kernel_rfl) rfl (by simp only [List.map_toArray, List.map_cons, List.map_nil, e1, e2]) (HSB.out _) (fun w' hb => hK 30 _ _ (by decide) ⟨hI.step hb, hT.set 3 rfl (by kernel_rfl) (by kernel_rfl), hB.keep hb (by simp [bkNrA])⟩)
    | 4, _ => exact op_moveG rfl rfl rfl rfl ((E 30 (by decide)).trans (hT.val 3 rfl (hn 3 (by decide)))) (hK 26 _ _ (by decide) ⟨hI, hT.set 4 rfl (by kernel_rfl) (by kernel_rfl), hB.keep (Below.refl _ _) (by simp [bkNrA])⟩)
    | 5, _ =>
      have e1 := (E 26 (by decide)).trans (hT.val 4 rfl (hn 4 (by decide)))
      refine op_valueG (w' := wx) (v := .agg #[.int .i64 d1, .int .i64 d2]) rfl rfl rfl ?_ (hK 31 _ _ (by decide) ⟨hI, hT.set 5 rfl (by kernel_rfl) (by kernel_rfl), hB.keep (Below.refl _ _) (by simp [bkNrA])⟩)
      clear hK hK0 hT E hB
      revert e1
      generalize a.eval = ρ
      intro e1
      go_simp
    | 6, _ =>
      have e1 := (E 26 (by decide)).trans (hT.val 4 rfl (hn 4 (by decide)))
      refine op_valueG (w' := wx) (v := .int .i64 de) rfl rfl rfl ?_ (hK 32 _ _ (by decide) ⟨hI, hT.set 6 rfl (by kernel_rfl) (by kernel_rfl), hB.keep (Below.refl _ _) (by simp [bkNrA])⟩)
      clear hK hK0 hT E hB
      revert e1
      generalize a.eval = ρ
      intro e1
      go_simp
    | 7, _ =>
      refine op_valueG (w' := wx.alloc (.cells #[.int .i64 0, .int .i64 0] 25)) (v := .pointer (some ⟨wx.heap.size, 0, none⟩)) rfl rfl rfl ?_ (hK 12 _ _ (by decide) ⟨hI.step (below_one _ _), hT.put (by simp [tbNrA]) (by simp [bsNrA]), hB.new 0 rfl hLi (by simp [bkNrA]) (by simp [bkNrA])⟩)
      clear hK hK0 hT hB E
      go_simp
    | 8, _ =>
      obtain ⟨ga, e1, e2, e3⟩ := hB.blk 0 rfl (hn 7 (by decide))
      rw [if_neg (by rw [hLi]; decide)] at e3
      exact op_store (old := #[.int .i64 0, .int .i64 0]) (cs := #[.int .i64 d1, .int .i64 d2]) rfl rfl rfl rfl (by kernel_rfl) rfl (by kernel_rfl) ((E 12 (by decide)).trans e1) ((E 31 (by decide)).trans (hT.val 5 rfl (hn 5 (by decide)))) e3
        (hK0 _ ⟨hI.own hB0 hlB e2 _, hT.skip (by simp [tbNrA]), hB.st 0 rfl (hn 7 (by decide)) (by simp [bkNrA]) (by simp [bkNrA]) (by simp [bkNrA]) e1⟩)
    | 9, _ => exact op_assignG rfl rfl rfl rfl ((E 32 (by decide)).trans (hT.val 6 rfl (hn 6 (by decide)))) (hK 13 _ _ (by decide) ⟨hI, hT.set 7 rfl (by kernel_rfl) (by kernel_rfl), hB.keep (Below.refl _ _) (by simp [bkNrA])⟩)
    | k + 10, h => exact absurd (show k + 10 < 10 from h) (by omega)
  · intro L vals wx hJ hall
    obtain ⟨hI, hT, hB⟩ := hJ
    have HI := Lib.hid hI
    have v5 : vals 5 = .pointer (some ⟨gx, 0, none⟩) := hT.rd 0 rfl
    have v9 : vals 9 = .int .i64 n := hT.rd 1 rfl
    have v13 : vals 13 = .int .i64 de := hT.val 7 rfl (hall 9 (by decide))
    obtain ⟨gn0, m0, n0, r0⟩ := hB.blk 0 rfl (hall 7 (by decide))
    rw [if_pos (hall 8 (by decide))] at r0
    have v12 : vals 12 = .pointer (some ⟨gn0, 0, none⟩) := m0
    simp only [overA, Act.put, List.setIfInBounds_toArray, List.set_cons_zero, List.set_cons_succ]
    rw [v5, v9, v13, v12]
    clear hI hT hall v5 v9 v13 v12 hB
    replace K := Lib.hid (HI.out.with (fun t ht => Nat.lt_of_lt_of_le (hlB t ht) n0) (Nat.le_trans hB0 n0) r0)
    clear HI hB0 hlB n0 r0 m0 HOF HSB HV
    generalize gn0 = gd at *
    generalize wx = wb at *
    simp only [List.cons_append, List.nil_append] at K
    by_cases hde : de = 0
    · subst hde
      have HN := Lib.hid (HN.out.trans (if_pos rfl))
      go_upto_region 8 with fail

      refine wp_region_tab (by kernel_rfl) [0, 12, 36, 37, 38, 39, 40, 41, 14] [[], [], [1], [2], [3], [0, 4], [0, 1, 2, 3, 4, 5]]
        (fun L vals wx => Blx w0 [(g, spanCs ⟨(a1, a2), (h1, h2), li, hi, ev⟩, 40), (gx, #[.int .i64 x1, .int .i64 x2], 25), (gd, #[.int .i64 d1, .int .i64 d2], 25)] wx ∧ TabR (tbNcA g gd d1 d2 h1 h2 c) (bsNcA g gd d1 d2 h1 h2 c) L vals) (by kernel_rfl) rfl ?_ ?_ ?_
      · exact ⟨K.out.drew, TabR.start (by simp [bsNcA])⟩
      · intro i hi a L vals wx E hJ hLi hn K hK hK0
        obtain ⟨hI, hT⟩ := hJ
        match i, hi with
        | 0, _ => exact op_loadG rfl rfl rfl rfl Try.underlying25 rfl (by kernel_rfl) ((E 12 (by decide)).trans (hT.rd 1 rfl)) (hI.l (gd, #[.int .i64 d1, .int .i64 d2], 25) (by simp)) (hK 36 _ _ (by decide) ⟨hI, hT.set 0 rfl (by kernel_rfl) (by kernel_rfl)⟩)
        | 1, _ => exact op_moveG rfl rfl rfl rfl ((E 0 (by decide)).trans (hT.rd 0 rfl)) (hK 37 _ _ (by decide) ⟨hI, hT.set 1 rfl (by kernel_rfl) (by kernel_rfl)⟩)
        | 2, _ =>
          have e1 := (E 37 (by decide)).trans (hT.val 1 rfl (hn 1 (by decide)))
          refine op_valueG (w' := wx) (v := .pointer (some ⟨g, 0, none⟩)) rfl rfl rfl ?_ (hK 38 _ _ (by decide) ⟨hI, hT.set 2 rfl (by kernel_rfl) (by kernel_rfl)⟩)
          clear hK hK0 hT E
          revert e1
          generalize a.eval = ρ
          intro e1
          go_simp
        | 3, _ =>
          have e1 := (E 38 (by decide)).trans (hT.val 2 rfl (hn 2 (by decide)))
          refine op_valueG (w' := wx) (v := .pointer (some ⟨g, 2, none⟩)) rfl rfl rfl ?_ (hK 39 _ _ (by decide) ⟨hI, hT.set 3 rfl (by kernel_rfl) (by kernel_rfl)⟩)
          clear hK hK0 hT E
          revert e1
          generalize a.eval = ρ
          intro e1
          go_simp
        | 4, _ =>
          have e1 := (E 39 (by decide)).trans (hT.val 3 rfl (hn 3 (by decide)))
          have d1' := (hI.cell 0 rfl 2 (v := .int .i64 h1) rfl).1
          have d2' := (hI.cell 0 rfl 3 (v := .int .i64 h2) rfl).1
          refine op_valueG (w' := wx) (v := .agg #[.int .i64 h1, .int .i64 h2]) rfl rfl rfl ?_ (hK 40 _ _ (by decide) ⟨hI, hT.set 4 rfl (by kernel_rfl) (by kernel_rfl)⟩)
          clear hK hK0 hT E
          revert e1
          generalize a.eval = ρ
          intro e1
          go_simp
        | 5, _ =>
          have e1 := (E 36 (by decide)).trans (hT.val 0 rfl (hn 0 (by decide)))
          have e2 := (E 40 (by decide)).trans (hT.val 4 rfl (hn 4 (by decide)))
          exact op_goG rfl rfl rfl rfl Try.func41 (by kernel_rfl) rfl (by simp only [List.map_toArray, List.map_cons, List.map_nil, e1, e2]) (HCM.out _) (fun w' hb => hK 41 _ _ (by decide) ⟨hI.step hb, hT.set 5 rfl (by kernel_rfl) (by kernel_rfl)⟩)
        | 6, _ => exact op_assignG rfl rfl rfl rfl ((E 41 (by decide)).trans (hT.val 5 rfl (hn 5 (by decide)))) (hK 14 _ _ (by decide) ⟨hI, hT.set 6 rfl (by kernel_rfl) (by kernel_rfl)⟩)
        | k + 7, h => exact absurd (show k + 7 < 7 from h) (by omega)
      · intro L vals wx hJ hall
        obtain ⟨hI, hT⟩ := hJ
        have HI := Lib.hid hI
        have v0 : vals 0 = .pointer (some ⟨g, 0, none⟩) := hT.rd 0 rfl
        have v12 : vals 12 = .pointer (some ⟨gd, 0, none⟩) := hT.rd 1 rfl
        have v14 : vals 14 = .int .i64 c := hT.val 6 rfl (hall 6 (by decide))
        simp only [overA, Act.put, List.setIfInBounds_toArray, List.set_cons_zero, List.set_cons_succ]
        rw [v0, v12, v14]
        clear hI hT hall v0 v12 v14
        replace K := HI
        clear HI HCM
        generalize wx = wc at *
        obtain ⟨k1, k2, _, _⟩ := K.out.cells2 2 rfl
        obtain ⟨c2', f2⟩ := K.out.cell 0 rfl 2 (v := .int .i64 h1) rfl
        obtain ⟨c3', f3⟩ := K.out.cell 0 rfl 3 (v := .int .i64 h2) rfl
        obtain ⟨c5', f5⟩ := K.out.cell 0 rfl 5 (v := .bool hi) rfl
        obtain ⟨c6', f6⟩ := K.out.cell 0 rfl 6 (v := .bool ev) rfl
        have KN := Lib.hid (((((K.out.set 0 rfl 2 (.int .i64 d1)).set 0 rfl 3 (.int .i64 d2)).set 0 rfl 5 (.bool rc)).set 0 rfl 6 (.bool false)).front (L := [(g, spanCs ⟨(a1, a2), (d1, d2), li, rc, false⟩, 40)]) (M := [(gx, #[.int .i64 x1, .int .i64 x2], 25), (gd, #[.int .i64 d1, .int .i64 d2], 25)]))
        replace K := Lib.hid (K.out.front (L := [(g, spanCs ⟨(a1, a2), (h1, h2), li, hi, ev⟩, 40)]) (M := [(gx, #[.int .i64 x1, .int .i64 x2], 25), (gd, #[.int .i64 d1, .int .i64 d2], 25)]))
        by_cases hq : ev = true ∨ c < 0 ∨ (c = 0 ∧ rc = false)
        · have HN := Lib.hid (HN.out.trans (if_pos hq))
          have fin : ∀ (e : Ending) (w' : World), e = .returned (.bool true) ∧ Blx w0 [(g, spanCs ⟨(a1, a2), (d1, d2), li, rc, false⟩, 40)] w' → NarEnds w0 g s (narrowP s (x1, x2) b true) e w' := fun e w' h => by
            rw [HN.out]; exact h
          clear HN
          by_cases q1 : ev = true
          · subst q1
            go_wp2
            go_ret
            exact fin _ _ ⟨rfl, KN.out⟩
          · have q1 : ev = false := by simpa using q1
            subst q1
            by_cases q2 : c < 0
            · have e1 : decide (c < 0) = true := decide_eq_true q2
              go_wp2
              go_ret
              exact fin _ _ ⟨rfl, KN.out⟩
            · have e1 : decide (c < 0) = false := decide_eq_false q2
              have q3 : c = 0 ∧ rc = false := by simpa [q2] using hq
              obtain ⟨q3, q4⟩ := q3
              subst q3; subst q4
              clear hq q2
              go_wp2
              go_ret
              exact fin _ _ ⟨rfl, KN.out⟩
        · have HN3 := Lib.hid (HN.out.trans (if_neg hq))
          have q1 : ev = false := by cases ev with
            | false => rfl
            | true => exact absurd (.inl rfl) hq
          subst q1
          have q2 : ¬ c < 0 := fun h => hq (.inr (.inl h))
          have e1 : decide (c < 0) = false := decide_eq_false q2
          have fin : ∀ (e : Ending) (w' : World), e = .returned (.bool true) ∧ Blx w0 [(g, spanCs ⟨(a1, a2), (h1, h2), li, hi, false⟩, 40)] w' → NarEnds w0 g s (narrowP s (x1, x2) b true) e w' := fun e w' h => by
            rw [HN3.out, HS.out]; exact h
          clear HN HN3
          by_cases q3 : c = 0
          · subst q3
            have q4 : rc = true := by cases rc with
              | true => rfl
              | false => exact absurd (.inr (.inr ⟨rfl, rfl⟩)) hq
            subst q4
            clear hq q2
            go_wp2
            go_ret
            exact fin _ _ ⟨rfl, K.out⟩
          · have e2 : (c == 0) = false := by simp [q3]
            clear hq q2 q3
            go_wp2
            go_ret
            exact fin _ _ ⟨rfl, K.out⟩

    · have hde2 : (de == 0) = false := by simp [hde]
      have HN := Lib.hid (HN.out.trans (if_neg hde))
      have K := Lib.hid (K.out.front (L := [(g, spanCs ⟨(a1, a2), (h1, h2), li, hi, ev⟩, 40)]) (M := [(gx, #[.int .i64 x1, .int .i64 x2], 25), (gd, #[.int .i64 d1, .int .i64 d2], 25)]))
      go_wp2
      go_ret
      rw [HN.out, HS.out]
      exact ⟨rfl, K.out⟩

def tbNrB (gx : Nat) (x1 x2 q d1 d2 de : Int) : List (Nat × Nat × Value) :=
  [(0, 27, .int .i64 q), (1, 28, .agg #[.int .i64 q, .int .i64 1]), (2, 29, .agg #[.int .i64 x1, .int .i64 x2]), (3, 30, .tuple #[.agg #[.int .i64 d1, .int .i64 d2], .int .i64 de]), (4, 26, .tuple #[.agg #[.int .i64 d1, .int .i64 d2], .int .i64 de]), (5, 31, .agg #[.int .i64 d1, .int .i64 d2]), (6, 32, .int .i64 de), (9, 13, .int .i64 de)]
def bsNrB (gx : Nat) (x1 x2 q d1 d2 de : Int) : List (Nat × Value) := [(5, .pointer (some ⟨gx, 0, none⟩)), (9, .int .i64 q)]
def bkNrB (gx : Nat) (x1 x2 q d1 d2 de : Int) : List BlkR := [⟨7, 12, 8, #[.int .i64 0, .int .i64 0], #[.int .i64 d1, .int .i64 d2], 25⟩]

def tbNcB (g gd : Nat) (d1 d2 a1 a2 c : Int) : List (Nat × Nat × Value) :=
  [(0, 69, .agg #[.int .i64 d1, .int .i64 d2]), (1, 70, .pointer (some ⟨g, 0, none⟩)), (2, 71, .pointer (some ⟨g, 0, none⟩)), (3, 72, .pointer (some ⟨g, 0, none⟩)), (4, 73, .agg #[.int .i64 a1, .int .i64 a2]), (5, 74, .int .i64 c), (6, 15, .int .i64 c)]
def bsNcB (g gd : Nat) (d1 d2 a1 a2 c : Int) : List (Nat × Value) := [(0, .pointer (some ⟨g, 0, none⟩)), (12, .pointer (some ⟨gd, 0, none⟩))]

set_option maxRecDepth 100000 in
set_option maxHeartbeats 8000000 in
theorem narrow_below (w0 w : World) (g : Nat) (s : SpanP) (x1 x2 b : Int) (hx1 : I64 x1) (hx2 : I64 x2) (hs : Span64 s) (hb : rightB b = true) (hn : b ≠ 2147483647) (K : Blx w0 [(g, spanCs s, 40)] w) :
    Calls Try.prog 40 #[.pointer (some ⟨g, 0, none⟩), .agg #[.int .i64 x1, .int .i64 x2], .int .i32 b, .bool false] w (NarEnds w0 g s (narrowP s (x1, x2) b false)) := by
  obtain ⟨⟨a1, a2⟩, ⟨h1, h2⟩, li, hi, ev⟩ := s
  obtain ⟨⟨s1, s2⟩, s3, s4⟩ := hs
  have K := Lib.hid (K.new #[.int .i64 x1, .int .i64 x2] 25)
  have hso : someB b = true := by unfold someB; rw [hb]; simp [hn]
  have HV := Lib.hid (fun W => value_yes b W hso)
  have hbd := rightB_bd hb hn
  have HN : narrowP ⟨(a1, a2), (h1, h2), li, hi, ev⟩ (x1, x2) b false = if (subP (-(b / 2), 1) (x1, x2)).2 = 0 then (if 0 < cmpP (subP (-(b / 2), 1) (x1, x2)).1 (a1, a2) ∨ (cmpP (subP (-(b / 2), 1) (x1, x2)).1 (a1, a2) = 0 ∧ decide (b % 2 = 1) = false) then some ⟨(subP (-(b / 2), 1) (x1, x2)).1, (h1, h2), decide (b % 2 = 1), hi, ev⟩ else some ⟨(a1, a2), (h1, h2), li, hi, ev⟩) else none := by
    unfold narrowP
    simp only [Bool.false_eq_true, if_false, even_dec]


  have q64 : I64 (-(b / 2)) := by unfold I64; omega
  have one64 : I64 1 := by unfold I64; omega
  have HOF := Lib.hid (fun W => rof2_any (-(b / 2)) W)
  have HSB := Lib.hid (fun W => sub_any (-(b / 2)) 1 x1 x2 q64 one64 hx1 hx2 W)
  have D64 := subP64 (-(b / 2), 1) (x1, x2)
  obtain ⟨D, hD⟩ : ∃ D, D = subP (-(b / 2), 1) (x1, x2) := ⟨_, rfl⟩
  rw [← hD] at HSB D64 HN
  obtain ⟨⟨d1, d2⟩, de⟩ := D
  unfold rtV at HSB
  have HCM := Lib.hid (fun W => compare_any d1 d2 a1 a2 D64.1 D64.2 s1 s2 W)
  obtain ⟨c, hc⟩ : ∃ c, c = cmpP (d1, d2) (a1, a2) := ⟨_, rfl⟩
  simp only at HN
  rw [← hc] at HCM HN
  obtain ⟨n, hnn⟩ : ∃ n, n = b / 2 := ⟨_, rfl⟩
  obtain ⟨rc, hrc⟩ : ∃ rc, rc = decide (b % 2 = 1) := ⟨_, rfl⟩
  rw [← hnn] at HV HOF HSB
  rw [← hrc] at HV HN
  have q3 : IntKind.i64.wrap (-n) = -n := IntWalk.i64_in _ (by omega)
  obtain ⟨s, hs⟩ : ∃ s : SpanP, s = ⟨(a1, a2), (h1, h2), li, hi, ev⟩ := ⟨_, rfl⟩
  rw [← hs] at HN ⊢
  have HS := Lib.hid hs
  replace HN := Lib.hid HN
  clear hs hc hD hx1 hx2 hb hn hso hbd s1 s2 s3 s4 D64 one64 q64 hrc hnn
  go_enter Try.func40, Try.ntmps40
  go_upto_block 0 with fail
  generalize w.alloc (.cells #[.int .i64 x1, .int .i64 x2] 25) = wa at *
  generalize w.heap.size = gx at *
  simp only [List.cons_append, List.nil_append] at K
  go_wp2_with fail
  refine (HV.out _).mono ?_
  rintro e w' ⟨rfl, rfl⟩
  have hB0 := K.out.below.size
  have hlB := K.out.after
  go_upto_region 4 with fail

  refine wp_region_tab (by kernel_rfl) [5, 9, 27, 28, 29, 30, 26, 31, 32, 12, 13] [[], [0], [], [1, 2], [3], [4], [4], [], [0, 1, 2, 3, 4, 5, 7], [0, 1, 2, 3, 4, 5, 6, 7, 8]]
    (fun L vals wx => Blx w0 [(g, spanCs ⟨(a1, a2), (h1, h2), li, hi, ev⟩, 40), (gx, #[.int .i64 x1, .int .i64 x2], 25)] wx ∧ TabR (tbNrB gx x1 x2 (-n) d1 d2 de) (bsNrB gx x1 x2 (-n) d1 d2 de) L vals ∧ BlksR (bkNrB gx x1 x2 (-n) d1 d2 de) wa.heap.size L vals wx) (by kernel_rfl) rfl ?_ ?_ ?_
  · exact ⟨K.out.drew, TabR.start (by simp [bsNrB]), BlksR.start _ (Nat.le_refl _)⟩
  · intro i hi a L vals wx E hJ hLi hn K hK hK0
    obtain ⟨hI, hT, hB⟩ := hJ
    match i, hi with
    | 0, _ => exact op_moveG rfl rfl rfl rfl ((E 9 (by decide)).trans (hT.rd 1 rfl)) (hK 27 _ _ (by decide) ⟨hI, hT.set 0 rfl (by kernel_rfl) (by kernel_rfl), hB.keep (Below.refl _ _) (by simp [bkNrB])⟩)
    | 1, _ =>
      have e1 := (E 27 (by decide)).trans (hT.val 0 rfl (hn 0 (by decide)))
      exact op_goG rfl rfl rfl rfl Try.func15 (by kernel_rfl) rfl (by simp only [List.map_toArray, List.map_cons, List.map_nil, e1]) (HOF.out _) (fun w' hb => hK 28 _ _ (by decide) ⟨hI.step hb, hT.set 1 rfl (by kernel_rfl) (by kernel_rfl), hB.keep hb (by simp [bkNrB])⟩)
    | 2, _ => exact op_loadG rfl rfl rfl rfl Try.underlying25 rfl (by kernel_rfl) ((E 5 (by decide)).trans (hT.rd 0 rfl)) (hI.l (gx, #[.int .i64 x1, .int .i64 x2], 25) (by simp)) (hK 29 _ _ (by decide) ⟨hI, hT.set 2 rfl (by kernel_rfl) (by kernel_rfl), hB.keep (Below.refl _ _) (by simp [bkNrB])⟩)
    | 3, _ =>
      have e1 := (E 28 (by decide)).trans (hT.val 1 rfl (hn 1 (by decide)))
      have e2 := (E 29 (by decide)).trans (hT.val 2 rfl (hn 2 (by decide)))
      exact op_goG rfl rfl rfl rfl Try.func63 (by kernel_rfl) rfl (by simp only [List.map_toArray, List.map_cons, List.map_nil, e1, e2]) (HSB.out _) (fun w' hb => hK 30 _ _ (by decide) ⟨hI.step hb, hT.set 3 rfl (by kernel_rfl) (by kernel_rfl), hB.keep hb (by simp [bkNrB])⟩)
    | 4, _ => exact op_moveG rfl rfl rfl rfl ((E 30 (by decide)).trans (hT.val 3 rfl (hn 3 (by decide)))) (hK 26 _ _ (by decide) ⟨hI, hT.set 4 rfl (by kernel_rfl) (by kernel_rfl), hB.keep (Below.refl _ _) (by simp [bkNrB])⟩)
    | 5, _ =>
      have e1 := (E 26 (by decide)).trans (hT.val 4 rfl (hn 4 (by decide)))
      refine op_valueG (w' := wx) (v := .agg #[.int .i64 d1, .int .i64 d2]) rfl rfl rfl ?_ (hK 31 _ _ (by decide) ⟨hI, hT.set 5 rfl (by kernel_rfl) (by kernel_rfl), hB.keep (Below.refl _ _) (by simp [bkNrB])⟩)
      clear hK hK0 hT E hB
      revert e1
      generalize a.eval = ρ
      intro e1
      go_simp
    | 6, _ =>
      have e1 := (E 26 (by decide)).trans (hT.val 4 rfl (hn 4 (by decide)))
      refine op_valueG (w' := wx) (v := .int .i64 de) rfl rfl rfl ?_ (hK 32 _ _ (by decide) ⟨hI, hT.set 6 rfl (by kernel_rfl) (by kernel_rfl), hB.keep (Below.refl _ _) (by simp [bkNrB])⟩)
      clear hK hK0 hT E hB
      revert e1
      generalize a.eval = ρ
      intro e1
      go_simp
    | 7, _ =>
      refine op_valueG (w' := wx.alloc (.cells #[.int .i64 0, .int .i64 0] 25)) (v := .pointer (some ⟨wx.heap.size, 0, none⟩)) rfl rfl rfl ?_ (hK 12 _ _ (by decide) ⟨hI.step (below_one _ _), hT.put (by simp [tbNrB]) (by simp [bsNrB]), hB.new 0 rfl hLi (by simp [bkNrB]) (by simp [bkNrB])⟩)
      clear hK hK0 hT hB E
      go_simp
    | 8, _ =>
      obtain ⟨ga, e1, e2, e3⟩ := hB.blk 0 rfl (hn 7 (by decide))
      rw [if_neg (by rw [hLi]; decide)] at e3
      exact op_store (old := #[.int .i64 0, .int .i64 0]) (cs := #[.int .i64 d1, .int .i64 d2]) rfl rfl rfl rfl (by kernel_rfl) rfl (by kernel_rfl) ((E 12 (by decide)).trans e1) ((E 31 (by decide)).trans (hT.val 5 rfl (hn 5 (by decide)))) e3
        (hK0 _ ⟨hI.own hB0 hlB e2 _, hT.skip (by simp [tbNrB]), hB.st 0 rfl (hn 7 (by decide)) (by simp [bkNrB]) (by simp [bkNrB]) (by simp [bkNrB]) e1⟩)
    | 9, _ => exact op_assignG rfl rfl rfl rfl ((E 32 (by decide)).trans (hT.val 6 rfl (hn 6 (by decide)))) (hK 13 _ _ (by decide) ⟨hI, hT.set 7 rfl (by kernel_rfl) (by kernel_rfl), hB.keep (Below.refl _ _) (by simp [bkNrB])⟩)
    | k + 10, h => exact absurd (show k + 10 < 10 from h) (by omega)
  · intro L vals wx hJ hall
    obtain ⟨hI, hT, hB⟩ := hJ
    have HI := Lib.hid hI
    have v5 : vals 5 = .pointer (some ⟨gx, 0, none⟩) := hT.rd 0 rfl
    have v9 : vals 9 = .int .i64 (-n) := hT.rd 1 rfl
    have v13 : vals 13 = .int .i64 de := hT.val 7 rfl (hall 9 (by decide))
    obtain ⟨gn0, m0, n0, r0⟩ := hB.blk 0 rfl (hall 7 (by decide))
    rw [if_pos (hall 8 (by decide))] at r0
    have v12 : vals 12 = .pointer (some ⟨gn0, 0, none⟩) := m0
    simp only [overA, Act.put, List.setIfInBounds_toArray, List.set_cons_zero, List.set_cons_succ]
    rw [v5, v9, v13, v12]
    clear hI hT hall v5 v9 v13 v12 hB
    replace K := Lib.hid (HI.out.with (fun t ht => Nat.lt_of_lt_of_le (hlB t ht) n0) (Nat.le_trans hB0 n0) r0)
    clear HI hB0 hlB n0 r0 m0 HOF HSB HV
    generalize gn0 = gd at *
    generalize wx = wb at *
    simp only [List.cons_append, List.nil_append] at K
    by_cases hde : de = 0
    · subst hde
      have HN := Lib.hid (HN.out.trans (if_pos rfl))
      go_upto_region 12 with fail

      refine wp_region_tab (by kernel_rfl) [0, 12, 69, 70, 71, 72, 73, 74, 15] [[], [], [1], [2], [3], [0, 4], [0, 1, 2, 3, 4, 5]]
        (fun L vals wx => Blx w0 [(g, spanCs ⟨(a1, a2), (h1, h2), li, hi, ev⟩, 40), (gx, #[.int .i64 x1, .int .i64 x2], 25), (gd, #[.int .i64 d1, .int .i64 d2], 25)] wx ∧ TabR (tbNcB g gd d1 d2 a1 a2 c) (bsNcB g gd d1 d2 a1 a2 c) L vals) (by kernel_rfl) rfl ?_ ?_ ?_
      · exact ⟨K.out.drew, TabR.start (by simp [bsNcB])⟩
      · intro i hi a L vals wx E hJ hLi hn K hK hK0
        obtain ⟨hI, hT⟩ := hJ
        match i, hi with
        | 0, _ => exact op_loadG rfl rfl rfl rfl Try.underlying25 rfl (by kernel_rfl) ((E 12 (by decide)).trans (hT.rd 1 rfl)) (hI.l (gd, #[.int .i64 d1, .int .i64 d2], 25) (by simp)) (hK 69 _ _ (by decide) ⟨hI, hT.set 0 rfl (by kernel_rfl) (by kernel_rfl)⟩)
        | 1, _ => exact op_moveG rfl rfl rfl rfl ((E 0 (by decide)).trans (hT.rd 0 rfl)) (hK 70 _ _ (by decide) ⟨hI, hT.set 1 rfl (by kernel_rfl) (by kernel_rfl)⟩)
        | 2, _ =>
          have e1 := (E 70 (by decide)).trans (hT.val 1 rfl (hn 1 (by decide)))
          refine op_valueG (w' := wx) (v := .pointer (some ⟨g, 0, none⟩)) rfl rfl rfl ?_ (hK 71 _ _ (by decide) ⟨hI, hT.set 2 rfl (by kernel_rfl) (by kernel_rfl)⟩)
          clear hK hK0 hT E
          revert e1
          generalize a.eval = ρ
          intro e1
          go_simp
        | 3, _ =>
          have e1 := (E 71 (by decide)).trans (hT.val 2 rfl (hn 2 (by decide)))
          refine op_valueG (w' := wx) (v := .pointer (some ⟨g, 0, none⟩)) rfl rfl rfl ?_ (hK 72 _ _ (by decide) ⟨hI, hT.set 3 rfl (by kernel_rfl) (by kernel_rfl)⟩)
          clear hK hK0 hT E
          revert e1
          generalize a.eval = ρ
          intro e1
          go_simp
        | 4, _ =>
          have e1 := (E 72 (by decide)).trans (hT.val 3 rfl (hn 3 (by decide)))
          have d1' := (hI.cell 0 rfl 0 (v := .int .i64 a1) rfl).1
          have d2' := (hI.cell 0 rfl 1 (v := .int .i64 a2) rfl).1
          refine op_valueG (w' := wx) (v := .agg #[.int .i64 a1, .int .i64 a2]) rfl rfl rfl ?_ (hK 73 _ _ (by decide) ⟨hI, hT.set 4 rfl (by kernel_rfl) (by kernel_rfl)⟩)
          clear hK hK0 hT E
          revert e1
          generalize a.eval = ρ
          intro e1
          go_simp
        | 5, _ =>
          have e1 := (E 69 (by decide)).trans (hT.val 0 rfl (hn 0 (by decide)))
          have e2 := (E 73 (by decide)).trans (hT.val 4 rfl (hn 4 (by decide)))
          exact op_goG rfl rfl rfl rfl Try.func41 (by kernel_rfl) rfl (by simp only [List.map_toArray, List.map_cons, List.map_nil, e1, e2]) (HCM.out _) (fun w' hb => hK 74 _ _ (by decide) ⟨hI.step hb, hT.set 5 rfl (by kernel_rfl) (by kernel_rfl)⟩)
        | 6, _ => exact op_assignG rfl rfl rfl rfl ((E 74 (by decide)).trans (hT.val 5 rfl (hn 5 (by decide)))) (hK 15 _ _ (by decide) ⟨hI, hT.set 6 rfl (by kernel_rfl) (by kernel_rfl)⟩)
        | k + 7, h => exact absurd (show k + 7 < 7 from h) (by omega)
      · intro L vals wx hJ hall
        obtain ⟨hI, hT⟩ := hJ
        have HI := Lib.hid hI
        have v0 : vals 0 = .pointer (some ⟨g, 0, none⟩) := hT.rd 0 rfl
        have v12 : vals 12 = .pointer (some ⟨gd, 0, none⟩) := hT.rd 1 rfl
        have v15 : vals 15 = .int .i64 c := hT.val 6 rfl (hall 6 (by decide))
        simp only [overA, Act.put, List.setIfInBounds_toArray, List.set_cons_zero, List.set_cons_succ]
        rw [v0, v12, v15]
        clear hI hT hall v0 v12 v15
        replace K := HI
        clear HI HCM
        generalize wx = wc at *
        obtain ⟨k1, k2, _, _⟩ := K.out.cells2 2 rfl
        obtain ⟨c2', f2⟩ := K.out.cell 0 rfl 0 (v := .int .i64 a1) rfl
        obtain ⟨c3', f3⟩ := K.out.cell 0 rfl 1 (v := .int .i64 a2) rfl
        obtain ⟨c5', f5⟩ := K.out.cell 0 rfl 4 (v := .bool li) rfl
        have KN := Lib.hid ((((K.out.set 0 rfl 0 (.int .i64 d1)).set 0 rfl 1 (.int .i64 d2)).set 0 rfl 4 (.bool rc)).front (L := [(g, spanCs ⟨(d1, d2), (h1, h2), rc, hi, ev⟩, 40)]) (M := [(gx, #[.int .i64 x1, .int .i64 x2], 25), (gd, #[.int .i64 d1, .int .i64 d2], 25)]))
        replace K := Lib.hid (K.out.front (L := [(g, spanCs ⟨(a1, a2), (h1, h2), li, hi, ev⟩, 40)]) (M := [(gx, #[.int .i64 x1, .int .i64 x2], 25), (gd, #[.int .i64 d1, .int .i64 d2], 25)]))
        by_cases hq : 0 < c ∨ (c = 0 ∧ rc = false)
        · have HN := Lib.hid (HN.out.trans (if_pos hq))
          have fin : ∀ (e : Ending) (w' : World), e = .returned (.bool true) ∧ Blx w0 [(g, spanCs ⟨(d1, d2), (h1, h2), rc, hi, ev⟩, 40)] w' → NarEnds w0 g s (narrowP s (x1, x2) b false) e w' := fun e w' h => by
            rw [HN.out]; exact h
          clear HN
          by_cases q2 : 0 < c
          · have e1 : decide (0 < c) = true := decide_eq_true q2
            go_wp2
            go_ret
            exact fin _ _ ⟨rfl, KN.out⟩
          · have e1 : decide (0 < c) = false := decide_eq_false q2
            have q3 : c = 0 ∧ rc = false := by simpa [q2] using hq
            obtain ⟨q3, q4⟩ := q3
            subst q3; subst q4
            clear hq q2
            go_wp2
            go_ret
            exact fin _ _ ⟨rfl, KN.out⟩
        · have HN3 := Lib.hid (HN.out.trans (if_neg hq))
          have q2 : ¬ 0 < c := fun h => hq (.inl h)
          have e1 : decide (0 < c) = false := decide_eq_false q2
          have fin : ∀ (e : Ending) (w' : World), e = .returned (.bool true) ∧ Blx w0 [(g, spanCs ⟨(a1, a2), (h1, h2), li, hi, ev⟩, 40)] w' → NarEnds w0 g s (narrowP s (x1, x2) b false) e w' := fun e w' h => by
            rw [HN3.out, HS.out]; exact h
          clear HN HN3
          by_cases q3 : c = 0
          · subst q3
            have q4 : rc = true := by cases rc with
              | true => rfl
              | false => exact absurd (.inr ⟨rfl, rfl⟩) hq
            subst q4
            clear hq q2
            go_wp2
            go_ret
            exact fin _ _ ⟨rfl, K.out⟩
          · have e2 : (c == 0) = false := by simp [q3]
            clear hq q2 q3
            go_wp2
            go_ret
            exact fin _ _ ⟨rfl, K.out⟩

    · have hde2 : (de == 0) = false := by simp [hde]
      have HN := Lib.hid (HN.out.trans (if_neg hde))
      have K := Lib.hid (K.out.front (L := [(g, spanCs ⟨(a1, a2), (h1, h2), li, hi, ev⟩, 40)]) (M := [(gx, #[.int .i64 x1, .int .i64 x2], 25), (gd, #[.int .i64 d1, .int .i64 d2], 25)]))
      go_wp2
      go_ret
      rw [HN.out, HS.out]
      exact ⟨rfl, K.out⟩


end Go.Proofs.Ytmelblnflalanaa

/- The rounds of the least valuation, cell by cell: plain. -/
namespace Go.Proofs.Ytmelblnflalanaa
set_option linter.unusedVariables false
set_option linter.unusedSimpArgs false

/-- Behind the first k cells of a round. -/
def insK (n : Nat) (g : Int) (m : Mat) (v : Nat → Int) : Nat → Nat → Int
  | 0 => v
  | k + 1 => insS g m (insK n g m v k) (k / (n + 1)) (k % (n + 1))
theorem insK_row (n : Nat) (g : Int) (m : Mat) (v : Nat → Int) : ∀ i j, j ≤ n + 1 → insK n g m v (i * (n + 1) + j) = insJ g m (insI n g m v i) i j := by
  intro i
  induction i with
  | zero =>
    intro j
    induction j with
    | zero => intro _; rw [Nat.zero_mul]; rfl
    | succ j ih =>
      intro hj
      rw [show 0 * (n + 1) + (j + 1) = (0 * (n + 1) + j) + 1 by omega]
      show insS g m (insK n g m v (0 * (n + 1) + j)) _ _ = insS g m (insJ g m (insI n g m v 0) 0 j) 0 j
      rw [ih (by omega), show 0 * (n + 1) + j = j by omega, Nat.div_eq_of_lt (by omega), Nat.mod_eq_of_lt (by omega)]
  | succ i ihi =>
    intro j
    induction j with
    | zero =>
      intro _
      have := ihi (n + 1) (Nat.le_refl _)
      rw [show (i + 1) * (n + 1) + 0 = i * (n + 1) + (n + 1) by rw [Nat.succ_mul]; omega, this]
      rfl
    | succ j ih =>
      intro hj
      rw [show (i + 1) * (n + 1) + (j + 1) = ((i + 1) * (n + 1) + j) + 1 by omega]
      show insS g m (insK n g m v ((i + 1) * (n + 1) + j)) _ _ = insS g m (insJ g m (insI n g m v (i + 1)) (i + 1) j) (i + 1) j
      rw [ih (by omega), show ((i + 1) * (n + 1) + j) / (n + 1) = i + 1 by rw [Nat.mul_comm, Nat.mul_add_div (by omega), Nat.div_eq_of_lt (by omega)], show ((i + 1) * (n + 1) + j) % (n + 1) = j by rw [Nat.mul_comm, Nat.mul_add_mod, Nat.mod_eq_of_lt (by omega)]]
theorem insK_all (n : Nat) (g : Int) (m : Mat) (v : Nat → Int) : insK n g m v ((n + 1) * (n + 1)) = insI n g m v (n + 1) := by
  have := insK_row n g m v (n + 1) 0 (by omega)
  rw [Nat.add_zero] at this
  exact this
theorem insK_ge (n : Nat) (g : Int) (m : Mat) (v : Nat → Int) (a : Nat) : ∀ k, v a ≤ insK n g m v k a
  | 0 => Int.le_refl _
  | k + 1 => Int.le_trans (insK_ge n g m v a k) (insS_ge g m _ _ _ a)
theorem insK_le {n : Nat} {g : Int} {m : Mat} {u v : Nat → Int} (hu : Sol n g m u) (hv : ∀ a, a ≤ n → v a ≤ u a) : ∀ k, k ≤ (n + 1) * (n + 1) → ∀ a, a ≤ n → insK n g m v k a ≤ u a
  | 0, _ => hv
  | k + 1, h => by
    have d1 : k / (n + 1) < n + 1 := Nat.div_lt_of_lt_mul h
    have d2 := Nat.mod_lt k (show 0 < n + 1 by omega)
    exact insS_le hu (insK_le hu hv k (by omega)) (by omega) (by omega)
theorem insS_max {g : Int} {m : Mat} {v : Nat → Int} {i j : Nat} (h : m i j ≠ none62) : insS g m v i j = fun a => if a = j then max (v j) (v i - (m i j / 2 * g - (1 - m i j % 2))) else v a := by
  unfold insS
  by_cases hc : v j < v i - (m i j / 2 * g - (1 - m i j % 2))
  · rw [if_pos ⟨h, hc⟩, Int.max_eq_right (by omega)]
  · rw [if_neg (fun hh => hc hh.2), Int.max_eq_left (by omega)]
    funext a
    split
    · rename_i e; rw [e]
    · rfl
theorem insS_inf {g : Int} {m : Mat} {v : Nat → Int} {i j : Nat} (h : m i j = none62) : insS g m v i j = v := if_neg (fun hh => hh.1 h)

end Go.Proofs.Ytmelblnflalanaa

/- Rows of numbers and of fractions of a call's own. -/
namespace Go.Proofs.Ytmelblnflalanaa
open Go Go.RowKit
set_option linter.unusedVariables false
set_option linter.unusedSimpArgs false

/-- A function's first numbers. -/
def numsL (n : Nat) (f : Nat → Int) : List Int := (List.range (n + 1)).map f
theorem numsL_length (n : Nat) (f : Nat → Int) : (numsL n f).length = n + 1 := by simp [numsL]
theorem numsL_getD (n : Nat) (f : Nat → Int) (i : Nat) (h : i < n + 1) : (numsL n f).getD i 0 = f i := by simp [numsL, List.getD_eq_getElem?_getD, h]
theorem numsL_set (n : Nat) (f : Nat → Int) (j : Nat) (h : j < n + 1) (x : Int) : (numsL n f).set j x = numsL n (fun a => if a = j then x else f a) :=
  list_ext0 (by simp [numsL_length]) fun q hq => by
    rw [List.length_set, numsL_length] at hq
    rw [numsL_getD _ _ _ hq, List.getD_eq_getElem?_getD, List.getElem?_set]
    by_cases e : j = q
    · subst e
      rw [if_pos rfl, if_pos (by rw [numsL_length]; exact h), if_pos rfl]; rfl
    · rw [if_neg e, ← List.getD_eq_getElem?_getD, numsL_getD _ _ _ hq, if_neg (fun h => e h.symm)]
theorem infoT64 : (Try.prog.info? 2).map (fun i => (i.zero, i.size, i.bytes)) = some (some (.int .i64 0), 1, 8) := by kernel_rfl
theorem made_nums (w : World) (e : TypeId) (k : IntKind) (N : Nat) (xs : List Int) (hl : xs.length = N) (hx : ∀ p, p < N → xs.getD p 0 = 0) : RowAt (w.alloc (.cells (madeCells #[.int k 0] N) e)) w.heap.size e k xs := by
  refine ⟨madeCells #[.int k 0] N, heap_alloc_new _ _, ?_⟩
  have e1 : (madeCells #[.int k 0] N).toList = List.replicate N (.int k 0) := by
    refine List.ext_getElem (by simp [madeCells]) fun p h1 h2 => ?_
    simp [madeCells, Nat.mod_one]
  rw [e1, hl, List.take_of_length_le (by simp)]
  refine List.ext_getElem (by simp [vals, hl]) fun p h1 h2 => ?_
  have hp : p < N := by simpa [vals, hl] using h2
  have := hx p hp
  rw [List.getD_eq_getElem?_getD, List.getElem?_eq_getElem (by omega)] at this
  simp only [vals, List.getElem_replicate, List.getElem_map]
  rw [show xs[p] = 0 from this]
/-- The numbers lie in the first new block. -/
def InT (w0 : World) (n : Nat) (f : Nat → Int) (wr : World) : Prop := Below w0.heap.size w0 wr ∧ RowAt wr w0.heap.size 2 .i64 (numsL n f)
theorem InT.step {w0 wr w' : World} {n : Nat} {f : Nat → Int} (h : InT w0 n f wr) (hb : Below wr.heap.size wr w') : InT w0 n f w' := ⟨h.1.trans (hb.mono h.1.size), h.2.later hb⟩
theorem InT.set {w0 wr : World} {n : Nat} {f f' : Nat → Int} (h : InT w0 n f wr) (q j : Nat) (hj : j < n + 1) (x : Int) (hf : f' = fun a => if a = j then x else f a) : InT w0 n f' ((wr.drewN q).setCell ⟨w0.heap.size, j, none⟩ (.int .i64 x)) := by
  subst hf
  refine ⟨(belowN h.1 q).setCell (p := ⟨w0.heap.size, j, none⟩) (Nat.le_refl _) _, ?_⟩
  have := (h.2.drewN q).set j x
  rwa [numsL_set _ _ _ hj] at this
theorem rowat_other {w : World} {g : Nat} {e : TypeId} {k : IntKind} {xs : List Int} (h : RowAt w g e k xs) (p : Addr) (hne : g ≠ p.block) (v : Value) : RowAt (w.setCell p v) g e k xs := by
  obtain ⟨cur, h1, h2⟩ := h
  refine ⟨cur, ?_, h2⟩
  simp only [World.setCell, Array.getElem?_modify]
  rw [if_neg (fun e => hne e.symm)]; exact h1
theorem InT.put {w0 wr : World} {n : Nat} {f f' : Nat → Int} (h : InT w0 n f wr) (j : Nat) (hj : j < n + 1) (x : Int) (hf : f' = fun a => if a = j then x else f a) : InT w0 n f' (wr.setCell ⟨w0.heap.size, j, none⟩ (.int .i64 x)) := by
  subst hf
  refine ⟨h.1.setCell (p := ⟨w0.heap.size, j, none⟩) (Nat.le_refl _) _, ?_⟩
  have := h.2.set j x
  rwa [numsL_set _ _ _ hj] at this

/-! ### fractions -/
def rcells (l : List (Int × Int)) : List Value := l.flatMap fun x => [.int .i64 x.1, .int .i64 x.2]
theorem rcells_length (l : List (Int × Int)) : (rcells l).length = l.length * 2 := by
  induction l with
  | nil => rfl
  | cons x l ih => simp only [rcells, List.flatMap_cons, List.length_append, List.length_cons, List.length_nil] at ih ⊢; omega
theorem rcells_at : ∀ (l : List (Int × Int)) (j : Nat), j < l.length → (rcells l)[j * 2]? = some (.int .i64 (l.getD j (0, 0)).1) ∧ (rcells l)[j * 2 + 1]? = some (.int .i64 (l.getD j (0, 0)).2)
  | [], j, h => by simp at h
  | x :: l, 0, _ => by simp [rcells]
  | x :: l, j + 1, h => by
    have ih := rcells_at l j (by simpa using h)
    have e : ∀ q, (rcells (x :: l))[(j + 1) * 2 + q]? = (rcells l)[j * 2 + q]? := fun q => by
      rw [show rcells (x :: l) = [.int .i64 x.1, .int .i64 x.2] ++ rcells l from rfl, List.getElem?_append_right (by simp; omega)]
      congr 1
      simp; omega
    have e0 := e 0
    rw [Nat.add_zero, Nat.add_zero] at e0
    rw [e0, e 1, List.getD_cons_succ]
    exact ih
theorem rcells_one (l : List (Int × Int)) : ∀ u ∈ rcells l, u.oneCell' = true := by
  intro u hu
  obtain ⟨x, _, h⟩ := List.mem_flatMap.1 hu
  simp only [List.mem_cons, List.mem_nil_iff, or_false] at h
  rcases h with rfl | rfl <;> rfl
theorem rcells_append (l m : List (Int × Int)) : rcells (l ++ m) = rcells l ++ rcells m := by unfold rcells; rw [List.flatMap_append]
/-- A row of fractions of the call's own, behind the world w0. -/
def OwnQ (w0 : World) (l : List (Int × Int)) (v : Value) (wr : World) : Prop := Below w0.heap.size w0 wr ∧ wr.ownsRow w0.heap.size 25 2 v l.length (rcells l)
theorem OwnQ.start (w0 : World) : OwnQ w0 [] (.slice none 0 0) w0 := ⟨Below.refl _ _, World.ownsRow_nil _ _ _ _⟩
theorem OwnQ.step {w0 wr w' : World} {l : List (Int × Int)} {v : Value} (h : OwnQ w0 l v wr) (hb : Below wr.heap.size wr w') : OwnQ w0 l v w' := by
  obtain ⟨h0, hl, h⟩ := h
  refine ⟨h0.trans (hb.mono h0.size), hl, ?_⟩
  rcases h with h | ⟨g, cap, cur, e1, e2, h1, h2⟩
  · exact .inl h
  · exact .inr ⟨g, cap, cur, e1, e2, (hb.block g (Array.getElem?_eq_some_iff.1 h1).1).trans h1, h2⟩
theorem OwnQ.rats {w0 wr : World} {l : List (Int × Int)} {v : Value} (h : OwnQ w0 l v wr) : ∃ A cap, v = .slice A l.length cap ∧ RatsA wr A l := by
  obtain ⟨_, hl, h⟩ := h
  rcases h with ⟨rfl, h0⟩ | ⟨g, cap, cur, rfl, _, h1, _, _, _, h2⟩
  · refine ⟨none, 0, by rw [h0], fun j hj => by omega⟩
  · refine ⟨some ⟨g, 0, none⟩, cap, rfl, fun j hj => ?_⟩
    have hc : ∀ q u, (rcells l)[q]? = some u → wr.cell? ⟨g, q, none⟩ = some u := fun q u hu => by
      have hq : q < l.length * 2 := by rw [← rcells_length]; exact (List.getElem?_eq_some_iff.1 hu).1
      rw [← h2, List.getElem?_take, if_pos hq] at hu
      simp only [World.cell?, h1]
      simpa using hu
    obtain ⟨a0, a1⟩ := rcells_at l j hj
    exact ⟨g, 0, rfl, by rw [Nat.zero_add]; exact hc _ _ a0, by rw [Nat.zero_add]; exact hc _ _ a1⟩
/-- One fraction more, out of a block of its own. -/
theorem OwnQ.next {w0 w2 : World} {l : List (Int × Int)} {v : Value} (h : OwnQ w0 l v w2) (g c : Nat) (x y : Int) (hg : w2.cell? ⟨g, 0, none⟩ = some (.int .i64 x) ∧ w2.cell? ⟨g, 1, none⟩ = some (.int .i64 y)) (hmax : l.length ≤ 4398046510976) :
    ∃ v' w', (Builtin.append_ #[23, 23] 23 #[v, .slice (some ⟨g, 0, none⟩) 1 c]).run Try.prog w2 = .ok v' w' ∧ OwnQ w0 (l ++ [(x, y)]) v' w' := by
  obtain ⟨i0, hi, hz0, hz1, hz2⟩ := info_partsQ infoQ
  have ea : ∀ k, (⟨g, 0, none⟩ : Addr).add k = ⟨g, 0 + k, none⟩ := fun k => by unfold Addr.add; split <;> simp_all
  obtain ⟨v', w', h2, h3, h4, _⟩ := run_append_own (P := Try.prog) w2 w0.heap.size 23 23 25 i0 (.agg #[.int .i64 0, .int .i64 0]) 2 16 Try.underlying23 hi hz0 hz1 hz2 rfl (by decide) v l.length (rcells l) h.2 ⟨g, 0, none⟩ 1 c (rcells [(x, y)]) (rcells_length _) (fun j u hu => by
    rw [ea]
    match j, hu with
    | 0, hu => simp [rcells] at hu; subst hu; exact hg.1
    | 1, hu => simp [rcells] at hu; subst hu; exact hg.2
    | j + 2, hu => simp [rcells] at hu) (rcells_one _) (by simp only [maxLen]; omega) (by omega) h.1.size
  refine ⟨v', w', h2, h.1.grown h4 h.1.size (fun k hk => (World.ownsRow.lt h.2 k hk).1), ?_⟩
  rw [rcells_append, List.length_append]
  exact h3

end Go.Proofs.Ytmelblnflalanaa

/- The least valuation of a zone, as point tells it. -/
namespace Go.Proofs.Ytmelblnflalanaa
open Go Go.RowKit
set_option linter.unusedVariables false
set_option linter.unusedSimpArgs false
attribute [local go_sem] min_ints max_ints

theorem OwnQ.from {w w0 wr : World} {l : List (Int × Int)} {v : Value} (h : OwnQ w0 l v wr) (hb : Below w.heap.size w w0) : OwnQ w l v wr := by
  obtain ⟨h0, hl, h⟩ := h
  refine ⟨hb.trans (h0.mono hb.size), hl, ?_⟩
  rcases h with h | ⟨g, cap, cur, e1, e2, h1, h2⟩
  · exact .inl h
  · exact .inr ⟨g, cap, cur, e1, Nat.le_trans hb.size e2, h1, h2⟩
/-- A row of fractions and an error. -/
def LstEnds (w : World) (l : List (Int × Int)) (err : Int) (e : Ending) (w' : World) : Prop := ∃ v, e = .returned (.tuple #[v, .int .i64 err]) ∧ OwnQ w l v w'
theorem least_nil (w : World) : Calls Try.prog 21 #[.pointer none] w (LstEnds w [] 1) := by
  have HB := Lib.hid (OwnQ.start w)
  go_enter Try.func21, Try.ntmps21
  go_wp2
  go_ret2
  exact ⟨_, rfl, HB.out⟩
theorem least_empty (b n : Nat) (m : Mat) (w : World) (hm : MatAt w b 109 .i32 n m) (he : emptyP (some (n, m)) = true) : Calls Try.prog 21 #[.pointer (some ⟨b, 0, none⟩)] w (LstEnds w [] 14) := by
  have HB := Lib.hid (OwnQ.start w)
  have HE := Lib.hid (empty_zone b n m w hm)
  rw [show decide (m 0 0 < 1) = true from he] at HE
  go_enter Try.func21, Try.ntmps21
  go_wp2_with fail
  refine HE.out.mono ?_
  rintro e w' ⟨rfl, rfl⟩
  go_wp2
  go_ret2
  exact ⟨_, rfl, HB.out⟩

set_option maxRecDepth 100000 in
set_option maxHeartbeats 4000000 in
theorem least_full (b n : Nat) (m : Mat) (w : World) (hn : n ≤ 8) (hm : MatAt w b 109 .i32 n m) (hc : ClosedZ n m) : Calls Try.prog 21 #[.pointer (some ⟨b, 0, none⟩)] w (LstEnds w (leastV n m) 0) := by
  have HEm := Lib.hid (empty_zone b n m w hm)
  rw [show decide (m 0 0 < 1) = false from hc.full.notEmpty] at HEm
  have HD := Lib.hid (dim_zone b n m w hm)
  have HC := Lib.hid (fun W (hb : Below w.heap.size w W) => cells_zone b n m W hn (hm.later hb))
  obtain ⟨HU, h0, hub⟩ := place_bd hn hc
  have HU := Lib.hid HU
  have HUB := Lib.hid hub
  have HR := Lib.hid hc.full.right
  obtain ⟨N, hN⟩ : ∃ q, q = (n + 1) * (n + 1) := ⟨_, rfl⟩
  have hN1 : 0 < N := by rw [hN]; exact Nat.mul_pos (by omega) (by omega)
  have hN81 : N ≤ 81 := by have := Nat.mul_le_mul (show n + 1 ≤ 9 by omega) (show n + 1 ≤ 9 by omega); omega
  have HN := Lib.hid hN
  have hmk := run_make_row' (P := Try.prog) 96 2 (.int .i64 0) 8 Try.underlying96 infoT64 rfl .i64 .i64 (n + 1) (by omega) (by omega)
  have hcast : ((n + 1 : Nat) : Int) = (n : Int) + 1 := by omega
  rw [hcast] at hmk
  have HS := Lib.hid (show InT w n (insR n ((n : Int) + 1) (widW m) 0) (w.alloc (.cells (madeCells #[.int .i64 0] (n + 1)) 2)) from ⟨(Below.refl _ _).alloc (Nat.le_refl _) _, made_nums w _ _ (n + 1) _ (numsL_length _ _) (fun p hp => by rw [numsL_getD _ _ _ hp]; rfl)⟩)
  have HNW := Lib.hid (fun x (h : 0 ≤ x ∧ x ≤ 137438953472) W => new_any x ((n : Int) + 1) (by unfold I64; omega) (by unfold I64; omega) W)
  have hflen : (flat n m).length = N := by rw [flat_length, hN]
  have HFL := Lib.hid hflen
  clear hm hc hN hcast h0 hub hflen
  go_enter Try.func21, Try.ntmps21
  go_wp2_with fail
  refine HEm.out.mono ?_
  rintro e w' ⟨rfl, rfl⟩
  go_wp2_with fail
  refine HD.out.mono ?_
  rintro e w' ⟨rfl, rfl⟩
  go_wp2_with fail
  have HS0 := Lib.hid HS.out.2.lt
  generalize w.alloc (.cells (madeCells #[.int .i64 0] (n + 1)) 2) = w1 at *
  clear hmk HEm HD
  refine (HC.out _ HS.out.1).mono ?_
  rintro e w4 ⟨v, rfl, hb, hown⟩
  replace HS := Lib.hid (HS.out.step hb)
  clear hb HC
  obtain ⟨gc, cf, ecf, hgc, hrow⟩ := hown.row (by rw [HFL.out]; omega)
  subst ecf
  rw [HFL.out]
  have hgc2 : w.heap.size < gc := Nat.lt_of_lt_of_le HS0.out hgc
  have HF := Lib.hid hrow
  clear hown hrow hgc
  have HKI := Lib.hid (insK_all n ((n : Int) + 1) (widW m))
  go_wp2
  go_loopg [37] (n + 2) (fun q x wr => ∃ r : Nat, x = .int .i64 r ∧ Hid (InT w n (insR n ((n : Int) + 1) (widW m) r) wr ∧ RowAt wr gc 52 .i32 (flat n m)) ∧ Hid (q + r = n + 2))
  case atStart => exact ⟨0, by simp, Lib.hid ⟨HS.out, HF.out⟩, Lib.hid (by omega)⟩
  case round =>
    clear HS HF
    obtain ⟨r, rfl, HT, HG⟩ := hrel
    by_cases hr : r < n + 2
    · have hri : (r : Int) < (n : Int) + 2 := by omega
      have hle0 := Lib.hid (insR_le HU.out r)
      have hge0 := Lib.hid (insR_pos n ((n : Int) + 1) (widW m) r)
      obtain ⟨v0, hv0⟩ : ∃ v0, v0 = insR n ((n : Int) + 1) (widW m) r := ⟨_, rfl⟩
      rw [← hv0] at HT hle0 hge0
      have HV0 := Lib.hid hv0
      have w5 : IntKind.i64.wrap ((r : Int) + 1) = ((r + 1 : Nat) : Int) := by rw [IntWalk.i64_in _ (by omega)]; omega
      clear hv0
      go_wp2
      go_loopg [41] N (fun q x wr => ∃ k : Nat, x = .int .i64 k ∧ Hid (InT w n (insK n ((n : Int) + 1) (widW m) v0 k) wr ∧ RowAt wr gc 52 .i32 (flat n m)) ∧ Hid (k ≤ N ∧ q + k = N))
      case atStart => exact ⟨0, by simp, HT, Lib.hid (by omega)⟩
      case round =>
        clear HT
        obtain ⟨k, rfl, HT, HG2⟩ := hrel
        by_cases hk : k < N
        · have hki : (k : Int) < (N : Int) := by omega
          have cf := HT.out.2.cell k (by rw [HFL.out]; exact hk)
          rw [flat_getD n m k (by rw [← HN.out]; exact hk)] at cf
          have d1 : k / (n + 1) < n + 1 := Nat.div_lt_of_lt_mul (by rw [← HN.out]; exact hk)
          have d2 := Nat.mod_lt k (show 0 < n + 1 by omega)
          have hle2 := insK_le HU.out hle0.out k (by rw [← HN.out]; omega)
          have hge2 : ∀ a, 0 ≤ insK n ((n : Int) + 1) (widW m) v0 k a := fun a => Int.le_trans (hge0.out a) (insK_ge n _ (widW m) v0 a k)
          have HST : Hid (insK n ((n : Int) + 1) (widW m) v0 (k + 1) = insS ((n : Int) + 1) (widW m) (insK n ((n : Int) + 1) (widW m) v0 k) (k / (n + 1)) (k % (n + 1))) := Lib.hid rfl
          obtain ⟨i, hi⟩ : ∃ i, i = k / (n + 1) := ⟨_, rfl⟩
          obtain ⟨j, hj⟩ : ∃ j, j = k % (n + 1) := ⟨_, rfl⟩
          obtain ⟨t1, t2⟩ := quo_rem hi hj
          rw [← hi, ← hj] at cf HST
          rw [← hi] at d1
          rw [← hj] at d2
          obtain ⟨v2, hv2⟩ : ∃ v2, v2 = insK n ((n : Int) + 1) (widW m) v0 k := ⟨_, rfl⟩
          rw [← hv2] at HT hle2 hge2 HST
          have hvi := hge2 i
          have hvi' := Int.le_trans (hle2 i (by omega)) (HUB.out i (by omega)).2
          have hvj := hge2 j
          have hvj' := Int.le_trans (hle2 j (by omega)) (HUB.out j (by omega)).2
          have hrx := HR.out i j (by omega) (by omega)
          have q1 : IntKind.i64.wrap ((n : Int) + 1) = (n : Int) + 1 := IntWalk.i64_in _ (by omega)
          have q2 : IntKind.i64.wrap (i : Int) = (i : Int) := IntWalk.i64_in _ (by omega)
          have q3 : IntKind.i64.wrap (j : Int) = (j : Int) := IntWalk.i64_in _ (by omega)
          have q4 : ((n : Int) + 1 == 0) = false := by simp; omega
          have q5 : IntKind.i64.wrap ((k : Int) + 1) = ((k + 1 : Nat) : Int) := by rw [IntWalk.i64_in _ (by omega)]; omega
          have HX := Lib.hid (show widW m i j = wid (m i j) from rfl)
          obtain ⟨b', hb'⟩ : ∃ b, b = m i j := ⟨_, rfl⟩
          rw [← hb'] at cf HX hrx
          clear hv2 hle2 hge2 hi hj hb'
          go_wp2_with fail
          go_quiet (fail)
          generalize nq = nq at *
          replace HT := Lib.hid (And.intro (HT.out.1.step (belowN (Below.refl _ _) nq)) (HT.out.2.drewN nq))
          generalize wr.drewN nq = wq at *
          clear t1 t2 q1 q2 q3 q4 cf
          by_cases hinf : b' = 2147483647
          · have HSM := Lib.hid (show InT w n (insK n ((n : Int) + 1) (widW m) v0 (k + 1)) wq from by
              rw [HST.out, insS_inf (by rw [HX.out, hinf]; decide)]; exact HT.out.1)
            have HF := Lib.hid HT.out.2
            have HV := Lib.hid (fun W => value_no b' W (by simp [someB, hinf]))
            clear hinf HST HX HT hrx
            go_wp2_with fail
            refine (HV.out _).mono ?_
            rintro e w' ⟨rfl, rfl⟩
            go_wp2
            go_roundg (gk - 1)
            case measure => have h := HG2.out.2; omega
            case rel => exact ⟨k + 1, by go_num, Lib.hid ⟨HSM.out, HF.out⟩, Lib.hid ⟨by omega, by have h := HG2.out.2; omega⟩⟩
          · have hbd := rightB_bd hrx hinf
            have HV := Lib.hid (fun W => value_yes b' W (by simp [someB, hrx, hinf]))
            have hwx : wid b' = b' := by unfold wid; rw [if_neg hinf]
            have hnn : b' ≠ none62 := by unfold none62; omega
            have hset := insS_max (g := (n : Int) + 1) (m := widW m) (v := v2) (i := i) (j := j) (by rw [HX.out, hwx]; exact hnn)
            rw [HX.out, hwx] at hset
            have HST : Hid (insK n ((n : Int) + 1) (widW m) v0 (k + 1) = fun a => if a = j then max (v2 j) (v2 i - (b' / 2 * ((n : Int) + 1) - (1 - b' % 2))) else v2 a) := Lib.hid (HST.out.trans hset)
            obtain ⟨q, hq⟩ : ∃ q, q = b' / 2 := ⟨_, rfl⟩
            obtain ⟨r2, hr2⟩ : ∃ r2, r2 = b' % 2 := ⟨_, rfl⟩
            have hr01 : r2 = 0 ∨ r2 = 1 := by omega
            have hq0 : -268435456 ≤ q := by omega
            have hq1 : q ≤ 268435456 := by omega
            have hm1 : q * ((n : Int) + 1) ≤ 268435456 * 9 := by
              rcases (show 0 ≤ q ∨ q ≤ 0 by omega) with h | h
              · exact Int.mul_le_mul (by omega) (by omega) (by omega) (by omega)
              · have := Int.mul_le_mul_of_nonneg_right (a := q) (b := 0) (c := (n : Int) + 1) h (by omega)
                omega
            have hm2 : -(268435456 * 9) ≤ q * ((n : Int) + 1) := by
              have h1 : -268435456 * ((n : Int) + 1) ≤ q * ((n : Int) + 1) := Int.mul_le_mul_of_nonneg_right hq0 (by omega)
              omega
            obtain ⟨T, hT⟩ : ∃ T, T = q * ((n : Int) + 1) := ⟨_, rfl⟩
            rw [← hq, ← hr2, ← hT] at HST
            rw [← hq, ← hr2] at HV
            rw [← hT] at hm1 hm2
            have hTr : q * ((n : Int) + 1) = T := hT.symm
            have c2 := HT.out.1.2.cell i (by rw [numsL_length]; omega)
            rw [numsL_getD _ _ _ (by omega)] at c2
            have c3 := HT.out.1.2.cell j (by rw [numsL_length]; omega)
            rw [numsL_getD _ _ _ (by omega)] at c3
            have f3 := HT.out.1.2.frozen j
            have HWD := Lib.hid (show Below wq.heap.size wq wq.drew from Below.drew (Below.refl _ _))
            have C2 := Lib.hid (show wq.drew.cell? _ = _ from c2)
            have C3 := Lib.hid (show wq.drew.cell? _ = _ from c3)
            have F3 := Lib.hid (show wq.drew.frozen? _ = _ from f3)
            have HSM := Lib.hid (fun (X : Int) (hX : X = max (v2 j) (v2 i - (T - (1 - r2)))) => (HT.out.1.step HWD.out).put j (by omega) X (f' := insK n ((n : Int) + 1) (widW m) v0 (k + 1)) (by rw [HST.out, hX]))
            have HF := Lib.hid (fun (X : Int) => rowat_other HT.out.2.drew ⟨w.heap.size, j, none⟩ (show gc ≠ w.heap.size by omega) (.int .i64 X))
            have l4 : (i : Int) < (n : Int) + 1 := by omega
            have l5 : (j : Int) < (n : Int) + 1 := by omega
            clear hinf hbd hwx hnn hq hr2 hrx hT HX hset HST c2 c3 f3 HT
            obtain ⟨y, hy⟩ : ∃ y, y = v2 i := ⟨_, rfl⟩
            obtain ⟨z, hz⟩ : ∃ z, z = v2 j := ⟨_, rfl⟩
            rw [← hy] at C2 hvi hvi' HSM
            rw [← hz] at C3 hvj hvj' HSM
            clear hy hz
            have g1 : IntKind.i64.wrap T = T := IntWalk.i64_in _ (by omega)
            have g2 : IntKind.i64.wrap (T - 1) = T - 1 := IntWalk.i64_in _ (by omega)
            have g3 : IntKind.i64.wrap (y - T) = y - T := IntWalk.i64_in _ (by omega)
            have g4 : IntKind.i64.wrap (y - (T - 1)) = y - (T - 1) := IntWalk.i64_in _ (by omega)
            rcases hr01 with rfl | rfl
            · have e1 : decide ((0 : Int) = 1) = false := rfl
              rw [e1] at HV
              clear e1
              go_wp2_with fail
              refine (HV.out _).mono ?_
              rintro e w' ⟨rfl, rfl⟩
              go_wp2
              refine wp_region_still_tail 13 (by kernel_rfl) (by kernel_rfl) ?_
              simp only [List.take_succ_cons, List.take_zero, List.drop_succ_cons, List.drop_zero]
              change wpStill _ _ wq.drew _ _ _
              have d2 := C2.out
              have d3 := C3.out
              have d4 := F3.out
              repeat still_step
              refine wpStill_nil ?_
              change wpList _ _ _ _ _ wq.drew
              generalize wq.drew = wd at *
              go_wp2
              go_roundg (gk - 1)
              case measure => have h := HG2.out.2; omega
              case rel => exact ⟨k + 1, by go_num, Lib.hid ⟨HSM.out _ (by rw [show T - (1 - 0) = T - 1 by omega]), HF.out _⟩, Lib.hid ⟨by omega, by have h := HG2.out.2; omega⟩⟩
            · have e1 : decide ((1 : Int) = 1) = true := rfl
              rw [e1] at HV
              clear e1
              go_wp2_with fail
              refine (HV.out _).mono ?_
              rintro e w' ⟨rfl, rfl⟩
              go_wp2
              refine wp_region_still_tail 13 (by kernel_rfl) (by kernel_rfl) ?_
              simp only [List.take_succ_cons, List.take_zero, List.drop_succ_cons, List.drop_zero]
              change wpStill _ _ wq.drew _ _ _
              have d2 := C2.out
              have d3 := C3.out
              have d4 := F3.out
              repeat still_step
              refine wpStill_nil ?_
              change wpList _ _ _ _ _ wq.drew
              generalize wq.drew = wd at *
              go_wp2
              go_roundg (gk - 1)
              case measure => have h := HG2.out.2; omega
              case rel => exact ⟨k + 1, by go_num, Lib.hid ⟨HSM.out _ (by rw [show T - (1 - 1) = T by omega]), HF.out _⟩, Lib.hid ⟨by omega, by have h := HG2.out.2; omega⟩⟩
        · have hki : ¬ (k : Int) < (N : Int) := by omega
          have HSM := Lib.hid (show InT w n (insR n ((n : Int) + 1) (widW m) (r + 1)) wr ∧ RowAt wr gc 52 .i32 (flat n m) from ⟨by
            have h := HT.out.1
            rw [show k = (n + 1) * (n + 1) by rw [← HN.out]; have := HG2.out.1; omega, HKI.out, HV0.out] at h
            exact h, HT.out.2⟩)
          clear HT
          go_wp2
          go_roundg (n + 1 - r)
          case measure => have h := HG.out; omega
          case rel => exact ⟨r + 1, by go_num, HSM, Lib.hid (by have h := HG.out; omega)⟩
    · have hri : ¬ (r : Int) < (n : Int) + 2 := by omega
      have HE := Lib.hid (show InT w n (placeU n m) wr from by
        have h := HT.out.1
        rw [show r = n + 2 by have := HG.out; omega] at h
        exact h)
      have HO := Lib.hid (OwnQ.start wr)
      have HB := Lib.hid HE.out.1
      have HLT := Lib.hid HE.out.2.lt
      have HL := Lib.hid (leastV_length n m)
      have HLV := Lib.hid (fun (p : Nat) (hp : p < n) (y : Int) (hy : y = placeU n m (p + 1)) => show (newP y ((n : Int) + 1)).1 = (leastV n m).getD p (0, 0) by rw [least_grid, gridV_getD hp, hy])
      clear HT HG HR HU HN HFL HKI
      go_wp2
      generalize wr = wE at *
      go_loopg [16, 17] n (fun g v x wr => ∃ p : Nat, x = .int .i64 ((p : Int) + 1) ∧ Hid (OwnQ wE ((leastV n m).take p) v wr) ∧ Hid (p ≤ n ∧ g + p = n))
      case atStart => exact ⟨0, by simp, Lib.hid HO.out, Lib.hid (by omega)⟩
      case round =>
        clear HO
        obtain ⟨p, rfl, HO, HG⟩ := hrel
        by_cases hp : p < n
        · have hpi : (p : Int) + 1 ≤ (n : Int) := by omega
          have hpj : (p : Int) + 1 < (n : Int) + 1 := by omega
          have hp0 : (0 : Int) ≤ (p : Int) + 1 := by omega
          have tn : ((p : Int) + 1).toNat = p + 1 := by omega
          have c1 := (HE.out.2.below HO.out.1 HLT.out).cell (p + 1) (by rw [numsL_length]; omega)
          rw [numsL_getD _ _ _ (by omega)] at c1
          have hx := HUB.out (p + 1) (by omega)
          have HLV := Lib.hid (fun y => HLV.out p hp y)
          obtain ⟨x, hxe⟩ : ∃ x, x = placeU n m (p + 1) := ⟨_, rfl⟩
          rw [← hxe] at c1 hx HLV
          have HLV := Lib.hid (HLV.out x rfl)
          have HNX := Lib.hid (fun W => HNW.out x hx W)
          obtain ⟨y, hy⟩ : ∃ y, y = newP x ((n : Int) + 1) := ⟨_, rfl⟩
          rw [← hy] at HLV HNX
          obtain ⟨⟨y1, y2⟩, ye⟩ := y
          unfold rtV at HNX
          have q5 : IntKind.i64.wrap ((p : Int) + 1 + 1) = ((p + 1 : Nat) : Int) + 1 := by rw [IntWalk.i64_in _ (by omega)]; omega
          have HTK : Hid ((leastV n m).take (p + 1) = (leastV n m).take p ++ [(y1, y2)]) := Lib.hid (by
            rw [List.take_add_one, show (leastV n m)[p]? = some ((leastV n m).getD p (0, 0)) by
              rw [List.getD_eq_getElem?_getD, List.getElem?_eq_getElem (by rw [HL.out]; exact hp)]; rfl, ← HLV.out]; rfl)
          have HLN : Hid (((leastV n m).take p).length ≤ 8) := Lib.hid (by rw [List.length_take]; omega)
          clear hxe hx hy
          go_wp2_with fail
          refine (HNX.out _).mono ?_
          rintro e w2 ⟨rfl, hb⟩
          replace HO := Lib.hid (HO.out.step hb)
          clear hb
          go_upto_region 28 with fail
          have K := Lib.hid ((Blx.start w2).new #[.int .i64 y1, .int .i64 y2] 25)
          replace HO := Lib.hid (HO.out.step (below_one w2 (.cells #[.int .i64 y1, .int .i64 y2] 25)))
          generalize w2.alloc (.cells #[.int .i64 y1, .int .i64 y2] 25) = w3 at *
          generalize w2.heap.size = g3 at *
          obtain ⟨k1, k2, _, _⟩ := K.out.cells2 0 rfl
          have K2 := Lib.hid ((Blx.start w3).new #[.int .i64 y1, .int .i64 y2] 25)
          replace HO := Lib.hid (HO.out.step (below_one w3 (.cells #[.int .i64 y1, .int .i64 y2] 25)))
          obtain ⟨k3, k4, _, _⟩ := K2.out.cells2 0 rfl
          obtain ⟨v', w', hrun, hnext⟩ := HO.out.next w3.heap.size 1 y1 y2 ⟨k3, k4⟩ (by have := HLN.out; omega)
          have HO := Lib.hid hnext
          rw [← HTK.out] at HO
          clear hnext k3 k4
          go_wp2_with (at_builtin; refine wpList_append_run rfl _ _ 23 rfl _ _ v' w' rfl rfl hrun ?_)
          clear hrun
          go_wp2
          go_roundg (gk - 1)
          case measure => have h := HG.out.2; omega
          case rel => exact ⟨p + 1, by go_num, HO, Lib.hid ⟨by omega, by have h := HG.out.2; omega⟩⟩
        · have hpi : ¬ (p : Int) + 1 ≤ (n : Int) := by omega
          have HF := Lib.hid (show OwnQ w (leastV n m) u16 wr from by
            have h := HO.out
            rw [show p = n by have := HG.out.1; omega, List.take_of_length_le (by rw [HL.out]; exact Nat.le_refl _)] at h
            exact h.from HB.out)
          go_wp2
          go_ret2
          exact ⟨_, rfl, HF.out⟩
/-- What Least answers. -/
def leastA (z : Option (Nat × Mat)) : List (Int × Int) × Int := match z with
  | none => ([], 1)
  | some (n, m) => if emptyP (some (n, m)) = true then ([], 14) else (leastV n m, 0)
theorem least_any (v : Value) (z : Option (Nat × Mat)) (w : World) (hz : ZoneV 109 w v z) (hk : ∀ n m, z = some (n, m) → m = (fun _ _ => 0) ∨ ClosedZ n m) : Calls Try.prog 21 #[v] w (LstEnds w (leastA z).1 (leastA z).2) := by
  match z, hz with
  | none, h =>
    have h : v = .pointer none := h
    subst h
    exact least_nil w
  | some (n, m), ⟨b, e, hn, hr, hm⟩ =>
    subst e
    rcases hk n m rfl with rfl | hc
    · have he : emptyP (some (n, fun _ _ => 0)) = true := by show decide ((0 : Int) < 1) = true; decide
      unfold leastA
      simp only
      rw [if_pos he]
      exact least_empty b n _ w hm he
    · unfold leastA
      simp only
      rw [if_neg (by rw [hc.full.notEmpty]; decide)]
      exact least_full b n m w hn hm hc

end Go.Proofs.Ytmelblnflalanaa
