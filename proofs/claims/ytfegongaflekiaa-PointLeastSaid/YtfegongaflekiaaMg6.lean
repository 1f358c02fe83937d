/- Texts of ours, laid together: Jp, Mab, Mcl, Msm, Mfm, Jb. -/
import Derived.Test.YtfegongaflekiaaMg5
/- A span made smaller, as point does it. -/
namespace Go.Proofs.Ytfegongaflekiaa
open Go Go.RowKit
set_option linter.unusedVariables false
set_option linter.unusedSimpArgs false

/-- The cells of a span. -/
def spanCs (s : SpanP) : Array Value := #[.int .i64 s.lo.1, .int .i64 s.lo.2, .int .i64 s.hi.1, .int .i64 s.hi.2, .bool s.loIn, .bool s.hiIn, .bool s.ever]
def Span64 (s : SpanP) : Prop := (I64 s.lo.1 ∧ I64 s.lo.2) ∧ I64 s.hi.1 ∧ I64 s.hi.2
/-- What narrow leaves. -/
def NarEnds (w0 : World) (g : Nat) (s : SpanP) (o : Option SpanP) (e : Ending) (w' : World) : Prop := match o with
  | some t => e = .returned (.bool true) ∧ Blx w0 [(g, spanCs t, 70)] w'
  | none => e = .returned (.bool false) ∧ Blx w0 [(g, spanCs s, 70)] w'
theorem even_dec {b : Int} : (b % 2 = 0) = (decide (b % 2 = 1) = false) := by
  refine propext ?_
  rw [decide_eq_false_iff_not]; omega

def tbNrA (gx : Nat) (x1 x2 q d1 d2 de : Int) : List (Nat × Nat × Value) :=
  [(0, 27, .int .i64 q), (1, 28, .agg #[.int .i64 q, .int .i64 1]), (2, 29, .agg #[.int .i64 x1, .int .i64 x2]), (3, 30, .tuple #[.agg #[.int .i64 d1, .int .i64 d2], .int .i64 de]), (4, 26, .tuple #[.agg #[.int .i64 d1, .int .i64 d2], .int .i64 de]), (5, 31, .agg #[.int .i64 d1, .int .i64 d2]), (6, 32, .int .i64 de), (9, 13, .int .i64 de)]
def bsNrA (gx : Nat) (x1 x2 q d1 d2 de : Int) : List (Nat × Value) := [(5, .pointer (some ⟨gx, 0, none⟩)), (9, .int .i64 q)]
def bkNrA (gx : Nat) (x1 x2 q d1 d2 de : Int) : List BlkR := [⟨7, 12, 8, #[.int .i64 0, .int .i64 0], #[.int .i64 d1, .int .i64 d2], 59⟩]

def tbNcA (g gd : Nat) (d1 d2 h1 h2 c : Int) : List (Nat × Nat × Value) :=
  [(0, 36, .agg #[.int .i64 d1, .int .i64 d2]), (1, 37, .pointer (some ⟨g, 0, none⟩)), (2, 38, .pointer (some ⟨g, 0, none⟩)), (3, 39, .pointer (some ⟨g, 2, none⟩)), (4, 40, .agg #[.int .i64 h1, .int .i64 h2]), (5, 41, .int .i64 c), (6, 14, .int .i64 c)]
def bsNcA (g gd : Nat) (d1 d2 h1 h2 c : Int) : List (Nat × Value) := [(0, .pointer (some ⟨g, 0, none⟩)), (12, .pointer (some ⟨gd, 0, none⟩))]

set_option maxRecDepth 100000 in
set_option maxHeartbeats 8000000 in
theorem narrow_above (w0 w : World) (g : Nat) (s : SpanP) (x1 x2 b : Int) (hx1 : I64 x1) (hx2 : I64 x2) (hs : Span64 s) (hb : rightB b = true) (hn : b ≠ 2147483647) (K : Blx w0 [(g, spanCs s, 70)] w) :
    Calls Try.prog 79 #[.pointer (some ⟨g, 0, none⟩), .agg #[.int .i64 x1, .int .i64 x2], .int .i32 b, .bool true] w (NarEnds w0 g s (narrowP s (x1, x2) b true)) := by
  obtain ⟨⟨a1, a2⟩, ⟨h1, h2⟩, li, hi, ev⟩ := s
  obtain ⟨⟨s1, s2⟩, s3, s4⟩ := hs
  have K := Lib.hid (K.new #[.int .i64 x1, .int .i64 x2] 59)
  have hso : someB b = true := by unfold someB; rw [hb]; simp [hn]
  have HV := Lib.hid (fun W => value_yes b W hso)
  have hbd := rightB_bd hb hn
  have HN : narrowP ⟨(a1, a2), (h1, h2), li, hi, ev⟩ (x1, x2) b true = if (subP (b / 2, 1) (x1, x2)).2 = 0 then (if ev = true ∨ cmpP (subP (b / 2, 1) (x1, x2)).1 (h1, h2) < 0 ∨ (cmpP (subP (b / 2, 1) (x1, x2)).1 (h1, h2) = 0 ∧ decide (b % 2 = 1) = false) then some ⟨(a1, a2), (subP (b / 2, 1) (x1, x2)).1, li, decide (b % 2 = 1), false⟩ else some ⟨(a1, a2), (h1, h2), li, hi, ev⟩) else none := by
    unfold narrowP
    simp only [if_true, even_dec]


  have q64 : I64 (b / 2) := by unfold I64; omega
  have one64 : I64 1 := by unfold I64; omega
  have HOF := Lib.hid (fun W => rof2_any (b / 2) W)
  have HSB := Lib.hid (fun W => sub_any (b / 2) 1 x1 x2 q64 one64 hx1 hx2 W)
  have D64 := subP64 (b / 2, 1) (x1, x2)
  obtain ⟨D, hD⟩ : ∃ D, D = subP (b / 2, 1) (x1, x2) := ⟨_, rfl⟩
  rw [← hD] at HSB D64 HN
  obtain ⟨⟨d1, d2⟩, de⟩ := D
  unfold rtV at HSB
  have HCM := Lib.hid (fun W => compare_any d1 d2 h1 h2 D64.1 D64.2 s3 s4 W)
  obtain ⟨c, hc⟩ : ∃ c, c = cmpP (d1, d2) (h1, h2) := ⟨_, rfl⟩
  simp only at HN
  rw [← hc] at HCM HN
  obtain ⟨n, hnn⟩ : ∃ n, n = b / 2 := ⟨_, rfl⟩
  obtain ⟨rc, hrc⟩ : ∃ rc, rc = decide (b % 2 = 1) := ⟨_, rfl⟩
  rw [← hnn] at HV HOF HSB
  rw [← hrc] at HV HN
  obtain ⟨s, hs⟩ : ∃ s : SpanP, s = ⟨(a1, a2), (h1, h2), li, hi, ev⟩ := ⟨_, rfl⟩
  rw [← hs] at HN ⊢
  have HS := Lib.hid hs
  replace HN := Lib.hid HN
  clear hs hc hD hx1 hx2 hb hn hso hbd s1 s2 s3 s4 D64 one64 q64 hrc hnn
  go_enter Try.func79, Try.ntmps79
  go_upto_block 0 with fail
  generalize w.alloc (.cells #[.int .i64 x1, .int .i64 x2] 59) = wa at *
  generalize w.heap.size = gx at *
  simp only [List.cons_append, List.nil_append] at K
  go_wp2_with fail
  refine (HV.out _).mono ?_
  rintro e w' ⟨rfl, rfl⟩
  have hB0 := K.out.below.size
  have hlB := K.out.after
  go_upto_region 4 with fail

  refine wp_region_tab (by kernel_rfl) [5, 9, 27, 28, 29, 30, 26, 31, 32, 12, 13] [[], [0], [], [1, 2], [3], [4], [4], [], [0, 1, 2, 3, 4, 5, 7], [0, 1, 2, 3, 4, 5, 6, 7, 8]]
    (fun L vals wx => Blx w0 [(g, spanCs ⟨(a1, a2), (h1, h2), li, hi, ev⟩, 70), (gx, #[.int .i64 x1, .int .i64 x2], 59)] wx ∧ TabR (tbNrA gx x1 x2 n d1 d2 de) (bsNrA gx x1 x2 n d1 d2 de) L vals ∧ BlksR (bkNrA gx x1 x2 n d1 d2 de) wa.heap.size L vals wx) (by kernel_rfl) rfl ?_ ?_ ?_
  · exact ⟨K.out.drew, TabR.start (by simp [bsNrA]), BlksR.start _ (Nat.le_refl _)⟩
  · intro i hi a L vals wx E hJ hLi hn K hK hK0
    obtain ⟨hI, hT, hB⟩ := hJ
    match i, hi with
    | 0, _ => exact op_moveG rfl rfl rfl rfl ((E 9 (by decide)).trans (hT.rd 1 rfl)) (hK 27 _ _ (by decide) ⟨hI, hT.set 0 rfl (by kernel_rfl) (by kernel_rfl), hB.keep (Below.refl _ _) (by simp [bkNrA])⟩)
    | 1, _ =>
      have e1 := (E 27 (by decide)).trans (hT.val 0 rfl (hn 0 (by decide)))
      exact op_goG rfl rfl rfl rfl Try.func31 (by kernel_rfl) rfl (by simp only [List.map_toArray, List.map_cons, List.map_nil, e1]) (HOF.out _) (fun w' hb => hK 28 _ _ (by decide) ⟨hI.step hb, hT.set 1 rfl (by kernel_rfl) (by kernel_rfl), hB.keep hb (by simp [bkNrA])⟩)
    | 2, _ => exact op_loadG rfl rfl rfl rfl Try.underlying59 rfl (by kernel_rfl) ((E 5 (by decide)).trans (hT.rd 0 rfl)) (hI.l (gx, #[.int .i64 x1, .int .i64 x2], 59) (by simp)) (hK 29 _ _ (by decide) ⟨hI, hT.set 2 rfl (by kernel_rfl) (by kernel_rfl), hB.keep (Below.refl _ _) (by simp [bkNrA])⟩)
    | 3, _ =>
      have e1 := (E 28 (by decide)).trans (hT.val 1 rfl (hn 1 (by decide)))
      have e2 := (E 29 (by decide)).trans (hT.val 2 rfl (hn 2 (by decide)))
      exact op_goG rfl rfl rfl rfl Try.func113 (by kernel_rfl) rfl (by simp only [List.map_toArray, List.map_cons, List.map_nil, e1, e2]) (HSB.out _) (fun w' hb => hK 30 _ _ (by decide) ⟨hI.step hb, hT.set 3 rfl (by kernel_rfl) (by kernel_rfl), hB.keep hb (by simp [bkNrA])⟩)
    | 4, _ => exact op_moveG rfl rfl rfl rfl ((E 30 (by decide)).trans (hT.val 3 rfl (hn 3 (by decide)))) (hK 26 _ _ (by decide) ⟨hI, hT.set 4 rfl (by kernel_rfl) (by kernel_rfl), hB.keep (Below.refl _ _) (by simp [bkNrA])⟩)
    | 5, _ =>
      have e1 := (E 26 (by decide)).trans (hT.val 4 rfl (hn 4 (by decide)))
      refine op_valueG (w' := wx) (v := .agg #[.int .i64 d1, .int .i64 d2]) rfl rfl rfl ?_ (hK 31 _ _ (by decide) ⟨hI, hT.set 5 rfl (by kernel_rfl) (by kernel_rfl), hB.keep (Below.refl _ _) (by simp [bkNrA])⟩)
      clear hK hK0 hT E hB
      revert e1
      generalize a.eval = ρ
      intro e1
      go_simp
    | 6, _ =>
      have e1 := (E 26 (by decide)).trans (hT.val 4 rfl (hn 4 (by decide)))
      refine op_valueG (w' := wx) (v := .int .i64 de) rfl rfl rfl ?_ (hK 32 _ _ (by decide) ⟨hI, hT.set 6 rfl (by kernel_rfl) (by kernel_rfl), hB.keep (Below.refl _ _) (by simp [bkNrA])⟩)
      clear hK hK0 hT E hB
      revert e1
      generalize a.eval = ρ
      intro e1
      go_simp
    | 7, _ =>
      refine op_valueG (w' := wx.alloc (.cells #[.int .i64 0, .int .i64 0] 59)) (v := .pointer (some ⟨wx.heap.size, 0, none⟩)) rfl rfl rfl ?_ (hK 12 _ _ (by decide) ⟨hI.step (below_one _ _), hT.put (by simp [tbNrA]) (by simp [bsNrA]), hB.new 0 rfl hLi (by simp [bkNrA]) (by simp [bkNrA])⟩)
      clear hK hK0 hT hB E
      go_simp
    | 8, _ =>
      obtain ⟨ga, e1, e2, e3⟩ := hB.blk 0 rfl (hn 7 (by decide))
      rw [if_neg (by rw [hLi]; decide)] at e3
      exact op_store (old := #[.int .i64 0, .int .i64 0]) (cs := #[.int .i64 d1, .int .i64 d2]) rfl rfl rfl rfl (by kernel_rfl) rfl (by kernel_rfl) ((E 12 (by decide)).trans e1) ((E 31 (by decide)).trans (hT.val 5 rfl (hn 5 (by decide)))) e3
        (hK0 _ ⟨hI.own hB0 hlB e2 _, hT.skip (by simp [tbNrA]), hB.st 0 rfl (hn 7 (by decide)) (by simp [bkNrA]) (by simp [bkNrA]) (by simp [bkNrA]) e1⟩)
    | 9, _ => exact op_assignG rfl rfl rfl rfl ((E 32 (by decide)).trans (hT.val 6 rfl (hn 6 (by decide)))) (hK 13 _ _ (by decide) ⟨hI, hT.set 7 rfl (by kernel_rfl) (by kernel_rfl), hB.keep (Below.refl _ _) (by simp [bkNrA])⟩)
    | k + 10, h => exact absurd (show k + 10 < 10 from h) (by omega)
  · intro L vals wx hJ hall
    obtain ⟨hI, hT, hB⟩ := hJ
    have HI := Lib.hid hI
    have v5 : vals 5 = .pointer (some ⟨gx, 0, none⟩) := hT.rd 0 rfl
    have v9 : vals 9 = .int .i64 n := hT.rd 1 rfl
    have v13 : vals 13 = .int .i64 de := hT.val 7 rfl (hall 9 (by decide))
    obtain ⟨gn0, m0, n0, r0⟩ := hB.blk 0 rfl (hall 7 (by decide))
    rw [if_pos (hall 8 (by decide))] at r0
    have v12 : vals 12 = .pointer (some ⟨gn0, 0, none⟩) := m0
    simp only [overA, Act.put, List.setIfInBounds_toArray, List.set_cons_zero, List.set_cons_succ]
    rw [v5, v9, v13, v12]
    clear hI hT hall v5 v9 v13 v12 hB
    replace K := Lib.hid (HI.out.with (fun t ht => Nat.lt_of_lt_of_le (hlB t ht) n0) (Nat.le_trans hB0 n0) r0)
    clear HI hB0 hlB n0 r0 m0 HOF HSB HV
    generalize gn0 = gd at *
    generalize wx = wb at *
    simp only [List.cons_append, List.nil_append] at K
    by_cases hde : de = 0
    · subst hde
      have HN := Lib.hid (HN.out.trans (if_pos rfl))
      go_upto_region 8 with fail

      refine wp_region_tab (by kernel_rfl) [0, 12, 36, 37, 38, 39, 40, 41, 14] [[], [], [1], [2], [3], [0, 4], [0, 1, 2, 3, 4, 5]]
        (fun L vals wx => Blx w0 [(g, spanCs ⟨(a1, a2), (h1, h2), li, hi, ev⟩, 70), (gx, #[.int .i64 x1, .int .i64 x2], 59), (gd, #[.int .i64 d1, .int .i64 d2], 59)] wx ∧ TabR (tbNcA g gd d1 d2 h1 h2 c) (bsNcA g gd d1 d2 h1 h2 c) L vals) (by kernel_rfl) rfl ?_ ?_ ?_
      · exact ⟨K.out.drew, TabR.start (by simp [bsNcA])⟩
      · intro i hi a L vals wx E hJ hLi hn K hK hK0
        obtain ⟨hI, hT⟩ := hJ
        match i, hi with
        | 0, _ => exact op_loadG rfl rfl rfl rfl Try.underlying59 rfl (by kernel_rfl) ((E 12 (by decide)).trans (hT.rd 1 rfl)) (hI.l (gd, #[.int .i64 d1, .int .i64 d2], 59) (by simp)) (hK 36 _ _ (by decide) ⟨hI, hT.set 0 rfl (by kernel_rfl) (by kernel_rfl)⟩)
        | 1, _ => exact op_moveG rfl rfl rfl rfl ((E 0 (by decide)).trans (hT.rd 0 rfl)) (hK 37 _ _ (by decide) ⟨hI, hT.set 1 rfl (by kernel_rfl) (by kernel_rfl)⟩)
        | 2, _ =>
          have e1 := (E 37 (by decide)).trans (hT.val 1 rfl (hn 1 (by decide)))
          refine op_valueG (w' := wx) (v := .pointer (some ⟨g, 0, none⟩)) rfl rfl rfl ?_ (hK 38 _ _ (by decide) ⟨hI, hT.set 2 rfl (by kernel_rfl) (by kernel_rfl)⟩)
          clear hK hK0 hT E
          revert e1
          generalize a.eval = ρ
          intro e1
          go_simp
        | 3, _ =>
          have e1 := (E 38 (by decide)).trans (hT.val 2 rfl (hn 2 (by decide)))
          refine op_valueG (w' := wx) (v := .pointer (some ⟨g, 2, none⟩)) rfl rfl rfl ?_ (hK 39 _ _ (by decide) ⟨hI, hT.set 3 rfl (by kernel_rfl) (by kernel_rfl)⟩)
          clear hK hK0 hT E
          revert e1
          generalize a.eval = ρ
          intro e1
          go_simp
        | 4, _ =>
          have e1 := (E 39 (by decide)).trans (hT.val 3 rfl (hn 3 (by decide)))
          have d1' := (hI.cell 0 rfl 2 (v := .int .i64 h1) rfl).1
          have d2' := (hI.cell 0 rfl 3 (v := .int .i64 h2) rfl).1
          refine op_valueG (w' := wx) (v := .agg #[.int .i64 h1, .int .i64 h2]) rfl rfl rfl ?_ (hK 40 _ _ (by decide) ⟨hI, hT.set 4 rfl (by kernel_rfl) (by kernel_rfl)⟩)
          clear hK hK0 hT E
          revert e1
          generalize a.eval = ρ
          intro e1
          go_simp
        | 5, _ =>
          have e1 := (E 36 (by decide)).trans (hT.val 0 rfl (hn 0 (by decide)))
          have e2 := (E 40 (by decide)).trans (hT.val 4 rfl (hn 4 (by decide)))
          exact op_goG rfl rfl rfl rfl Try.func21 (by kernel_rfl) rfl (by simp only [List.map_toArray, List.map_cons, List.map_nil, e1, e2]) (HCM.out _) (fun w' hb => hK 41 _ _ (by decide) ⟨hI.step hb, hT.set 5 rfl (by kernel_rfl) (by kernel_rfl)⟩)
        | 6, _ => exact op_assignG rfl rfl rfl rfl ((E 41 (by decide)).trans (hT.val 5 rfl (hn 5 (by decide)))) (hK 14 _ _ (by decide) ⟨hI, hT.set 6 rfl (by kernel_rfl) (by kernel_rfl)⟩)
        | k + 7, h => exact absurd (show k + 7 < 7 from h) (by omega)
      · intro L vals wx hJ hall
        obtain ⟨hI, hT⟩ := hJ
        have HI := Lib.hid hI
        have v0 : vals 0 = .pointer (some ⟨g, 0, none⟩) := hT.rd 0 rfl
        have v12 : vals 12 = .pointer (some ⟨gd, 0, none⟩) := hT.rd 1 rfl
        have v14 : vals 14 = .int .i64 c := hT.val 6 rfl (hall 6 (by decide))
        simp only [overA, Act.put, List.setIfInBounds_toArray, List.set_cons_zero, List.set_cons_succ]
        rw [v0, v12, v14]
        clear hI hT hall v0 v12 v14
        replace K := HI
        clear HI HCM
        generalize wx = wc at *
        obtain ⟨k1, k2, _, _⟩ := K.out.cells2 2 rfl
        obtain ⟨c2', f2⟩ := K.out.cell 0 rfl 2 (v := .int .i64 h1) rfl
        obtain ⟨c3', f3⟩ := K.out.cell 0 rfl 3 (v := .int .i64 h2) rfl
        obtain ⟨c5', f5⟩ := K.out.cell 0 rfl 5 (v := .bool hi) rfl
        obtain ⟨c6', f6⟩ := K.out.cell 0 rfl 6 (v := .bool ev) rfl
        have KN := Lib.hid (((((K.out.set 0 rfl 2 (.int .i64 d1)).set 0 rfl 3 (.int .i64 d2)).set 0 rfl 5 (.bool rc)).set 0 rfl 6 (.bool false)).front (L := [(g, spanCs ⟨(a1, a2), (d1, d2), li, rc, false⟩, 70)]) (M := [(gx, #[.int .i64 x1, .int .i64 x2], 59), (gd, #[.int .i64 d1, .int .i64 d2], 59)]))
        replace K := Lib.hid (K.out.front (L := [(g, spanCs ⟨(a1, a2), (h1, h2), li, hi, ev⟩, 70)]) (M := [(gx, #[.int .i64 x1, .int .i64 x2], 59), (gd, #[.int .i64 d1, .int .i64 d2], 59)]))
        by_cases hq : ev = true ∨ c < 0 ∨ (c = 0 ∧ rc = false)
        · have HN := Lib.hid (HN.out.trans (if_pos hq))
          have fin : ∀ (e : Ending) (w' : World), e = .returned (.bool true) ∧ Blx w0 [(g, spanCs ⟨(a1, a2), (d1, d2), li, rc, false⟩, 70)] w' → NarEnds w0 g s (narrowP s (x1, x2) b true) e w' := fun e w' h => by
            rw [HN.out]; exact h
          clear HN
          by_cases q1 : ev = true
          · subst q1
            go_wp2
            go_ret
            exact fin _ _ ⟨rfl, KN.out⟩
          · have q1 : ev = false := by simpa using q1
            subst q1
            by_cases q2 : c < 0
            · have e1 : decide (c < 0) = true := decide_eq_true q2
              go_wp2
              go_ret
              exact fin _ _ ⟨rfl, KN.out⟩
            · have e1 : decide (c < 0) = false := decide_eq_false q2
              have q3 : c = 0 ∧ rc = false := by simpa [q2] using hq
              obtain ⟨q3, q4⟩ := q3
              subst q3; subst q4
              clear hq q2
              go_wp2
              go_ret
              exact fin _ _ ⟨rfl, KN.out⟩
        · have HN3 := Lib.hid (HN.out.trans (if_neg hq))
          have q1 : ev = false := by cases ev with
            | false => rfl
            | true => exact absurd (.inl rfl) hq
          subst q1
          have q2 : ¬ c < 0 := fun h => hq (.inr (.inl h))
          have e1 : decide (c < 0) = false := decide_eq_false q2
          have fin : ∀ (e : Ending) (w' : World), e = .returned (.bool true) ∧ Blx w0 [(g, spanCs ⟨(a1, a2), (h1, h2), li, hi, false⟩, 70)] w' → NarEnds w0 g s (narrowP s (x1, x2) b true) e w' := fun e w' h => by
            rw [HN3.out, HS.out]; exact h
          clear HN HN3
          by_cases q3 : c = 0
          · subst q3
            have q4 : rc = true := by cases rc with
              | true => rfl
              | false => exact absurd (.inr (.inr ⟨rfl, rfl⟩)) hq
            subst q4
            clear hq q2
            go_wp2
            go_ret
            exact fin _ _ ⟨rfl, K.out⟩
          · have e2 : (c == 0) = false := by simp [q3]
            clear hq q2 q3
            go_wp2
            go_ret
            exact fin _ _ ⟨rfl, K.out⟩

    · have hde2 : (de == 0) = false := by simp [hde]
      have HN := Lib.hid (HN.out.trans (if_neg hde))
      have K := Lib.hid (K.out.front (L := [(g, spanCs ⟨(a1, a2), (h1, h2), li, hi, ev⟩, 70)]) (M := [(gx, #[.int .i64 x1, .int .i64 x2], 59), (gd, #[.int .i64 d1, .int .i64 d2], 59)]))
      go_wp2
      go_ret
      rw [HN.out, HS.out]
      exact ⟨rfl, K.out⟩

def tbNrB (gx : Nat) (x1 x2 q d1 d2 de : Int) : List (Nat × Nat × Value) :=
  [(0, 27, .int .i64 q), (1, 28, .agg #[.int .i64 q, .int .i64 1]), (2, 29, .agg #[.int .i64 x1, .int .i64 x2]), (3, 30, .tuple #[.agg #[.int .i64 d1, .int .i64 d2], .int .i64 de]), (4, 26, .tuple #[.agg #[.int .i64 d1, .int .i64 d2], .int .i64 de]), (5, 31, .agg #[.int .i64 d1, .int .i64 d2]), (6, 32, .int .i64 de), (9, 13, .int .i64 de)]
def bsNrB (gx : Nat) (x1 x2 q d1 d2 de : Int) : List (Nat × Value) := [(5, .pointer (some ⟨gx, 0, none⟩)), (9, .int .i64 q)]
def bkNrB (gx : Nat) (x1 x2 q d1 d2 de : Int) : List BlkR := [⟨7, 12, 8, #[.int .i64 0, .int .i64 0], #[.int .i64 d1, .int .i64 d2], 59⟩]

def tbNcB (g gd : Nat) (d1 d2 a1 a2 c : Int) : List (Nat × Nat × Value) :=
  [(0, 69, .agg #[.int .i64 d1, .int .i64 d2]), (1, 70, .pointer (some ⟨g, 0, none⟩)), (2, 71, .pointer (some ⟨g, 0, none⟩)), (3, 72, .pointer (some ⟨g, 0, none⟩)), (4, 73, .agg #[.int .i64 a1, .int .i64 a2]), (5, 74, .int .i64 c), (6, 15, .int .i64 c)]
def bsNcB (g gd : Nat) (d1 d2 a1 a2 c : Int) : List (Nat × Value) := [(0, .pointer (some ⟨g, 0, none⟩)), (12, .pointer (some ⟨gd, 0, none⟩))]

set_option maxRecDepth 100000 in
set_option maxHeartbeats 8000000 in
theorem narrow_below (w0 w : World) (g : Nat) (s : SpanP) (x1 x2 b : Int) (hx1 : I64 x1) (hx2 : I64 x2) (hs : Span64 s) (hb : rightB b = true) (hn : b ≠ 2147483647) (K : Blx w0 [(g, spanCs s, 70)] w) :
    Calls Try.prog 79 #[.pointer (some ⟨g, 0, none⟩), .agg #[.int .i64 x1, .int .i64 x2], .int .i32 b, .bool false] w (NarEnds w0 g s (narrowP s (x1, x2) b false)) := by
  obtain ⟨⟨a1, a2⟩, ⟨h1, h2⟩, li, hi, ev⟩ := s
  obtain ⟨⟨s1, s2⟩, s3, s4⟩ := hs
  have K := Lib.hid (K.new #[.int .i64 x1, .int .i64 x2] 59)
  have hso : someB b = true := by unfold someB; rw [hb]; simp [hn]
  have HV := Lib.hid (fun W => value_yes b W hso)
  have hbd := rightB_bd hb hn
  have HN : narrowP ⟨(a1, a2), (h1, h2), li, hi, ev⟩ (x1, x2) b false = if (subP (-(b / 2), 1) (x1, x2)).2 = 0 then (if 0 < cmpP (subP (-(b / 2), 1) (x1, x2)).1 (a1, a2) ∨ (cmpP (subP (-(b / 2), 1) (x1, x2)).1 (a1, a2) = 0 ∧ decide (b % 2 = 1) = false) then some ⟨(subP (-(b / 2), 1) (x1, x2)).1, (h1, h2), decide (b % 2 = 1), hi, ev⟩ else some ⟨(a1, a2), (h1, h2), li, hi, ev⟩) else none := by
    unfold narrowP
    simp only [Bool.false_eq_true, if_false, even_dec]


  have q64 : I64 (-(b / 2)) := by unfold I64; omega
  have one64 : I64 1 := by unfold I64; omega
  have HOF := Lib.hid (fun W => rof2_any (-(b / 2)) W)
  have HSB := Lib.hid (fun W => sub_any (-(b / 2)) 1 x1 x2 q64 one64 hx1 hx2 W)
  have D64 := subP64 (-(b / 2), 1) (x1, x2)
  obtain ⟨D, hD⟩ : ∃ D, D = subP (-(b / 2), 1) (x1, x2) := ⟨_, rfl⟩
  rw [← hD] at HSB D64 HN
  obtain ⟨⟨d1, d2⟩, de⟩ := D
  unfold rtV at HSB
  have HCM := Lib.hid (fun W => compare_any d1 d2 a1 a2 D64.1 D64.2 s1 s2 W)
  obtain ⟨c, hc⟩ : ∃ c, c = cmpP (d1, d2) (a1, a2) := ⟨_, rfl⟩
  simp only at HN
  rw [← hc] at HCM HN
  obtain ⟨n, hnn⟩ : ∃ n, n = b / 2 := ⟨_, rfl⟩
  obtain ⟨rc, hrc⟩ : ∃ rc, rc = decide (b % 2 = 1) := ⟨_, rfl⟩
  rw [← hnn] at HV HOF HSB
  rw [← hrc] at HV HN
  have q3 : IntKind.i64.wrap (-n) = -n := IntWalk.i64_in _ (by omega)
  obtain ⟨s, hs⟩ : ∃ s : SpanP, s = ⟨(a1, a2), (h1, h2), li, hi, ev⟩ := ⟨_, rfl⟩
  rw [← hs] at HN ⊢
  have HS := Lib.hid hs
  replace HN := Lib.hid HN
  clear hs hc hD hx1 hx2 hb hn hso hbd s1 s2 s3 s4 D64 one64 q64 hrc hnn
  go_enter Try.func79, Try.ntmps79
  go_upto_block 0 with fail
  generalize w.alloc (.cells #[.int .i64 x1, .int .i64 x2] 59) = wa at *
  generalize w.heap.size = gx at *
  simp only [List.cons_append, List.nil_append] at K
  go_wp2_with fail
  refine (HV.out _).mono ?_
  rintro e w' ⟨rfl, rfl⟩
  have hB0 := K.out.below.size
  have hlB := K.out.after
  go_upto_region 4 with fail

  refine wp_region_tab (by kernel_rfl) [5, 9, 27, 28, 29, 30, 26, 31, 32, 12, 13] [[], [0], [], [1, 2], [3], [4], [4], [], [0, 1, 2, 3, 4, 5, 7], [0, 1, 2, 3, 4, 5, 6, 7, 8]]
    (fun L vals wx => Blx w0 [(g, spanCs ⟨(a1, a2), (h1, h2), li, hi, ev⟩, 70), (gx, #[.int .i64 x1, .int .i64 x2], 59)] wx ∧ TabR (tbNrB gx x1 x2 (-n) d1 d2 de) (bsNrB gx x1 x2 (-n) d1 d2 de) L vals ∧ BlksR (bkNrB gx x1 x2 (-n) d1 d2 de) wa.heap.size L vals wx) (by kernel_rfl) rfl ?_ ?_ ?_
  · exact ⟨K.out.drew, TabR.start (by simp [bsNrB]), BlksR.start _ (Nat.le_refl _)⟩
  · intro i hi a L vals wx E hJ hLi hn K hK hK0
    obtain ⟨hI, hT, hB⟩ := hJ
    match i, hi with
    | 0, _ => exact op_moveG rfl rfl rfl rfl ((E 9 (by decide)).trans (hT.rd 1 rfl)) (hK 27 _ _ (by decide) ⟨hI, hT.set 0 rfl (by kernel_rfl) (by kernel_rfl), hB.keep (Below.refl _ _) (by simp [bkNrB])⟩)
    | 1, _ =>
      have e1 := (E 27 (by decide)).trans (hT.val 0 rfl (hn 0 (by decide)))
      exact op_goG rfl rfl rfl rfl Try.func31 (by kernel_rfl) rfl (by simp only [List.map_toArray, List.map_cons, List.map_nil, e1]) (HOF.out _) (fun w' hb => hK 28 _ _ (by decide) ⟨hI.step hb, hT.set 1 rfl (by kernel_rfl) (by kernel_rfl), hB.keep hb (by simp [bkNrB])⟩)
    | 2, _ => exact op_loadG rfl rfl rfl rfl Try.underlying59 rfl (by kernel_rfl) ((E 5 (by decide)).trans (hT.rd 0 rfl)) (hI.l (gx, #[.int .i64 x1, .int .i64 x2], 59) (by simp)) (hK 29 _ _ (by decide) ⟨hI, hT.set 2 rfl (by kernel_rfl) (by kernel_rfl), hB.keep (Below.refl _ _) (by simp [bkNrB])⟩)
    | 3, _ =>
      have e1 := (E 28 (by decide)).trans (hT.val 1 rfl (hn 1 (by decide)))
      have e2 := (E 29 (by decide)).trans (hT.val 2 rfl (hn 2 (by decide)))
      exact op_goG rfl rfl rfl rfl Try.func113 (by kernel_rfl) rfl (by simp only [List.map_toArray, List.map_cons, List.map_nil, e1, e2]) (HSB.out _) (fun w' hb => hK 30 _ _ (by decide) ⟨hI.step hb, hT.set 3 rfl (by kernel_rfl) (by kernel_rfl), hB.keep hb (by simp [bkNrB])⟩)
    | 4, _ => exact op_moveG rfl rfl rfl rfl ((E 30 (by decide)).trans (hT.val 3 rfl (hn 3 (by decide)))) (hK 26 _ _ (by decide) ⟨hI, hT.set 4 rfl (by kernel_rfl) (by kernel_rfl), hB.keep (Below.refl _ _) (by simp [bkNrB])⟩)
    | 5, _ =>
      have e1 := (E 26 (by decide)).trans (hT.val 4 rfl (hn 4 (by decide)))
      refine op_valueG (w' := wx) (v := .agg #[.int .i64 d1, .int .i64 d2]) rfl rfl rfl ?_ (hK 31 _ _ (by decide) ⟨hI, hT.set 5 rfl (by kernel_rfl) (by kernel_rfl), hB.keep (Below.refl _ _) (by simp [bkNrB])⟩)
      clear hK hK0 hT E hB
      revert e1
      generalize a.eval = ρ
      intro e1
      go_simp
    | 6, _ =>
      have e1 := (E 26 (by decide)).trans (hT.val 4 rfl (hn 4 (by decide)))
      refine op_valueG (w' := wx) (v := .int .i64 de) rfl rfl rfl ?_ (hK 32 _ _ (by decide) ⟨hI, hT.set 6 rfl (by kernel_rfl) (by kernel_rfl), hB.keep (Below.refl _ _) (by simp [bkNrB])⟩)
      clear hK hK0 hT E hB
      revert e1
      generalize a.eval = ρ
      intro e1
      go_simp
    | 7, _ =>
      refine op_valueG (w' := wx.alloc (.cells #[.int .i64 0, .int .i64 0] 59)) (v := .pointer (some ⟨wx.heap.size, 0, none⟩)) rfl rfl rfl ?_ (hK 12 _ _ (by decide) ⟨hI.step (below_one _ _), hT.put (by simp [tbNrB]) (by simp [bsNrB]), hB.new 0 rfl hLi (by simp [bkNrB]) (by simp [bkNrB])⟩)
      clear hK hK0 hT hB E
      go_simp
    | 8, _ =>
      obtain ⟨ga, e1, e2, e3⟩ := hB.blk 0 rfl (hn 7 (by decide))
      rw [if_neg (by rw [hLi]; decide)] at e3
      exact op_store (old := #[.int .i64 0, .int .i64 0]) (cs := #[.int .i64 d1, .int .i64 d2]) rfl rfl rfl rfl (by kernel_rfl) rfl (by kernel_rfl) ((E 12 (by decide)).trans e1) ((E 31 (by decide)).trans (hT.val 5 rfl (hn 5 (by decide)))) e3
        (hK0 _ ⟨hI.own hB0 hlB e2 _, hT.skip (by simp [tbNrB]), hB.st 0 rfl (hn 7 (by decide)) (by simp [bkNrB]) (by simp [bkNrB]) (by simp [bkNrB]) e1⟩)
    | 9, _ => exact op_assignG rfl rfl rfl rfl ((E 32 (by decide)).trans (hT.val 6 rfl (hn 6 (by decide)))) (hK 13 _ _ (by decide) ⟨hI, hT.set 7 rfl (by kernel_rfl) (by kernel_rfl), hB.keep (Below.refl _ _) (by simp [bkNrB])⟩)
    | k + 10, h => exact absurd (show k + 10 < 10 from h) (by omega)
  · intro L vals wx hJ hall
    obtain ⟨hI, hT, hB⟩ := hJ
    have HI := Lib.hid hI
    have v5 : vals 5 = .pointer (some ⟨gx, 0, none⟩) := hT.rd 0 rfl
    have v9 : vals 9 = .int .i64 (-n) := hT.rd 1 rfl
    have v13 : vals 13 = .int .i64 de := hT.val 7 rfl (hall 9 (by decide))
    obtain ⟨gn0, m0, n0, r0⟩ := hB.blk 0 rfl (hall 7 (by decide))
    rw [if_pos (hall 8 (by decide))] at r0
    have v12 : vals 12 = .pointer (some ⟨gn0, 0, none⟩) := m0
    simp only [overA, Act.put, List.setIfInBounds_toArray, List.set_cons_zero, List.set_cons_succ]
    rw [v5, v9, v13, v12]
    clear hI hT hall v5 v9 v13 v12 hB
    replace K := Lib.hid (HI.out.with (fun t ht => Nat.lt_of_lt_of_le (hlB t ht) n0) (Nat.le_trans hB0 n0) r0)
    clear HI hB0 hlB n0 r0 m0 HOF HSB HV
    generalize gn0 = gd at *
    generalize wx = wb at *
    simp only [List.cons_append, List.nil_append] at K
    by_cases hde : de = 0
    · subst hde
      have HN := Lib.hid (HN.out.trans (if_pos rfl))
      go_upto_region 12 with fail

      refine wp_region_tab (by kernel_rfl) [0, 12, 69, 70, 71, 72, 73, 74, 15] [[], [], [1], [2], [3], [0, 4], [0, 1, 2, 3, 4, 5]]
        (fun L vals wx => Blx w0 [(g, spanCs ⟨(a1, a2), (h1, h2), li, hi, ev⟩, 70), (gx, #[.int .i64 x1, .int .i64 x2], 59), (gd, #[.int .i64 d1, .int .i64 d2], 59)] wx ∧ TabR (tbNcB g gd d1 d2 a1 a2 c) (bsNcB g gd d1 d2 a1 a2 c) L vals) (by kernel_rfl) rfl ?_ ?_ ?_
      · exact ⟨K.out.drew, TabR.start (by simp [bsNcB])⟩
      · intro i hi a L vals wx E hJ hLi hn K hK hK0
        obtain ⟨hI, hT⟩ := hJ
        match i, hi with
        | 0, _ => exact op_loadG rfl rfl rfl rfl Try.underlying59 rfl (by kernel_rfl) ((E 12 (by decide)).trans (hT.rd 1 rfl)) (hI.l (gd, #[.int .i64 d1, .int .i64 d2], 59) (by simp)) (hK 69 _ _ (by decide) ⟨hI, hT.set 0 rfl (by kernel_rfl) (by kernel_rfl)⟩)
        | 1, _ => exact op_moveG rfl rfl rfl rfl ((E 0 (by decide)).trans (hT.rd 0 rfl)) (hK 70 _ _ (by decide) ⟨hI, hT.set 1 rfl (by kernel_rfl) (by kernel_rfl)⟩)
        | 2, _ =>
          have e1 := (E 70 (by decide)).trans (hT.val 1 rfl (hn 1 (by decide)))
          refine op_valueG (w' := wx) (v := .pointer (some ⟨g, 0, none⟩)) rfl rfl rfl ?_ (hK 71 _ _ (by decide) ⟨hI, hT.set 2 rfl (by kernel_rfl) (by kernel_rfl)⟩)
          clear hK hK0 hT E
          revert e1
          generalize a.eval = ρ
          intro e1
          go_simp
        | 3, _ =>
          have e1 := (E 71 (by decide)).trans (hT.val 2 rfl (hn 2 (by decide)))
          refine op_valueG (w' := wx) (v := .pointer (some ⟨g, 0, none⟩)) rfl rfl rfl ?_ (hK 72 _ _ (by decide) ⟨hI, hT.set 3 rfl (by kernel_rfl) (by kernel_rfl)⟩)
          clear hK hK0 hT E
          revert e1
          generalize a.eval = ρ
          intro e1
          go_simp
        | 4, _ =>
          have e1 := (E 72 (by decide)).trans (hT.val 3 rfl (hn 3 (by decide)))
          have d1' := (hI.cell 0 rfl 0 (v := .int .i64 a1) rfl).1
          have d2' := (hI.cell 0 rfl 1 (v := .int .i64 a2) rfl).1
          refine op_valueG (w' := wx) (v := .agg #[.int .i64 a1, .int .i64 a2]) rfl rfl rfl ?_ (hK 73 _ _ (by decide) ⟨hI, hT.set 4 rfl (by kernel_rfl) (by kernel_rfl)⟩)
          clear hK hK0 hT E
          revert e1
          generalize a.eval = ρ
          intro e1
          go_simp
        | 5, _ =>
          have e1 := (E 69 (by decide)).trans (hT.val 0 rfl (hn 0 (by decide)))
          have e2 := (E 73 (by decide)).trans (hT.val 4 rfl (hn 4 (by decide)))
          exact op_goG rfl rfl rfl rfl Try.func21 (by kernel_rfl) rfl (by simp only [List.map_toArray, List.map_cons, List.map_nil, e1, e2]) (HCM.out _) (fun w' hb => hK 74 _ _ (by decide) ⟨hI.step hb, hT.set 5 rfl (by kernel_rfl) (by kernel_rfl)⟩)
        | 6, _ => exact op_assignG rfl rfl rfl rfl ((E 74 (by decide)).trans (hT.val 5 rfl (hn 5 (by decide)))) (hK 15 _ _ (by decide) ⟨hI, hT.set 6 rfl (by kernel_rfl) (by kernel_rfl)⟩)
        | k + 7, h => exact absurd (show k + 7 < 7 from h) (by omega)
      · intro L vals wx hJ hall
        obtain ⟨hI, hT⟩ := hJ
        have HI := Lib.hid hI
        have v0 : vals 0 = .pointer (some ⟨g, 0, none⟩) := hT.rd 0 rfl
        have v12 : vals 12 = .pointer (some ⟨gd, 0, none⟩) := hT.rd 1 rfl
        have v15 : vals 15 = .int .i64 c := hT.val 6 rfl (hall 6 (by decide))
        simp only [overA, Act.put, List.setIfInBounds_toArray, List.set_cons_zero, List.set_cons_succ]
        rw [v0, v12, v15]
        clear hI hT hall v0 v12 v15
        replace K := HI
        clear HI HCM
        generalize wx = wc at *
        obtain ⟨k1, k2, _, _⟩ := K.out.cells2 2 rfl
        obtain ⟨c2', f2⟩ := K.out.cell 0 rfl 0 (v := .int .i64 a1) rfl
        obtain ⟨c3', f3⟩ := K.out.cell 0 rfl 1 (v := .int .i64 a2) rfl
        obtain ⟨c5', f5⟩ := K.out.cell 0 rfl 4 (v := .bool li) rfl
        have KN := Lib.hid ((((K.out.set 0 rfl 0 (.int .i64 d1)).set 0 rfl 1 (.int .i64 d2)).set 0 rfl 4 (.bool rc)).front (L := [(g, spanCs ⟨(d1, d2), (h1, h2), rc, hi, ev⟩, 70)]) (M := [(gx, #[.int .i64 x1, .int .i64 x2], 59), (gd, #[.int .i64 d1, .int .i64 d2], 59)]))
        replace K := Lib.hid (K.out.front (L := [(g, spanCs ⟨(a1, a2), (h1, h2), li, hi, ev⟩, 70)]) (M := [(gx, #[.int .i64 x1, .int .i64 x2], 59), (gd, #[.int .i64 d1, .int .i64 d2], 59)]))
        by_cases hq : 0 < c ∨ (c = 0 ∧ rc = false)
        · have HN := Lib.hid (HN.out.trans (if_pos hq))
          have fin : ∀ (e : Ending) (w' : World), e = .returned (.bool true) ∧ Blx w0 [(g, spanCs ⟨(d1, d2), (h1, h2), rc, hi, ev⟩, 70)] w' → NarEnds w0 g s (narrowP s (x1, x2) b false) e w' := fun e w' h => by
            rw [HN.out]; exact h
          clear HN
          by_cases q2 : 0 < c
          · have e1 : decide (0 < c) = true := decide_eq_true q2
            go_wp2
            go_ret
            exact fin _ _ ⟨rfl, KN.out⟩
          · have e1 : decide (0 < c) = false := decide_eq_false q2
            have q3 : c = 0 ∧ rc = false := by simpa [q2] using hq
            obtain ⟨q3, q4⟩ := q3
            subst q3; subst q4
            clear hq q2
            go_wp2
            go_ret
            exact fin _ _ ⟨rfl, KN.out⟩
        · have HN3 := Lib.hid (HN.out.trans (if_neg hq))
          have q2 : ¬ 0 < c := fun h => hq (.inl h)
          have e1 : decide (0 < c) = false := decide_eq_false q2
          have fin : ∀ (e : Ending) (w' : World), e = .returned (.bool true) ∧ Blx w0 [(g, spanCs ⟨(a1, a2), (h1, h2), li, hi, ev⟩, 70)] w' → NarEnds w0 g s (narrowP s (x1, x2) b false) e w' := fun e w' h => by
            rw [HN3.out, HS.out]; exact h
          clear HN HN3
          by_cases q3 : c = 0
          · subst q3
            have q4 : rc = true := by cases rc with
              | true => rfl
              | false => exact absurd (.inr ⟨rfl, rfl⟩) hq
            subst q4
            clear hq q2
            go_wp2
            go_ret
            exact fin _ _ ⟨rfl, K.out⟩
          · have e2 : (c == 0) = false := by simp [q3]
            clear hq q2 q3
            go_wp2
            go_ret
            exact fin _ _ ⟨rfl, K.out⟩

    · have hde2 : (de == 0) = false := by simp [hde]
      have HN := Lib.hid (HN.out.trans (if_neg hde))
      have K := Lib.hid (K.out.front (L := [(g, spanCs ⟨(a1, a2), (h1, h2), li, hi, ev⟩, 70)]) (M := [(gx, #[.int .i64 x1, .int .i64 x2], 59), (gd, #[.int .i64 d1, .int .i64 d2], 59)]))
      go_wp2
      go_ret
      rw [HN.out, HS.out]
      exact ⟨rfl, K.out⟩


end Go.Proofs.Ytfegongaflekiaa

/- The closed form hangs on the cells of the clocks alone; the program's wide matrix and the document's have the same ones. -/
namespace Go.Proofs.Ytfegongaflekiaa
set_option linter.unusedVariables false

/-- The same cells of clocks 0 to n. -/
def Agree (n : Nat) (m o : Mat) : Prop := ∀ i j, i ≤ n → j ≤ n → m i j = o i j
theorem Agree.fwd {n : Nat} {m o : Mat} (h : Agree n m o) {k : Nat} (hk : k ≤ n) : Agree n (fw k n m) (fw k n o) := fun i j hi hj => by
  unfold fw; rw [if_pos ⟨hi, hj⟩, if_pos ⟨hi, hj⟩, h i j hi hj, h i k hi hk, h k j hk hj]
theorem closeP_agree {n : Nat} : ∀ s k m o, Agree n m o → k + s ≤ n + 1 → (closeP n s k m = none ∧ closeP n s k o = none) ∨ ∃ m' o', closeP n s k m = some m' ∧ closeP n s k o = some o' ∧ Agree n m' o'
  | 0, k, m, o, h, _ => .inr ⟨m, o, rfl, rfl, h⟩
  | s + 1, k, m, o, h, hk => by
    have hf := h.fwd (k := k) (by omega)
    simp only [closeP]
    by_cases hd : ∀ i, i ≤ n → 1 ≤ fw k n m i i
    · have hd' : ∀ i, i ≤ n → 1 ≤ fw k n o i i := fun i hi => by rw [← hf i i hi hi]; exact hd i hi
      rw [if_pos hd, if_pos hd']
      exact closeP_agree s (k + 1) _ _ hf (by omega)
    · have hd' : ¬ ∀ i, i ≤ n → 1 ≤ fw k n o i i := fun h' => hd fun i hi => by rw [hf i i hi hi]; exact h' i hi
      rw [if_neg hd, if_neg hd']
      exact .inl ⟨rfl, rfl⟩
theorem closed_agree {n : Nat} {m o : Mat} (h : Agree n m o) : (closed n m = none ∧ closed n o = none) ∨ ∃ m' o', closed n m = some m' ∧ closed n o = some o' ∧ Agree n m' o' :=
  closeP_agree (n + 1) 0 m o h (by omega)
theorem narM_agree {n : Nat} {m o : Mat} (h : Agree n m o) : narM n m = narM n o := by
  funext i j; unfold narM
  by_cases hij : i ≤ n ∧ j ≤ n
  · rw [if_pos hij, if_pos hij, h i j hij.1 hij.2]
  · rw [if_neg hij, if_neg hij]
theorem zoneP_agree {n : Nat} {m o : Mat} (h : Agree n m o) : zoneP n m = zoneP n o := by
  unfold zoneP
  rcases closed_agree h with ⟨h1, h2⟩ | ⟨m', o', h1, h2, h3⟩
  · rw [h1, h2]
  · rw [h1, h2]
    simp only
    by_cases ha : allR n m'
    · have hb : allR n o' := fun i hi j hj => by rw [← h3 i j hi hj]; exact ha i hi j hj
      rw [if_pos ha, if_pos hb, narM_agree h3]
    · have hb : ¬ allR n o' := fun hb => ha fun i hi j hj => by rw [h3 i j hi hj]; exact hb i hi j hj
      rw [if_neg ha, if_neg hb]

/-- The wide matrix of a row of bounds. -/
def widM (n : Nat) (cells : List Int) : Mat := fun i j => wid (cells.getD (i * (n + 1) + j) 0)
theorem widUp_flat {n : Nat} {cells : List Int} : widUp cells ((n + 1) * (n + 1)) = flat n (widM n cells) := by
  apply list_ext0 (by rw [widUp_length, flat_length])
  intro p hp
  rw [widUp_length] at hp
  rw [widUp_getD _ _ _ hp, flat_getD _ _ _ hp]
  show _ = wid (cells.getD (p / (n + 1) * (n + 1) + p % (n + 1)) 0)
  rw [Nat.mul_comm, Nat.div_add_mod]
theorem widM_bd {n : Nat} {cells : List Int} (h : ∀ q, q < (n + 1) * (n + 1) → rightB (cells.getD q 0) = true) : ∀ i j, i ≤ n → j ≤ n → Bd 1073741824 (widM n cells i j) := fun i j hi hj => by
  have hr := h (i * (n + 1) + j) (at_lt (by omega) (by omega))
  unfold widM wid
  by_cases e : cells.getD (i * (n + 1) + j) 0 = 2147483647
  · rw [if_pos e]; exact .inl rfl
  · rw [if_neg e]
    have := rightB_bd hr e
    exact .inr (by omega)

/-- What keeping the first p cells leaves of a cell. -/
theorem keepUp_cell (n : Nat) (cells : List Int) (i j : Nat) (hi : i ≤ n) (hj : j ≤ n) (hr : ∀ q, q < (n + 1) * (n + 1) → rightB (cells.getD q 0) = true) : ∀ p, p ≤ (n + 1) * (n + 1) →
    keepUp n cells p i j = if i * (n + 1) + j < p then (if i = j ∨ i = 0 then min 1 (wid (cells.getD (i * (n + 1) + j) 0)) else wid (cells.getD (i * (n + 1) + j) 0)) else openM n i j
  | 0, _ => by rw [if_neg (by omega)]; rfl
  | p + 1, hp => by
    have ih := keepUp_cell n cells i j hi hj hr p (by omega)
    have hrp := hr p (by omega)
    show keepM (keepUp n cells p) (p / (n + 1)) (p % (n + 1)) (cells.getD p 0) i j = _
    have hopen : openM n i j = if i = j ∨ i = 0 then 1 else none62 := by unfold openM; rw [if_pos ⟨hi, hj⟩]
    by_cases e : i * (n + 1) + j = p
    · have h1 := (at_row (i := i) (show j < n + 1 by omega)).1
      have h2 := (at_row (i := i) (show j < n + 1 by omega)).2
      rw [e] at h1 h2
      rw [if_neg (by omega)] at ih
      rw [if_pos (by omega), h1, h2, e]
      unfold keepM
      by_cases hinf : cells.getD p 0 = 2147483647
      · rw [if_pos hinf, ih, hopen]
        have hw : wid (cells.getD p 0) = none62 := by unfold wid; rw [if_pos hinf]
        rw [hw]
        by_cases hd : i = j ∨ i = 0
        · rw [if_pos hd, if_pos hd]; decide
        · rw [if_neg hd, if_neg hd]
      · rw [if_neg hinf]
        have hw : wid (cells.getD p 0) = cells.getD p 0 := by unfold wid; rw [if_neg hinf]
        have hb := rightB_bd hrp hinf
        rw [hw]
        unfold upd
        rw [if_pos ⟨rfl, rfl⟩, ih, hopen]
        by_cases hd : i = j ∨ i = 0
        · rw [if_pos hd, if_pos hd]
        · rw [if_neg hd, if_neg hd, Int.min_def]
          unfold none62
          rw [if_neg (by omega)]
    · have hne : ¬ (i = p / (n + 1) ∧ j = p % (n + 1)) := fun h => e (by rw [h.1, h.2, Nat.mul_comm]; exact Nat.div_add_mod _ _)
      have hk : keepM (keepUp n cells p) (p / (n + 1)) (p % (n + 1)) (cells.getD p 0) i j = keepUp n cells p i j := by
        unfold keepM
        split
        · rfl
        · unfold upd; rw [if_neg hne]
      rw [hk, ih]
      by_cases hlt : i * (n + 1) + j < p
      · rw [if_pos hlt, if_pos (show i * (n + 1) + j < p + 1 by omega)]
      · rw [if_neg hlt, if_neg (show ¬ i * (n + 1) + j < p + 1 by omega)]

/-- The program's wide matrix is the document's. -/
theorem keep_wide {n : Nat} {cells : List Int} (hr : ∀ q, q < (n + 1) * (n + 1) → rightB (cells.getD q 0) = true) : Agree n (clUp (widM n cells) (n + 1)) (keepUp n cells ((n + 1) * (n + 1))) := fun i j hi hj => by
  rw [keepUp_cell n cells i j hi hj hr _ (Nat.le_refl _), if_pos (at_lt (by omega) (by omega))]
  unfold clUp
  by_cases hd : i = j ∨ i = 0
  · rw [if_pos (by omega), if_pos hd, Int.min_comm]; rfl
  · rw [if_neg (by omega), if_neg hd]; rfl

end Go.Proofs.Ytfegongaflekiaa

/- The diagonal of a closed form, and the shape of every zone. -/
namespace Go.Proofs.Ytfegongaflekiaa
set_option linter.unusedVariables false
set_option linter.unusedSimpArgs false

theorem fw_diag {k n : Nat} {m : Mat} (h : ∀ i, i ≤ n → m i i ≤ 1) : ∀ i, i ≤ n → fw k n m i i ≤ 1 := fun i hi => by
  unfold fw
  rw [if_pos ⟨hi, hi⟩]
  have := h i hi
  omega
theorem closeP_diag {n : Nat} : ∀ s k m m', (∀ i, i ≤ n → m i i ≤ 1) → closeP n s k m = some m' → ∀ i, i ≤ n → m' i i ≤ 1
  | 0, k, m, m', h, e => by
    simp [closeP] at e
    subst e
    exact h
  | s + 1, k, m, m', h, e => by
    unfold closeP at e
    split at e
    · exact closeP_diag s (k + 1) _ m' (fw_diag h) e
    · cases e
theorem closeP_low {n : Nat} : ∀ s k m m', closeP n (s + 1) k m = some m' → ∀ i, i ≤ n → 1 ≤ m' i i
  | 0, k, m, m', e => by
    unfold closeP at e
    split at e
    · simp [closeP] at e
      subst e
      assumption
    · cases e
  | s + 1, k, m, m', e => by
    unfold closeP at e
    split at e
    · exact closeP_low s (k + 1) _ m' e
    · cases e
/-- On the diagonal of a closed form stands 0, reached. -/
theorem closed_diag {n : Nat} {m m' : Mat} (h : ∀ i, i ≤ n → m i i ≤ 1) (e : closed n m = some m') : ∀ i, i ≤ n → m' i i = 1 := fun i hi => by
  have h1 := closeP_diag _ _ _ _ h e i hi
  have h2 := closeP_low _ _ _ _ e i hi
  omega

/-- The shape of a zone: nothing outside; empty: all 0; else 1 on the diagonal. -/
structure Shape (n : Nat) (m : Mat) : Prop where
  inside : Inside n m
  cases : m = (fun _ _ => 0) ∨ ∀ i, i ≤ n → m i i = 1
theorem zoneP_shape {n : Nat} {m z : Mat} (h : ∀ i, i ≤ n → m i i ≤ 1) (e : (zoneP n m).1 = some z) : Shape n z := by
  unfold zoneP at e
  split at e
  · simp at e
    subst e
    exact ⟨fun _ _ _ => rfl, .inl rfl⟩
  · rename_i m' hm
    split at e
    · simp at e
      subst e
      refine ⟨narM_inside _ _, .inr fun i hi => ?_⟩
      unfold narM
      rw [if_pos ⟨hi, hi⟩, closed_diag h hm i hi]
      decide
    · cases e
theorem ofP_shape {n : Int} {cells : List Int} {z : Mat} (e : (ofP n cells).1 = some z) : 0 ≤ n ∧ n ≤ 8 ∧ Shape n.toNat z := by
  unfold ofP at e
  split at e
  · rename_i hn
    refine ⟨hn.1, hn.2, ?_⟩
    split at e
    · split at e
      · rename_i hr
        have hr' := (all_getD cells rightB 0).1 hr
        exact zoneP_shape (fun i hi => (keepUp_fit _ _ _ hr').diag i hi) e
      · cases e
    · cases e
  · cases e
theorem limP_shape {n : Int} {l : List (Int × Int × Int)} {z : Mat} (e : (limP n l).1 = some z) : 0 ≤ n ∧ n ≤ 8 ∧ Shape n.toNat z := by
  unfold limP at e
  split at e
  · rename_i hn
    refine ⟨hn.1, hn.2, ?_⟩
    split at e
    · rename_i hr
      have hr' := (all_getD l (limOk n.toNat) (0, 0, 0)).1 hr
      exact zoneP_shape (fun i hi => (limUp_fit _ _ _ hr').diag i hi) e
    · cases e
  · cases e
/-- Two that hold the same within are the same. -/
theorem inside_ext {n : Nat} {m o : Mat} (hm : Inside n m) (ho : Inside n o) (h : ∀ i j, i ≤ n → j ≤ n → m i j = o i j) : m = o := by
  funext a c
  by_cases hb : a ≤ n ∧ c ≤ n
  · exact h a c hb.1 hb.2
  · rw [hm a c (by omega), ho a c (by omega)]

end Go.Proofs.Ytfegongaflekiaa

/- What bounds mean: valuations on a grid. The closed form has the same ones, it is closed, and it is its own closed form. -/
namespace Go.Proofs.Ytfegongaflekiaa
set_option linter.unusedVariables false
set_option linter.unusedSimpArgs false

/-! ### sums of wide bounds -/
theorem wsum_min {a b : Int} (ha : a ≠ none62) (hb : b ≠ none62) : wsum a b = (a - a % 2) + (b - b % 2) + min (a % 2) (b % 2) := by
  unfold wsum
  rw [if_neg (by simp [ha, hb])]
  rcases two_cases a b with ⟨h, h1⟩ | ⟨h, h1, h2⟩ <;> rw [h] <;> omega
theorem wsum_none_left (b : Int) : wsum none62 b = none62 := by simp [wsum]
theorem wsum_none_right (a : Int) : wsum a none62 = none62 := by simp [wsum]
theorem wsum_comm (a b : Int) : wsum a b = wsum b a := by
  by_cases ha : a = none62
  · rw [ha, wsum_none_left, wsum_none_right]
  · by_cases hb : b = none62
    · rw [hb, wsum_none_left, wsum_none_right]
    · rw [wsum_min ha hb, wsum_min hb ha]; omega
/-- A wide bound that may be added a few times. -/
abbrev FB (a : Int) : Prop := Bd 288230376151711744 a
theorem FB.fin {a : Int} (h : FB a) (hn : a ≠ none62) : -288230376151711744 ≤ a ∧ a ≤ 288230376151711744 := by
  rcases h with h | h
  · exact absurd h hn
  · exact h
theorem FB.le {a : Int} (h : FB a) : a ≤ none62 := by
  unfold none62
  rcases h with h | h
  · unfold none62 at h; omega
  · omega
theorem wsum_fin_ne {a b : Int} (ha : FB a) (hb : FB b) (h1 : a ≠ none62) (h2 : b ≠ none62) : wsum a b ≠ none62 := by
  rw [wsum_min h1 h2]
  have := ha.fin h1
  have := hb.fin h2
  unfold none62
  omega
theorem wsum_assoc {a b c : Int} (ha : FB a) (hb : FB b) (hc : FB c) : wsum (wsum a b) c = wsum a (wsum b c) := by
  by_cases h1 : a = none62
  · rw [h1, wsum_none_left, wsum_none_left, wsum_none_left]
  · by_cases h2 : b = none62
    · rw [h2, wsum_none_right, wsum_none_left, wsum_none_right]
    · by_cases h3 : c = none62
      · rw [h3, wsum_none_right, wsum_none_right, wsum_none_right]
      · have e1 := wsum_fin_ne ha hb h1 h2
        have e2 := wsum_fin_ne hb hc h2 h3
        rw [wsum_min e1 h3, wsum_min h1 e2, wsum_min h1 h2, wsum_min h2 h3]
        omega
theorem wsum_le {a a' b b' : Int} (ha : FB a) (ha' : FB a') (hb : FB b) (hb' : FB b') (h1 : a ≤ a') (h2 : b ≤ b') : wsum a b ≤ wsum a' b' := by
  by_cases e1 : a' = none62
  · rw [e1, wsum_none_left]
    by_cases e2 : a = none62
    · rw [e2, wsum_none_left]; exact Int.le_refl _
    · by_cases e3 : b = none62
      · rw [e3, wsum_none_right]; exact Int.le_refl _
      · have := ha.fin e2
        have := hb.fin e3
        rw [wsum_min e2 e3]; unfold none62; omega
  · by_cases e2 : b' = none62
    · rw [e2, wsum_none_right]
      by_cases e3 : a = none62
      · rw [e3, wsum_none_left]; exact Int.le_refl _
      · by_cases e4 : b = none62
        · rw [e4, wsum_none_right]; exact Int.le_refl _
        · have := ha.fin e3
          have := hb.fin e4
          rw [wsum_min e3 e4]; unfold none62; omega
    · have f1 := ha'.fin e1
      have f2 := hb'.fin e2
      have e3 : a ≠ none62 := fun h => by unfold none62 at h; omega
      have e4 : b ≠ none62 := fun h => by unfold none62 at h; omega
      rw [wsum_min e3 e4, wsum_min e1 e2]
      omega

/-! ### the closed form is closed -/
/-- No way by a clock ahead of k is stricter. -/
def Tri (n : Nat) (m : Mat) (k : Nat) : Prop := ∀ l, l < k → ∀ i j, i ≤ n → j ≤ n → m i j ≤ wsum (m i l) (m l j)
theorem fw_le (k n : Nat) (m : Mat) (i j : Nat) : fw k n m i j ≤ m i j := by
  unfold fw; split
  · omega
  · exact Int.le_refl _
theorem half_fb {a : Int} (h : Bd 1125899906842624 a) : FB a := h.mono (by omega)
theorem sum_fb {a b : Int} (h : Bd 1125899906842624 a) (h' : Bd 1125899906842624 b) : FB (wsum a b) := (h.sum h').mono (by omega)
theorem fw_tri {n k : Nat} {m : Mat} (hf : ∀ i j, i ≤ n → j ≤ n → Bd 1125899906842624 (m i j)) (hk : k ≤ n) (hd : ∀ i, i ≤ n → m i i = 1) (ht : Tri n m k) : Tri n (fw k n m) (k + 1) := by
  intro l hl i j hi hj
  by_cases e : l = k
  · subst e
    rw [fw_col (hd l hk), fw_row (hd l hk)]
    unfold fw
    rw [if_pos ⟨hi, hj⟩]
    omega
  · have hlk : l < k := by omega
    have hln : l ≤ n := by omega
    have t1 := ht l hlk i j hi hj
    have t2 := ht l hlk k j hk hj
    have t3 := ht l hlk i k hi hk
    have t4 := ht l hlk k k hk hk
    rw [hd k hk] at t4
    have fa := hf i l hi hln
    have fb := hf l j hln hj
    have fc := hf i k hi hk
    have fd := hf k j hk hj
    have fp := hf k l hk hln
    have fq := hf l k hln hk
    unfold fw
    rw [if_pos ⟨hi, hj⟩, if_pos ⟨hi, hln⟩, if_pos ⟨hln, hj⟩]
    generalize m i j = x at *
    generalize m i l = a at *
    generalize m l j = b at *
    generalize m i k = c at *
    generalize m k j = d at *
    generalize m k l = p at *
    generalize m l k = q at *
    have g2 : wsum c d ≤ wsum (wsum c p) b := by
      rw [wsum_assoc (half_fb fc) (half_fb fp) (half_fb fb)]
      exact wsum_le (half_fb fc) (half_fb fc) (half_fb fd) (sum_fb fp fb) (Int.le_refl _) t2
    have g3 : wsum c d ≤ wsum a (wsum q d) := by
      rw [← wsum_assoc (half_fb fa) (half_fb fq) (half_fb fd)]
      exact wsum_le (half_fb fc) (sum_fb fa fq) (half_fb fd) (half_fb fd) t3 (Int.le_refl _)
    have g4 : wsum c d ≤ wsum (wsum c p) (wsum q d) := by
      rw [wsum_assoc (half_fb fc) (half_fb fp) (sum_fb fq fd), ← wsum_assoc (half_fb fp) (half_fb fq) (half_fb fd)]
      refine wsum_le (half_fb fc) (half_fb fc) (half_fb fd) ?_ (Int.le_refl _) ?_
      · have := ((fp.sum fq).sum fd)
        exact this.mono (by omega)
      · have := wsum_le (a := 1) (b := d) (a' := wsum p q) (b' := d) (.inr (by omega)) (sum_fb fp fq) (half_fb fd) (half_fb fd) t4 (Int.le_refl _)
        rwa [wsum_one_left] at this
    have m1 : min a (wsum c p) = a ∨ min a (wsum c p) = wsum c p := by omega
    have m2 : min b (wsum q d) = b ∨ min b (wsum q d) = wsum q d := by omega
    rcases m1 with m1 | m1 <;> rcases m2 with m2 | m2 <;> rw [m1, m2]
    · omega
    · omega
    · omega
    · omega

theorem four_le {k : Nat} (h : k ≤ 9) : (1073741824 : Int) * 4 ^ k ≤ 281474976710656 := by
  have := pow2_le h
  omega
theorem fit_bd {n k : Nat} {m : Mat} (h : Fit n (1073741824 * 4 ^ k) m) (hk : k ≤ 9) : ∀ i j, i ≤ n → j ≤ n → Bd 1125899906842624 (m i j) := fun i j hi hj => (h.bd i j hi hj).mono (by have := four_le hk; omega)
theorem fit_next {n k : Nat} {m : Mat} (h : Fit n (1073741824 * 4 ^ k) m) (hk : k ≤ n) : Fit n (1073741824 * 4 ^ (k + 1)) (fw k n m) := by
  have := h.fwd hk (by have := one_le_pow2 k; omega)
  exact ⟨fun i j hi hj => (this.bd i j hi hj).mono (pow2_step k), this.diag⟩

/-- What a closed form is. -/
structure Closed (n : Nat) (m m' : Mat) : Prop where
  tri : Tri n m' (n + 1)
  bd : ∀ i j, i ≤ n → j ≤ n → Bd 1125899906842624 (m' i j)
  one : ∀ i, i ≤ n → m' i i = 1
  le : ∀ i j, m' i j ≤ m i j
theorem closeP_closed {n : Nat} (hn : n ≤ 8) : ∀ s k m m', k + s = n + 1 → Fit n (1073741824 * 4 ^ k) m → Tri n m k → (∀ i, i ≤ n → s = 0 → m i i = 1) → closeP n s k m = some m' → Closed n m m'
  | 0, k, m, m', hk, hf, ht, h1, e => by
    simp [closeP] at e
    subst e
    have : k = n + 1 := by omega
    subst this
    exact ⟨ht, fit_bd hf (by omega), fun i hi => h1 i hi rfl, fun _ _ => Int.le_refl _⟩
  | s + 1, k, m, m', hk, hf, ht, h1, e => by
    unfold closeP at e
    split at e
    · rename_i hd
      have hone : ∀ i, i ≤ n → m i i = 1 := fun i hi => by
        have a := hd i hi
        have b := fw_le k n m i i
        have c := hf.diag i hi
        omega
      have hf' := fit_next hf (show k ≤ n by omega)
      have hone' : ∀ i, i ≤ n → fw k n m i i = 1 := fun i hi => by
        have a := hd i hi
        have b := hf'.diag i hi
        omega
      have ht' := fw_tri (fit_bd hf (by omega)) (by omega) hone ht
      have := closeP_closed hn s (k + 1) (fw k n m) m' (by omega) hf' ht' (fun i hi _ => hone' i hi) e
      exact ⟨this.tri, this.bd, this.one, fun i j => Int.le_trans (this.le i j) (fw_le k n m i j)⟩
    · cases e
theorem closed_closed {n : Nat} {m m' : Mat} (hn : n ≤ 8) (hf : Fit n 1073741824 m) (e : closed n m = some m') : Closed n m m' :=
  closeP_closed hn (n + 1) 0 m m' (by omega) (by simpa using hf) (fun l hl => by omega) (fun i hi h => by omega) e

/-- What is closed is its own closed form. -/
theorem fw_id {k n : Nat} {m : Mat} (hk : k ≤ n) (ht : Tri n m (n + 1)) : fw k n m = m := by
  funext i j
  unfold fw
  split
  · rename_i h
    have := ht k (by omega) i j h.1 h.2
    omega
  · rfl
theorem closeP_id {n : Nat} {m : Mat} (ht : Tri n m (n + 1)) (h1 : ∀ i, i ≤ n → m i i = 1) : ∀ s k, k + s ≤ n + 1 → closeP n s k m = some m
  | 0, k, _ => rfl
  | s + 1, k, hk => by
    unfold closeP
    rw [fw_id (by omega) ht, if_pos (fun i hi => by rw [h1 i hi]; exact Int.le_refl _)]
    exact closeP_id ht h1 s (k + 1) (by omega)
theorem closed_id {n : Nat} {m : Mat} (ht : Tri n m (n + 1)) (h1 : ∀ i, i ≤ n → m i i = 1) : closed n m = some m := closeP_id ht h1 _ _ (by omega)

/-! ### valuations -/
/-- Does a difference, in units of a grid, keep a wide bound? -/
def sat (g b x : Int) : Prop := b = none62 ∨ x < b / 2 * g + b % 2
theorem sat_mono {g a b x : Int} (hg : 1 ≤ g) (hb : FB b) (h : a ≤ b) (hs : sat g a x) : sat g b x := by
  rcases hb with hb | hb
  · exact .inl hb
  · right
    rcases hs with hs | hs
    · unfold none62 at hs; omega
    · by_cases e : a / 2 = b / 2
      · rw [← e]; omega
      · have h2 : (a / 2 + 1) * g ≤ b / 2 * g := Int.mul_le_mul_of_nonneg_right (by omega) (by omega)
        rw [Int.add_mul, Int.one_mul] at h2
        omega
theorem sat_sum {g a b x y : Int} (h1 : sat g a x) (h2 : sat g b y) : sat g (wsum a b) (x + y) := by
  by_cases ha : a = none62
  · left; rw [ha, wsum_none_left]
  · by_cases hb : b = none62
    · left; rw [hb, wsum_none_right]
    · right
      rw [wsum_min ha hb]
      rcases h1 with h1 | h1
      · exact absurd h1 ha
      · rcases h2 with h2 | h2
        · exact absurd h2 hb
        · have e1 : (a - a % 2 + (b - b % 2) + min (a % 2) (b % 2)) / 2 = a / 2 + b / 2 := by omega
          have e2 : (a - a % 2 + (b - b % 2) + min (a % 2) (b % 2)) % 2 = min (a % 2) (b % 2) := by omega
          rw [e1, e2, Int.add_mul]
          omega
theorem sat_min {g a b x : Int} (hg : 1 ≤ g) (ha : FB a) (hb : FB b) : sat g (min a b) x ↔ sat g a x ∧ sat g b x := by
  constructor
  · intro h
    exact ⟨sat_mono hg ha (by omega) h, sat_mono hg hb (by omega) h⟩
  · intro ⟨h1, h2⟩
    rcases (show min a b = a ∨ min a b = b by omega) with e | e <;> rw [e] <;> assumption
theorem sat_zero {g b : Int} (hg : 1 ≤ g) (hs : sat g b 0) : 1 ≤ b := by
  rcases hs with hs | hs
  · rw [hs]; decide
  · by_cases h : 1 ≤ b
    · exact h
    · exfalso
      by_cases e : b = 0
      · subst e; simp at hs
      · have h2 : b / 2 * g ≤ -1 * g := Int.mul_le_mul_of_nonneg_right (by omega) (by omega)
        omega
theorem sat_one {g x : Int} (hx : x ≤ 0) : sat g 1 x := .inr (by simp; omega)

/-- Does a valuation keep all cells? -/
def satM (n : Nat) (g : Int) (m : Mat) (v : Nat → Int) : Prop := ∀ i j, i ≤ n → j ≤ n → sat g (m i j) (v i - v j)
theorem satM_fw {n k : Nat} {g : Int} {m : Mat} {v : Nat → Int} (hg : 1 ≤ g) (hf : ∀ i j, i ≤ n → j ≤ n → Bd 1125899906842624 (m i j)) (hk : k ≤ n) : satM n g (fw k n m) v ↔ satM n g m v := by
  constructor
  · intro h i j hi hj
    exact sat_mono hg (half_fb (hf i j hi hj)) (fw_le k n m i j) (h i j hi hj)
  · intro h i j hi hj
    unfold fw
    rw [if_pos ⟨hi, hj⟩, sat_min hg (half_fb (hf i j hi hj)) (sum_fb (hf i k hi hk) (hf k j hk hj))]
    refine ⟨h i j hi hj, ?_⟩
    have := sat_sum (h i k hi hk) (h k j hk hj)
    rwa [show v i - v k + (v k - v j) = v i - v j by omega] at this
def ClosedSat (n : Nat) (g : Int) (m : Mat) (v : Nat → Int) : Option Mat → Prop
  | none => ¬ satM n g m v
  | some m' => satM n g m v ↔ satM n g m' v
theorem closeP_sat {n : Nat} {g : Int} (hn : n ≤ 8) (hg : 1 ≤ g) (v : Nat → Int) : ∀ s k m, k + s = n + 1 → Fit n (1073741824 * 4 ^ k) m → ClosedSat n g m v (closeP n s k m)
  | 0, k, m, _, _ => Iff.rfl
  | s + 1, k, m, hk, hf => by
    have e := satM_fw (v := v) hg (fit_bd hf (by omega)) (show k ≤ n by omega)
    unfold closeP
    split
    · have ih := closeP_sat hn hg v s (k + 1) (fw k n m) (by omega) (fit_next hf (by omega))
      revert ih
      cases closeP n s (k + 1) (fw k n m) with
      | none => exact fun ih h => ih (e.2 h)
      | some m' => exact fun ih => e.symm.trans ih
    · rename_i hd
      intro hs
      refine hd fun i hi => ?_
      have := (e.2 hs) i i hi hi
      rw [Int.sub_self] at this
      exact sat_zero hg this
theorem closed_sat {n : Nat} {g : Int} {m : Mat} (hn : n ≤ 8) (hg : 1 ≤ g) (v : Nat → Int) (hf : Fit n 1073741824 m) : ClosedSat n g m v (closed n m) :=
  closeP_sat hn hg v (n + 1) 0 m (by omega) (by simpa using hf)

/-! ### zones of their own cells -/
/-- The wide cells of narrow ones, with what holds of all valuations. -/
def wideZ (z : Mat) : Mat := fun i j => if i = j ∨ i = 0 then min 1 (wid (z i j)) else wid (z i j)
theorem keep_flat {n : Nat} {z : Mat} (hr : RightM n z) : Agree n (keepUp n (flat n z) ((n + 1) * (n + 1))) (wideZ z) := fun i j hi hj => by
  rw [keepUp_cell n (flat n z) i j hi hj (fun q hq => by
    rw [flat_getD _ _ _ hq]
    have h1 : q / (n + 1) < n + 1 := Nat.div_lt_of_lt_mul hq
    have h2 := Nat.mod_lt q (show 0 < n + 1 by omega)
    exact hr _ _ (by omega) (by omega)) _ (Nat.le_refl _), if_pos (at_lt (by omega) (by omega)), flat_at _ (by omega) (by omega)]
  rfl
theorem flat_right {n : Nat} {z : Mat} (hr : RightM n z) : (flat n z).all rightB = true := (all_getD _ _ 0).2 fun q hq => by
  rw [flat_length] at hq
  rw [flat_getD _ _ _ hq]
  have h1 : q / (n + 1) < n + 1 := Nat.div_lt_of_lt_mul hq
  have h2 := Nat.mod_lt q (show 0 < n + 1 by omega)
  exact hr _ _ (by omega) (by omega)
/-- What Of tells of a matrix. -/
theorem of_flat {n : Nat} {z : Mat} (hn : n ≤ 8) (hr : RightM n z) : ofP n (flat n z) = zoneP n (wideZ z) := by
  unfold ofP
  rw [if_pos (by omega), if_pos (by rw [flat_length]; simp), if_pos (flat_right hr), flat_length, Int.toNat_natCast]
  exact zoneP_agree (keep_flat hr)
theorem wid_nar {x : Int} (h : inR x) : wid (nar x) = x := by
  unfold nar wid
  rcases h with h | h
  · rw [if_pos h, if_pos rfl, h]
  · have e1 : ¬ x = none62 := by unfold none62; omega
    rw [if_neg e1, if_neg (by omega)]
theorem zoneP_zero (n : Nat) : zoneP n (wideZ fun _ _ => 0) = (some (fun _ _ => 0), 0) := by
  have h : closed n (wideZ fun _ _ => 0) = none := by
    unfold closed closeP
    rw [if_neg]
    intro h
    have h1 := h 0 (by omega)
    have h2 := fw_le 0 n (wideZ fun _ _ => 0) 0 0
    have h3 : wideZ (fun _ _ => 0) 0 0 = 0 := by decide
    omega
  unfold zoneP
  rw [h]
/-- What a zone's own matrix is: empty, or closed. -/
inductive ZoneIs (n : Nat) (M z : Mat) : Prop
  | empty (h : z = fun _ _ => 0) (e : closed n M = none)
  | full (m' : Mat) (e : closed n M = some m') (h : allR n m') (hz : z = narM n m') (hc : Closed n M m')
theorem zoneP_is {n : Nat} {M z : Mat} (hn : n ≤ 8) (hf : Fit n 1073741824 M) (e : (zoneP n M).1 = some z) : ZoneIs n M z := by
  unfold zoneP at e
  cases hc : closed n M with
  | none => rw [hc] at e; simp at e; exact .empty e.symm hc
  | some m' =>
    rw [hc] at e
    simp only at e
    by_cases ha : allR n m'
    · rw [if_pos ha] at e
      simp at e
      exact .full m' hc ha e.symm (closed_closed hn hf hc)
    · rw [if_neg ha] at e; cases e
/-- Of a zone's own cells: the zone. -/
theorem of_again {n : Nat} {M z : Mat} (hn : n ≤ 8) (hf : Fit n 1073741824 M) (h0 : ∀ j, j ≤ n → M 0 j ≤ 1) (e : (zoneP n M).1 = some z) : ofP n (flat n z) = (some z, 0) := by
  rcases zoneP_is hn hf e with ⟨h, _⟩ | ⟨m', hm, ha, hz, hc⟩
  · subst h
    rw [of_flat hn (right_zero n), zoneP_zero]
  · have hr : RightM n z := by rw [hz]; exact narM_right ha
    rw [of_flat hn hr]
    have hag : Agree n (wideZ z) m' := fun i j hi hj => by
      have e1 : z i j = nar (m' i j) := by rw [hz]; unfold narM; rw [if_pos ⟨hi, hj⟩]
      have e2 := wid_nar (ha i hi j hj)
      unfold wideZ
      rw [e1, e2]
      split
      · rename_i hij
        have : m' i j ≤ 1 := by
          rcases hij with hij | hij
          · subst hij; rw [hc.one i hi]; exact Int.le_refl _
          · subst hij; exact Int.le_trans (hc.le 0 j) (h0 j hj)
        omega
      · rfl
    rw [zoneP_agree hag]
    unfold zoneP
    rw [closed_id hc.tri hc.one]
    simp only
    rw [if_pos ha, hz]

end Go.Proofs.Ytfegongaflekiaa

/- Each zone that is not empty has a valuation on the grid of its clocks and one; how it is found; what is not forbidden is there. -/
namespace Go.Proofs.Ytfegongaflekiaa
set_option linter.unusedVariables false
set_option linter.unusedSimpArgs false

/-! ### counting -/
def cnt (P : Nat → Bool) : Nat → Int
  | 0 => 0
  | k + 1 => cnt P k + (if P k then 1 else 0)
theorem cnt_le {P Q : Nat → Bool} : ∀ N, (∀ k, k < N → P k = true → Q k = true) → cnt P N ≤ cnt Q N
  | 0, _ => Int.le_refl _
  | N + 1, h => by
    have ih := cnt_le N fun k hk => h k (by omega)
    have hN := h N (by omega)
    unfold cnt
    cases hp : P N
    · cases Q N <;> simp <;> omega
    · rw [hN hp]; simp; omega
theorem cnt_lt {P Q : Nat → Bool} : ∀ N k0, k0 < N → (∀ k, k < N → P k = true → Q k = true) → P k0 = false → Q k0 = true → cnt P N + 1 ≤ cnt Q N
  | 0, k0, h0, _, _, _ => by omega
  | N + 1, k0, h0, h, hp, hq => by
    unfold cnt
    by_cases e : k0 = N
    · subst e
      have := cnt_le k0 fun k hk => h k (by omega)
      rw [hp, hq]; simp; omega
    · have ih := cnt_lt N k0 (by omega) (fun k hk => h k (by omega)) hp hq
      have hN := h N (by omega)
      cases hpN : P N
      · cases Q N <;> simp <;> omega
      · rw [hN hpN]; simp; omega
theorem cnt_bd (P : Nat → Bool) : ∀ N, 0 ≤ cnt P N ∧ cnt P N ≤ N
  | 0 => by simp [cnt]
  | N + 1 => by
    have ih := cnt_bd P N
    unfold cnt
    split <;> omega
theorem cnt_miss (P : Nat → Bool) (N k0 : Nat) (h0 : k0 < N) (h : P k0 = false) : cnt P N + 1 ≤ N := by
  have h1 := cnt_lt (P := P) (Q := fun _ => true) N k0 h0 (fun _ _ _ => rfl) h rfl
  have h2 := (cnt_bd (fun _ => true) N).2
  omega

/-! ### a valuation of a closed matrix -/
/-- What a matrix must be to have a valuation: closed, and no clock below 0. -/
structure Solid (n : Nat) (m : Mat) : Prop where
  tri : Tri n m (n + 1)
  bd : ∀ i j, i ≤ n → j ≤ n → FB (m i j)
  one : ∀ i, i ≤ n → m i i = 1
  top : ∀ j, j ≤ n → m 0 j ≤ 1
theorem Solid.fin {n : Nat} {m : Mat} (h : Solid n m) {j : Nat} (hj : j ≤ n) : m 0 j ≠ none62 := fun e => by
  have := h.top j hj
  rw [e] at this
  unfold none62 at this
  omega
theorem Solid.step {n : Nat} {m : Mat} (h : Solid n m) {i k j : Nat} (hi : i ≤ n) (hk : k ≤ n) (hj : j ≤ n) (h1 : m i k ≠ none62) (h2 : m k j ≠ none62) :
    m i j ≠ none62 ∧ m i j ≤ (m i k - m i k % 2) + (m k j - m k j % 2) + min (m i k % 2) (m k j % 2) := by
  have t := h.tri k (by omega) i j hi hj
  rw [wsum_min h1 h2] at t
  refine ⟨fun e => ?_, t⟩
  have f1 := (h.bd i k hi hk).fin h1
  have f2 := (h.bd k j hk hj).fin h2
  rw [e] at t
  unfold none62 at t
  omega
/-- A way that is as short as it can be, and less than reached. -/
def tightR (m : Mat) (k j : Nat) : Bool := decide (m k j ≠ none62 ∧ m 0 j / 2 = m 0 k / 2 + m k j / 2 ∧ m k j % 2 = 0)
/-- The valuation. -/
def solU (n : Nat) (m : Mat) (j : Nat) : Int := ((n : Int) + 1) * (-(m 0 j / 2)) + cnt (fun k => tightR m k j) (n + 1)

theorem tight_trans {n : Nat} {m : Mat} (h : Solid n m) {k i j : Nat} (hk : k ≤ n) (hi : i ≤ n) (hj : j ≤ n) (h1 : tightR m k i = true) (h2 : m i j ≠ none62) (h3 : m 0 j / 2 = m 0 i / 2 + m i j / 2) : tightR m k j = true := by
  unfold tightR at h1
  obtain ⟨a1, a2, a3⟩ := of_decide_eq_true h1
  obtain ⟨b1, b2⟩ := h.step hk hi hj a1 h2
  have b3 := (h.step (Nat.zero_le n) hk hj (h.fin hk) b1).2
  refine decide_eq_true ⟨b1, ?_, ?_⟩ <;> omega
theorem solU_sat {n : Nat} {m : Mat} (h : Solid n m) : ∀ i j, i ≤ n → j ≤ n → m i j ≠ none62 → solU n m i - (m i j / 2 * ((n : Int) + 1) - (1 - m i j % 2)) ≤ solU n m j := fun i j hi hj hf => by
  have t := (h.step (Nat.zero_le n) hi hj (h.fin hi) hf).2
  have hp : -(m 0 j / 2) ≥ -(m 0 i / 2) - m i j / 2 := by omega
  have hself : tightR m i i = false := by
    unfold tightR
    rw [h.one i hi]
    refine decide_eq_false fun hh => ?_
    have := hh.2.2
    omega
  have hqi := cnt_miss (fun k => tightR m k i) (n + 1) i (by omega) hself
  have hqj := (cnt_bd (fun k => tightR m k j) (n + 1)).1
  unfold solU
  obtain ⟨a, ha⟩ : ∃ a, a = m 0 i / 2 := ⟨_, rfl⟩
  obtain ⟨b, hb⟩ : ∃ b, b = m 0 j / 2 := ⟨_, rfl⟩
  obtain ⟨x, hx⟩ : ∃ x, x = m i j / 2 := ⟨_, rfl⟩
  obtain ⟨r, hr⟩ : ∃ r, r = m i j % 2 := ⟨_, rfl⟩
  have hr2 : 0 ≤ r ∧ r ≤ 1 := by omega
  rw [← ha, ← hb, ← hx, ← hr]
  rw [← ha, ← hb, ← hx] at hp
  by_cases e : b = a + x
  · have hq : cnt (fun k => tightR m k i) (n + 1) + (1 - r) ≤ cnt (fun k => tightR m k j) (n + 1) := by
      have himp : ∀ k, k < n + 1 → (fun k => tightR m k i) k = true → (fun k => tightR m k j) k = true := fun k hk h1 => tight_trans h (by omega) hi hj h1 hf (by omega)
      by_cases hr0 : r = 0
      · have := cnt_lt (P := fun k => tightR m k i) (Q := fun k => tightR m k j) (n + 1) i (by omega) himp hself (decide_eq_true ⟨hf, by omega, by omega⟩)
        omega
      · have := cnt_le (P := fun k => tightR m k i) (Q := fun k => tightR m k j) (n + 1) himp
        omega
    have e2 : ((n : Int) + 1) * -b = ((n : Int) + 1) * -a - x * ((n : Int) + 1) := by
      rw [e, Int.neg_add, Int.mul_add, Int.mul_neg, Int.mul_neg, Int.mul_comm x]; omega
    omega
  · have e1 : -b ≥ -a - x + 1 := by omega
    have e2 : ((n : Int) + 1) * -b ≥ ((n : Int) + 1) * (-a - x + 1) := Int.mul_le_mul_of_nonneg_left e1 (by omega)
    have e3 : ((n : Int) + 1) * (-a - x + 1) = ((n : Int) + 1) * -a - x * ((n : Int) + 1) + ((n : Int) + 1) := by
      rw [Int.mul_add, Int.mul_sub, Int.mul_comm x]; omega
    omega
theorem solU_pos {n : Nat} {m : Mat} (h : Solid n m) : ∀ j, j ≤ n → 0 ≤ solU n m j := fun j hj => by
  have h1 := h.top j hj
  have h2 := (cnt_bd (fun k => tightR m k j) (n + 1)).1
  have h3 : 0 ≤ ((n : Int) + 1) * (-(m 0 j / 2)) := Int.mul_nonneg (by omega) (by omega)
  unfold solU
  omega
theorem solU_le {n : Nat} {m : Mat} {X : Int} (hX : ∀ j, j ≤ n → -X ≤ m 0 j / 2) : ∀ j, j ≤ n → solU n m j ≤ ((n : Int) + 1) * X + ((n : Int) + 1) := fun j hj => by
  have h1 := hX j hj
  have h2 := (cnt_bd (fun k => tightR m k j) (n + 1)).2
  have h3 : ((n : Int) + 1) * (-(m 0 j / 2)) ≤ ((n : Int) + 1) * X := Int.mul_le_mul_of_nonneg_left (by omega) (by omega)
  unfold solU
  omega
theorem sat_of_le {g b x : Int} (h : b ≠ none62 → x ≤ b / 2 * g - (1 - b % 2)) : sat g b x := by
  by_cases e : b = none62
  · exact .inl e
  · have := h e
    exact .inr (by omega)
theorem le_of_sat {g b x : Int} (h : sat g b x) (hb : b ≠ none62) : x ≤ b / 2 * g - (1 - b % 2) := by
  rcases h with h | h
  · exact absurd h hb
  · omega
theorem solid_sat {n : Nat} {m : Mat} (h : Solid n m) : satM n ((n : Int) + 1) m (solU n m) := fun i j hi hj => sat_of_le fun hf => by
  have := solU_sat h i j hi hj hf
  omega

/-! ### how the least one is found -/
/-- A valuation that keeps all bounds, none below 0. -/
def Sol (n : Nat) (g : Int) (m : Mat) (u : Nat → Int) : Prop := (∀ j, j ≤ n → 0 ≤ u j) ∧ ∀ i j, i ≤ n → j ≤ n → m i j ≠ none62 → u i - (m i j / 2 * g - (1 - m i j % 2)) ≤ u j
/-- One bound is looked at. -/
def insS (g : Int) (m : Mat) (v : Nat → Int) (i j : Nat) : Nat → Int :=
  if m i j ≠ none62 ∧ v j < v i - (m i j / 2 * g - (1 - m i j % 2)) then fun a => if a = j then v i - (m i j / 2 * g - (1 - m i j % 2)) else v a else v
def insJ (g : Int) (m : Mat) (v : Nat → Int) (i : Nat) : Nat → Nat → Int
  | 0 => v
  | j + 1 => insS g m (insJ g m v i j) i j
def insI (n : Nat) (g : Int) (m : Mat) (v : Nat → Int) : Nat → Nat → Int
  | 0 => v
  | i + 1 => insJ g m (insI n g m v i) i (n + 1)
def insR (n : Nat) (g : Int) (m : Mat) : Nat → Nat → Int
  | 0 => fun _ => 0
  | r + 1 => insI n g m (insR n g m r) (n + 1)
theorem insS_ge (g : Int) (m : Mat) (v : Nat → Int) (i j a : Nat) : v a ≤ insS g m v i j a := by
  unfold insS
  split
  · rename_i h
    show _ ≤ if a = j then _ else _
    split
    · rename_i e; subst e; omega
    · exact Int.le_refl _
  · exact Int.le_refl _
theorem insJ_ge (g : Int) (m : Mat) (v : Nat → Int) (i a : Nat) : ∀ j d, insJ g m v i j a ≤ insJ g m v i (j + d) a
  | _, 0 => Int.le_refl _
  | j, d + 1 => Int.le_trans (insJ_ge g m v i a j d) (insS_ge g m _ i (j + d) a)
theorem insI_ge (n : Nat) (g : Int) (m : Mat) (v : Nat → Int) (a : Nat) : ∀ i d, insI n g m v i a ≤ insI n g m v (i + d) a
  | _, 0 => Int.le_refl _
  | i, d + 1 => Int.le_trans (insI_ge n g m v a i d) (by
    have := insJ_ge g m (insI n g m v (i + d)) (i + d) a 0 (n + 1)
    rw [Nat.zero_add] at this
    exact this)
theorem insS_le {n : Nat} {g : Int} {m : Mat} {u v : Nat → Int} (hu : Sol n g m u) (hv : ∀ a, a ≤ n → v a ≤ u a) {i j : Nat} (hi : i ≤ n) (hj : j ≤ n) : ∀ a, a ≤ n → insS g m v i j a ≤ u a := fun a ha => by
  unfold insS
  split
  · rename_i h
    show (if a = j then _ else _) ≤ _
    split
    · rename_i e
      subst e
      have := hu.2 i a hi ha h.1
      have := hv i hi
      omega
    · exact hv a ha
  · exact hv a ha
theorem insJ_le {n : Nat} {g : Int} {m : Mat} {u v : Nat → Int} (hu : Sol n g m u) (hv : ∀ a, a ≤ n → v a ≤ u a) {i : Nat} (hi : i ≤ n) : ∀ j, j ≤ n + 1 → ∀ a, a ≤ n → insJ g m v i j a ≤ u a
  | 0, _ => hv
  | j + 1, h => insS_le hu (insJ_le hu hv hi j (by omega)) hi (by omega)
theorem insI_le {n : Nat} {g : Int} {m : Mat} {u v : Nat → Int} (hu : Sol n g m u) (hv : ∀ a, a ≤ n → v a ≤ u a) : ∀ i, i ≤ n + 1 → ∀ a, a ≤ n → insI n g m v i a ≤ u a
  | 0, _ => hv
  | i + 1, h => insJ_le hu (insI_le hu hv i (by omega)) (by omega) (n + 1) (Nat.le_refl _)
theorem insR_le {n : Nat} {g : Int} {m : Mat} {u : Nat → Int} (hu : Sol n g m u) : ∀ r, ∀ a, a ≤ n → insR n g m r a ≤ u a
  | 0 => fun a ha => hu.1 a ha
  | r + 1 => insI_le hu (insR_le hu r) (n + 1) (Nat.le_refl _)
theorem insR_pos (n : Nat) (g : Int) (m : Mat) : ∀ r a, 0 ≤ insR n g m r a
  | 0, _ => Int.le_refl _
  | r + 1, a => Int.le_trans (insR_pos n g m r a) (by
    have := insI_ge n g m (insR n g m r) a 0 (n + 1)
    rw [Nat.zero_add] at this
    exact this)
/-- Behind a round each bound was looked at. -/
theorem round_ge (n : Nat) (g : Int) (m : Mat) (v : Nat → Int) {i j : Nat} (hi : i ≤ n) (hj : j ≤ n) (hf : m i j ≠ none62) : v i - (m i j / 2 * g - (1 - m i j % 2)) ≤ insI n g m v (n + 1) j := by
  have h1 := insI_ge n g m v j (i + 1) (n - i)
  rw [show i + 1 + (n - i) = n + 1 by omega] at h1
  refine Int.le_trans ?_ h1
  show _ ≤ insJ g m (insI n g m v i) i (n + 1) j
  have h2 := insJ_ge g m (insI n g m v i) i j (j + 1) (n - j)
  rw [show j + 1 + (n - j) = n + 1 by omega] at h2
  refine Int.le_trans ?_ h2
  show _ ≤ insS g m (insJ g m (insI n g m v i) i j) i j j
  have h3 : v i ≤ insJ g m (insI n g m v i) i j i := by
    have a1 := insI_ge n g m v i 0 i
    have a2 := insJ_ge g m (insI n g m v i) i i 0 j
    rw [Nat.zero_add] at a1 a2
    exact Int.le_trans a1 a2
  generalize insJ g m (insI n g m v i) i j = x at h3
  unfold insS
  split
  · simp only [if_true]; omega
  · rename_i h
    have : ¬ x j < x i - (m i j / 2 * g - (1 - m i j % 2)) := fun hh => h ⟨hf, hh⟩
    omega

/-- The sum of a valuation. -/
def sumU (u : Nat → Int) : Nat → Int
  | 0 => 0
  | k + 1 => sumU u k + u k
theorem sumU_le {u v : Nat → Int} : ∀ N, (∀ a, a < N → u a ≤ v a) → sumU u N ≤ sumU v N
  | 0, _ => Int.le_refl _
  | N + 1, h => by
    have := sumU_le N fun a ha => h a (by omega)
    have := h N (by omega)
    unfold sumU; omega
theorem sumU_lt {u v : Nat → Int} : ∀ N k0, k0 < N → (∀ a, a < N → u a ≤ v a) → u k0 < v k0 → sumU u N < sumU v N
  | 0, k0, h0, _, _ => by omega
  | N + 1, k0, h0, h, hl => by
    unfold sumU
    by_cases e : k0 = N
    · subst e
      have := sumU_le k0 fun a ha => h a (by omega)
      omega
    · have := sumU_lt N k0 (by omega) (fun a ha => h a (by omega)) hl
      have := h N (by omega)
      omega
theorem sumU_pos {u : Nat → Int} : ∀ N, (∀ a, a < N → 0 ≤ u a) → 0 ≤ sumU u N
  | 0, _ => Int.le_refl _
  | N + 1, h => by
    have := sumU_pos N fun a ha => h a (by omega)
    have := h N (by omega)
    unfold sumU; omega
/-- There is one whose sum is the least. -/
theorem least_sol {n : Nat} {g : Int} {m : Mat} : ∀ (s : Nat) (u : Nat → Int), Sol n g m u → sumU u (n + 1) ≤ s → ∃ u', Sol n g m u' ∧ ∀ u'', Sol n g m u'' → sumU u' (n + 1) ≤ sumU u'' (n + 1)
  | 0, u, hu, hs => ⟨u, hu, fun u'' hu'' => by
    have := sumU_pos (n + 1) fun a ha => hu''.1 a (by omega)
    omega⟩
  | s + 1, u, hu, hs => by
    by_cases h : ∀ u'', Sol n g m u'' → sumU u (n + 1) ≤ sumU u'' (n + 1)
    · exact ⟨u, hu, h⟩
    · have : ∃ u'', Sol n g m u'' ∧ sumU u'' (n + 1) < sumU u (n + 1) := by
        refine Classical.byContradiction fun hn => h fun u'' hu'' => ?_
        exact Int.not_lt.1 fun hl => hn ⟨u'', hu'', hl⟩
      obtain ⟨u'', hu'', hl⟩ := this
      exact least_sol s u'' hu'' (by omega)

/-- So many places are as in u. -/
def same (n : Nat) (v u : Nat → Int) : Int := cnt (fun a => decide (v a = u a)) (n + 1)
theorem round_more {n : Nat} {g : Int} {m : Mat} {u v : Nat → Int} (hu : Sol n g m u) (hl : ∀ u'', Sol n g m u'' → sumU u (n + 1) ≤ sumU u'' (n + 1)) (hv0 : ∀ a, a ≤ n → 0 ≤ v a) (hv : ∀ a, a ≤ n → v a ≤ u a)
    (hne : ∃ a, a ≤ n ∧ v a ≠ u a) : same n v u + 1 ≤ same n (insI n g m v (n + 1)) u := by
  have hge : ∀ a, v a ≤ insI n g m v (n + 1) a := fun a => by
    have := insI_ge n g m v a 0 (n + 1)
    rw [Nat.zero_add] at this
    exact this
  have hle := insI_le hu hv (n + 1) (Nat.le_refl _)
  have hkeep : ∀ a, a ≤ n → v a = u a → insI n g m v (n + 1) a = u a := fun a ha e => by
    have := hge a
    have := hle a ha
    omega
  by_cases hex : ∃ a, a ≤ n ∧ v a ≠ u a ∧ insI n g m v (n + 1) a = u a
  · obtain ⟨a, ha, h1, h2⟩ := hex
    exact cnt_lt (n + 1) a (by omega) (fun k hk h => decide_eq_true (hkeep k (by omega) (of_decide_eq_true h))) (decide_eq_false h1) (decide_eq_true h2)
  · exfalso
    have hno : ∀ a, a ≤ n → v a ≠ u a → insI n g m v (n + 1) a < u a := fun a ha h1 => by
      have h2 := hle a ha
      have h3 : insI n g m v (n + 1) a ≠ u a := fun e => hex ⟨a, ha, h1, e⟩
      omega
    obtain ⟨a0, ha0, hne0⟩ := hne
    have hsol : Sol n g m (fun a => if v a = u a then u a else u a - 1) := by
      refine ⟨fun a ha => ?_, fun i j hi hj hf => ?_⟩
      · show 0 ≤ if v a = u a then u a else u a - 1
        split
        · exact hu.1 a ha
        · have := hv a ha
          have := hv0 a ha
          omega
      · show (if v i = u i then u i else u i - 1) - _ ≤ if v j = u j then u j else u j - 1
        have t := hu.2 i j hi hj hf
        by_cases h1 : v i = u i
        · rw [if_pos h1]
          by_cases h2 : v j = u j
          · rw [if_pos h2]; exact t
          · rw [if_neg h2]
            have r := round_ge n g m v hi hj hf
            have := hno j hj h2
            rw [h1] at r
            omega
        · rw [if_neg h1]
          split <;> omega
    have h1 := hl _ hsol
    have h2 := sumU_lt (u := fun a => if v a = u a then u a else u a - 1) (v := u) (n + 1) a0 (by omega) (fun a _ => by
      show (if v a = u a then u a else u a - 1) ≤ u a
      split <;> omega) (by
      show (if v a0 = u a0 then u a0 else u a0 - 1) < u a0
      rw [if_neg hne0]; omega)
    omega
theorem rounds_same {n : Nat} {g : Int} {m : Mat} {u : Nat → Int} (hu : Sol n g m u) (hl : ∀ u'', Sol n g m u'' → sumU u (n + 1) ≤ sumU u'' (n + 1)) : ∀ r : Nat, (r : Int) ≤ same n (insR n g m r) u ∨ ∀ a, a ≤ n → insR n g m r a = u a
  | 0 => .inl (by have := (cnt_bd (fun a => decide (insR n g m 0 a = u a)) (n + 1)).1; exact this)
  | r + 1 => by
    by_cases hall : ∀ a, a ≤ n → insR n g m r a = u a
    · right
      intro a ha
      have h1 := insR_le hu (r + 1) a ha
      have h2 := insI_ge n g m (insR n g m r) a 0 (n + 1)
      rw [Nat.zero_add] at h2
      have h3 : insR n g m r a ≤ insR n g m (r + 1) a := h2
      have := hall a ha
      omega
    · left
      rcases rounds_same hu hl r with ih | ih
      · have hne : ∃ a, a ≤ n ∧ insR n g m r a ≠ u a := by
          refine Classical.byContradiction fun hn => hall fun a ha => Classical.byContradiction fun h => hn ⟨a, ha, h⟩
        have := round_more hu hl (fun a _ => insR_pos n g m r a) (insR_le hu r) hne
        show ((r + 1 : Nat) : Int) ≤ same n (insI n g m (insR n g m r) (n + 1)) u
        omega
      · exact absurd ih hall
/-- What is found is a valuation, and the least of sums; no more than any. -/
theorem inside_sol {n : Nat} {g : Int} {m : Mat} {u0 : Nat → Int} (h : Sol n g m u0) : Sol n g m (insR n g m (n + 2)) ∧ (∀ r a, a ≤ n → insR n g m r a ≤ u0 a) := by
  refine ⟨?_, fun r => insR_le h r⟩
  obtain ⟨u, hu, hl⟩ := least_sol (sumU u0 (n + 1)).toNat u0 h (by omega)
  have hall : ∀ a, a ≤ n → insR n g m (n + 2) a = u a := by
    rcases rounds_same hu hl (n + 2) with hr | hr
    · exfalso
      have := (cnt_bd (fun a => decide (insR n g m (n + 2) a = u a)) (n + 1)).2
      have hr' : ((n + 2 : Nat) : Int) ≤ cnt (fun a => decide (insR n g m (n + 2) a = u a)) (n + 1) := hr
      omega
    · exact hr
  refine ⟨fun j hj => by rw [hall j hj]; exact hu.1 j hj, fun i j hi hj hf => ?_⟩
  rw [hall i hi, hall j hj]
  exact hu.2 i j hi hj hf
theorem sol_sat {n : Nat} {g : Int} {m : Mat} {u : Nat → Int} (h : Sol n g m u) : satM n g m u := fun i j hi hj => sat_of_le fun hf => by
  have := h.2 i j hi hj hf
  omega
theorem solid_sol {n : Nat} {m : Mat} (h : Solid n m) : Sol n ((n : Int) + 1) m (solU n m) := ⟨solU_pos h, solU_sat h⟩

/-! ### one bound more -/
/-- Closed, with one bound made stricter. -/
def tighter (m : Mat) (j i : Nat) (o : Int) : Mat := fun a b => min (m a b) (wsum (wsum (m a j) o) (m i b))
theorem tighter_solid {n : Nat} {m : Mat} (h : Closed n m m) (h0 : ∀ j, j ≤ n → m 0 j ≤ 1) {i j : Nat} {o : Int} (hi : i ≤ n) (hj : j ≤ n) (ho : Bd 1125899906842624 o) (hone : 1 ≤ wsum o (m i j)) : Solid n (tighter m j i o) := by
  have f := h.bd
  have F : ∀ a b, a ≤ n → b ≤ n → FB (m a b) := fun a b ha hb => half_fb (f a b ha hb)
  have fo : FB o := half_fb ho
  have f2 : ∀ a, a ≤ n → FB (wsum (m a j) o) := fun a ha => sum_fb (f a j ha hj) ho
  have f3 : ∀ a b, a ≤ n → b ≤ n → FB (wsum (wsum (m a j) o) (m i b)) := fun a b ha hb => (((f a j ha hj).sum ho).sum (f i b hi hb)).mono (by omega)
  have fs : ∀ a b c d, a ≤ n → b ≤ n → c ≤ n → d ≤ n → FB (wsum (m a b) (m c d)) := fun a b c d ha hb hc hd => sum_fb (f a b ha hb) (f c d hc hd)
  have tr : ∀ a k b, a ≤ n → k ≤ n → b ≤ n → m a b ≤ wsum (m a k) (m k b) := fun a k b ha hk hb => h.tri k (by omega) a b ha hb
  refine ⟨fun k hk a b ha hb => ?_, fun a b ha hb => ?_, fun a ha => ?_, fun b hb => ?_⟩
  · have hk : k ≤ n := by omega
    show min (m a b) (wsum (wsum (m a j) o) (m i b)) ≤ wsum (min (m a k) (wsum (wsum (m a j) o) (m i k))) (min (m k b) (wsum (wsum (m k j) o) (m i b)))
    have c1 := tr a k b ha hk hb
    have c2 : wsum (wsum (m a j) o) (m i b) ≤ wsum (wsum (wsum (m a j) o) (m i k)) (m k b) := by
      rw [wsum_assoc (f2 a ha) (F i k hi hk) (F k b hk hb)]
      exact wsum_le (f2 a ha) (f2 a ha) (F i b hi hb) (fs i k k b hi hk hk hb) (Int.le_refl _) (tr i k b hi hk hb)
    have c3 : wsum (wsum (m a j) o) (m i b) ≤ wsum (m a k) (wsum (wsum (m k j) o) (m i b)) := by
      rw [← wsum_assoc (F a k ha hk) (f2 k hk) (F i b hi hb), ← wsum_assoc (F a k ha hk) (F k j hk hj) fo]
      refine wsum_le (f2 a ha) ((((f a k ha hk).sum (f k j hk hj)).sum ho).mono (by omega)) (F i b hi hb) (F i b hi hb) ?_ (Int.le_refl _)
      exact wsum_le (F a j ha hj) (fs a k k j ha hk hk hj) fo fo (tr a k j ha hk hj) (Int.le_refl _)
    have c4 : wsum (wsum (m a j) o) (m i b) ≤ wsum (wsum (wsum (m a j) o) (m i k)) (wsum (wsum (m k j) o) (m i b)) := by
      rw [← wsum_assoc (f3 a k ha hk) (f2 k hk) (F i b hi hb)]
      refine wsum_le (f2 a ha) (((((f a j ha hj).sum ho).sum (f i k hi hk)).sum ((f k j hk hj).sum ho)).mono (by omega)) (F i b hi hb) (F i b hi hb) ?_ (Int.le_refl _)
      have e1 : wsum (wsum (wsum (m a j) o) (m i k)) (wsum (m k j) o) = wsum (wsum (m a j) o) (wsum (wsum (m i k) (m k j)) o) := by
        rw [wsum_assoc (f2 a ha) (F i k hi hk) (f2 k hk), wsum_assoc (F i k hi hk) (F k j hk hj) fo]
      rw [e1]
      have e2 : 1 ≤ wsum (wsum (m i k) (m k j)) o := by
        refine Int.le_trans hone ?_
        rw [wsum_comm o]
        exact wsum_le (F i j hi hj) (fs i k k j hi hk hk hj) fo fo (tr i k j hi hk hj) (Int.le_refl _)
      have := wsum_le (a := wsum (m a j) o) (a' := wsum (m a j) o) (b := 1) (b' := wsum (wsum (m i k) (m k j)) o) (f2 a ha) (f2 a ha) (.inr (by omega)) ((((f i k hi hk).sum (f k j hk hj)).sum ho).mono (by omega)) (Int.le_refl _) e2
      rwa [wsum_one_right] at this
    have m1 : min (m a k) (wsum (wsum (m a j) o) (m i k)) = m a k ∨ min (m a k) (wsum (wsum (m a j) o) (m i k)) = wsum (wsum (m a j) o) (m i k) := by omega
    have m2 : min (m k b) (wsum (wsum (m k j) o) (m i b)) = m k b ∨ min (m k b) (wsum (wsum (m k j) o) (m i b)) = wsum (wsum (m k j) o) (m i b) := by omega
    rcases m1 with m1 | m1 <;> rcases m2 with m2 | m2 <;> rw [m1, m2]
    · omega
    · omega
    · omega
    · omega
  · exact (F a b ha hb).min (f3 a b ha hb)
  · show min (m a a) (wsum (wsum (m a j) o) (m i a)) = 1
    have e : 1 ≤ wsum (wsum (m a j) o) (m i a) := by
      refine Int.le_trans hone ?_
      rw [wsum_comm (m a j) o, wsum_assoc fo (F a j ha hj) (F i a hi ha), wsum_comm (m a j)]
      exact wsum_le fo fo (F i j hi hj) (fs i a a j hi ha ha hj) (Int.le_refl _) (tr i a j hi ha hj)
    rw [h.one a ha]
    omega
  · have := h0 b hb
    show min (m 0 b) _ ≤ 1
    omega
theorem tighter_le (m : Mat) (j i : Nat) (o : Int) (a b : Nat) : tighter m j i o a b ≤ m a b := by
  unfold tighter; omega
theorem tighter_at {n : Nat} {m : Mat} (h : Closed n m m) {i j : Nat} (hi : i ≤ n) (hj : j ≤ n) (o : Int) : tighter m j i o j i ≤ o := by
  unfold tighter
  rw [h.one j hj, h.one i hi, wsum_one_left, wsum_one_right]
  omega
/-- The opposite of a bound that is stricter than a cell lets the cell be. -/
theorem not_one {b c : Int} (hb : Bd 1125899906842624 b) (hbn : b ≠ none62) (hc : FB c) (h : b < c) : 1 ≤ wsum (1 - b) c := by
  have f := (half_fb hb).fin hbn
  by_cases e : c = none62
  · rw [e, wsum_none_right]; decide
  · rw [wsum_min (by unfold none62; omega) e]
    omega

end Go.Proofs.Ytfegongaflekiaa

/- The least valuation of a zone on its grid: the rounds stand still in time. -/
namespace Go.Proofs.Ytfegongaflekiaa
set_option linter.unusedVariables false
set_option linter.unusedSimpArgs false

theorem sol_round {n : Nat} {g : Int} {m : Mat} {v : Nat → Int} (h : Sol n g m v) : ∀ k, k ≤ n + 1 → insI n g m v k = v := by
  have hs : ∀ i j, i ≤ n → j ≤ n → insS g m v i j = v := fun i j hi hj => by
    unfold insS
    rw [if_neg]
    rintro ⟨h1, h2⟩
    have := h.2 i j hi hj h1
    omega
  have hj : ∀ i, i ≤ n → ∀ j, j ≤ n + 1 → insJ g m v i j = v := fun i hi j => by
    induction j with
    | zero => intro _; rfl
    | succ j ih =>
      intro hj
      show insS g m (insJ g m v i j) i j = v
      rw [ih (by omega)]
      exact hs i j hi (by omega)
  intro k
  induction k with
  | zero => intro _; rfl
  | succ k ih =>
    intro hk
    show insJ g m (insI n g m v k) k (n + 1) = v
    rw [ih (by omega)]
    exact hj k (by omega) (n + 1) (Nat.le_refl _)
theorem insR_later {n : Nat} {g : Int} {m : Mat} {r : Nat} (h : insR n g m (r + 1) = insR n g m r) : ∀ d, insR n g m (r + d) = insR n g m r
  | 0 => rfl
  | d + 1 => by
    have ih := insR_later h d
    show insI n g m (insR n g m (r + d)) (n + 1) = _
    rw [ih]
    exact h
/-- Where the rounds stand still, there they are what n + 2 rounds come to. -/
theorem insR_end {n : Nat} {g : Int} {m : Mat} {u0 : Nat → Int} (hs : Sol n g m u0) {r : Nat} (h : insR n g m (r + 1) = insR n g m r) : insR n g m r = insR n g m (n + 2) := by
  rcases Nat.lt_or_ge r (n + 2) with hr | hr
  · have := insR_later h (n + 2 - r)
    rw [show r + (n + 2 - r) = n + 2 by omega] at this
    exact this.symm
  · have h2 : insR n g m (n + 2 + 1) = insR n g m (n + 2) := sol_round (inside_sol hs).1 (n + 1) (Nat.le_refl _)
    have := insR_later h2 (r - (n + 2))
    rw [show n + 2 + (r - (n + 2)) = r by omega] at this
    exact this
/-- The least valuation, as fractions. -/
def leastV (n : Nat) (m : Mat) : List (Int × Int) := (List.range n).map fun i => (newP (insR n ((n : Int) + 1) (fun a b => wid (m a b)) (n + 2) (i + 1)) ((n : Int) + 1)).1
theorem leastV_length (n : Nat) (m : Mat) : (leastV n m).length = n := by simp [leastV]

end Go.Proofs.Ytfegongaflekiaa
