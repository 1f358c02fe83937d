/- Texts of ours, laid together: Ud, Ue. -/
import Derived.Test.YtmelblnflalanaaGreatMg16
/- A valuation when time has passed, with a clock set, and whether guards hold of it, as the document has them. -/
namespace Go.Proofs.YtmelblnflalanaaGreat
open Go Go.RowKit
set_option linter.unusedVariables false
set_option linter.unusedSimpArgs false

/-- The world is as it was, but for what is new. -/
structure Bel (w0 w : World) : Prop where
  b : Below w0.heap.size w0 w
theorem Bel.start (w : World) : Bel w w := ⟨Below.refl _ _⟩
theorem Bel.step {w0 w w' : World} (h : Bel w0 w) (hb : Below w.heap.size w w') : Bel w0 w' := ⟨h.b.trans (hb.mono h.b.size)⟩
theorem Bel.drew {w0 w : World} (h : Bel w0 w) : Bel w0 w.drew := ⟨Below.drew h.b⟩
theorem Bel.own {w0 w : World} (h : Bel w0 w) {g : Nat} (hg : w0.heap.size ≤ g) (cs : Array Value) : Bel w0 (w.setRow g cs) := ⟨below_setRow h.b hg _⟩
theorem Bel.cell {w0 w : World} (h : Bel w0 w) {p : Addr} {v : Value} (hc : w0.cell? p = some v) : w.cell? p = some v := (h.b.cell (World.block_lt_of_cell? w0 p hc)).trans hc
theorem cells_of_heap {w : World} {g : Nat} {x y : Value} {t : TypeId} (h : w.heap[g]? = some (.cells #[x, y] t)) : w.cell? ⟨g, 0, none⟩ = some x ∧ w.cell? ⟨g, 1, none⟩ = some y := by
  unfold World.cell?
  rw [h]
  exact ⟨by simp, by simp⟩

set_option maxRecDepth 100000 in
set_option maxHeartbeats 4000000 in
theorem dwait_bad (A : Option Addr) (c : Nat) (l : List (Int × Int)) (d1 d2 : Int) (w : World) (hI : RatsA w A l) (hmax : l.length ≤ 8796093022000) (h64 : All64v l) (hd1 : I64 d1) (hd2 : I64 d2) (hbad : ¬ (rightV l = true ∧ rightR (d1, d2) = true ∧ 0 ≤ d1)) :
    Calls Tryz.prog 6 #[.slice A l.length c, .agg #[.int .i64 d1, .int .i64 d2]] w (LstEnds w [] 7) := by
  have HR := Lib.hid (fun W (hb : Below w.heap.size w W) => dpright_any A c l W (hI.below hb) hmax h64)
  have HRD := Lib.hid (fun W => dright_any d1 d2 hd1 hd2 W)
  have K := Lib.hid ((Blx.start w).new #[.int .i64 d1, .int .i64 d2] 24)
  have HO := Lib.hid ((OwnQ.start w).step (below_one w (.cells #[.int .i64 d1, .int .i64 d2] 24)))
  obtain ⟨rv, hrv⟩ : ∃ q, q = rightV l := ⟨_, rfl⟩
  obtain ⟨rd, hrd⟩ : ∃ q, q = rightR (d1, d2) := ⟨_, rfl⟩
  rw [← hrv] at HR hbad
  rw [← hrd] at HRD hbad
  clear hI h64 hd1 hd2 hmax hrv hrd
  go_enter Tryz.func6, Tryz.ntmps6
  go_upto_region 1 with fail
  generalize w.alloc (.cells #[.int .i64 d1, .int .i64 d2] 24) = w1 at *
  simp only [List.nil_append] at K
  go_wp2_with fail
  refine (HR.out _ K.out.below).mono ?_
  rintro e w2 ⟨rfl, hb⟩
  replace K := Lib.hid (K.out.step hb)
  replace HO := Lib.hid (HO.out.step hb)
  clear hb
  cases rv with
  | false =>
    go_wp2
    go_ret2
    exact ⟨_, rfl, HO.out⟩
  | true =>
    obtain ⟨k1, k2, _, _⟩ := K.out.cells2 0 rfl
    go_wp2_with fail
    refine (HRD.out _).mono ?_
    rintro e w3 ⟨rfl, hb⟩
    replace K := Lib.hid (K.out.step hb)
    replace HO := Lib.hid (HO.out.step hb)
    clear hb k1 k2
    cases rd with
    | false =>
      go_wp2
      go_ret2
      exact ⟨_, rfl, HO.out⟩
    | true =>
      have hneg : d1 < 0 := by
        have : ¬ 0 ≤ d1 := fun h => hbad ⟨by simp, by simp, h⟩
        omega
      obtain ⟨k1, k2, _, _⟩ := K.out.cells2 0 rfl
      clear hbad
      go_wp2
      go_ret2
      exact ⟨_, rfl, HO.out⟩

def tbDW (ba oa ln c g1 p : Nat) (x1 x2 d1 d2 y1 y2 ye : Int) : List (Nat × Nat × Value) :=
  [(0, 30, .slice (some ⟨ba, oa, none⟩) ln c), (1, 31, .int .i64 p), (2, 32, .pointer (some ⟨ba, oa + p * 2, none⟩)), (3, 33, .agg #[.int .i64 x1, .int .i64 x2]), (4, 34, .agg #[.int .i64 d1, .int .i64 d2]), (5, 35, .tuple #[.agg #[.int .i64 y1, .int .i64 y2], .int .i64 ye]), (6, 29, .tuple #[.agg #[.int .i64 y1, .int .i64 y2], .int .i64 ye]), (7, 36, .agg #[.int .i64 y1, .int .i64 y2]), (8, 37, .int .i64 ye), (11, 9, .int .i64 ye)]
def bsDW (ba oa ln c g1 p : Nat) (x1 x2 d1 d2 y1 y2 ye : Int) : List (Nat × Value) := [(0, .slice (some ⟨ba, oa, none⟩) ln c), (3, .pointer (some ⟨g1, 0, none⟩)), (7, .int .i64 p)]
def bkDW (ba oa ln c g1 p : Nat) (x1 x2 d1 d2 y1 y2 ye : Int) : List BlkR := [⟨9, 8, 10, #[.int .i64 0, .int .i64 0], #[.int .i64 y1, .int .i64 y2], 24⟩]

set_option maxRecDepth 100000 in
set_option maxHeartbeats 4000000 in
theorem dwait_goods (A : Option Addr) (c : Nat) (l : List (Int × Int)) (d1 d2 : Int) (w : World) (hI : RatsA w A l) (hmax : l.length ≤ 8796093022000) (h64 : All64v l) (hd1 : I64 d1) (hd2 : I64 d2) (hrv : rightV l = true) (hrd : rightR (d1, d2) = true) (hd0 : 0 ≤ d1) :
    Calls Tryz.prog 6 #[.slice A l.length c, .agg #[.int .i64 d1, .int .i64 d2]] w (LstEnds w (waitA l (d1, d2)).1 (waitA l (d1, d2)).2) := by
  have HR := Lib.hid (fun W (hb : Below w.heap.size w W) => dpright_any A c l W (hI.below hb) hmax h64)
  have HRD := Lib.hid (fun W => dright_any d1 d2 hd1 hd2 W)
  have K := Lib.hid ((Blx.start w).new #[.int .i64 d1, .int .i64 d2] 24)
  have HI := Lib.hid hI
  have H64 := Lib.hid h64
  have HAD := Lib.hid (fun (x1 x2 : Int) (h1 : I64 x1) (h2 : I64 x2) W => dadd_any x1 x2 d1 d2 h1 h2 hd1 hd2 W)
  have hl8 : l.length ≤ 8 := by
    unfold rightV at hrv
    exact of_decide_eq_true (Bool.and_eq_true_iff.1 hrv).1
  obtain ⟨R, hR⟩ : ∃ q, q = waitEF l (d1, d2) l.length 0 := ⟨_, rfl⟩
  have HA : Hid (waitA l (d1, d2) = if R = 0 then (waitV l (d1, d2), 0) else ([], R)) := Lib.hid (by unfold waitA; rw [if_pos ⟨hrv, hrd, hd0⟩, ← hR])
  have HR0 := Lib.hid hR
  obtain ⟨res, hres⟩ : ∃ q, q = waitA l (d1, d2) := ⟨_, rfl⟩
  rw [← hres] at HA ⊢
  rw [hrv] at HR
  rw [hrd] at HRD
  have n0 : ¬ d1 < 0 := by omega
  clear hI h64 hd1 hd2 hmax hrv hrd hres hR
  go_enter Tryz.func6, Tryz.ntmps6
  go_upto_region 1 with fail
  generalize w.alloc (.cells #[.int .i64 d1, .int .i64 d2] 24) = w1 at *
  simp only [List.nil_append] at K
  go_wp2_with fail
  refine (HR.out _ K.out.below).mono ?_
  rintro e w2 ⟨rfl, hb⟩
  replace K := Lib.hid (K.out.step hb)
  clear hb HR
  obtain ⟨k1, k2, _, _⟩ := K.out.cells2 0 rfl
  go_wp2_with fail
  refine (HRD.out _).mono ?_
  rintro e w3 ⟨rfl, hb⟩
  replace K := Lib.hid (K.out.step hb)
  clear hb k1 k2 HRD
  obtain ⟨k1, k2, _, _⟩ := K.out.cells2 0 rfl
  have HO := Lib.hid (OwnQ.start w3)
  go_wp2
  clear k1 k2
  go_loopg [6, 7] l.length (fun g v x wr => ∃ p : Nat, x = .int .i64 p ∧ Hid (OwnQ w3 ((waitV l (d1, d2)).take p) v wr) ∧ Hid (p ≤ l.length ∧ g + p = l.length ∧ R = waitEF l (d1, d2) g p))
  case atStart => exact ⟨0, by simp, Lib.hid HO.out, Lib.hid ⟨by omega, by omega, HR0.out⟩⟩
  case round =>
    clear HO HR0
    obtain ⟨p, rfl, HO, HG⟩ := hrel
    have q5 : IntKind.i64.wrap ((p : Int) + 1) = ((p + 1 : Nat) : Int) := by rw [IntWalk.i64_in _ (by have := HG.out.1; omega)]; omega
    by_cases hp : p < l.length
    · have hpi : (p : Int) < (l.length : Int) := by omega
      obtain ⟨ba, oa, rfl, e1, e2⟩ := HI.out.below (K.out.below.trans (HO.out.1.mono K.out.below.size)) p hp
      have x64 := H64.out p hp
      have HST : Hid (R = if (addP (l.getD p (0, 0)) (d1, d2)).2 = 0 then waitEF l (d1, d2) (l.length - (p + 1)) (p + 1) else (addP (l.getD p (0, 0)) (d1, d2)).2) := Lib.hid (by
        have h := HG.out.2.2
        rw [show gk = (l.length - (p + 1)) + 1 by have := HG.out.2.1; omega] at h
        exact h)
      have HTK := Lib.hid (waitV_take (v := l) (d := (d1, d2)) hp)
      have HLN : Hid (((waitV l (d1, d2)).take p).length ≤ 8) := Lib.hid (by rw [List.length_take, waitV_length]; omega)
      obtain ⟨x, hx⟩ : ∃ x, x = l.getD p (0, 0) := ⟨_, rfl⟩
      rw [← hx] at e1 e2 x64 HST HTK
      obtain ⟨x1, x2⟩ := x
      have HAX := Lib.hid (fun W => HAD.out x1 x2 x64.1 x64.2 W)
      obtain ⟨y, hy⟩ : ∃ y, y = addP (x1, x2) (d1, d2) := ⟨_, rfl⟩
      rw [← hy] at HST HTK HAX
      obtain ⟨⟨y1, y2⟩, ye⟩ := y
      unfold rtV at HAX
      clear hx hy x64
      have KD := Lib.hid (K.out.step HO.out.1)
      obtain ⟨k1, k2, _, _⟩ := KD.out.cells2 0 rfl
      have E1 := Lib.hid e1
      have E2 := Lib.hid e2
      have E3 := Lib.hid k1
      have E4 := Lib.hid k2
      clear e1 e2 k1 k2 KD
      go_upto_region 7 with fail
      go_cut [8, 9] (fun s8 s9 wx => ∃ g6 : Nat, s8 = .pointer (some ⟨g6, 0, none⟩) ∧ s9 = .int .i64 ye ∧ Hid (Below wr.heap.size wr wx ∧ wx.heap[g6]? = some (.cells #[.int .i64 y1, .int .i64 y2] 24)))
      case first =>
        clear HO HI K H64 HAD HG HST HTK
        refine wp_region_tab (by kernel_rfl) [0, 3, 7, 30, 31, 32, 33, 34, 35, 29, 36, 37, 8, 9] [[], [], [0, 1], [2], [], [3, 4], [5], [6], [6], [], [0, 1, 2, 3, 4, 5, 6, 7, 9], [0, 1, 2, 3, 4, 5, 6, 7, 8, 9, 10]]
          (fun L vals wx => Bel wr wx ∧ TabR (tbDW ba oa l.length c w.heap.size p x1 x2 d1 d2 y1 y2 ye) (bsDW ba oa l.length c w.heap.size p x1 x2 d1 d2 y1 y2 ye) L vals ∧ BlksR (bkDW ba oa l.length c w.heap.size p x1 x2 d1 d2 y1 y2 ye) wr.heap.size L vals wx) (by kernel_rfl) rfl ?_ ?_ ?_
        · exact ⟨(Bel.start wr).drew, TabR.start (by simp [bsDW]), BlksR.start _ (Nat.le_refl _)⟩
        · intro i hi a L vals wx E hJ hLi hn K hK hK0
          obtain ⟨hI, hT, hB⟩ := hJ
          match i, hi with
          | 0, _ => exact op_moveG rfl rfl rfl rfl ((E 0 (by decide)).trans (hT.rd 0 rfl)) (hK 30 _ _ (by decide) ⟨hI, hT.set 0 rfl (by kernel_rfl) (by kernel_rfl), hB.keep (Below.refl _ _) (by simp [bkDW])⟩)
          | 1, _ => exact op_moveG rfl rfl rfl rfl ((E 7 (by decide)).trans (hT.rd 2 rfl)) (hK 31 _ _ (by decide) ⟨hI, hT.set 1 rfl (by kernel_rfl) (by kernel_rfl), hB.keep (Below.refl _ _) (by simp [bkDW])⟩)
          | 2, _ =>
            have e1 := (E 30 (by decide)).trans (hT.val 0 rfl (hn 0 (by decide)))
            have e2 := (E 31 (by decide)).trans (hT.val 1 rfl (hn 1 (by decide)))
            refine op_valueG (w' := wx) (v := .pointer (some ⟨ba, oa + p * 2, none⟩)) rfl rfl rfl ?_ (hK 32 _ _ (by decide) ⟨hI, hT.set 2 rfl (by kernel_rfl) (by kernel_rfl), hB.keep (Below.refl _ _) (by simp [bkDW])⟩)
            clear hK hK0 hT E hB
            revert e1 e2
            generalize a.eval = ρ
            intro e1 e2
            go_simp
          | 3, _ =>
            have e1 := (E 32 (by decide)).trans (hT.val 2 rfl (hn 2 (by decide)))
            have c1 := hI.cell E1.out
            have c2 := hI.cell E2.out
            refine op_valueG (w' := wx) (v := .agg #[.int .i64 x1, .int .i64 x2]) rfl rfl rfl ?_ (hK 33 _ _ (by decide) ⟨hI, hT.set 3 rfl (by kernel_rfl) (by kernel_rfl), hB.keep (Below.refl _ _) (by simp [bkDW])⟩)
            clear hK hK0 hT E hB
            revert e1
            generalize a.eval = ρ
            intro e1
            go_simp
          | 4, _ =>
            have e1 := (E 3 (by decide)).trans (hT.rd 1 rfl)
            have c1 := hI.cell E3.out
            have c2 := hI.cell E4.out
            refine op_valueG (w' := wx) (v := .agg #[.int .i64 d1, .int .i64 d2]) rfl rfl rfl ?_ (hK 34 _ _ (by decide) ⟨hI, hT.set 4 rfl (by kernel_rfl) (by kernel_rfl), hB.keep (Below.refl _ _) (by simp [bkDW])⟩)
            clear hK hK0 hT E hB
            revert e1
            generalize a.eval = ρ
            intro e1
            go_simp
          | 5, _ =>
            have e1 := (E 33 (by decide)).trans (hT.val 3 rfl (hn 3 (by decide)))
            have e2 := (E 34 (by decide)).trans (hT.val 4 rfl (hn 4 (by decide)))
            exact op_goG rfl rfl rfl rfl Tryz.func23 (by kernel_rfl) rfl (by simp only [List.map_toArray, List.map_cons, List.map_nil, e1, e2]) (HAX.out _) (fun w' hb => hK 35 _ _ (by decide) ⟨hI.step hb, hT.set 5 rfl (by kernel_rfl) (by kernel_rfl), hB.keep hb (by simp [bkDW])⟩)
          | 6, _ => exact op_moveG rfl rfl rfl rfl ((E 35 (by decide)).trans (hT.val 5 rfl (hn 5 (by decide)))) (hK 29 _ _ (by decide) ⟨hI, hT.set 6 rfl (by kernel_rfl) (by kernel_rfl), hB.keep (Below.refl _ _) (by simp [bkDW])⟩)
          | 7, _ =>
            have e1 := (E 29 (by decide)).trans (hT.val 6 rfl (hn 6 (by decide)))
            refine op_valueG (w' := wx) (v := .agg #[.int .i64 y1, .int .i64 y2]) rfl rfl rfl ?_ (hK 36 _ _ (by decide) ⟨hI, hT.set 7 rfl (by kernel_rfl) (by kernel_rfl), hB.keep (Below.refl _ _) (by simp [bkDW])⟩)
            clear hK hK0 hT E hB
            revert e1
            generalize a.eval = ρ
            intro e1
            go_simp
          | 8, _ =>
            have e1 := (E 29 (by decide)).trans (hT.val 6 rfl (hn 6 (by decide)))
            refine op_valueG (w' := wx) (v := .int .i64 ye) rfl rfl rfl ?_ (hK 37 _ _ (by decide) ⟨hI, hT.set 8 rfl (by kernel_rfl) (by kernel_rfl), hB.keep (Below.refl _ _) (by simp [bkDW])⟩)
            clear hK hK0 hT E hB
            revert e1
            generalize a.eval = ρ
            intro e1
            go_simp
          | 9, _ =>
            refine op_valueG (w' := wx.alloc (.cells #[.int .i64 0, .int .i64 0] 24)) (v := .pointer (some ⟨wx.heap.size, 0, none⟩)) rfl rfl rfl ?_ (hK 8 _ _ (by decide) ⟨hI.step (below_one _ _), hT.put (by simp [tbDW]) (by simp [bsDW]), hB.new 0 rfl hLi (by simp [bkDW]) (by simp [bkDW])⟩)
            clear hK hK0 hT hB E
            go_simp
          | 10, _ =>
            obtain ⟨ga, e1, e2, e3⟩ := hB.blk 0 rfl (hn 9 (by decide))
            rw [if_neg (by rw [hLi]; decide)] at e3
            exact op_store (old := #[.int .i64 0, .int .i64 0]) (cs := #[.int .i64 y1, .int .i64 y2]) rfl rfl rfl rfl (by kernel_rfl) rfl (by kernel_rfl) ((E 8 (by decide)).trans e1) ((E 36 (by decide)).trans (hT.val 7 rfl (hn 7 (by decide)))) e3
              (hK0 _ ⟨hI.own e2 _, hT.skip (by simp [tbDW]), hB.st 0 rfl (hn 9 (by decide)) (by simp [bkDW]) (by simp [bkDW]) (by simp [bkDW]) e1⟩)
          | 11, _ => exact op_assignG rfl rfl rfl rfl ((E 37 (by decide)).trans (hT.val 8 rfl (hn 8 (by decide)))) (hK 9 _ _ (by decide) ⟨hI, hT.set 9 rfl (by kernel_rfl) (by kernel_rfl), hB.keep (Below.refl _ _) (by simp [bkDW])⟩)
          | k + 12, h => exact absurd (show k + 12 < 12 from h) (by omega)
        · intro L vals wx hJ hall
          obtain ⟨hI, hT, hB⟩ := hJ
          have HI := Lib.hid hI
          have v0 : vals 0 = .slice (some ⟨ba, oa, none⟩) l.length c := hT.rd 0 rfl
          have v3 : vals 3 = .pointer (some ⟨w.heap.size, 0, none⟩) := hT.rd 1 rfl
          have v7 : vals 7 = .int .i64 p := hT.rd 2 rfl
          have v9 : vals 9 = .int .i64 ye := hT.val 9 rfl (hall 11 (by decide))
          obtain ⟨gn0, m0, n0, r0⟩ := hB.blk 0 rfl (hall 9 (by decide))
          rw [if_pos (hall 10 (by decide))] at r0
          have v8 : vals 8 = .pointer (some ⟨gn0, 0, none⟩) := m0
          simp only [overA, Act.put, List.setIfInBounds_toArray, List.set_cons_zero, List.set_cons_succ]
          rw [v0, v3, v7, v9, v8]
          clear hI hT hall v0 v3 v7 v9 v8 hB
          go_wp2
          go_meet
          exact ⟨gn0, rfl, rfl, Lib.hid ⟨HI.out.b, r0⟩⟩
      clear E1 E2 E3 E4 HAX
      obtain ⟨g6, rfl, rfl, hw⟩ := hcut
      replace HO := Lib.hid (HO.out.step hw.out.1)
      obtain ⟨k1, k2⟩ := cells_of_heap hw.out.2
      clear hw
      generalize wc = w6 at *
      by_cases hye : ye = 0
      · subst hye
        have HE := Lib.hid (HST.out.trans (if_pos rfl))
        go_upto_region 10 with fail
        have K2 := Lib.hid ((Blx.start w6).new #[.int .i64 y1, .int .i64 y2] 24)
        replace HO := Lib.hid (HO.out.step (below_one w6 (.cells #[.int .i64 y1, .int .i64 y2] 24)))
        obtain ⟨k3, k4, _, _⟩ := K2.out.cells2 0 rfl
        obtain ⟨v', w', hrun, hnext⟩ := HO.out.next w6.heap.size 1 y1 y2 ⟨k3, k4⟩ (by have := HLN.out; omega)
        have HO := Lib.hid hnext
        rw [← HTK.out] at HO
        clear hnext k3 k4
        go_wp2_with (at_builtin; refine wpList_append_run rfl _ _ 22 rfl _ _ v' w' rfl rfl hrun ?_)
        clear hrun
        go_wp2
        go_roundg (gk - 1)
        case measure => have h := HG.out.2.1; omega
        case rel => exact ⟨p + 1, by go_num, HO, Lib.hid ⟨by omega, by have h := HG.out.2.1; omega, by rw [show gk - 1 = l.length - (p + 1) by have h := HG.out.2.1; omega]; exact HE.out⟩⟩
      · have t1 : (ye != 0) = true := by simp [hye]
        have HE : Hid (res = ([], ye)) := Lib.hid (by
          have e := HST.out.trans (if_neg hye)
          rw [HA.out, e, if_neg hye])
        have HF := Lib.hid (((OwnQ.start w).step K.out.below).step HO.out.1)
        clear hye
        go_wp2
        go_ret2
        rw [HE.out]
        exact ⟨_, rfl, HF.out⟩
    · have hpi : ¬ (p : Int) < (l.length : Int) := by omega
      have HE : Hid (res = (waitV l (d1, d2), 0)) := Lib.hid (by
        have e := HG.out.2.2
        rw [show gk = 0 by have := HG.out.2.1; omega] at e
        have e : R = 0 := e
        rw [HA.out, if_pos e])
      have hfull : (waitV l (d1, d2)).take p = waitV l (d1, d2) := List.take_of_length_le (by rw [waitV_length]; have := HG.out.1; omega)
      rw [hfull] at HO
      have HF := Lib.hid (HO.out.from K.out.below)
      clear hfull HO
      go_wp2
      go_ret2
      rw [HE.out]
      exact ⟨_, rfl, HF.out⟩
theorem dwait_any (A : Option Addr) (c : Nat) (l : List (Int × Int)) (d1 d2 : Int) (w : World) (hI : RatsA w A l) (hmax : l.length ≤ 8796093022000) (h64 : All64v l) (hd1 : I64 d1) (hd2 : I64 d2) :
    Calls Tryz.prog 6 #[.slice A l.length c, .agg #[.int .i64 d1, .int .i64 d2]] w (LstEnds w (waitA l (d1, d2)).1 (waitA l (d1, d2)).2) := by
  by_cases h : rightV l = true ∧ rightR (d1, d2) = true ∧ 0 ≤ d1
  · exact dwait_goods A c l d1 d2 w hI hmax h64 hd1 hd2 h.1 h.2.1 h.2.2
  · have e : waitA l (d1, d2) = ([], 7) := by unfold waitA; exact if_neg h
    rw [e]
    exact dwait_bad A c l d1 d2 w hI hmax h64 hd1 hd2 h

set_option maxRecDepth 100000 in
set_option maxHeartbeats 4000000 in
theorem dset_any (A : Option Addr) (cp : Nat) (l : List (Int × Int)) (c k : Int) (w : World) (hI : RatsA w A l) (hmax : l.length ≤ 8796093022000) (h64 : All64v l) (hc : I64 c) :
    Calls Tryz.prog 8 #[.slice A l.length cp, .int .i64 c, .int .i64 k] w (SetEnds w (setA l c k)) := by
  have HR := Lib.hid (dpright_any A cp l w hI hmax h64)
  have HI := Lib.hid hI
  have HS := Lib.hid (OwnQ.start w)
  by_cases hrv : rightV l = true
  · have h8 := rightV_short hrv
    have HA : Hid (setA l c k = if c < 1 ∨ (l.length : Int) < c then ([], 12) else if k < 0 ∨ 1048576 < k then ([], 13) else (setV l c.toNat k, 0)) := Lib.hid (by unfold setA; rw [if_pos hrv])
    rw [hrv] at HR
    obtain ⟨r, hr⟩ : ∃ r, r = setA l c k := ⟨_, rfl⟩
    rw [← hr] at HA ⊢
    have HC := Lib.hid hc
    clear hI h64 hrv hr hc hmax
    go_enter Tryz.func8, Tryz.ntmps8
    go_wp2_with fail
    refine HR.out.mono ?_
    rintro e w1 ⟨rfl, hb⟩
    have HB := Lib.hid hb
    clear hb HR
    by_cases c1 : c < 1
    · have hd : decide (c < 1) = true := decide_eq_true c1
      have HF := Lib.hid (HA.out.trans (if_pos (.inl c1)))
      clear c1 HA
      go_wp2
      go_ret2
      rw [HF.out]
      exact ⟨_, rfl, HS.out.step HB.out⟩
    · have hd : decide (c < 1) = false := decide_eq_false c1
      by_cases c2 : (l.length : Int) < c
      · have hd2 : decide ((l.length : Int) < c) = true := decide_eq_true c2
        have HF := Lib.hid (HA.out.trans (if_pos (.inr c2)))
        clear c1 c2 HA
        go_wp2
        go_ret2
        rw [HF.out]
        exact ⟨_, rfl, HS.out.step HB.out⟩
      · have hd2 : decide ((l.length : Int) < c) = false := decide_eq_false c2
        have HA := Lib.hid (HA.out.trans (if_neg (by omega)))
        by_cases k1 : k < 0
        · have hd3 : decide (k < 0) = true := decide_eq_true k1
          have HF := Lib.hid (HA.out.trans (if_pos (.inl k1)))
          clear c1 c2 k1 HA
          go_wp2
          go_ret2
          rw [HF.out]
          exact ⟨_, rfl, HS.out.step HB.out⟩
        · have hd3 : decide (k < 0) = false := decide_eq_false k1
          by_cases k2 : 1048576 < k
          · have hd4 : decide (1048576 < k) = true := decide_eq_true k2
            have HF := Lib.hid (HA.out.trans (if_pos (.inr k2)))
            clear c1 c2 k1 k2 HA
            go_wp2
            go_ret2
            rw [HF.out]
            exact ⟨_, rfl, HS.out.step HB.out⟩
          · have hd4 : decide (1048576 < k) = false := decide_eq_false k2
            have HF := Lib.hid (HA.out.trans (if_neg (by omega)))
            obtain ⟨j, rfl⟩ : ∃ j : Nat, c = (j : Int) + 1 := ⟨(c - 1).toNat, by omega⟩
            have hj : j < l.length := by omega
            obtain ⟨g0, off0, rfl, _⟩ := HI.out j hj
            have HRO := Lib.hid (fun W => dof_any k W)
            have e1 : IntKind.i64.wrap ((j : Int) + 1 - 1) = (j : Int) := by rw [IntWalk.i64_in _ (by omega)]; omega
            have e2 : IntKind.i64.wrap (j : Int) = (j : Int) := IntWalk.i64_in _ (by omega)
            have e3 : (j : Int) < (l.length : Int) := by omega
            have HJ := Lib.hid hj
            have H8 := Lib.hid h8
            clear c1 c2 k1 k2 HA h8 hj
            have hb1 := below_one w1 (.cells #[] 24)
            have HO0 : OwnQ w [] (.slice (some ⟨w1.heap.size, 0, none⟩) 0 0) (w1.alloc (.cells #[] 24)) := ⟨HB.out.trans (hb1.mono HB.out.size), rfl, .inr ⟨w1.heap.size, 0, #[], rfl, HB.out.size, heap_alloc_new _ _, Nat.le_refl _, Nat.zero_le _, rfl, rfl⟩⟩
            obtain ⟨v2, w2, hrun, hown⟩ := HO0.whole g0 off0 cp l ((HI.out.below HB.out).below hb1) (by have := H8.out; omega)
            clear hb1 HO0
            go_wp2_with (at_builtin; refine wpList_append_run rfl _ _ 22 rfl _ _ v2 w2 rfl rfl hrun ?_)
            clear hrun
            obtain ⟨g, cap, rfl⟩ : ∃ g cap, v2 = .slice (some ⟨g, 0, none⟩) l.length cap := by
              obtain ⟨_, _, h⟩ := hown
              rcases h with ⟨_, h⟩ | ⟨g', cap', cur, e1, _⟩
              · have := HJ.out; omega
              · exact ⟨_, _, e1⟩
            have HO := Lib.hid hown
            clear hown
            go_wp2_with fail
            refine (HRO.out _).mono ?_
            rintro e w3 ⟨rfl, hb⟩
            replace HO := Lib.hid (HO.out.step hb)
            clear hb HRO
            obtain ⟨⟨m0, m1⟩, f0, f1⟩ := HO.out.at2 j HJ.out
            have HP := Lib.hid (HO.out.put j HJ.out k 1)
            go_wp2
            go_ret2
            rw [HF.out]
            refine ⟨_, rfl, ?_⟩
            have e4 : setV l ((j : Int) + 1).toNat k = l.set j (k, 1) := by unfold setV; rw [show ((j : Int) + 1).toNat - 1 = j by omega]
            rw [e4]
            exact HP.out
  · have hrv : rightV l = false := by simpa using hrv
    rw [setA_bad hrv]
    rw [hrv] at HR
    clear hI h64 hrv hc hmax
    go_enter Tryz.func8, Tryz.ntmps8
    go_wp2_with fail
    refine HR.out.mono ?_
    rintro e w1 ⟨rfl, hb⟩
    have HB := Lib.hid hb
    clear hb HR
    go_wp2
    go_ret2
    exact ⟨_, rfl, HS.out.step HB.out⟩


def tbDH (A : Option Addr) (len c bl ol rn cap q : Nat) (ia ja bd x1 x2 y1 y2 : Int) (rr : Bool) : List (Nat × Nat × Value) :=
  [(0, 55, .bool true), (1, 56, .bool true), (2, 57, .slice A len c), (3, 58, .slice (some ⟨bl, ol, none⟩) rn cap), (4, 59, .int .i64 q), (5, 60, .pointer (some ⟨bl, ol + q * 3, none⟩)), (6, 61, .pointer (some ⟨bl, ol + q * 3, none⟩)), (7, 62, .int .i64 ia), (8, 63, .agg #[.int .i64 x1, .int .i64 x2]), (9, 64, .slice A len c), (10, 65, .slice (some ⟨bl, ol, none⟩) rn cap), (11, 66, .int .i64 q), (12, 67, .pointer (some ⟨bl, ol + q * 3, none⟩)), (13, 68, .pointer (some ⟨bl, ol + q * 3 + 1, none⟩)), (14, 69, .int .i64 ja), (15, 70, .agg #[.int .i64 y1, .int .i64 y2]), (16, 71, .slice (some ⟨bl, ol, none⟩) rn cap), (17, 72, .int .i64 q), (18, 73, .pointer (some ⟨bl, ol + q * 3, none⟩)), (19, 74, .pointer (some ⟨bl, ol + q * 3 + 2, none⟩)), (20, 75, .int .i32 bd), (21, 76, .bool rr), (22, 77, .bool rr), (23, 6, .bool rr)]
def bsDH (A : Option Addr) (len c bl ol rn cap q : Nat) (ia ja bd x1 x2 y1 y2 : Int) (rr : Bool) : List (Nat × Value) := [(0, .slice A len c), (8, .slice (some ⟨bl, ol, none⟩) rn cap), (10, .int .i64 q)]

set_option maxRecDepth 100000 in
set_option maxHeartbeats 16000000 in
theorem dholds_any (A : Option Addr) (c : Nat) (l : List (Int × Int)) (G : Option Addr) (gc : Nat) (gs : List (Int × Int × Int × Int)) (w : World) (hI : RatsA w A l) (hmax : l.length ≤ 8796093022000) (h64 : All64v l)
    (hG : Gds w G gs) (hgm : gs.length ≤ 4398046510976) (hk : ∀ p, p < gs.length → 0 ≤ (gs.getD p (0, 0, 0, 0)).2.2.1 ∧ (gs.getD p (0, 0, 0, 0)).2.2.1 ≤ 255) :
    Calls Tryz.prog 11 #[.slice A l.length c, .slice G gs.length gc] w (HoldEnds w (holdsA l gs)) := by
  have HR := Lib.hid (dpright_any A c l w hI hmax h64)
  have HG := Lib.hid hG
  have HK := Lib.hid hk
  have HM := Lib.hid hgm
  have HB0 := Lib.hid (Below.refl w.heap.size w)
  by_cases hrv : rightV l = true
  · have h8 := rightV_short hrv
    have HAT := Lib.hid (fun W (hb : Below w.heap.size w W) (i : Nat) (hi : i ≤ l.length) => dclock_any A c l i hi (by omega) W (hI.below hb))
    have HKK := Lib.hid (fun W (i j : Nat) (b : Int) (hi : i ≤ l.length) (hj : j ≤ l.length) (hb : rightB b = true) => dkeeps_any (clockV l i).1 (clockV l i).2 (clockV l j).1 (clockV l j).2 b (clock64 h64 hi).1 (clock64 h64 hi).2 (clock64 h64 hj).1 (clock64 h64 hj).2 (clock_right hrv hi).1 (clock_right hrv hj).1 (clock_right hrv hi).2 (clock_right hrv hj).2 hb W)
    obtain ⟨R, hR⟩ : ∃ R, R = holdsFrom l gs gs.length 0 true := ⟨_, rfl⟩
    rw [show holdsA l gs = R by rw [hR]; unfold holdsA; rw [if_pos hrv]]
    have HE := Lib.hid hR
    have H8 := Lib.hid h8
    rw [hrv] at HR
    clear hI h64 hrv hR hG hk hgm hmax h8
    go_enter Tryz.func11, Tryz.ntmps11
    go_wp2_with fail
    refine HR.out.mono ?_
    rintro e w1 ⟨rfl, hb⟩
    have HB := Lib.hid hb
    clear hb HR
    go_wp2
    go_loopg [6, 7] gs.length (fun g s6 s18 wr => ∃ (p : Nat) (b : Bool), s18 = .int .i64 p ∧ s6 = .bool b ∧ Hid (Below w.heap.size w wr) ∧ Hid (p ≤ gs.length ∧ g + p = gs.length ∧ R = holdsFrom l gs g p b))
    case atStart => exact ⟨0, true, by simp, rfl, HB, Lib.hid ⟨by omega, by omega, HE.out⟩⟩
    case round =>
      clear HB HE
      obtain ⟨p, b, rfl, rfl, HB, HREL⟩ := hrel
      have q5 : IntKind.i64.wrap ((p : Int) + 1) = ((p + 1 : Nat) : Int) := by rw [IntWalk.i64_in _ (by have := HREL.out.1; have := HM.out; omega)]; omega
      by_cases hp : p < gs.length
      · have hpi : (p : Int) < (gs.length : Int) := by omega
        obtain ⟨bg, off, x, y, z, t, rfl, hx, c1, c2, c3, c4⟩ := gds_at (HG.out.below HB.out) hp
        have hz := HK.out p hp
        rw [hx] at hz
        have hz : 0 ≤ z ∧ z ≤ 255 := hz
        have HST : Hid (R = if (guardP (x, y, z, t)).2 ≠ 0 then (false, (guardP (x, y, z, t)).2) else if (l.length : Int) < x ∨ (l.length : Int) < y then (false, 12) else holdsFrom l gs (gs.length - (p + 1)) (p + 1) (b && (guardP (x, y, z, t)).1.all (lkV l))) := Lib.hid (by
          have h := HREL.out.2.2
          rw [show gk = (gs.length - (p + 1)) + 1 by have := HREL.out.2.1; omega] at h
          unfold holdsFrom at h
          rw [hx] at h
          exact h)
        have HL := Lib.hid (fun W => glim4_any x y z t W hz)
        have HLN := Lib.hid (guardP_len (x, y, z, t)).1
        have HMM := Lib.hid (guard_mem (g := (x, y, z, t)))
        obtain ⟨r, hr⟩ : ∃ r, r = guardP (x, y, z, t) := ⟨_, rfl⟩
        rw [← hr] at HL HLN HST HMM
        obtain ⟨rl, re⟩ := r
        clear hx hz hr
        have E1 := Lib.hid c1
        have E2 := Lib.hid c2
        go_wp2_with fail
        refine (HL.out _).mono ?_
        rintro e w3 ⟨hb, B, cap, rfl, hlims⟩
        have HLM := Lib.hid hlims
        replace HB := Lib.hid (HB.out.trans (hb.mono HB.out.size))
        have k1 := (hb.cell (World.block_lt_of_cell? wr _ E1.out)).trans E1.out
        have k2 := (hb.cell (World.block_lt_of_cell? wr _ E2.out)).trans E2.out
        clear hb hlims c1 c2 c3 c4 HL E1 E2
        by_cases he : re = 0
        · subst he
          have HST := Lib.hid (HST.out.trans (if_neg (by simp)))
          by_cases d1 : (l.length : Int) < x
          · have e1 : decide ((l.length : Int) < x) = true := decide_eq_true d1
            have HF := Lib.hid (HST.out.trans (if_pos (.inl d1)))
            clear d1 HST
            go_wp2
            go_ret2
            rw [HF.out]
            exact ⟨rfl, HB.out⟩
          · have e1 : decide ((l.length : Int) < x) = false := decide_eq_false d1
            by_cases d2 : (l.length : Int) < y
            · have e2 : decide ((l.length : Int) < y) = true := decide_eq_true d2
              have HF := Lib.hid (HST.out.trans (if_pos (.inr d2)))
              clear d1 d2 HST
              go_wp2
              go_ret2
              rw [HF.out]
              exact ⟨rfl, HB.out⟩
            · have e2 : decide ((l.length : Int) < y) = false := decide_eq_false d2
              have HST := Lib.hid (HST.out.trans (if_neg (by omega)))
              have HMX := Lib.hid (fun q (hq : q < rl.length) => show ∃ (i j : Nat) (bd : Int), rl.getD q (0, 0, 0) = ((i : Int), (j : Int), bd) ∧ i ≤ l.length ∧ j ≤ l.length ∧ rightB bd = true from by
                obtain ⟨a1, a2, a3, a4⟩ := HMM.out rfl (rl.getD q (0, 0, 0)) (by rw [List.getD_eq_getElem?_getD, List.getElem?_eq_getElem hq]; exact List.getElem_mem hq)
                refine ⟨(rl.getD q (0, 0, 0)).1.toNat, (rl.getD q (0, 0, 0)).2.1.toNat, (rl.getD q (0, 0, 0)).2.2, ?_, ?_, ?_, a1⟩
                · rw [show ((rl.getD q (0, 0, 0)).1.toNat : Int) = (rl.getD q (0, 0, 0)).1 by omega, show ((rl.getD q (0, 0, 0)).2.1.toNat : Int) = (rl.getD q (0, 0, 0)).2.1 by omega]
                · omega
                · omega)
              clear d1 d2 HMM
              go_wp2
              clear k1 k2
              go_loopg [6, 10] rl.length (fun g s6 s44 wr => ∃ (q : Nat) (b' : Bool), s44 = .int .i64 q ∧ s6 = .bool b' ∧ Hid (Below w.heap.size w wr ∧ Lims wr B rl) ∧ Hid (q ≤ rl.length ∧ g + q = rl.length ∧ b' = (b && (rl.take q).all (lkV l))))
              case atStart => exact ⟨0, b, by simp, rfl, Lib.hid ⟨HB.out, HLM.out⟩, Lib.hid ⟨by omega, by omega, by simp⟩⟩
              case round =>
                clear HB HLM
                obtain ⟨q, b', rfl, rfl, HBL, HQ⟩ := hrel
                have q6 : IntKind.i64.wrap ((q : Int) + 1) = ((q + 1 : Nat) : Int) := by rw [IntWalk.i64_in _ (by have := HQ.out.1; have := HLN.out; omega)]; omega
                by_cases hq : q < rl.length
                · have hqi : (q : Int) < (rl.length : Int) := by omega
                  obtain ⟨bl, ol, rfl, n1, n2, n3⟩ := HBL.out.2 q hq
                  obtain ⟨ia, ja, bd, hx, hi, hj, hbd⟩ := HMX.out q hq
                  have HTK := Lib.hid (all_take rl (lkV l) (0, 0, 0) q hq)
                  rw [hx] at n1 n2 n3 HTK
                  have HTK : Hid ((rl.take (q + 1)).all (lkV l) = ((rl.take q).all (lkV l) && keepsQ (clockV l ia) (clockV l ja) bd)) := HTK
                  simp only at n1 n2 n3
                  have HAI := Lib.hid (fun W hb => HAT.out W hb ia hi)
                  have HAJ := Lib.hid (fun W hb => HAT.out W hb ja hj)
                  have HKK := Lib.hid (fun W => HKK.out W ia ja bd hi hj hbd)
                  obtain ⟨x', hx'⟩ : ∃ x, x = clockV l ia := ⟨_, rfl⟩
                  obtain ⟨y', hy'⟩ : ∃ y, y = clockV l ja := ⟨_, rfl⟩
                  rw [← hx'] at HAI HKK HTK
                  rw [← hy'] at HAJ HKK HTK
                  obtain ⟨x1, x2⟩ := x'
                  obtain ⟨y1, y2⟩ := y'
                  simp only at HAI HAJ HKK
                  obtain ⟨rr, hrr⟩ : ∃ r, r = keepsQ (x1, x2) (y1, y2) bd := ⟨_, rfl⟩
                  rw [← hrr] at HKK HTK
                  clear hx hx' hy' hrr hi hj hbd
                  go_upto_region 15 with fail
                  have E1 := Lib.hid n1
                  have E2 := Lib.hid n2
                  have E3 := Lib.hid n3
                  have HBR := HBL
                  clear n1 n2 n3
                  cases b' with
                  | false =>
                    have HN : Hid (false = (b && (rl.take (q + 1)).all (lkV l))) := Lib.hid (by
                      rw [HTK.out, ← Bool.and_assoc, ← HQ.out.2.2]; rfl)
                    go_quiet (fail)
                    generalize nq = nq at *
                    replace HBL := Lib.hid (And.intro (belowN HBL.out.1 nq) (HBL.out.2.below (belowN (Below.refl _ _) nq)))
                    generalize wr.drewN nq = wq at *
                    go_wp2
                    go_roundg (gk - 1)
                    case measure => have h := HQ.out.2.1; omega
                    case rel => exact ⟨q + 1, false, by go_num, rfl, HBL, Lib.hid ⟨by omega, by have h := HQ.out.2.1; omega, HN.out⟩⟩
                  | true =>
                    have HN : Hid (rr = (b && (rl.take (q + 1)).all (lkV l))) := Lib.hid (by
                      rw [HTK.out, ← Bool.and_assoc, ← HQ.out.2.2]; rfl)
                    refine wp_region_tabC (by kernel_rfl) [0, 8, 10, 55, 56, 57, 58, 59, 60, 61, 62, 63, 64, 65, 66, 67, 68, 69, 70, 71, 72, 73, 74, 75, 76, 77, 6] [[], [0], [1], [1], [1], [1, 3, 4], [1, 5], [1, 6], [1, 2, 7], [1], [1], [1], [1, 10, 11], [1, 12], [1, 13], [1, 8, 9, 14], [1], [1], [1, 16, 17], [1, 18], [1, 19], [1, 8, 15, 20], [1, 21], [0, 1, 2, 3, 4, 5, 6, 7, 8, 9, 10, 11, 12, 13, 14, 15, 16, 17, 18, 19, 20, 21, 22]]
                      (fun L vals wx => Bel wr wx ∧ TabR (tbDH A l.length c bl ol rl.length cap q ia ja bd x1 x2 y1 y2 rr) (bsDH A l.length c bl ol rl.length cap q ia ja bd x1 x2 y1 y2 rr) L vals ∧ (L 23 = false → vals 6 = .bool true)) (by kernel_rfl) rfl ?_ ?_ ?_
                    · exact ⟨(Bel.start wr).drew, TabR.start (by simp [bsDH]), fun _ => by simp⟩
                    · intro i hi a L vals wx E hJ hLi hn hC K hK hK0
                      obtain ⟨hI, hT, hA⟩ := hJ
                      match i, hi with
                      | 0, _ => exact op_moveG rfl rfl rfl rfl ((E 6 (by decide)).trans (hA (by cases h : L 23 with | false => rfl | true => exact absurd (hC 23 0 (by decide) h) (by rw [hLi]; decide)))) (hK 55 _ _ (by decide) ⟨hI, hT.set 0 rfl (by kernel_rfl) (by kernel_rfl), fun h => by simpa using hA (by simpa using h)⟩)
                      | 1, _ => exact op_moveG rfl rfl rfl rfl ((E 55 (by decide)).trans (hT.val 0 rfl (hn 0 (by decide)))) (hK 56 _ _ (by decide) ⟨hI, hT.set 1 rfl (by kernel_rfl) (by kernel_rfl), fun h => by simpa using hA (by simpa using h)⟩)
                      | 2, _ => exact op_moveG rfl (want_on (d := 56) (b := true) rfl rfl ((E 56 (by decide)).trans (hT.val 1 rfl (hn 1 (by decide))))) rfl rfl ((E 0 (by decide)).trans (hT.rd 0 rfl)) (hK 57 _ _ (by decide) ⟨hI, hT.set 2 rfl (by kernel_rfl) (by kernel_rfl), fun h => by simpa using hA (by simpa using h)⟩)
                      | 3, _ => exact op_moveG rfl (want_on (d := 56) (b := true) rfl rfl ((E 56 (by decide)).trans (hT.val 1 rfl (hn 1 (by decide))))) rfl rfl ((E 8 (by decide)).trans (hT.rd 1 rfl)) (hK 58 _ _ (by decide) ⟨hI, hT.set 3 rfl (by kernel_rfl) (by kernel_rfl), fun h => by simpa using hA (by simpa using h)⟩)
                      | 4, _ => exact op_moveG rfl (want_on (d := 56) (b := true) rfl rfl ((E 56 (by decide)).trans (hT.val 1 rfl (hn 1 (by decide))))) rfl rfl ((E 10 (by decide)).trans (hT.rd 2 rfl)) (hK 59 _ _ (by decide) ⟨hI, hT.set 4 rfl (by kernel_rfl) (by kernel_rfl), fun h => by simpa using hA (by simpa using h)⟩)
                      | 5, _ =>
                        have e1 := (E 58 (by decide)).trans (hT.val 3 rfl (hn 3 (by decide)))
                        have e2 := (E 59 (by decide)).trans (hT.val 4 rfl (hn 4 (by decide)))
                        refine op_valueG (w' := wx) (v := .pointer (some ⟨bl, ol + q * 3, none⟩)) rfl (want_on (d := 56) (b := true) rfl rfl ((E 56 (by decide)).trans (hT.val 1 rfl (hn 1 (by decide))))) rfl ?_ (hK 60 _ _ (by decide) ⟨hI, hT.set 5 rfl (by kernel_rfl) (by kernel_rfl), fun h => by simpa using hA (by simpa using h)⟩)
                        clear hK hK0 hT E hA
                        revert e1 e2
                        generalize a.eval = ρ
                        intro e1 e2
                        go_simp
                      | 6, _ =>
                        have e1 := (E 60 (by decide)).trans (hT.val 5 rfl (hn 5 (by decide)))
                        refine op_valueG (w' := wx) (v := .pointer (some ⟨bl, ol + q * 3, none⟩)) rfl (want_on (d := 56) (b := true) rfl rfl ((E 56 (by decide)).trans (hT.val 1 rfl (hn 1 (by decide))))) rfl ?_ (hK 61 _ _ (by decide) ⟨hI, hT.set 6 rfl (by kernel_rfl) (by kernel_rfl), fun h => by simpa using hA (by simpa using h)⟩)
                        clear hK hK0 hT E hA
                        revert e1
                        generalize a.eval = ρ
                        intro e1
                        go_simp
                      | 7, _ =>
                        have e1 := (E 61 (by decide)).trans (hT.val 6 rfl (hn 6 (by decide)))
                        have m0 := hI.cell E1.out
                        refine op_valueG (w' := wx) (v := .int .i64 ia) rfl (want_on (d := 56) (b := true) rfl rfl ((E 56 (by decide)).trans (hT.val 1 rfl (hn 1 (by decide))))) rfl ?_ (hK 62 _ _ (by decide) ⟨hI, hT.set 7 rfl (by kernel_rfl) (by kernel_rfl), fun h => by simpa using hA (by simpa using h)⟩)
                        clear hK hK0 hT E hA
                        revert e1
                        generalize a.eval = ρ
                        intro e1
                        go_simp
                      | 8, _ =>
                        have e1 := (E 57 (by decide)).trans (hT.val 2 rfl (hn 2 (by decide)))
                        have e2 := (E 62 (by decide)).trans (hT.val 7 rfl (hn 7 (by decide)))
                        exact op_goG rfl (want_on (d := 56) (b := true) rfl rfl ((E 56 (by decide)).trans (hT.val 1 rfl (hn 1 (by decide))))) rfl rfl Tryz.func32 (by kernel_rfl) rfl (by simp only [List.map_toArray, List.map_cons, List.map_nil, e1, e2]) (HAI.out _ (HBR.out.1.trans (hI.b.mono HBR.out.1.size))) (fun w' hb => hK 63 _ _ (by decide) ⟨hI.step hb, hT.set 8 rfl (by kernel_rfl) (by kernel_rfl), fun h => by simpa using hA (by simpa using h)⟩)
                      | 9, _ => exact op_moveG rfl (want_on (d := 56) (b := true) rfl rfl ((E 56 (by decide)).trans (hT.val 1 rfl (hn 1 (by decide))))) rfl rfl ((E 0 (by decide)).trans (hT.rd 0 rfl)) (hK 64 _ _ (by decide) ⟨hI, hT.set 9 rfl (by kernel_rfl) (by kernel_rfl), fun h => by simpa using hA (by simpa using h)⟩)
                      | 10, _ => exact op_moveG rfl (want_on (d := 56) (b := true) rfl rfl ((E 56 (by decide)).trans (hT.val 1 rfl (hn 1 (by decide))))) rfl rfl ((E 8 (by decide)).trans (hT.rd 1 rfl)) (hK 65 _ _ (by decide) ⟨hI, hT.set 10 rfl (by kernel_rfl) (by kernel_rfl), fun h => by simpa using hA (by simpa using h)⟩)
                      | 11, _ => exact op_moveG rfl (want_on (d := 56) (b := true) rfl rfl ((E 56 (by decide)).trans (hT.val 1 rfl (hn 1 (by decide))))) rfl rfl ((E 10 (by decide)).trans (hT.rd 2 rfl)) (hK 66 _ _ (by decide) ⟨hI, hT.set 11 rfl (by kernel_rfl) (by kernel_rfl), fun h => by simpa using hA (by simpa using h)⟩)
                      | 12, _ =>
                        have e1 := (E 65 (by decide)).trans (hT.val 10 rfl (hn 10 (by decide)))
                        have e2 := (E 66 (by decide)).trans (hT.val 11 rfl (hn 11 (by decide)))
                        refine op_valueG (w' := wx) (v := .pointer (some ⟨bl, ol + q * 3, none⟩)) rfl (want_on (d := 56) (b := true) rfl rfl ((E 56 (by decide)).trans (hT.val 1 rfl (hn 1 (by decide))))) rfl ?_ (hK 67 _ _ (by decide) ⟨hI, hT.set 12 rfl (by kernel_rfl) (by kernel_rfl), fun h => by simpa using hA (by simpa using h)⟩)
                        clear hK hK0 hT E hA
                        revert e1 e2
                        generalize a.eval = ρ
                        intro e1 e2
                        go_simp
                      | 13, _ =>
                        have e1 := (E 67 (by decide)).trans (hT.val 12 rfl (hn 12 (by decide)))
                        refine op_valueG (w' := wx) (v := .pointer (some ⟨bl, ol + q * 3 + 1, none⟩)) rfl (want_on (d := 56) (b := true) rfl rfl ((E 56 (by decide)).trans (hT.val 1 rfl (hn 1 (by decide))))) rfl ?_ (hK 68 _ _ (by decide) ⟨hI, hT.set 13 rfl (by kernel_rfl) (by kernel_rfl), fun h => by simpa using hA (by simpa using h)⟩)
                        clear hK hK0 hT E hA
                        revert e1
                        generalize a.eval = ρ
                        intro e1
                        go_simp
                      | 14, _ =>
                        have e1 := (E 68 (by decide)).trans (hT.val 13 rfl (hn 13 (by decide)))
                        have m0 := hI.cell E2.out
                        refine op_valueG (w' := wx) (v := .int .i64 ja) rfl (want_on (d := 56) (b := true) rfl rfl ((E 56 (by decide)).trans (hT.val 1 rfl (hn 1 (by decide))))) rfl ?_ (hK 69 _ _ (by decide) ⟨hI, hT.set 14 rfl (by kernel_rfl) (by kernel_rfl), fun h => by simpa using hA (by simpa using h)⟩)
                        clear hK hK0 hT E hA
                        revert e1
                        generalize a.eval = ρ
                        intro e1
                        go_simp
                      | 15, _ =>
                        have e1 := (E 64 (by decide)).trans (hT.val 9 rfl (hn 9 (by decide)))
                        have e2 := (E 69 (by decide)).trans (hT.val 14 rfl (hn 14 (by decide)))
                        exact op_goG rfl (want_on (d := 56) (b := true) rfl rfl ((E 56 (by decide)).trans (hT.val 1 rfl (hn 1 (by decide))))) rfl rfl Tryz.func32 (by kernel_rfl) rfl (by simp only [List.map_toArray, List.map_cons, List.map_nil, e1, e2]) (HAJ.out _ (HBR.out.1.trans (hI.b.mono HBR.out.1.size))) (fun w' hb => hK 70 _ _ (by decide) ⟨hI.step hb, hT.set 15 rfl (by kernel_rfl) (by kernel_rfl), fun h => by simpa using hA (by simpa using h)⟩)
                      | 16, _ => exact op_moveG rfl (want_on (d := 56) (b := true) rfl rfl ((E 56 (by decide)).trans (hT.val 1 rfl (hn 1 (by decide))))) rfl rfl ((E 8 (by decide)).trans (hT.rd 1 rfl)) (hK 71 _ _ (by decide) ⟨hI, hT.set 16 rfl (by kernel_rfl) (by kernel_rfl), fun h => by simpa using hA (by simpa using h)⟩)
                      | 17, _ => exact op_moveG rfl (want_on (d := 56) (b := true) rfl rfl ((E 56 (by decide)).trans (hT.val 1 rfl (hn 1 (by decide))))) rfl rfl ((E 10 (by decide)).trans (hT.rd 2 rfl)) (hK 72 _ _ (by decide) ⟨hI, hT.set 17 rfl (by kernel_rfl) (by kernel_rfl), fun h => by simpa using hA (by simpa using h)⟩)
                      | 18, _ =>
                        have e1 := (E 71 (by decide)).trans (hT.val 16 rfl (hn 16 (by decide)))
                        have e2 := (E 72 (by decide)).trans (hT.val 17 rfl (hn 17 (by decide)))
                        refine op_valueG (w' := wx) (v := .pointer (some ⟨bl, ol + q * 3, none⟩)) rfl (want_on (d := 56) (b := true) rfl rfl ((E 56 (by decide)).trans (hT.val 1 rfl (hn 1 (by decide))))) rfl ?_ (hK 73 _ _ (by decide) ⟨hI, hT.set 18 rfl (by kernel_rfl) (by kernel_rfl), fun h => by simpa using hA (by simpa using h)⟩)
                        clear hK hK0 hT E hA
                        revert e1 e2
                        generalize a.eval = ρ
                        intro e1 e2
                        go_simp
                      | 19, _ =>
                        have e1 := (E 73 (by decide)).trans (hT.val 18 rfl (hn 18 (by decide)))
                        refine op_valueG (w' := wx) (v := .pointer (some ⟨bl, ol + q * 3 + 2, none⟩)) rfl (want_on (d := 56) (b := true) rfl rfl ((E 56 (by decide)).trans (hT.val 1 rfl (hn 1 (by decide))))) rfl ?_ (hK 74 _ _ (by decide) ⟨hI, hT.set 19 rfl (by kernel_rfl) (by kernel_rfl), fun h => by simpa using hA (by simpa using h)⟩)
                        clear hK hK0 hT E hA
                        revert e1
                        generalize a.eval = ρ
                        intro e1
                        go_simp
                      | 20, _ =>
                        have e1 := (E 74 (by decide)).trans (hT.val 19 rfl (hn 19 (by decide)))
                        have m0 := hI.cell E3.out
                        refine op_valueG (w' := wx) (v := .int .i32 bd) rfl (want_on (d := 56) (b := true) rfl rfl ((E 56 (by decide)).trans (hT.val 1 rfl (hn 1 (by decide))))) rfl ?_ (hK 75 _ _ (by decide) ⟨hI, hT.set 20 rfl (by kernel_rfl) (by kernel_rfl), fun h => by simpa using hA (by simpa using h)⟩)
                        clear hK hK0 hT E hA
                        revert e1
                        generalize a.eval = ρ
                        intro e1
                        go_simp
                      | 21, _ =>
                        have e1 := (E 63 (by decide)).trans (hT.val 8 rfl (hn 8 (by decide)))
                        have e2 := (E 70 (by decide)).trans (hT.val 15 rfl (hn 15 (by decide)))
                        have e3 := (E 75 (by decide)).trans (hT.val 20 rfl (hn 20 (by decide)))
                        exact op_goG rfl (want_on (d := 56) (b := true) rfl rfl ((E 56 (by decide)).trans (hT.val 1 rfl (hn 1 (by decide))))) rfl rfl Tryz.func31 (by kernel_rfl) rfl (by simp only [List.map_toArray, List.map_cons, List.map_nil, e1, e2, e3]) (HKK.out _) (fun w' hb => hK 76 _ _ (by decide) ⟨hI.step hb, hT.set 21 rfl (by kernel_rfl) (by kernel_rfl), fun h => by simpa using hA (by simpa using h)⟩)
                      | 22, _ =>
                        have e1 := (E 56 (by decide)).trans (hT.val 1 rfl (hn 1 (by decide)))
                        have e2 := (E 76 (by decide)).trans (hT.val 21 rfl (hn 21 (by decide)))
                        have c1 : a.eval (.const (Value.bool false)) = Value.bool false := rfl
                        refine op_valueG (w' := wx) (v := .bool rr) rfl rfl rfl ?_ (hK 77 _ _ (by decide) ⟨hI, hT.set 22 rfl (by kernel_rfl) (by kernel_rfl), fun h => by simpa using hA (by simpa using h)⟩)
                        clear hK hK0 hT E hA
                        revert e1 e2 c1
                        generalize a.eval = ρ
                        intro e1 e2 c1
                        go_simp
                      | 23, _ => exact op_assignG rfl rfl rfl rfl ((E 77 (by decide)).trans (hT.val 22 rfl (hn 22 (by decide)))) (hK 6 _ _ (by decide) ⟨hI, hT.set 23 rfl (by kernel_rfl) (by kernel_rfl), fun h => by simp at h⟩)
                      | k + 24, h => exact absurd (show k + 24 < 24 from h) (by omega)
                    · intro L vals wx hJ hall
                      obtain ⟨hI, hT, hA⟩ := hJ
                      have HIN := Lib.hid hI
                      have v0 : vals 0 = .slice A l.length c := hT.rd 0 rfl
                      have v8 : vals 8 = .slice (some ⟨bl, ol, none⟩) rl.length cap := hT.rd 1 rfl
                      have v10 : vals 10 = .int .i64 q := hT.rd 2 rfl
                      have v6 : vals 6 = .bool rr := hT.val 23 rfl (hall 23 (by decide))
                      simp only [overA, Act.put, List.setIfInBounds_toArray, List.set_cons_zero, List.set_cons_succ]
                      rw [v0, v8, v10, v6]
                      clear hI hT hall v0 v8 v10 v6 hA
                      replace HBL := Lib.hid (And.intro (HBR.out.1.trans (HIN.out.b.mono HBR.out.1.size)) (HBR.out.2.below HIN.out.b))
                      clear HIN
                      go_wp2
                      go_roundg (gk - 1)
                      case measure => have h := HQ.out.2.1; omega
                      case rel => exact ⟨q + 1, rr, by go_num, rfl, HBL, Lib.hid ⟨by omega, by have h := HQ.out.2.1; omega, HN.out⟩⟩
                · have hqi : ¬ (q : Int) < (rl.length : Int) := by omega
                  have HE2 : Hid (b' = (b && rl.all (lkV l))) := Lib.hid (by
                    have h := HQ.out.2.2
                    rw [List.take_of_length_le (by have := HQ.out.1; omega)] at h
                    exact h)
                  rw [← HE2.out] at HST
                  go_wp2
                  go_roundg (gs.length - (p + 1))
                  case measure => have h := HREL.out.2.1; omega
                  case rel => exact ⟨p + 1, b', by go_num, rfl, Lib.hid HBL.out.1, Lib.hid ⟨by omega, by have h := HREL.out.2.1; omega, HST.out⟩⟩
        · have t1 : (re != 0) = true := by simp [he]
          have HF := Lib.hid (HST.out.trans (if_pos he))
          clear he HST
          go_wp2
          go_ret2
          rw [HF.out]
          exact ⟨rfl, HB.out⟩
      · have hpi : ¬ (p : Int) < (gs.length : Int) := by omega
        have HF : Hid (R = (b, 0)) := Lib.hid (by
          have h := HREL.out.2.2
          rw [show gk = 0 by have := HREL.out.2.1; omega] at h
          exact h)
        go_wp2
        go_ret2
        rw [HF.out]
        exact ⟨rfl, HB.out⟩
  · rw [show holdsA l gs = (false, 7) by unfold holdsA; rw [if_neg hrv]]
    have hrv : rightV l = false := by simpa using hrv
    rw [hrv] at HR
    clear hI h64 hrv hmax hG hk hgm
    go_enter Tryz.func11, Tryz.ntmps11
    go_wp2_with fail
    refine HR.out.mono ?_
    rintro e w1 ⟨rfl, hb⟩
    have HB := Lib.hid hb
    clear hb HR
    go_wp2
    go_ret2
    exact ⟨rfl, HB.out⟩

end Go.Proofs.YtmelblnflalanaaGreat

/- What PointMoves tells: a valuation when time has passed, with a clock set, and whether guards hold of it. -/
namespace Go.Proofs.YtmelblnflalanaaGreat
open Go Go.RowKit
set_option linter.unusedVariables false
set_option linter.unusedSimpArgs false

/-- The cells of a block. -/
def HasCs (b : Nat) (cs : Array Value) (w : World) : Prop := ∀ k v, cs[k]? = some v → w.cell? ⟨b, k, none⟩ = some v
theorem stable_cs (b : Nat) (cs : Array Value) : Stable (HasCs b cs) := fun w w' h hb k v hk => (hb.cell (p := ⟨b, k, none⟩) (World.block_lt_of_cell? w _ (h k v hk))).trans (h k v hk)
theorem cs_new (w : World) (cs : Array Value) (T : TypeId) : HasCs w.heap.size cs (w.alloc (.cells cs T)) := fun k v hk => by
  have h1 := heap_alloc_new w (.cells cs T)
  unfold World.cell?
  rw [h1]
  simpa using hk
theorem stable_ratsA (A : Option Addr) (l : List (Int × Int)) : Stable fun w => RatsA w A l := fun _ _ h hb => h.below hb
theorem stable_gdsA (A : Option Addr) (l : List (Int × Int × Int × Int)) : Stable fun w => Gds w A l := fun _ _ h hb => h.below hb
theorem stable_handq (w0 : World) (l : List (Int × Int)) (p : Nat) : Stable fun w => HandQ w0 l p w := fun _ _ h hb => h.step hb
theorem stable_handg (w0 : World) (l : List (Int × Int × Int × Int)) (p : Nat) : Stable fun w => HandGR w0 l p w := fun _ _ h hb => ⟨h.1.trans (hb.mono h.1.size), h.2.later hb⟩
theorem wait8 (l : List (Int × Int)) (d : Int × Int) : (waitA l d).1.length ≤ 8 := by
  unfold waitA
  split
  · rename_i h
    split
    · rw [waitV_length]; exact rightV_short h.1
    · exact Nat.zero_le _
  · exact Nat.zero_le _
theorem set8 (l : List (Int × Int)) (c n : Int) : (setA l c n).1.length ≤ 8 := by
  unfold setA
  split
  · rename_i h
    split
    · exact Nat.zero_le _
    · split
      · exact Nat.zero_le _
      · show (setV l c.toNat n).length ≤ 8
        rw [setV_length]; exact rightV_short h
  · exact Nat.zero_le _

set_option maxRecDepth 100000 in
set_option maxHeartbeats 8000000 in
theorem pmoves_any (A : Option Addr) (c : Nat) (l : List (Int × Int)) (d1 d2 ck nn : Int) (G : Option Addr) (gc : Nat) (gs : List (Int × Int × Int × Int)) (w : World) (hI : RatsA w A l) (hmax : l.length ≤ 8796093022000) (h64 : All64v l) (hd1 : I64 d1) (hd2 : I64 d2) (hck : I64 ck) (hnn : I64 nn)
    (hG : Gds w G gs) (hgm : gs.length ≤ 4398046510976) (hgk : ∀ p, p < gs.length → 0 ≤ (gs.getD p (0, 0, 0, 0)).2.2.1 ∧ (gs.getD p (0, 0, 0, 0)).2.2.1 ≤ 255) :
    Calls Tryz.prog 3 #[.agg #[.slice A l.length c, .int .i64 d1, .int .i64 d2, .int .i64 ck, .int .i64 nn, .slice G gs.length gc]] w fun e w' => e = .returned (.bool true) ∧ Below w.heap.size w w' := by
  have HLV := Lib.hid (fun W => live06_any W)
  have HHR := Lib.hid (fun W hI => handrats_any A c l W hI hmax)
  have HKR := Lib.hid (fun d W0 W hh hI => keptrats_any A d l W0 W hh hI hmax)
  have HHG := Lib.hid (fun W hG => handgds_any G gc gs W hG hgm)
  have HKG := Lib.hid (fun d W0 W hh hG => keptgds_any G d gs W0 W hh hG hgm)
  have HWT := Lib.hid (fun A c W hI => wait_any A c l d1 d2 W hI hmax h64 hd1 hd2)
  have HDW := Lib.hid (fun A c W hI => dwait_any A c l d1 d2 W hI hmax h64 hd1 hd2)
  have HST := Lib.hid (fun A c W hI => set_any A c l ck nn W hI hmax h64 hck)
  have HDS := Lib.hid (fun A c W hI => dset_any A c l ck nn W hI hmax h64 hck)
  have HHO := Lib.hid (fun A c G gc W hI hG => pholds_any A c l G gc gs W hI hmax h64 hG hgm hgk)
  have HDH := Lib.hid (fun A c G gc W hI hG => dholds_any A c l G gc gs W hI hmax h64 hG hgm hgk)
  have W8 := Lib.hid (wait8 l (d1, d2))
  have S8 := Lib.hid (set8 l ck nn)
  obtain ⟨wv, hwv⟩ : ∃ q, q = waitA l (d1, d2) := ⟨_, rfl⟩
  rw [← hwv] at HWT HDW W8
  obtain ⟨wl, we⟩ := wv
  obtain ⟨sv, hsv⟩ : ∃ q, q = setA l ck nn := ⟨_, rfl⟩
  rw [← hsv] at HST HDS S8
  obtain ⟨sl, se⟩ := sv
  obtain ⟨hv, hhv⟩ : ∃ q, q = holdsA l gs := ⟨_, rfl⟩
  rw [← hhv] at HHO HDH
  obtain ⟨hy, he⟩ := hv
  have t1 : (we != we) = false := by simp
  have t2 : (se != se) = false := by simp
  have t3 : (hy != hy) = false := by simp
  have t4 : (he != he) = false := by simp
  have hbw := below_one w (.cells #[.slice A l.length c, .int .i64 d1, .int .i64 d2, .int .i64 ck, .int .i64 nn, .slice G gs.length gc] 27)
  have HG := Lib.hid ((((Bag.start hbw).add (hI.below hbw) (stable_ratsA _ _)).add (hG.below hbw) (stable_gdsA _ _)).add (cs_new w #[.slice A l.length c, .int .i64 d1, .int .i64 d2, .int .i64 ck, .int .i64 nn, .slice G gs.length gc] 27) (stable_cs _ _))
  clear hI hmax h64 hd1 hd2 hG hgm hgk hbw hck hnn hwv hsv hhv
  go_enter Tryz.func3, Tryz.ntmps3
  go_upto_region 1 with fail
  generalize w.alloc (.cells #[.slice A l.length c, .int .i64 d1, .int .i64 d2, .int .i64 ck, .int .i64 nn, .slice G gs.length gc] 27) = w0 at *
  obtain ⟨b0, hb0⟩ : ∃ b, b = w.heap.size := ⟨_, rfl⟩
  rw [← hb0] at HG ⊢
  clear hb0
  have m0 := (HG.out.at 0 rfl : HasCs _ _ _) 0 (.slice A l.length c) rfl
  go_wp2_with fail
  refine (HHR.out _ (HG.out.at 2 rfl)).mono ?_
  rintro e w1 ⟨rfl, hq⟩
  replace HG := Lib.hid ((HG.out.step hq.1).add hq (stable_handq _ _ _))
  have HG1 := HG
  clear hq m0 HHR
  have HBA := Lib.hid (Below.refl w1.heap.size w1)
  have m1 := (HG.out.at 1 rfl : HasCs _ _ _) 1 (.int .i64 d1) rfl
  have m2 := (HG.out.at 1 rfl : HasCs _ _ _) 2 (.int .i64 d2) rfl
  go_wp2_with fail
  refine (HWT.out _ _ _ (by exact (HG.out.at 0 rfl : HandQ w0 l (l.length + 9) w1).rats)).mono ?_
  rintro e w2 ⟨va, rfl, hq⟩
  have HA := Lib.hid hq
  have hb := hq.1
  clear hq m1 m2 HWT
  replace HG := Lib.hid (HG.out.step hb)
  replace HBA := Lib.hid (HBA.out.trans (hb.mono HBA.out.size))
  clear hb
  have m0 := (HG.out.at 1 rfl : HasCs _ _ _) 0 (.slice A l.length c) rfl
  have m1 := (HG.out.at 1 rfl : HasCs _ _ _) 1 (.int .i64 d1) rfl
  have m2 := (HG.out.at 1 rfl : HasCs _ _ _) 2 (.int .i64 d2) rfl
  go_wp2_with fail
  refine (HDW.out _ _ _ (HG.out.at 3 rfl)).mono ?_
  rintro e w3 ⟨vb, rfl, hq⟩
  have HQ := Lib.hid hq
  have hb := hq.1
  clear hq m0 m1 m2 HDW
  replace HG := Lib.hid (HG.out.step hb)
  replace HBA := Lib.hid (HBA.out.trans (hb.mono HBA.out.size))
  replace HA := Lib.hid (HA.out.step hb)
  clear hb
  have HLT3 := Lib.hid (fun b (hb : va.ownBlock = some b) => (ownQ_block HA.out hb).2)
  have H15 := Lib.hid HBA.out.size
  have m3 := (HG.out.at 1 rfl : HasCs _ _ _) 3 (.int .i64 ck) rfl
  have m4 := (HG.out.at 1 rfl : HasCs _ _ _) 4 (.int .i64 nn) rfl
  go_wp2_with fail
  refine (HST.out _ _ _ (by exact (HG.out.at 0 rfl : HandQ w0 l (l.length + 9) w3).rats)).mono ?_
  rintro e w4 ⟨vc, rfl, hq⟩
  have HCQ := Lib.hid hq
  have hb := hq.1
  clear hq m3 m4 HST
  replace HG := Lib.hid (HG.out.step hb)
  replace HBA := Lib.hid (HBA.out.trans (hb.mono HBA.out.size))
  replace HA := Lib.hid (HA.out.step hb)
  replace HQ := Lib.hid (HQ.out.step hb)
  clear hb
  have m0 := (HG.out.at 1 rfl : HasCs _ _ _) 0 (.slice A l.length c) rfl
  have m3 := (HG.out.at 1 rfl : HasCs _ _ _) 3 (.int .i64 ck) rfl
  have m4 := (HG.out.at 1 rfl : HasCs _ _ _) 4 (.int .i64 nn) rfl
  go_wp2_with fail
  refine (HDS.out _ _ _ (HG.out.at 3 rfl)).mono ?_
  rintro e w5 ⟨vd, rfl, hq⟩
  have HDQ := Lib.hid hq
  have hb := hq.1
  clear hq m0 m3 m4 HDS
  replace HG := Lib.hid (HG.out.step hb)
  replace HBA := Lib.hid (HBA.out.trans (hb.mono HBA.out.size))
  replace HA := Lib.hid (HA.out.step hb)
  replace HQ := Lib.hid (HQ.out.step hb)
  replace HCQ := Lib.hid (HCQ.out.step hb)
  clear hb
  have m5 := (HG.out.at 1 rfl : HasCs _ _ _) 5 (.slice G gs.length gc) rfl
  go_wp2_with fail
  refine (HHG.out _ (HG.out.at 2 rfl)).mono ?_
  rintro e w5b ⟨rfl, hq⟩
  have hb := hq.1
  have HHQ := Lib.hid hq
  clear hq m5 HHG
  replace HG := Lib.hid ((HG.out.step hb).add HHQ.out (stable_handg _ _ _))
  replace HBA := Lib.hid (HBA.out.trans (hb.mono HBA.out.size))
  replace HA := Lib.hid (HA.out.step hb)
  replace HQ := Lib.hid (HQ.out.step hb)
  replace HCQ := Lib.hid (HCQ.out.step hb)
  replace HDQ := Lib.hid (HDQ.out.step hb)
  clear hb HHQ
  go_wp2_with fail
  refine (HHO.out _ _ _ _ _ (by exact (HG.out.at 1 rfl : HandQ w0 l (l.length + 9) w5b).rats) (by exact (HG.out.at 0 rfl : HandGR w5 gs (gs.length + 9) w5b).gds)).mono ?_
  rintro e w5c ⟨rfl, hb⟩
  clear HHO
  replace HG := Lib.hid (HG.out.step hb)
  replace HBA := Lib.hid (HBA.out.trans (hb.mono HBA.out.size))
  replace HA := Lib.hid (HA.out.step hb)
  replace HQ := Lib.hid (HQ.out.step hb)
  replace HCQ := Lib.hid (HCQ.out.step hb)
  replace HDQ := Lib.hid (HDQ.out.step hb)
  clear hb
  have m0 := (HG.out.at 2 rfl : HasCs _ _ _) 0 (.slice A l.length c) rfl
  have m5 := (HG.out.at 2 rfl : HasCs _ _ _) 5 (.slice G gs.length gc) rfl
  go_wp2_with fail
  refine (HDH.out _ _ _ _ _ (HG.out.at 4 rfl) (HG.out.at 3 rfl)).mono ?_
  rintro e w5d ⟨rfl, hb⟩
  clear HDH m0 m5
  replace HG := Lib.hid (HG.out.step hb)
  replace HBA := Lib.hid (HBA.out.trans (hb.mono HBA.out.size))
  replace HA := Lib.hid (HA.out.step hb)
  replace HQ := Lib.hid (HQ.out.step hb)
  replace HCQ := Lib.hid (HCQ.out.step hb)
  replace HDQ := Lib.hid (HDQ.out.step hb)
  clear hb
  go_wp2_with fail
  refine (HLV.out _).mono ?_
  rintro e w5e ⟨rfl, hb⟩
  clear HLV
  replace HG := Lib.hid (HG.out.step hb)
  replace HBA := Lib.hid (HBA.out.trans (hb.mono HBA.out.size))
  replace HA := Lib.hid (HA.out.step hb)
  replace HQ := Lib.hid (HQ.out.step hb)
  replace HCQ := Lib.hid (HCQ.out.step hb)
  replace HDQ := Lib.hid (HDQ.out.step hb)
  clear hb
  obtain ⟨Aa, ca, ea, ra⟩ := HA.out.rats
  obtain ⟨Ab, cb, eb, rb⟩ := HQ.out.rats
  subst ea
  subst eb
  have HSM := Lib.hid (samerats_eq Aa ca Ab cb wl w5e ra rb (by have := W8.out; omega))
  clear ra rb HQ
  go_wp2_with fail
  refine (HSM.out).mono ?_
  rintro e w5f ⟨rfl, hb⟩
  clear HSM
  replace HG := Lib.hid (HG.out.step hb)
  replace HBA := Lib.hid (HBA.out.trans (hb.mono HBA.out.size))
  replace HA := Lib.hid (HA.out.step hb)
  replace HCQ := Lib.hid (HCQ.out.step hb)
  replace HDQ := Lib.hid (HDQ.out.step hb)
  clear hb
  obtain ⟨Ac, cc, ec, rc⟩ := HCQ.out.rats
  obtain ⟨Ad, cd, ed, rd⟩ := HDQ.out.rats
  subst ec
  subst ed
  have HSM := Lib.hid (samerats_eq Ac cc Ad cd sl w5f rc rd (by have := S8.out; omega))
  clear rc rd HDQ
  go_wp2_with fail
  refine (HSM.out).mono ?_
  rintro e w5g ⟨rfl, hb⟩
  clear HSM
  replace HG := Lib.hid (HG.out.step hb)
  replace HBA := Lib.hid (HBA.out.trans (hb.mono HBA.out.size))
  replace HA := Lib.hid (HA.out.step hb)
  replace HCQ := Lib.hid (HCQ.out.step hb)
  clear hb
  have m0 := (HG.out.at 2 rfl : HasCs _ _ _) 0 (.slice A l.length c) rfl
  go_wp2_with fail
  refine (HKR.out c w0 _ (HG.out.at 1 rfl) (HG.out.at 4 rfl)).mono ?_
  rintro e w5h ⟨rfl, hb⟩
  clear m0
  replace HG := Lib.hid (HG.out.step hb)
  replace HBA := Lib.hid (HBA.out.trans (hb.mono HBA.out.size))
  replace HA := Lib.hid (HA.out.step hb)
  replace HCQ := Lib.hid (HCQ.out.step hb)
  clear hb
  have m5 := (HG.out.at 2 rfl : HasCs _ _ _) 5 (.slice G gs.length gc) rfl
  go_wp2_with fail
  refine (HKG.out gc w5 _ (HG.out.at 0 rfl) (HG.out.at 3 rfl)).mono ?_
  rintro e w6 ⟨rfl, hb⟩
  clear m5 HKG
  replace HG := Lib.hid (HG.out.step hb)
  replace HBA := Lib.hid (HBA.out.trans (hb.mono HBA.out.size))
  replace HA := Lib.hid (HA.out.step hb)
  replace HCQ := Lib.hid (HCQ.out.step hb)
  clear hb
  have HBC := H15
  have HLT := HLT3
  clear HLT3 HG
  go_upto_region 11 with fail
  clear t1 t2 t3 t4
  have HB := Lib.hid (Below.refl w1.heap.size w1)
  have HK := Lib.hid (show Blx w1 [(w6.heap.size, bookCs (.slice none 0 0), 56)] (w6.alloc (.cells #[.slice none 0 0, .slice none 0 0, .slice none 0 0, .slice none 0 0, .slice none 0 0, .slice none 0 0, .slice none 0 0, .slice none 0 0, .slice none 0 0, .slice none 0 0, .slice none 0 0, .slice none 0 0, .slice none 0 0, .slice none 0 0] 56)) from
    Blx.new (L := []) ⟨HBA.out, (fun _ h => by cases h), List.Pairwise.nil, (fun _ h => by cases h)⟩ (bookCs (.slice none 0 0)) 56)
  have hb7 := below_one w6 (.cells #[.slice none 0 0, .slice none 0 0, .slice none 0 0, .slice none 0 0, .slice none 0 0, .slice none 0 0, .slice none 0 0, .slice none 0 0, .slice none 0 0, .slice none 0 0, .slice none 0 0, .slice none 0 0, .slice none 0 0, .slice none 0 0] 56)
  have ra7 := (RowF.ofOwn HA.out).frame (fun q hq => hb7.block q (rowF_lt (RowF.ofOwn HA.out) hq))
  have rc7 := (RowF.ofOwn HCQ.out).frame (fun q hq => hb7.block q (rowF_lt (RowF.ofOwn HCQ.out) hq))
  have la : ∀ q, (Value.slice Aa wl.length ca).ownBlock = some q → q < w6.heap.size := fun q hq => rowF_lt (RowF.ofOwn HA.out) hq
  have lc : ∀ q, (Value.slice Ac sl.length cc).ownBlock = some q → q < w6.heap.size := fun q hq => rowF_lt (RowF.ofOwn HCQ.out) hq
  have hg7 : w6.heap.size < (w6.alloc (.cells #[.slice none 0 0, .slice none 0 0, .slice none 0 0, .slice none 0 0, .slice none 0 0, .slice none 0 0, .slice none 0 0, .slice none 0 0, .slice none 0 0, .slice none 0 0, .slice none 0 0, .slice none 0 0, .slice none 0 0, .slice none 0 0] 56)).heap.size := by simp
  have h07 : w1.heap.size ≤ (w6.alloc (.cells #[.slice none 0 0, .slice none 0 0, .slice none 0 0, .slice none 0 0, .slice none 0 0, .slice none 0 0, .slice none 0 0, .slice none 0 0, .slice none 0 0, .slice none 0 0, .slice none 0 0, .slice none 0 0, .slice none 0 0, .slice none 0 0] 56)).heap.size := HK.out.below.size
  go_upto_region 12 with fail
  generalize w6.alloc (.cells #[.slice none 0 0, .slice none 0 0, .slice none 0 0, .slice none 0 0, .slice none 0 0, .slice none 0 0, .slice none 0 0, .slice none 0 0, .slice none 0 0, .slice none 0 0, .slice none 0 0, .slice none 0 0, .slice none 0 0, .slice none 0 0] 56) = w7 at *
  have HT1 := Lib.hid (take_any w1 w7 w6.heap.size w7.heap.size (.slice none 0 0) Aa wl.length ca [] HK.out (World.ownsRow_nil _ _ _ _) hg7 (Nat.le_refl _) h07 (Nat.zero_le _))
  have HRA := Lib.hid (And.intro ra7 rc7)
  have HLL := Lib.hid (And.intro la lc)
  have HG7 := Lib.hid (And.intro hg7 h07)
  clear ra7 rc7 la lc hg7 h07 hb7 HK
  go_wp2_with fail
  refine HT1.out.mono ?_
  rintro e w8 ⟨rfl, v1, k1, o1, s1, f1⟩
  have ra8 := HRA.out.1.frame (fun q hq => f1 q (by have := HLL.out.1 q hq; have := HG7.out.1; omega) (fun e => by have := HLL.out.1 q hq; omega))
  have rc8 := HRA.out.2.frame (fun q hq => f1 q (by have := HLL.out.2 q hq; have := HG7.out.1; omega) (fun e => by have := HLL.out.2 q hq; omega))
  have HT2 := Lib.hid (take_any w1 w8 w6.heap.size w7.heap.size v1 Ac sl.length cc [.slice Aa wl.length ca] k1 o1 HG7.out.1 s1 HG7.out.2 (by simp))
  replace HRA := Lib.hid (And.intro ra8 rc8)
  clear ra8 rc8 k1 o1 s1 f1 HT1
  go_wp2_with fail
  refine HT2.out.mono ?_
  rintro e w9 ⟨rfl, v2, k2, o2, s2, f2⟩
  have ra9 := HRA.out.1.frame (fun q hq => f2 q (by have := HLL.out.1 q hq; have := HG7.out.1; omega) (fun e => by have := HLL.out.1 q hq; omega))
  have rc9 := HRA.out.2.frame (fun q hq => f2 q (by have := HLL.out.2 q hq; have := HG7.out.1; omega) (fun e => by have := HLL.out.2 q hq; omega))
  obtain ⟨_, ov⟩ := o2
  rcases ov with ⟨_, h0⟩ | ⟨hq, cap, curh, ev, hbq, hheap, _, _, _, htake⟩
  · simp at h0
  · subst ev
    have htk : curh.toList.take 2 = [.slice Aa wl.length ca, .slice Ac sl.length cc] := htake
    have hc0 : curh[0]? = some (.slice Aa wl.length ca) := by
      have h1 : (curh.toList.take 2)[0]? = some (.slice Aa wl.length ca) := by rw [htk]; rfl
      rw [List.getElem?_take, if_pos (by decide), Array.getElem?_toList] at h1
      exact h1
    have hc1 : curh[1]? = some (.slice Ac sl.length cc) := by
      have h1 : (curh.toList.take 2)[1]? = some (.slice Ac sl.length cc) := by rw [htk]; rfl
      rw [List.getElem?_take, if_pos (by decide), Array.getElem?_toList] at h1
      exact h1
    have HAL := Lib.hid (alone_any w1 w9 w6.heap.size hq cap curh (fun i => if i = 0 then wl.length else sl.length) (fun i => if i = 0 then Aa else Ac) (fun i => if i = 0 then ca else cc) (fun i => if i = 0 then wl else sl) (fun i => by by_cases e : i = 0 <;> simp [e]) (fun i hi => by
        rcases (show i = 0 ∨ i = 1 by omega) with rfl | rfl
        · exact W8.out
        · exact S8.out)
      ⟨k2, hheap, fun j hj => by rcases (show j = 0 ∨ j = 1 by omega) with rfl | rfl <;> rfl, fun j hj => by
        rcases (show j = 0 ∨ j = 1 by omega) with rfl | rfl
        · exact ra9
        · exact rc9⟩
      (fun i hi => by
        rcases (show i = 0 ∨ i = 1 by omega) with rfl | rfl
        · exact hc0
        · exact hc1)
      (fun i j hi hj hne b hb => by
        have q1 := HLT.out
        have q2 := fun b (hb : (Value.slice Ac sl.length cc).ownBlock = some b) => (ownQ_block HCQ.out hb).1
        rcases (show (i = 0 ∧ j = 1) ∨ (i = 1 ∧ j = 0) by omega) with ⟨rfl, rfl⟩ | ⟨rfl, rfl⟩
        · intro e
          have h1 := q1 b hb
          have h2 := q2 b e
          omega
        · intro e
          have h1 := q1 b e
          have h2 := q2 b hb
          omega)
      (fun j hj b hb => by
        rcases (show j = 0 ∨ j = 1 by omega) with rfl | rfl
        · have := (ownQ_block HA.out hb).1; have := H15.out; omega
        · have := (ownQ_block HCQ.out hb).1; have := HBC.out; omega))
    clear ra9 rc9 k2 s2 f2 hbq hheap htake htk hc0 hc1 HT2 HRA HLL HG7
    go_wp2_with fail
    refine HAL.out.mono ?_
    rintro e wz ⟨rfl, hb⟩
    replace HG1 := Lib.hid (HG1.out.step hb)
    clear hb HAL
    have m0 := (HG1.out.at 1 rfl : HasCs _ _ _) 0 (.slice A l.length c) rfl
    go_wp2_with fail
    refine (HKR.out c w0 _ (HG1.out.at 0 rfl) (HG1.out.at 3 rfl)).mono ?_
    rintro e wy ⟨rfl, hb⟩
    replace HG1 := Lib.hid (HG1.out.step hb)
    clear hb m0
    go_wp2
    go_ret
    exact ⟨rfl, HG1.out.below⟩

end Go.Proofs.YtmelblnflalanaaGreat
