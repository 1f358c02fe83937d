/- Texts of ours, laid together: Yx, Yy, Yz, Row10. -/
import Derived.Deep.Slices
import Derived.Deep.Fields
import Derived.SizedLaws
import Derived.Test.YtmgdhlcgbgpgpaaDoorMg11
/- The least and the greatest of a row of fractions, as rat chooses them. -/
namespace Go.Proofs.YtmgdhlcgbgpgpaaDoor
open Go Go.RowKit
set_option linter.unusedVariables false
set_option linter.unusedSimpArgs false

theorem best64 {l : List (Int × Int)} (h : All64 l) (so : Int) : ∀ p, p ≤ l.length → I64 (bestUp so l p).1 ∧ I64 (bestUp so l p).2
  | 0, _ => ⟨zero64, zero64⟩
  | p + 1, hp => by
    unfold bestUp
    split
    · exact h p (by omega)
    · exact best64 h so p (by omega)
theorem all_upto {l : List (Int × Int)} (h : ∀ j, j < l.length → rightR (l.getD j (0, 0)) = true) : l.all rightR = true := by
  refine List.all_eq_true.2 fun x hx => ?_
  obtain ⟨j, hj, rfl⟩ := List.getElem_of_mem hx
  have := h j hj
  rw [List.getD_eq_getElem?_getD, List.getElem?_eq_getElem hj] at this
  exact this
theorem not_all {l : List (Int × Int)} {j : Nat} (hj : j < l.length) (h : rightR (l.getD j (0, 0)) = false) : ¬ l.all rightR = true := fun ha => by
  have := List.all_eq_true.1 ha _ (List.getElem_mem hj)
  rw [List.getD_eq_getElem?_getD, List.getElem?_eq_getElem hj] at h
  have h : rightR l[j] = false := h
  rw [h] at this
  cases this

set_option maxRecDepth 100000 in
set_option maxHeartbeats 8000000 in
theorem choice_any (A : Option Addr) (c : Nat) (l : List (Int × Int)) (so : Int) (w : World) (hI : RatsA w A l) (hmax : l.length ≤ 8796093022000) (h64 : All64 l) (ht : TabQ w) :
    Calls Tryd.prog 64 #[.slice A l.length c, .int .i64 so] w fun e w' => e = .returned (.tuple #[.agg #[.int .i64 (choiceP so l).1.1, .int .i64 (choiceP so l).1.2], .bool (choiceP so l).2]) ∧ Below w.heap.size w w' := by
  have HI := Lib.hid hI
  have H64 := Lib.hid h64
  have HL := Lib.hid hmax
  have HB64 := Lib.hid (best64 h64 so)
  have K := Lib.hid ((RtS.start ht).two 0 0 0 0)
  obtain ⟨R, hR⟩ : ∃ q, q = choiceP so l := ⟨_, rfl⟩
  rw [← hR]
  have HR := Lib.hid hR
  clear hR hI h64 hmax ht
  go_enter Tryd.func64, Tryd.ntmps64
  go_upto_region 2 with fail
  generalize (w.alloc (.cells #[.int .i64 0, .int .i64 0] 23)).alloc (.cells #[.int .i64 0, .int .i64 0] 23) = w1 at *
  go_wp2
  go_loopg [11] l.length (fun g s11 wr => ∃ i : Nat, s11 = .int .i64 i ∧ Hid (RtS w [(w.heap.size, 0, 0), (w.heap.size + 1, (bestUp so l i).1, (bestUp so l i).2)] wr) ∧ Hid (i ≤ l.length ∧ g + i = l.length ∧ ∀ j, j < i → rightR (l.getD j (0, 0)) = true))
  case atStart => exact ⟨0, by simp, K, Lib.hid ⟨by omega, by omega, fun j hj => absurd hj (by omega)⟩⟩
  case round =>
    clear K
    obtain ⟨i, rfl, K, HG⟩ := hrel
    by_cases hp : i < l.length
    · have hpi : (i : Int) < (l.length : Int) := by omega
      obtain ⟨b, off, rfl, d1, d2⟩ := HI.out.below K.out.r.below i hp
      have x64 := H64.out i hp
      have HST : Hid (bestUp so l (i + 1) = if i = 0 ∨ cmpP (l.getD i (0, 0)) (bestUp so l i) = so then l.getD i (0, 0) else bestUp so l i) := Lib.hid rfl
      have HNA := Lib.hid (not_all (l := l) hp)
      have HRJ := HG.out.2.2
      have HUP := Lib.hid (fun (h : rightR (l.getD i (0, 0)) = true) j (hj : j < i + 1) => show rightR (l.getD j (0, 0)) = true from by
        by_cases e : j = i
        · rw [e]; exact h
        · exact HRJ j (by omega))
      clear HRJ
      have b64 := HB64.out i (by omega)
      obtain ⟨x, hx⟩ : ∃ q, q = l.getD i (0, 0) := ⟨_, rfl⟩
      rw [← hx] at d1 d2 x64 HST HNA HUP
      obtain ⟨x1, x2⟩ := x
      obtain ⟨y, hy⟩ : ∃ q, q = bestUp so l i := ⟨_, rfl⟩
      rw [← hy] at HST K b64
      obtain ⟨y1, y2⟩ := y
      have HRI := Lib.hid (fun W => right_any x1 x2 x64.1 x64.2 W)
      have HCM := Lib.hid (fun W => compare_any x1 x2 y1 y2 x64.1 x64.2 b64.1 b64.2 W)
      obtain ⟨rb, hrb⟩ : ∃ q, q = rightR (x1, x2) := ⟨_, rfl⟩
      obtain ⟨cm, hcm⟩ : ∃ q, q = cmpP (x1, x2) (y1, y2) := ⟨_, rfl⟩
      rw [← hrb] at HRI HNA HUP
      rw [← hcm] at HCM HST
      have w5 : IntKind.i64.wrap ((i : Int) + 1) = ((i + 1 : Nat) : Int) := by rw [IntWalk.i64_in _ (by have := HL.out; omega)]; omega
      clear hx hy hrb hcm x64 b64
      go_upto_region 5 with fail
      replace K := Lib.hid (K.out.new x1 x2)
      generalize wr.alloc (.cells #[.int .i64 x1, .int .i64 x2] 23) = w4 at *
      generalize wr.heap.size = g8 at *
      simp only [List.cons_append, List.nil_append] at K
      clear d1 d2
      obtain ⟨k3, k4, _, _⟩ := K.out.cells 2 rfl
      go_wp2_with fail
      refine (HRI.out _).mono ?_
      rintro e w5 ⟨rfl, hb⟩
      replace K := Lib.hid (K.out.step hb)
      clear hb k3 k4 HRI
      cases rb with
      | false =>
        have HE : Hid (R = ((0, 0), false)) := Lib.hid (by rw [HR.out]; unfold choiceP; rw [if_neg (HNA.out (by simp))])
        obtain ⟨z1, z2, z3, z4⟩ := K.out.cells 0 rfl
        obtain ⟨t1, t2⟩ := K.out.told 0 rfl 0 0
        have T1 := Lib.hid t1
        have T2 := Lib.hid t2
        clear t1 t2
        go_wp2
        refine bodyPost_ret (results_row_tmp (fn := Tryd.f64) rfl _ _ w.heap.size _ _ _ _ rfl T1.out Tryd.underlying23 rfl (by kernel_rfl)) rfl ?_
        exact ⟨by rw [HE.out]; rfl, T2.out⟩
      | true =>
        replace HUP := Lib.hid (HUP.out (by simp))
        clear HNA
        go_upto_region 7 with fail
        go_cut [28] (fun s28 wx => ∃ t : Bool, s28 = .bool t ∧ Hid (t = true ↔ (i = 0 ∨ cm = so)) ∧ Hid (RtS w [(w.heap.size, 0, 0), (w.heap.size + 1, y1, y2), (g8, x1, x2)] wx))
        case first =>
          by_cases h0 : i = 0
          · have f1 : ((i : Int) == 0) = true := by simp [h0]
            have H0 := Lib.hid h0
            clear h0
            go_wp2_with fail
            go_meet
            exact ⟨true, rfl, Lib.hid ⟨fun _ => .inl H0.out, fun _ => rfl⟩, K⟩
          · have f1 : ((i : Int) == 0) = false := by simp; omega
            have H0 := Lib.hid h0
            clear h0
            obtain ⟨k3, k4, _, _⟩ := K.out.cells 2 rfl
            obtain ⟨k1, k2, _, _⟩ := K.out.cells 1 rfl
            obtain ⟨t, ht⟩ : ∃ t, (cm == so) = t := ⟨_, rfl⟩
            have HT := Lib.hid ht
            go_wp2_with fail
            refine (HCM.out _).mono ?_
            rintro e w6 ⟨rfl, hb⟩
            replace K := Lib.hid (K.out.step hb)
            clear hb k1 k2 k3 k4
            go_wp2_with fail
            go_meet
            exact ⟨t, rfl, Lib.hid ⟨fun h => .inr (by have := HT.out; rw [h] at this; simpa using this), fun h => by rw [← HT.out]; simpa using h.resolve_left H0.out⟩, K⟩
        case rest =>
          clear K HCM
          obtain ⟨t, rfl, HTT, K⟩ := hcut
          cases t with
          | true =>
            have HB : Hid (bestUp so l (i + 1) = (x1, x2)) := Lib.hid (HST.out.trans (if_pos (HTT.out.1 rfl)))
            obtain ⟨k3, k4, _, _⟩ := K.out.cells 2 rfl
            obtain ⟨z1, z2, z3, z4⟩ := K.out.cells 1 rfl
            replace K := Lib.hid (K.out.put 1 rfl x1 x2)
            simp only [List.set_cons_zero, List.set_cons_succ] at K
            go_wp2
            go_roundg (gk - 1)
            case measure => have h := HG.out.2.1; omega
            case rel => exact ⟨i + 1, by go_num, by rw [HB.out]; exact Lib.hid (RtS.front (M := [(g8, x1, x2)]) K.out), Lib.hid ⟨by omega, by have h := HG.out.2.1; omega, HUP.out⟩⟩
          | false =>
            have HB : Hid (bestUp so l (i + 1) = (y1, y2)) := Lib.hid (HST.out.trans (if_neg (fun h => by have := HTT.out.2 h; cases this)))
            go_wp2
            go_roundg (gk - 1)
            case measure => have h := HG.out.2.1; omega
            case rel => exact ⟨i + 1, by go_num, by rw [HB.out]; exact Lib.hid (RtS.front (M := [(g8, x1, x2)]) K.out), Lib.hid ⟨by omega, by have h := HG.out.2.1; omega, HUP.out⟩⟩
    · have hpi : ¬ (i : Int) < (l.length : Int) := by omega
      have hi : i = l.length := by have := HG.out.1; omega
      have HE : Hid (R = (bestUp so l i, decide (0 < l.length))) := Lib.hid (by
        have h := HG.out.2.2
        rw [HR.out]
        unfold choiceP
        rw [if_pos (all_upto (fun j hj => h j (by omega))), hi])
      clear hi
      obtain ⟨y, hy⟩ : ∃ q, q = bestUp so l i := ⟨_, rfl⟩
      rw [← hy] at K HE
      obtain ⟨y1, y2⟩ := y
      clear hy
      obtain ⟨k1, k2, _, _⟩ := K.out.cells 1 rfl
      obtain ⟨z1, z2, z3, z4⟩ := K.out.cells 0 rfl
      obtain ⟨t1, t2⟩ := K.out.told 0 rfl y1 y2
      have T1 := Lib.hid t1
      have T2 := Lib.hid t2
      clear t1 t2
      go_wp2
      refine bodyPost_ret (results_row_tmp (fn := Tryd.f64) rfl _ _ w.heap.size _ _ _ _ rfl T1.out Tryd.underlying23 rfl (by kernel_rfl)) rfl ?_
      exact ⟨by rw [HE.out]; rfl, T2.out⟩

set_option maxRecDepth 100000 in
set_option maxHeartbeats 2000000 in
theorem least_rat (A : Option Addr) (c : Nat) (l : List (Int × Int)) (w : World) (hI : RatsA w A l) (hmax : l.length ≤ 8796093022000) (h64 : All64 l) (ht : TabQ w) :
    Calls Tryd.prog 37 #[.slice A l.length c] w fun e w' => e = .returned (.tuple #[.agg #[.int .i64 (choiceP (-1) l).1.1, .int .i64 (choiceP (-1) l).1.2], .bool (choiceP (-1) l).2]) ∧ Below w.heap.size w w' := by
  have K := Lib.hid ((RtS.start ht).one 0 0)
  have HC := Lib.hid (fun W h1 h2 => choice_any A c l (-1) W h1 hmax h64 h2)
  have HI := Lib.hid hI
  obtain ⟨⟨⟨r1, r2⟩, rb⟩, hR⟩ : ∃ q, q = choiceP (-1) l := ⟨_, rfl⟩
  rw [← hR] at HC ⊢
  have HC : Hid (∀ W, RatsA W A l → TabQ W → Calls Tryd.prog 64 #[.slice A l.length c, .int .i64 (-1)] W fun e w' => e = .returned (.tuple #[.agg #[.int .i64 r1, .int .i64 r2], .bool rb]) ∧ Below W.heap.size W w') := HC
  clear hR hI hmax h64 ht
  go_enter Tryd.func37, Tryd.ntmps37
  go_upto_region 1 with fail
  generalize w.alloc (.cells #[.int .i64 0, .int .i64 0] 23) = w1 at *
  go_wp2_with fail
  refine (HC.out _ (HI.out.below K.out.r.below) K.out.r.tab).mono ?_
  rintro e w2 ⟨rfl, hb⟩
  replace K := Lib.hid (K.out.step hb)
  clear hb HC
  obtain ⟨z1, z2, z3, z4⟩ := K.out.cells 0 rfl
  obtain ⟨t1, t2⟩ := K.out.told 0 rfl r1 r2
  have T1 := Lib.hid t1
  have T2 := Lib.hid t2
  clear t1 t2
  go_wp2
  refine bodyPost_ret (results_row_tmp (fn := Tryd.f37) rfl _ _ w.heap.size _ _ _ _ rfl T1.out Tryd.underlying23 rfl (by kernel_rfl)) rfl ?_
  exact ⟨rfl, T2.out⟩

set_option maxRecDepth 100000 in
set_option maxHeartbeats 2000000 in
theorem greatest_rat (A : Option Addr) (c : Nat) (l : List (Int × Int)) (w : World) (hI : RatsA w A l) (hmax : l.length ≤ 8796093022000) (h64 : All64 l) (ht : TabQ w) :
    Calls Tryd.prog 39 #[.slice A l.length c] w fun e w' => e = .returned (.tuple #[.agg #[.int .i64 (choiceP 1 l).1.1, .int .i64 (choiceP 1 l).1.2], .bool (choiceP 1 l).2]) ∧ Below w.heap.size w w' := by
  have K := Lib.hid ((RtS.start ht).one 0 0)
  have HC := Lib.hid (fun W h1 h2 => choice_any A c l 1 W h1 hmax h64 h2)
  have HI := Lib.hid hI
  obtain ⟨⟨⟨r1, r2⟩, rb⟩, hR⟩ : ∃ q, q = choiceP 1 l := ⟨_, rfl⟩
  rw [← hR] at HC ⊢
  have HC : Hid (∀ W, RatsA W A l → TabQ W → Calls Tryd.prog 64 #[.slice A l.length c, .int .i64 1] W fun e w' => e = .returned (.tuple #[.agg #[.int .i64 r1, .int .i64 r2], .bool rb]) ∧ Below W.heap.size W w') := HC
  clear hR hI hmax h64 ht
  go_enter Tryd.func39, Tryd.ntmps39
  go_upto_region 1 with fail
  generalize w.alloc (.cells #[.int .i64 0, .int .i64 0] 23) = w1 at *
  go_wp2_with fail
  refine (HC.out _ (HI.out.below K.out.r.below) K.out.r.tab).mono ?_
  rintro e w2 ⟨rfl, hb⟩
  replace K := Lib.hid (K.out.step hb)
  clear hb HC
  obtain ⟨z1, z2, z3, z4⟩ := K.out.cells 0 rfl
  obtain ⟨t1, t2⟩ := K.out.told 0 rfl r1 r2
  have T1 := Lib.hid t1
  have T2 := Lib.hid t2
  clear t1 t2
  go_wp2
  refine bodyPost_ret (results_row_tmp (fn := Tryd.f39) rfl _ _ w.heap.size _ _ _ _ rfl T1.out Tryd.underlying23 rfl (by kernel_rfl)) rfl ?_
  exact ⟨rfl, T2.out⟩

end Go.Proofs.YtmgdhlcgbgpgpaaDoor

/- Sums, the least and the greatest of a row of fractions, as the document has them. -/
namespace Go.Proofs.YtmgdhlcgbgpgpaaDoor
open Go Go.RowKit
set_option linter.unusedVariables false
set_option linter.unusedSimpArgs false


def tbDS (b off ln c g4 n0 : Nat) (s1 s2 x1 x2 v1 v2 ev : Int) : List (Nat × Nat × Value) :=
  [(0, 28, .agg #[.int .i64 s1, .int .i64 s2]), (1, 29, .slice (some ⟨b, off, none⟩) ln c), (2, 30, .int .i64 n0), (3, 31, .pointer (some ⟨b, off + n0 * 2, none⟩)), (4, 32, .agg #[.int .i64 x1, .int .i64 x2]), (5, 33, .tuple #[.agg #[.int .i64 v1, .int .i64 v2], .int .i64 ev]), (6, 27, .tuple #[.agg #[.int .i64 v1, .int .i64 v2], .int .i64 ev]), (7, 34, .agg #[.int .i64 v1, .int .i64 v2]), (8, 35, .int .i64 ev), (11, 7, .int .i64 ev)]
def bsDS (b off ln c g4 n0 : Nat) (s1 s2 x1 x2 v1 v2 ev : Int) : List (Nat × Value) := [(0, .slice (some ⟨b, off, none⟩) ln c), (4, .pointer (some ⟨g4, 0, none⟩)), (5, .int .i64 n0)]
def bkDS (b off ln c g4 n0 : Nat) (s1 s2 x1 x2 v1 v2 ev : Int) : List BlkR := [⟨9, 6, 10, #[.int .i64 0, .int .i64 0], #[.int .i64 v1, .int .i64 v2], 23⟩]

def tbDB (b off ln c g7 n0 : Nat) (so x1 x2 y1 y2 cm : Int) (t : Bool) : List (Nat × Nat × Value) :=
  [(0, 35, .slice (some ⟨b, off, none⟩) ln c), (1, 36, .int .i64 n0), (2, 37, .pointer (some ⟨b, off + n0 * 2, none⟩)), (3, 38, .agg #[.int .i64 x1, .int .i64 x2]), (4, 39, .agg #[.int .i64 y1, .int .i64 y2]), (5, 40, .int .i64 cm), (6, 41, .int .i64 so), (7, 42, .bool t)]
def bsDB (b off ln c g7 n0 : Nat) (so x1 x2 y1 y2 cm : Int) (t : Bool) : List (Nat × Value) := [(0, .slice (some ⟨b, off, none⟩) ln c), (1, .int .i64 so), (7, .pointer (some ⟨g7, 0, none⟩)), (8, .int .i64 n0)]

theorem RtS.own {w0 wr : World} {L : List (Nat × Int × Int)} (h : RtS w0 L wr) {B g : Nat} (hB : w0.heap.size ≤ B) (hl : ∀ t ∈ L, t.1 < B) (hg : B ≤ g) (cs : Array Value) : RtS w0 L (wr.setRow g cs) :=
  ⟨⟨below_setRow h.r.below (by omega) _, fun t ht => (setRow_other _ _ _ _ (by have := hl t ht; omega)).trans (h.r.l t ht), h.t0.below (below_setRow h.r.below (by omega) _)⟩, h.s, h.lo, h.t0⟩
theorem RtS.with {w0 wr : World} {L : List (Nat × Int × Int)} (h : RtS w0 L wr) {g : Nat} {x y : Int} (hl : ∀ t ∈ L, t.1 < g) (hg : w0.heap.size ≤ g) (hh : wr.heap[g]? = some (.cells #[.int .i64 x, .int .i64 y] 23)) : RtS w0 (L ++ [(g, x, y)]) wr := by
  refine ⟨⟨h.r.below, fun t ht => ?_, h.r.tab⟩, List.pairwise_append.2 ⟨h.s, List.pairwise_singleton _ _, fun a ha b hb => ?_⟩, fun t ht => ?_, h.t0⟩
  · rcases List.mem_append.1 ht with ht | ht
    · exact h.r.l t ht
    · obtain rfl := List.mem_singleton.1 ht
      exact hh
  · obtain rfl := List.mem_singleton.1 hb
    exact hl a ha
  · rcases List.mem_append.1 ht with ht | ht
    · exact h.lo t ht
    · obtain rfl := List.mem_singleton.1 ht
      exact hg
theorem RtS.low {w0 wr : World} {L : List (Nat × Int × Int)} (h : RtS w0 L wr) : ∀ t ∈ L, t.1 < wr.heap.size := fun t ht => heap_lt2 (h.r.l t ht)

set_option maxRecDepth 100000 in
set_option maxHeartbeats 16000000 in
theorem dsum_list (A : Option Addr) (c : Nat) (l : List (Int × Int)) (w : World) (hI : RatsA w A l) (hmax : l.length ≤ 8796093022000) (h64 : All64 l) (ht : TabQ w) :
    Calls Tryd.prog 36 #[.slice A l.length c] w fun e w' => e = .returned (.tuple #[.agg #[.int .i64 (sumLP l).1.1, .int .i64 (sumLP l).1.2], .int .i64 (sumLP l).2]) ∧ Below w.heap.size w w' := by
  have HI := Lib.hid hI
  have H64 := Lib.hid h64
  have HL := Lib.hid hmax
  have K := Lib.hid ((RtS.start ht).one 0 0)
  obtain ⟨R, hR⟩ : ∃ q, q = sumLP l := ⟨_, rfl⟩
  rw [← hR]
  have HR := Lib.hid hR
  clear hR hI h64 hmax ht
  by_cases hl0 : l = []
  · subst hl0
    have HE : Hid (R = ((0, 1), 0)) := Lib.hid (by rw [HR.out]; rfl)
    clear HR HI H64 HL
    go_enter Tryd.func36, Tryd.ntmps36
    go_upto_region 1 with fail
    generalize w.alloc (.cells #[.int .i64 0, .int .i64 0] 23) = w1 at *
    obtain ⟨z1, z2, z3, z4⟩ := K.out.cells 0 rfl
    obtain ⟨t1, t2⟩ := K.out.told 0 rfl 0 1
    have T1 := Lib.hid t1
    have T2 := Lib.hid t2
    clear t1 t2
    go_wp2
    refine bodyPost_ret (results_row_tmp (fn := Tryd.f36) rfl _ _ w.heap.size _ _ _ _ rfl T1.out Tryd.underlying23 rfl (by kernel_rfl)) rfl ?_
    exact ⟨by rw [HE.out]; rfl, T2.out⟩
  · have hpos : 0 < l.length := by
      cases l with
      | nil => exact absurd rfl hl0
      | cons a t => simp
    obtain ⟨b, off, rfl, c1, c2⟩ := HI.out 0 hpos
    obtain ⟨r, hr⟩ : ∃ q, q = l.getD 0 (0, 0) := ⟨_, rfl⟩
    have hcons : l = r :: l.drop 1 := by
      cases l with
      | nil => exact absurd rfl hl0
      | cons a t => rw [hr]; rfl
    have HS : Hid (R = if rightR r = true then sumOn (l.drop 1) r else ((0, 0), 7)) := Lib.hid (by
      rw [HR.out]
      conv => lhs; rw [hcons]
      rfl)
    have hr64 := H64.out 0 hpos
    rw [← hr] at c1 c2 hr64
    obtain ⟨r1, r2⟩ := r
    have HRD := Lib.hid hr
    have R64 := Lib.hid hr64
    have HRI := Lib.hid (fun W => dright_any r1 r2 hr64.1 hr64.2 W)
    obtain ⟨rb, hrb⟩ : ∃ q, q = rightR (r1, r2) := ⟨_, rfl⟩
    rw [← hrb] at HRI HS
    have hpi : (0 : Int) < (l.length : Int) := by omega
    have e0 : ((l.length : Int) == 0) = false := beq_eq_false_iff_ne.2 (by omega)
    clear hcons hr hr64 HR hl0 hrb c1 c2
    go_enter Tryd.func36, Tryd.ntmps36
    go_upto_region 1 with fail
    have C1 := Lib.hid (HI.out.below K.out.r.below)
    generalize w.alloc (.cells #[.int .i64 0, .int .i64 0] 23) = w1 at *
    obtain ⟨d1, d2⟩ := C1.out.cells 0 hpos
    rw [← HRD.out] at d1 d2
    simp only [Nat.zero_mul, Nat.add_zero] at d1 d2
    go_wp2_with fail
    refine (HRI.out _).mono ?_
    rintro e w2 ⟨rfl, hb⟩
    replace K := Lib.hid (K.out.step hb)
    have C2 := Lib.hid (C1.out.below hb)
    clear hb d1 d2 C1
    cases rb with
    | false =>
      have HE := Lib.hid (HS.out.trans (if_neg (by simp)))
      obtain ⟨z1, z2, z3, z4⟩ := K.out.cells 0 rfl
      obtain ⟨t1, t2⟩ := K.out.told 0 rfl 0 0
      have T1 := Lib.hid t1
      have T2 := Lib.hid t2
      clear t1 t2
      go_wp2
      refine bodyPost_ret (results_row_tmp (fn := Tryd.f36) rfl _ _ w.heap.size _ _ _ _ rfl T1.out Tryd.underlying23 rfl (by kernel_rfl)) rfl ?_
      exact ⟨by rw [HE.out]; rfl, T2.out⟩
    | true =>
      have HE := Lib.hid (HS.out.trans (if_pos (by simp)))
      obtain ⟨d1, d2⟩ := C2.out.cells 0 hpos
      rw [← HRD.out] at d1 d2
      simp only [Nat.zero_mul, Nat.add_zero] at d1 d2
      go_upto_region 6 with fail
      replace K := Lib.hid (K.out.new r1 r2)
      generalize w2.alloc (.cells #[.int .i64 r1, .int .i64 r2] 23) = w3 at *
      generalize w2.heap.size = g4 at *
      simp only [List.cons_append, List.nil_append] at K
      clear d1 d2
      go_wp2
      go_loopg [5] l.length (fun g s5 wr => ∃ (n0 : Nat) (s : Int × Int), s5 = .int .i64 n0 ∧ Hid (RtS w [(w.heap.size, 0, 0), (g4, s.1, s.2)] wr) ∧ Hid (n0 ≤ l.length ∧ g + n0 = l.length + 1 ∧ I64 s.1 ∧ I64 s.2 ∧ sumOn (l.drop n0) s = R))
      case atStart => exact ⟨1, (r1, r2), by simp, K, Lib.hid ⟨by omega, by omega, R64.out.1, R64.out.2, HE.out.symm⟩⟩
      case round =>
        clear K C2
        obtain ⟨n0, ⟨s1, s2⟩, rfl, K, HG⟩ := hrel
        by_cases hp : n0 < l.length
        · have hpi : (n0 : Int) < (l.length : Int) := by omega
          have x64 := H64.out n0 hp
          have hst := sumOn_step l n0 hp (s1, s2)
          obtain ⟨x, hx⟩ : ∃ q, q = l.getD n0 (0, 0) := ⟨_, rfl⟩
          rw [← hx] at x64 hst
          obtain ⟨x1, x2⟩ := x
          have HX := Lib.hid hx
          obtain ⟨⟨⟨v1, v2⟩, ev⟩, hv⟩ : ∃ q, q = addP (s1, s2) (x1, x2) := ⟨_, rfl⟩
          have v64 := addP64 (s1, s2) (x1, x2)
          have HAD : Hid (∀ W, Calls Tryd.prog 27 #[.agg #[.int .i64 s1, .int .i64 s2], .agg #[.int .i64 x1, .int .i64 x2]] W fun e w' => e = .returned (.tuple #[.agg #[.int .i64 v1, .int .i64 v2], .int .i64 ev]) ∧ Below W.heap.size W w') := Lib.hid (fun W => by have h := dadd_any s1 s2 x1 x2 HG.out.2.2.1 HG.out.2.2.2.1 x64.1 x64.2 W; rw [← hv] at h; exact h)
          rw [← hv] at hst v64
          have HST : Hid (R = if ev = 0 then sumOn (l.drop (n0 + 1)) (v1, v2) else ((0, 0), ev)) := Lib.hid (by rw [← HG.out.2.2.2.2]; exact hst)
          have V64 := Lib.hid v64
          have w5 : IntKind.i64.wrap ((n0 : Int) + 1) = ((n0 + 1 : Nat) : Int) := by rw [IntWalk.i64_in _ (by have := HL.out; omega)]; omega
          have hB0 : w.heap.size ≤ wr.heap.size := K.out.r.below.size
          have hlB := K.out.low
          clear hx hv hst v64 x64
          go_upto_region 9 with fail
          go_cut [6, 7] (fun s6 s7 wx => ∃ g6 : Nat, s6 = .pointer (some ⟨g6, 0, none⟩) ∧ s7 = .int .i64 ev ∧ Hid (RtS w [(w.heap.size, 0, 0), (g4, s1, s2), (g6, v1, v2)] wx))
          case first =>
            refine wp_region_tab (by kernel_rfl) [0, 4, 5, 28, 29, 30, 31, 32, 33, 27, 34, 35, 6, 7] [[], [], [], [1, 2], [3], [0, 4], [5], [6], [6], [], [0, 1, 2, 3, 4, 5, 6, 7, 9], [0, 1, 2, 3, 4, 5, 6, 7, 8, 9, 10]]
              (fun L vals wx => RtS w [(w.heap.size, 0, 0), (g4, s1, s2)] wx ∧ TabR (tbDS b off l.length c g4 n0 s1 s2 x1 x2 v1 v2 ev) (bsDS b off l.length c g4 n0 s1 s2 x1 x2 v1 v2 ev) L vals ∧ BlksR (bkDS b off l.length c g4 n0 s1 s2 x1 x2 v1 v2 ev) wr.heap.size L vals wx) (by kernel_rfl) rfl ?_ ?_ ?_
            · exact ⟨K.out.drew, TabR.start (by simp [bsDS]), BlksR.start _ (Nat.le_refl _)⟩
            · intro i hi a L vals wx E hJ hLi hn K hK hK0
              obtain ⟨hI, hT, hB⟩ := hJ
              match i, hi with
              | 0, _ => exact op_loadG rfl rfl rfl rfl Tryd.underlying23 rfl (by kernel_rfl) ((E 4 (by decide)).trans (hT.rd 1 rfl)) (hI.r.l (g4, s1, s2) (by simp)) (hK 28 _ _ (by decide) ⟨hI, hT.set 0 rfl (by kernel_rfl) (by kernel_rfl), hB.keep (Below.refl _ _) (by simp [bkDS])⟩)
              | 1, _ => exact op_moveG rfl rfl rfl rfl ((E 0 (by decide)).trans (hT.rd 0 rfl)) (hK 29 _ _ (by decide) ⟨hI, hT.set 1 rfl (by kernel_rfl) (by kernel_rfl), hB.keep (Below.refl _ _) (by simp [bkDS])⟩)
              | 2, _ => exact op_moveG rfl rfl rfl rfl ((E 5 (by decide)).trans (hT.rd 2 rfl)) (hK 30 _ _ (by decide) ⟨hI, hT.set 2 rfl (by kernel_rfl) (by kernel_rfl), hB.keep (Below.refl _ _) (by simp [bkDS])⟩)
              | 3, _ =>
                have e1 := (E 29 (by decide)).trans (hT.val 1 rfl (hn 1 (by decide)))
                have e2 := (E 30 (by decide)).trans (hT.val 2 rfl (hn 2 (by decide)))
                refine op_valueG (w' := wx) (v := .pointer (some ⟨b, off + n0 * 2, none⟩)) rfl rfl rfl ?_ (hK 31 _ _ (by decide) ⟨hI, hT.set 3 rfl (by kernel_rfl) (by kernel_rfl), hB.keep (Below.refl _ _) (by simp [bkDS])⟩)
                clear hK hK0 hT E hB
                revert e1 e2
                generalize a.eval = ρ
                intro e1 e2
                go_simp
              | 4, _ =>
                have e1 := (E 31 (by decide)).trans (hT.val 3 rfl (hn 3 (by decide)))
                obtain ⟨d1, d2⟩ := (HI.out.below hI.r.below).cells n0 hp
                rw [← HX.out] at d1 d2
                refine op_valueG (w' := wx) (v := .agg #[.int .i64 x1, .int .i64 x2]) rfl rfl rfl ?_ (hK 32 _ _ (by decide) ⟨hI, hT.set 4 rfl (by kernel_rfl) (by kernel_rfl), hB.keep (Below.refl _ _) (by simp [bkDS])⟩)
                clear hK hK0 hT E hB
                revert e1
                generalize a.eval = ρ
                intro e1
                go_simp
              | 5, _ =>
                have e1 := (E 28 (by decide)).trans (hT.val 0 rfl (hn 0 (by decide)))
                have e2 := (E 32 (by decide)).trans (hT.val 4 rfl (hn 4 (by decide)))
                exact op_goG rfl rfl rfl rfl Tryd.func27 (by kernel_rfl) rfl (by simp only [List.map_toArray, List.map_cons, List.map_nil, e1, e2]) (HAD.out _) (fun w' hb => hK 33 _ _ (by decide) ⟨hI.step hb, hT.set 5 rfl (by kernel_rfl) (by kernel_rfl), hB.keep hb (by simp [bkDS])⟩)
              | 6, _ => exact op_moveG rfl rfl rfl rfl ((E 33 (by decide)).trans (hT.val 5 rfl (hn 5 (by decide)))) (hK 27 _ _ (by decide) ⟨hI, hT.set 6 rfl (by kernel_rfl) (by kernel_rfl), hB.keep (Below.refl _ _) (by simp [bkDS])⟩)
              | 7, _ =>
                have e1 := (E 27 (by decide)).trans (hT.val 6 rfl (hn 6 (by decide)))
                refine op_valueG (w' := wx) (v := .agg #[.int .i64 v1, .int .i64 v2]) rfl rfl rfl ?_ (hK 34 _ _ (by decide) ⟨hI, hT.set 7 rfl (by kernel_rfl) (by kernel_rfl), hB.keep (Below.refl _ _) (by simp [bkDS])⟩)
                clear hK hK0 hT E hB
                revert e1
                generalize a.eval = ρ
                intro e1
                go_simp
              | 8, _ =>
                have e1 := (E 27 (by decide)).trans (hT.val 6 rfl (hn 6 (by decide)))
                refine op_valueG (w' := wx) (v := .int .i64 ev) rfl rfl rfl ?_ (hK 35 _ _ (by decide) ⟨hI, hT.set 8 rfl (by kernel_rfl) (by kernel_rfl), hB.keep (Below.refl _ _) (by simp [bkDS])⟩)
                clear hK hK0 hT E hB
                revert e1
                generalize a.eval = ρ
                intro e1
                go_simp
              | 9, _ =>
                refine op_valueG (w' := wx.alloc (.cells #[.int .i64 0, .int .i64 0] 23)) (v := .pointer (some ⟨wx.heap.size, 0, none⟩)) rfl rfl rfl ?_ (hK 6 _ _ (by decide) ⟨hI.step (below_one _ _), hT.put (by simp [tbDS]) (by simp [bsDS]), hB.new 0 rfl hLi (by simp [bkDS]) (by simp [bkDS])⟩)
                clear hK hK0 hT hB E
                go_simp
              | 10, _ =>
                obtain ⟨ga, e1, e2, e3⟩ := hB.blk 0 rfl (hn 9 (by decide))
                rw [if_neg (by rw [hLi]; decide)] at e3
                exact op_store (old := #[.int .i64 0, .int .i64 0]) (cs := #[.int .i64 v1, .int .i64 v2]) rfl rfl rfl rfl (by kernel_rfl) rfl (by kernel_rfl) ((E 6 (by decide)).trans e1) ((E 34 (by decide)).trans (hT.val 7 rfl (hn 7 (by decide)))) e3
                  (hK0 _ ⟨hI.own hB0 hlB e2 _, hT.skip (by simp [tbDS]), hB.st 0 rfl (hn 9 (by decide)) (by simp [bkDS]) (by simp [bkDS]) (by simp [bkDS]) e1⟩)
              | 11, _ => exact op_assignG rfl rfl rfl rfl ((E 35 (by decide)).trans (hT.val 8 rfl (hn 8 (by decide)))) (hK 7 _ _ (by decide) ⟨hI, hT.set 9 rfl (by kernel_rfl) (by kernel_rfl), hB.keep (Below.refl _ _) (by simp [bkDS])⟩)
              | k + 12, h => exact absurd (show k + 12 < 12 from h) (by omega)
            · intro L vals wx hJ hall
              obtain ⟨hI, hT, hB⟩ := hJ
              have HI := Lib.hid hI
              have v0 : vals 0 = .slice (some ⟨b, off, none⟩) l.length c := hT.rd 0 rfl
              have v4 : vals 4 = .pointer (some ⟨g4, 0, none⟩) := hT.rd 1 rfl
              have v5 : vals 5 = .int .i64 n0 := hT.rd 2 rfl
              have v7 : vals 7 = .int .i64 ev := hT.val 9 rfl (hall 11 (by decide))
              obtain ⟨gn0, m0, n0, r0⟩ := hB.blk 0 rfl (hall 9 (by decide))
              rw [if_pos (hall 10 (by decide))] at r0
              have v6 : vals 6 = .pointer (some ⟨gn0, 0, none⟩) := m0
              simp only [overA, Act.put, List.setIfInBounds_toArray, List.set_cons_zero, List.set_cons_succ]
              rw [v0, v4, v5, v7, v6]
              clear hI hT hall v0 v4 v5 v7 v6 hB
              go_wp2_with fail
              go_meet
              exact ⟨gn0, rfl, rfl, Lib.hid (HI.out.with (fun t ht => Nat.lt_of_lt_of_le (hlB t ht) n0) (by omega) r0)⟩
          case rest =>
            clear K hB0 hlB HAD
            obtain ⟨g6, rfl, rfl, K⟩ := hcut
            by_cases hev : ev = 0
            · have HE2 := Lib.hid (HST.out.trans (if_pos hev))
              have f1 : (ev == 0) = true := by simp [hev]
              have f2 : (ev != 0) = false := by simp [hev]
              clear hev
              obtain ⟨k1, k2, _, _⟩ := K.out.cells 2 rfl
              obtain ⟨z1, z2, z3, z4⟩ := K.out.cells 1 rfl
              replace K := Lib.hid (K.out.put 1 rfl v1 v2)
              simp only [List.set_cons_zero, List.set_cons_succ] at K
              go_wp2
              go_roundg (gk - 1)
              case measure => have h := HG.out.2.1; omega
              case rel => exact ⟨n0 + 1, (v1, v2), by go_num, Lib.hid (RtS.front (M := [(g6, v1, v2)]) K.out), Lib.hid ⟨by omega, by have h := HG.out.2.1; omega, V64.out.1, V64.out.2, HE2.out.symm⟩⟩
            · have HE2 := Lib.hid (HST.out.trans (if_neg hev))
              have f1 : (ev == 0) = false := by simp [hev]
              have f2 : (ev != 0) = true := by simp [hev]
              clear hev
              obtain ⟨z1, z2, z3, z4⟩ := K.out.cells 0 rfl
              obtain ⟨t1, t2⟩ := K.out.told 0 rfl 0 0
              have T1 := Lib.hid t1
              have T2 := Lib.hid t2
              clear t1 t2
              go_wp2
              refine bodyPost_ret (results_row_tmp (fn := Tryd.f36) rfl _ _ w.heap.size _ _ _ _ rfl T1.out Tryd.underlying23 rfl (by kernel_rfl)) rfl ?_
              exact ⟨by rw [HE2.out]; rfl, T2.out⟩
        · have hpi : ¬ (n0 : Int) < (l.length : Int) := by omega
          have HE2 : Hid (R = ((s1, s2), 0)) := Lib.hid (by
            have h := HG.out.2.2.2.2
            rw [show n0 = l.length by have := HG.out.1; omega, sumOn_end] at h
            exact h.symm)
          obtain ⟨k1, k2, _, _⟩ := K.out.cells 1 rfl
          obtain ⟨z1, z2, z3, z4⟩ := K.out.cells 0 rfl
          obtain ⟨t1, t2⟩ := K.out.told 0 rfl s1 s2
          have T1 := Lib.hid t1
          have T2 := Lib.hid t2
          clear t1 t2
          go_wp2
          refine bodyPost_ret (results_row_tmp (fn := Tryd.f36) rfl _ _ w.heap.size _ _ _ _ rfl T1.out Tryd.underlying23 rfl (by kernel_rfl)) rfl ?_
          exact ⟨by rw [HE2.out]; rfl, T2.out⟩

set_option maxRecDepth 100000 in
set_option maxHeartbeats 16000000 in
theorem dbest_any (A : Option Addr) (c : Nat) (l : List (Int × Int)) (so : Int) (w : World) (hI : RatsA w A l) (hmax : l.length ≤ 8796093022000) (h64 : All64 l) (ht : TabQ w) :
    Calls Tryd.prog 65 #[.slice A l.length c, .int .i64 so] w fun e w' => e = .returned (.tuple #[.agg #[.int .i64 (choiceP so l).1.1, .int .i64 (choiceP so l).1.2], .bool (choiceP so l).2]) ∧ Below w.heap.size w w' := by
  have HI := Lib.hid hI
  have H64 := Lib.hid h64
  have HL := Lib.hid hmax
  have HB64 := Lib.hid (best64 h64 so)
  have K := Lib.hid ((RtS.start ht).one 0 0)
  obtain ⟨R, hR⟩ : ∃ q, q = choiceP so l := ⟨_, rfl⟩
  rw [← hR]
  have HR := Lib.hid hR
  clear hR hI h64 hmax ht
  go_enter Tryd.func65, Tryd.ntmps65
  go_upto_block 0 with fail
  generalize w.alloc (.cells #[.int .i64 0, .int .i64 0] 23) = w1 at *
  go_cut [] (fun wx => Hid (RtS w [(w.heap.size, 0, 0)] wx) ∧ Hid (l.all rightR = true))
  case first =>
    go_wp2
    go_loopg [6] l.length (fun g s6 wr => ∃ i : Nat, s6 = .int .i64 i ∧ Hid (RtS w [(w.heap.size, 0, 0)] wr) ∧ Hid (i ≤ l.length ∧ g + i = l.length ∧ ∀ j, j < i → rightR (l.getD j (0, 0)) = true))
    case atStart => exact ⟨0, by simp, K, Lib.hid ⟨by omega, by omega, fun j hj => absurd hj (by omega)⟩⟩
    case round =>
      clear K
      obtain ⟨i, rfl, K, HG⟩ := hrel
      by_cases hp : i < l.length
      · have hpi : (i : Int) < (l.length : Int) := by omega
        obtain ⟨b, off, rfl, d1, d2⟩ := HI.out.below K.out.r.below i hp
        have x64 := H64.out i hp
        have HNA := Lib.hid (not_all (l := l) hp)
        have HRJ := HG.out.2.2
        have HUP := Lib.hid (fun (h : rightR (l.getD i (0, 0)) = true) j (hj : j < i + 1) => show rightR (l.getD j (0, 0)) = true from by
          by_cases e : j = i
          · rw [e]; exact h
          · exact HRJ j (by omega))
        clear HRJ
        obtain ⟨x, hx⟩ : ∃ q, q = l.getD i (0, 0) := ⟨_, rfl⟩
        rw [← hx] at d1 d2 x64 HNA HUP
        obtain ⟨x1, x2⟩ := x
        have HRI := Lib.hid (fun W => dright_any x1 x2 x64.1 x64.2 W)
        obtain ⟨rb, hrb⟩ : ∃ q, q = rightR (x1, x2) := ⟨_, rfl⟩
        rw [← hrb] at HRI HNA HUP
        have w5 : IntKind.i64.wrap ((i : Int) + 1) = ((i + 1 : Nat) : Int) := by rw [IntWalk.i64_in _ (by have := HL.out; omega)]; omega
        clear hx hrb x64
        go_wp2_with fail
        refine (HRI.out _).mono ?_
        rintro e w5 ⟨rfl, hb⟩
        replace K := Lib.hid (K.out.step hb)
        clear hb d1 d2 HRI
        cases rb with
        | false =>
          have HE : Hid (R = ((0, 0), false)) := Lib.hid (by rw [HR.out]; unfold choiceP; rw [if_neg (HNA.out (by simp))])
          obtain ⟨z1, z2, z3, z4⟩ := K.out.cells 0 rfl
          obtain ⟨t1, t2⟩ := K.out.told 0 rfl 0 0
          have T1 := Lib.hid t1
          have T2 := Lib.hid t2
          clear t1 t2
          go_wp2
          refine bodyPost_ret (results_row_tmp (fn := Tryd.f65) rfl _ _ w.heap.size _ _ _ _ rfl T1.out Tryd.underlying23 rfl (by kernel_rfl)) rfl ?_
          exact ⟨by rw [HE.out]; rfl, T2.out⟩
        | true =>
          replace HUP := Lib.hid (HUP.out (by simp))
          go_wp2
          go_roundg (gk - 1)
          case measure => have h := HG.out.2.1; omega
          case rel => exact ⟨i + 1, by go_num, K, Lib.hid ⟨by omega, by have h := HG.out.2.1; omega, HUP.out⟩⟩
      · have hpi : ¬ (i : Int) < (l.length : Int) := by omega
        have HA : Hid (l.all rightR = true) := Lib.hid (all_upto (fun j hj => HG.out.2.2 j (by omega)))
        go_wp2_with fail
        go_meet
        exact ⟨K, HA⟩
  case rest =>
    clear K
    obtain ⟨K, HA⟩ := hcut
    have HRC : Hid (R = (bestUp so l l.length, decide (0 < l.length))) := Lib.hid (by rw [HR.out]; unfold choiceP; rw [if_pos HA.out])
    clear HR HA
    by_cases hl0 : l.length = 0
    · have e0 : ((l.length : Int) == 0) = true := by simp [hl0]
      have HE : Hid (R = ((0, 0), false)) := Lib.hid (by rw [HRC.out, hl0]; rfl)
      clear hl0
      obtain ⟨z1, z2, z3, z4⟩ := K.out.cells 0 rfl
      obtain ⟨t1, t2⟩ := K.out.told 0 rfl 0 0
      have T1 := Lib.hid t1
      have T2 := Lib.hid t2
      clear t1 t2
      go_wp2
      refine bodyPost_ret (results_row_tmp (fn := Tryd.f65) rfl _ _ w.heap.size _ _ _ _ rfl T1.out Tryd.underlying23 rfl (by kernel_rfl)) rfl ?_
      exact ⟨by rw [HE.out]; rfl, T2.out⟩
    · have hpos : 0 < l.length := by omega
      have e0 : ((l.length : Int) == 0) = false := beq_eq_false_iff_ne.2 (by omega)
      have hpi : (0 : Int) < (l.length : Int) := by omega
      have C1 := Lib.hid (HI.out.below K.out.r.below)
      obtain ⟨b, off, rfl, _, _⟩ := HI.out 0 hpos
      obtain ⟨d1, d2⟩ := C1.out.cells 0 hpos
      simp only [Nat.zero_mul, Nat.add_zero] at d1 d2
      obtain ⟨x, hx⟩ : ∃ q, q = l.getD 0 (0, 0) := ⟨_, rfl⟩
      have HB1 : Hid (bestUp so l 1 = x) := Lib.hid (by rw [hx]; unfold bestUp; rw [if_pos (.inl rfl)])
      rw [← hx] at d1 d2
      clear hx hl0
      go_upto_region 9 with fail
      replace K := Lib.hid (K.out.new x.1 x.2)
      generalize wc.alloc (.cells #[.int .i64 x.1, .int .i64 x.2] 23) = w3 at *
      generalize wc.heap.size = g7 at *
      simp only [List.cons_append, List.nil_append] at K
      rw [← HB1.out] at K
      clear d1 d2 C1 HB1
      go_wp2
      go_loopg [8] l.length (fun g s8 wr => ∃ n0 : Nat, s8 = .int .i64 n0 ∧ Hid (RtS w [(w.heap.size, 0, 0), (g7, (bestUp so l n0).1, (bestUp so l n0).2)] wr) ∧ Hid (1 ≤ n0 ∧ n0 ≤ l.length ∧ g + n0 = l.length + 1))
      case atStart => exact ⟨1, by simp, K, Lib.hid ⟨by omega, by omega, by omega⟩⟩
      case round =>
        clear K
        obtain ⟨n0, rfl, K, HG⟩ := hrel
        by_cases hp : n0 < l.length
        · have hpi : (n0 : Int) < (l.length : Int) := by omega
          have x64 := H64.out n0 hp
          have b64 := HB64.out n0 (by omega)
          have hst : bestUp so l (n0 + 1) = if cmpP (l.getD n0 (0, 0)) (bestUp so l n0) = so then l.getD n0 (0, 0) else bestUp so l n0 := by
            conv => lhs; unfold bestUp
            have h1 := HG.out.1
            by_cases hc : cmpP (l.getD n0 (0, 0)) (bestUp so l n0) = so
            · rw [if_pos (.inr hc), if_pos hc]
            · rw [if_neg (fun h => h.elim (fun e => by omega) hc), if_neg hc]
          obtain ⟨x, hx⟩ : ∃ q, q = l.getD n0 (0, 0) := ⟨_, rfl⟩
          rw [← hx] at x64 hst
          obtain ⟨x1, x2⟩ := x
          have HX := Lib.hid hx
          obtain ⟨y, hy⟩ : ∃ q, q = bestUp so l n0 := ⟨_, rfl⟩
          rw [← hy] at hst K b64
          obtain ⟨y1, y2⟩ := y
          have HCM := Lib.hid (fun W => dcompare_any x1 x2 y1 y2 x64.1 x64.2 b64.1 b64.2 W)
          obtain ⟨cm, hcm⟩ : ∃ q, q = cmpP (x1, x2) (y1, y2) := ⟨_, rfl⟩
          rw [← hcm] at HCM hst
          have HST := Lib.hid hst
          obtain ⟨t, htt⟩ : ∃ t, (cm == so) = t := ⟨_, rfl⟩
          have HTT := Lib.hid htt
          have w5 : IntKind.i64.wrap ((n0 : Int) + 1) = ((n0 + 1 : Nat) : Int) := by rw [IntWalk.i64_in _ (by have := HL.out; omega)]; omega
          clear hx hy hcm x64 b64 hst
          go_upto_region 12 with fail
          go_cut [42] (fun s42 wx => s42 = .bool t ∧ Hid (RtS w [(w.heap.size, 0, 0), (g7, y1, y2)] wx))
          case first =>
            refine wp_region_tab (by kernel_rfl) [0, 1, 7, 8, 35, 36, 37, 38, 39, 40, 41, 42] [[], [], [0, 1], [2], [], [3, 4], [], [5, 6]]
              (fun L vals wx => RtS w [(w.heap.size, 0, 0), (g7, y1, y2)] wx ∧ TabR (tbDB b off l.length c g7 n0 so x1 x2 y1 y2 cm t) (bsDB b off l.length c g7 n0 so x1 x2 y1 y2 cm t) L vals) (by kernel_rfl) rfl ?_ ?_ ?_
            · exact ⟨K.out.drew, TabR.start (by simp [bsDB])⟩
            · intro i hi a L vals wx E hJ hLi hn K hK hK0
              obtain ⟨hI, hT⟩ := hJ
              match i, hi with
              | 0, _ => exact op_moveG rfl rfl rfl rfl ((E 0 (by decide)).trans (hT.rd 0 rfl)) (hK 35 _ _ (by decide) ⟨hI, hT.set 0 rfl (by kernel_rfl) (by kernel_rfl)⟩)
              | 1, _ => exact op_moveG rfl rfl rfl rfl ((E 8 (by decide)).trans (hT.rd 3 rfl)) (hK 36 _ _ (by decide) ⟨hI, hT.set 1 rfl (by kernel_rfl) (by kernel_rfl)⟩)
              | 2, _ =>
                have e1 := (E 35 (by decide)).trans (hT.val 0 rfl (hn 0 (by decide)))
                have e2 := (E 36 (by decide)).trans (hT.val 1 rfl (hn 1 (by decide)))
                refine op_valueG (w' := wx) (v := .pointer (some ⟨b, off + n0 * 2, none⟩)) rfl rfl rfl ?_ (hK 37 _ _ (by decide) ⟨hI, hT.set 2 rfl (by kernel_rfl) (by kernel_rfl)⟩)
                clear hK hK0 hT E
                revert e1 e2
                generalize a.eval = ρ
                intro e1 e2
                go_simp
              | 3, _ =>
                have e1 := (E 37 (by decide)).trans (hT.val 2 rfl (hn 2 (by decide)))
                obtain ⟨d1, d2⟩ := (HI.out.below hI.r.below).cells n0 hp
                rw [← HX.out] at d1 d2
                refine op_valueG (w' := wx) (v := .agg #[.int .i64 x1, .int .i64 x2]) rfl rfl rfl ?_ (hK 38 _ _ (by decide) ⟨hI, hT.set 3 rfl (by kernel_rfl) (by kernel_rfl)⟩)
                clear hK hK0 hT E
                revert e1
                generalize a.eval = ρ
                intro e1
                go_simp
              | 4, _ => exact op_loadG rfl rfl rfl rfl Tryd.underlying23 rfl (by kernel_rfl) ((E 7 (by decide)).trans (hT.rd 2 rfl)) (hI.r.l (g7, y1, y2) (by simp)) (hK 39 _ _ (by decide) ⟨hI, hT.set 4 rfl (by kernel_rfl) (by kernel_rfl)⟩)
              | 5, _ =>
                have e1 := (E 38 (by decide)).trans (hT.val 3 rfl (hn 3 (by decide)))
                have e2 := (E 39 (by decide)).trans (hT.val 4 rfl (hn 4 (by decide)))
                exact op_goG rfl rfl rfl rfl Tryd.func33 (by kernel_rfl) rfl (by simp only [List.map_toArray, List.map_cons, List.map_nil, e1, e2]) (HCM.out _) (fun w' hb => hK 40 _ _ (by decide) ⟨hI.step hb, hT.set 5 rfl (by kernel_rfl) (by kernel_rfl)⟩)
              | 6, _ => exact op_moveG rfl rfl rfl rfl ((E 1 (by decide)).trans (hT.rd 1 rfl)) (hK 41 _ _ (by decide) ⟨hI, hT.set 6 rfl (by kernel_rfl) (by kernel_rfl)⟩)
              | 7, _ =>
                have e1 := (E 40 (by decide)).trans (hT.val 5 rfl (hn 5 (by decide)))
                have e2 := (E 41 (by decide)).trans (hT.val 6 rfl (hn 6 (by decide)))
                refine op_valueG (w' := wx) (v := .bool t) rfl rfl rfl ?_ (hK 42 _ _ (by decide) ⟨hI, hT.set 7 rfl (by kernel_rfl) (by kernel_rfl)⟩)
                clear hK hK0 hT E
                revert e1 e2
                generalize a.eval = ρ
                intro e1 e2
                go_simp
              | k + 8, h => exact absurd (show k + 8 < 8 from h) (by omega)
            · intro L vals wx hJ hall
              obtain ⟨hI, hT⟩ := hJ
              have HI := Lib.hid hI
              have v0 : vals 0 = .slice (some ⟨b, off, none⟩) l.length c := hT.rd 0 rfl
              have v1 : vals 1 = .int .i64 so := hT.rd 1 rfl
              have v7 : vals 7 = .pointer (some ⟨g7, 0, none⟩) := hT.rd 2 rfl
              have v8 : vals 8 = .int .i64 n0 := hT.rd 3 rfl
              have v42 : vals 42 = .bool t := hT.val 7 rfl (hall 7 (by decide))
              simp only [overA, Act.put, List.setIfInBounds_toArray, List.set_cons_zero, List.set_cons_succ]
              rw [v0, v1, v7, v8, v42]
              clear hI hT hall v0 v1 v7 v8 v42
              go_wp2_with fail
              go_meet
              exact ⟨rfl, HI⟩
          case rest =>
            clear K HCM
            obtain ⟨rfl, K⟩ := hcut
            cases t with
            | true =>
              have HB : Hid (bestUp so l (n0 + 1) = (x1, x2)) := Lib.hid (HST.out.trans (if_pos (by have := HTT.out; simpa using this)))
              obtain ⟨d1, d2⟩ := (HI.out.below K.out.r.below).cells n0 hp
              rw [← HX.out] at d1 d2
              obtain ⟨z1, z2, z3, z4⟩ := K.out.cells 1 rfl
              replace K := Lib.hid (K.out.put 1 rfl x1 x2)
              simp only [List.set_cons_zero, List.set_cons_succ] at K
              clear htt
              go_wp2
              go_roundg (gk - 1)
              case measure => have h := HG.out; omega
              case rel => exact ⟨n0 + 1, by go_num, by rw [HB.out]; exact K, Lib.hid ⟨by omega, by omega, by have h := HG.out.2.2; omega⟩⟩
            | false =>
              have HB : Hid (bestUp so l (n0 + 1) = (y1, y2)) := Lib.hid (HST.out.trans (if_neg (by have := HTT.out; simpa using this)))
              clear htt
              go_wp2
              go_roundg (gk - 1)
              case measure => have h := HG.out; omega
              case rel => exact ⟨n0 + 1, by go_num, by rw [HB.out]; exact K, Lib.hid ⟨by omega, by omega, by have h := HG.out.2.2; omega⟩⟩
        · have hpi : ¬ (n0 : Int) < (l.length : Int) := by omega
          have hi : n0 = l.length := by have := HG.out.2.1; omega
          have HE : Hid (R = (bestUp so l n0, true)) := Lib.hid (by rw [HRC.out, hi, decide_eq_true hpos])
          clear hi
          obtain ⟨y, hy⟩ : ∃ q, q = bestUp so l n0 := ⟨_, rfl⟩
          rw [← hy] at K HE
          obtain ⟨y1, y2⟩ := y
          clear hy
          obtain ⟨k1, k2, _, _⟩ := K.out.cells 1 rfl
          obtain ⟨z1, z2, z3, z4⟩ := K.out.cells 0 rfl
          obtain ⟨t1, t2⟩ := K.out.told 0 rfl y1 y2
          have T1 := Lib.hid t1
          have T2 := Lib.hid t2
          clear t1 t2
          go_wp2
          refine bodyPost_ret (results_row_tmp (fn := Tryd.f65) rfl _ _ w.heap.size _ _ _ _ rfl T1.out Tryd.underlying23 rfl (by kernel_rfl)) rfl ?_
          exact ⟨by rw [HE.out]; rfl, T2.out⟩


set_option maxRecDepth 100000 in
set_option maxHeartbeats 2000000 in
theorem dleast_rat (A : Option Addr) (c : Nat) (l : List (Int × Int)) (w : World) (hI : RatsA w A l) (hmax : l.length ≤ 8796093022000) (h64 : All64 l) (ht : TabQ w) :
    Calls Tryd.prog 38 #[.slice A l.length c] w fun e w' => e = .returned (.tuple #[.agg #[.int .i64 (choiceP (-1) l).1.1, .int .i64 (choiceP (-1) l).1.2], .bool (choiceP (-1) l).2]) ∧ Below w.heap.size w w' := by
  have K := Lib.hid ((RtS.start ht).one 0 0)
  have HC := Lib.hid (fun W h1 h2 => dbest_any A c l (-1) W h1 hmax h64 h2)
  have HI := Lib.hid hI
  obtain ⟨⟨⟨r1, r2⟩, rb⟩, hR⟩ : ∃ q, q = choiceP (-1) l := ⟨_, rfl⟩
  rw [← hR] at HC ⊢
  have HC : Hid (∀ W, RatsA W A l → TabQ W → Calls Tryd.prog 65 #[.slice A l.length c, .int .i64 (-1)] W fun e w' => e = .returned (.tuple #[.agg #[.int .i64 r1, .int .i64 r2], .bool rb]) ∧ Below W.heap.size W w') := HC
  clear hR hI hmax h64 ht
  go_enter Tryd.func38, Tryd.ntmps38
  go_upto_region 1 with fail
  generalize w.alloc (.cells #[.int .i64 0, .int .i64 0] 23) = w1 at *
  go_wp2_with fail
  refine (HC.out _ (HI.out.below K.out.r.below) K.out.r.tab).mono ?_
  rintro e w2 ⟨rfl, hb⟩
  replace K := Lib.hid (K.out.step hb)
  clear hb HC
  obtain ⟨z1, z2, z3, z4⟩ := K.out.cells 0 rfl
  obtain ⟨t1, t2⟩ := K.out.told 0 rfl r1 r2
  have T1 := Lib.hid t1
  have T2 := Lib.hid t2
  clear t1 t2
  go_wp2
  refine bodyPost_ret (results_row_tmp (fn := Tryd.f38) rfl _ _ w.heap.size _ _ _ _ rfl T1.out Tryd.underlying23 rfl (by kernel_rfl)) rfl ?_
  exact ⟨rfl, T2.out⟩


set_option maxRecDepth 100000 in
set_option maxHeartbeats 2000000 in
theorem dgreatest_rat (A : Option Addr) (c : Nat) (l : List (Int × Int)) (w : World) (hI : RatsA w A l) (hmax : l.length ≤ 8796093022000) (h64 : All64 l) (ht : TabQ w) :
    Calls Tryd.prog 40 #[.slice A l.length c] w fun e w' => e = .returned (.tuple #[.agg #[.int .i64 (choiceP 1 l).1.1, .int .i64 (choiceP 1 l).1.2], .bool (choiceP 1 l).2]) ∧ Below w.heap.size w w' := by
  have K := Lib.hid ((RtS.start ht).one 0 0)
  have HC := Lib.hid (fun W h1 h2 => dbest_any A c l 1 W h1 hmax h64 h2)
  have HI := Lib.hid hI
  obtain ⟨⟨⟨r1, r2⟩, rb⟩, hR⟩ : ∃ q, q = choiceP 1 l := ⟨_, rfl⟩
  rw [← hR] at HC ⊢
  have HC : Hid (∀ W, RatsA W A l → TabQ W → Calls Tryd.prog 65 #[.slice A l.length c, .int .i64 1] W fun e w' => e = .returned (.tuple #[.agg #[.int .i64 r1, .int .i64 r2], .bool rb]) ∧ Below W.heap.size W w') := HC
  clear hR hI hmax h64 ht
  go_enter Tryd.func40, Tryd.ntmps40
  go_upto_region 1 with fail
  generalize w.alloc (.cells #[.int .i64 0, .int .i64 0] 23) = w1 at *
  go_wp2_with fail
  refine (HC.out _ (HI.out.below K.out.r.below) K.out.r.tab).mono ?_
  rintro e w2 ⟨rfl, hb⟩
  replace K := Lib.hid (K.out.step hb)
  clear hb HC
  obtain ⟨z1, z2, z3, z4⟩ := K.out.cells 0 rfl
  obtain ⟨t1, t2⟩ := K.out.told 0 rfl r1 r2
  have T1 := Lib.hid t1
  have T2 := Lib.hid t2
  clear t1 t2
  go_wp2
  refine bodyPost_ret (results_row_tmp (fn := Tryd.f40) rfl _ _ w.heap.size _ _ _ _ rfl T1.out Tryd.underlying23 rfl (by kernel_rfl)) rfl ?_
  exact ⟨rfl, T2.out⟩


end Go.Proofs.YtmgdhlcgbgpgpaaDoor

/- RatLists: every list: its sum, its least, its greatest; the list stays. -/
namespace Go.Proofs.YtmgdhlcgbgpgpaaDoor
open Go Go.RowKit
set_option linter.unusedVariables false
set_option linter.unusedSimpArgs false

set_option maxRecDepth 100000 in
set_option maxHeartbeats 16000000 in
theorem lists_any (A : Option Addr) (c : Nat) (l : List (Int × Int)) (w : World) (hI : RatsA w A l) (hmax : l.length * 16 ≤ 140737488351232) (h64 : All64 l) (ht : TabQ w) :
    Calls Tryd.prog 9 #[.slice A l.length c] w fun e w' => e = .returned (.bool true) ∧ Below w.heap.size w w' := by
  have hm : l.length ≤ 8796093022000 := by omega
  have HHA := Lib.hid (fun W h => handrats_any A c l W h hm)
  have HKE := Lib.hid (fun W hh h => keptrats_any A c l w W hh h hm)
  have HS1 := Lib.hid (fun W h1 h2 => rsum_any (some ⟨w.heap.size, 0, none⟩) (l.length + 9) l W h1 hm h64 (by omega) (by omega) h2)
  have HS2 := Lib.hid (fun W h1 h2 => dsum_list A c l W h1 hm h64 h2)
  have HL1 := Lib.hid (fun W h1 h2 => least_rat (some ⟨w.heap.size, 0, none⟩) (l.length + 9) l W h1 hm h64 h2)
  have HL2 := Lib.hid (fun W h1 h2 => dleast_rat A c l W h1 hm h64 h2)
  have HG1 := Lib.hid (fun W h1 h2 => greatest_rat (some ⟨w.heap.size, 0, none⟩) (l.length + 9) l W h1 hm h64 h2)
  have HG2 := Lib.hid (fun W h1 h2 => dgreatest_rat A c l W h1 hm h64 h2)
  obtain ⟨⟨⟨s1, s2⟩, es⟩, hs⟩ : ∃ q, q = sumLP l := ⟨_, rfl⟩
  obtain ⟨⟨⟨m1, m2⟩, bm⟩, hmi⟩ : ∃ q, q = choiceP (-1) l := ⟨_, rfl⟩
  obtain ⟨⟨⟨x1, x2⟩, bx⟩, hma⟩ : ∃ q, q = choiceP 1 l := ⟨_, rfl⟩
  rw [← hs] at HS1 HS2
  rw [← hmi] at HL1 HL2
  rw [← hma] at HG1 HG2
  have HS1 : Hid (∀ W, RatsA W (some ⟨w.heap.size, 0, none⟩) l → TabQ W → Calls Tryd.prog 35 #[.slice (some ⟨w.heap.size, 0, none⟩) l.length (l.length + 9)] W fun e w' => e = .returned (.tuple #[.agg #[.int .i64 s1, .int .i64 s2], .int .i64 es]) ∧ Below W.heap.size W w') := HS1
  have HS2 : Hid (∀ W, RatsA W A l → TabQ W → Calls Tryd.prog 36 #[.slice A l.length c] W fun e w' => e = .returned (.tuple #[.agg #[.int .i64 s1, .int .i64 s2], .int .i64 es]) ∧ Below W.heap.size W w') := HS2
  have HL1 : Hid (∀ W, RatsA W (some ⟨w.heap.size, 0, none⟩) l → TabQ W → Calls Tryd.prog 37 #[.slice (some ⟨w.heap.size, 0, none⟩) l.length (l.length + 9)] W fun e w' => e = .returned (.tuple #[.agg #[.int .i64 m1, .int .i64 m2], .bool bm]) ∧ Below W.heap.size W w') := HL1
  have HL2 : Hid (∀ W, RatsA W A l → TabQ W → Calls Tryd.prog 38 #[.slice A l.length c] W fun e w' => e = .returned (.tuple #[.agg #[.int .i64 m1, .int .i64 m2], .bool bm]) ∧ Below W.heap.size W w') := HL2
  have HG1 : Hid (∀ W, RatsA W (some ⟨w.heap.size, 0, none⟩) l → TabQ W → Calls Tryd.prog 39 #[.slice (some ⟨w.heap.size, 0, none⟩) l.length (l.length + 9)] W fun e w' => e = .returned (.tuple #[.agg #[.int .i64 x1, .int .i64 x2], .bool bx]) ∧ Below W.heap.size W w') := HG1
  have HG2 : Hid (∀ W, RatsA W A l → TabQ W → Calls Tryd.prog 40 #[.slice A l.length c] W fun e w' => e = .returned (.tuple #[.agg #[.int .i64 x1, .int .i64 x2], .bool bx]) ∧ Below W.heap.size W w') := HG2
  have HI := Lib.hid hI
  have HT := Lib.hid ht
  clear hs hmi hma h64 hI hmax hm ht
  go_enter Tryd.func9, Tryd.ntmps9
  go_wp2_with fail
  refine (HHA.out _ HI.out).mono ?_
  rintro e w1 ⟨rfl, hh⟩
  have HH := Lib.hid hh
  have K := Lib.hid (RtS.start (HT.out.below hh.1))
  clear hh HHA
  have HX := Lib.hid (fun (W : World) (h : Below w1.heap.size w1 W) => HH.out.step h)
  go_wp2_with fail
  refine (HS1.out _ (HX.out _ K.out.r.below).rats K.out.r.tab).mono ?_
  rintro e w2 ⟨rfl, hb⟩
  replace K := Lib.hid (K.out.step hb)
  clear hb HS1
  go_upto_region 3 with fail
  replace K := Lib.hid (K.out.new s1 s2)
  generalize w2.alloc (.cells #[.int .i64 s1, .int .i64 s2] 23) = w3 at *
  generalize w2.heap.size = g4 at *
  simp only [List.cons_append, List.nil_append] at K
  go_wp2_with fail
  refine (HS2.out _ (HI.out.below (HX.out _ K.out.r.below).1) K.out.r.tab).mono ?_
  rintro e w4 ⟨rfl, hb⟩
  replace K := Lib.hid (K.out.step hb)
  clear hb HS2
  go_upto_region 4 with fail
  replace K := Lib.hid (K.out.new s1 s2)
  generalize w4.alloc (.cells #[.int .i64 s1, .int .i64 s2] 23) = w5 at *
  generalize w4.heap.size = g6 at *
  simp only [List.cons_append, List.nil_append] at K
  go_wp2_with fail
  refine (HL1.out _ (HX.out _ K.out.r.below).rats K.out.r.tab).mono ?_
  rintro e w6 ⟨rfl, hb⟩
  replace K := Lib.hid (K.out.step hb)
  clear hb HL1
  go_upto_region 5 with fail
  replace K := Lib.hid (K.out.new m1 m2)
  generalize w6.alloc (.cells #[.int .i64 m1, .int .i64 m2] 23) = w7 at *
  generalize w6.heap.size = g8 at *
  simp only [List.cons_append, List.nil_append] at K
  go_wp2_with fail
  refine (HL2.out _ (HI.out.below (HX.out _ K.out.r.below).1) K.out.r.tab).mono ?_
  rintro e w8 ⟨rfl, hb⟩
  replace K := Lib.hid (K.out.step hb)
  clear hb HL2
  go_upto_region 6 with fail
  replace K := Lib.hid (K.out.new m1 m2)
  generalize w8.alloc (.cells #[.int .i64 m1, .int .i64 m2] 23) = w9 at *
  generalize w8.heap.size = g10 at *
  simp only [List.cons_append, List.nil_append] at K
  go_wp2_with fail
  refine (HG1.out _ (HX.out _ K.out.r.below).rats K.out.r.tab).mono ?_
  rintro e w10 ⟨rfl, hb⟩
  replace K := Lib.hid (K.out.step hb)
  clear hb HG1
  go_upto_region 7 with fail
  replace K := Lib.hid (K.out.new x1 x2)
  generalize w10.alloc (.cells #[.int .i64 x1, .int .i64 x2] 23) = w11 at *
  generalize w10.heap.size = g12 at *
  simp only [List.cons_append, List.nil_append] at K
  go_wp2_with fail
  refine (HG2.out _ (HI.out.below (HX.out _ K.out.r.below).1) K.out.r.tab).mono ?_
  rintro e w12 ⟨rfl, hb⟩
  replace K := Lib.hid (K.out.step hb)
  clear hb HG2
  go_upto_region 8 with fail
  replace K := Lib.hid (K.out.new x1 x2)
  generalize w12.alloc (.cells #[.int .i64 x1, .int .i64 x2] 23) = w13 at *
  generalize w12.heap.size = g14 at *
  simp only [List.cons_append, List.nil_append] at K
  go_wp2_with fail
  refine (live02_any _ K.out.r.tab).mono ?_
  rintro e wl ⟨rfl, hb⟩
  replace K := Lib.hid (K.out.step hb)
  clear hb
  obtain ⟨a0, b0, _, _⟩ := K.out.cells 0 rfl
  obtain ⟨a1, b1, _, _⟩ := K.out.cells 1 rfl
  obtain ⟨a2, b2, _, _⟩ := K.out.cells 2 rfl
  obtain ⟨a3, b3, _, _⟩ := K.out.cells 3 rfl
  obtain ⟨a4, b4, _, _⟩ := K.out.cells 4 rfl
  obtain ⟨a5, b5, _, _⟩ := K.out.cells 5 rfl
  go_wp2_with fail
  refine (HKE.out _ (HX.out _ K.out.r.below) (HI.out.below (HX.out _ K.out.r.below).1)).mono ?_
  rintro e we ⟨rfl, hb⟩
  have HB := Lib.hid (((HX.out _ K.out.r.below).step hb).1)
  clear hb K a0 b0 a1 b1 a2 b2 a3 b3 a4 b4 a5 b5
  go_wp2
  go_ret
  exact ⟨rfl, HB.out⟩

end Go.Proofs.YtmgdhlcgbgpgpaaDoor

/- A slice of structs of two numbers of 64 bits that came in. -/
namespace Go.Proofs.YtmgdhlcgbgpgpaaDoor
open Go Go.ChangeShapes Go.WideShapes Go.ChangeAt Go.RowKit
set_option linter.unusedVariables false
set_option linter.unusedSimpArgs false

section
variable {H : Type} {enc : TypeId × Value → H} {P : Program} {W W' : World}
/-- A slice of fractions that came in. -/
theorem came_rats {t e : TypeId} {f0 f1 : Field} {v : Value} {d : DataW H} {ps : List MemPlace} {r : Reach} {base : Nat} (ht : P.underlying t = some (.slice e)) (he : P.underlying e = some (.struct #[f0, f1]))
    (k0 : P.underlying f0.type = some (.int .i64)) (k1 : P.underlying f1.type = some (.int .i64)) (hone : Deep.oneCellFields P #[f0, f1] = true) (hc : P.cellsOf e = 2)
    (hval : Value.okWide P W r base t v) (h : DataW.Trod enc P W 0 (fun _ => true) true t v d ps) :
    ∃ A c xs, v = .slice A xs.length c ∧ RatsA W A xs ∧ All64 xs ∧ (xs = [] ∨ ∃ el sp, d = .slice el sp ∧ el.length = xs.length) := by
  obtain ⟨a0, len, cap, rfl⟩ := okWide_slice ht hval
  obtain ⟨fuel, hf⟩ := h
  rcases Deep.open_slice ht hf with ⟨hcs, hx⟩ | ⟨a, len', cap', m, n, D, Pl, hcs, _, hle, _, hmm, hx, hi⟩
  · simp [Value.cells] at hcs
    obtain ⟨rfl, rfl, rfl⟩ := hcs
    exact ⟨none, 0, [], rfl, fun j hj => by simp at hj, fun j hj => by simp at hj, .inl rfl⟩
  · simp [Value.cells] at hcs
    obtain ⟨rfl, rfl, rfl⟩ := hcs
    have hlm : len ≤ m := by rw [hmm]; split <;> omega
    have each : ∀ i, i < m → ∃ q : Int × Int, W.cell? (a.add (i * 2)) = some (.int .i64 q.1) ∧ W.cell? (a.add (i * 2 + 1)) = some (.int .i64 q.2) ∧
        (Lit.int .i64 q.1).wf = true ∧ (Lit.int .i64 q.2).wf = true := by
      intro i him
      obtain ⟨cs', h1, h2⟩ := hi i him
      rw [hc] at h1
      obtain ⟨_, hlen, hcell⟩ := World.cells?_some h1
      obtain ⟨xs, k, _, hxy, _, hxl, hfd⟩ := DataW.trod_struct he h2
      obtain ⟨o0, c0⟩ := Deep.hone_of hone 0 f0 rfl
      obtain ⟨o1, c1⟩ := Deep.hone_of hone 1 f1 rfl
      match xs, hxl, cs', hlen with
      | [y0, y1], _, [v0, v1], _ =>
        have g0 := hfd 0 f0 rfl
        have g1 := hfd 1 f1 rfl
        simp [o0, o1, c0, c1] at g0 g1
        have e0 := hcell 0 (by omega)
        have e1 := hcell 1 (by omega)
        rw [Deep.add_add] at e0 e1
        obtain ⟨z0, q0, _, w0⟩ := DataW.trod_int k0 g0
        obtain ⟨z1, q1, _, w1⟩ := DataW.trod_int k1 g1
        simp at q0 q1
        subst q0 q1
        exact ⟨(z0, z1), by simpa using e0, by simpa using e1, w0, w1⟩
    obtain ⟨q, hq⟩ := Deep.choose_lt each
    simp only [Prod.mk.injEq] at hx
    refine ⟨some a, cap, (List.range len).map q, by simp, ?_, ?_, .inr ⟨_, _, hx.1, by simp⟩⟩
    · intro j hj
      simp only [List.length_map, List.length_range] at hj
      obtain ⟨h0, h1, _⟩ := hq j (by omega)
      have hsp : a.spot = none := by
        have := World.cell?_spot (hq 0 (by omega)).1
        simpa [Addr.add] using this
      obtain ⟨b, off, spot⟩ := a
      simp only at hsp
      subst hsp
      have eg : ((List.range len).map q).getD j (0, 0) = q j := by simp [List.getD_eq_getElem?_getD, hj]
      rw [eg]
      have ea : ∀ k, (⟨b, off, none⟩ : Addr).add k = ⟨b, off + k, none⟩ := fun k => by unfold Addr.add; split <;> simp_all
      rw [ea] at h0 h1
      exact ⟨b, off, rfl, h0, by rw [Nat.add_assoc]; exact h1⟩
    · intro j hj
      simp only [List.length_map, List.length_range] at hj
      have eg : ((List.range len).map q).getD j (0, 0) = q j := by simp [List.getD_eq_getElem?_getD, hj]
      rw [eg]
      exact ⟨came_i64 (hq j (by omega)).2.2.1, came_i64 (hq j (by omega)).2.2.2⟩
/-- Its length is within what the machine can hold. -/
theorem came_shortQ {ts : List TypeId} {ds : List (DataW H)} {j : Nat} {t e : TypeId} {d : DataW H} {xs : List (Int × Int)} {m : Nat} (hsz : (DataW.weightsEach P ts ds).all (· ≤ reachBytes) = true) (ht : ts[j]? = some t) (hd : ds[j]? = some d)
    (hu : P.underlying t = some (.slice e)) (hm : P.bytesOf e = m) (h : xs = [] ∨ ∃ el sp, d = .slice el sp ∧ el.length = xs.length) : xs.length * m ≤ 140737488351232 := by
  rcases h with rfl | ⟨el, sp, rfl, he⟩
  · simp
  · have h1 := sized_slice hsz ht hd hu
    rw [hm] at h1
    have h2 : el.length * m ≤ (el.length + sp.length) * m := Nat.mul_le_mul_right _ (by omega)
    rw [← he]
    exact Nat.le_trans h2 h1
end

end Go.Proofs.YtmgdhlcgbgpgpaaDoor
