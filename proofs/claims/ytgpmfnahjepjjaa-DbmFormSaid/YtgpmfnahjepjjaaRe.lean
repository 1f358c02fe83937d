/- The document's zone of wide cells. -/
import Derived.Test.YtgpmfnahjepjjaaRd
namespace Go.Proofs.Ytgpmfnahjepjjaa
open Go Go.RowKit
set_option linter.unusedVariables false
set_option linter.unusedSimpArgs false

set_option maxRecDepth 100000 in
set_option maxHeartbeats 2000000 in
theorem made_any (g n N cap : Nat) (m : Mat) (w : World) (hn : n ≤ 8) (hN : N = (n + 1) * (n + 1)) (h : RowAt w g 2 .i64 (flat n m)) (hf : ∀ i j, i ≤ n → j ≤ n → Bd 1073741824 (m i j)) (B : Nat) (hB : B ≤ g) (hBw : B ≤ w.heap.size) :
    Calls Try.prog 52 #[.int .i64 n, .slice (some ⟨g, 0, none⟩) N cap] w fun e w' => Below B w w' ∧ ∃ v, e = .returned (.tuple #[v, .int .i64 (zoneP n (clUp m (n + 1))).2]) ∧ RefZ w' v ((zoneP n (clUp m (n + 1))).1.map fun m => (n, m)) := by
  have H0 := Lib.hid (show ClR w g n m (n + 1) 0 w from ⟨⟨Only.refl _ _, by rw [clUp_zero]; exact h⟩, by omega, by omega⟩)
  have HN := Lib.hid hN
  have HF := Lib.hid (clUp_fit hf)
  have hN81 : N ≤ 81 := by
    have := Nat.mul_le_mul (show n + 1 ≤ 9 by omega) (show n + 1 ≤ 9 by omega)
    omega
  clear h hf hN
  go_enter Try.func52, Try.ntmps52
  go_wp2
  go_loopg [6] (n + 1) (fun q v wr => ∃ i : Nat, v = .int .i64 i ∧ ClR w g n m q i wr)
  case atStart => exact ⟨0, by simp, H0.out⟩
  case round =>
    clear H0
    obtain ⟨i, rfl, H⟩ := hrel
    have HI := Lib.hid H
    clear H
    by_cases hi : i ≤ n
    · by_cases i0 : i = 0
      · subst i0
        have c1 := HI.out.1.cell (i := 0) (j := 0) (by omega) (by omega) 0 (by omega)
        rw [clUp_at] at c1
        have f1 := HI.out.1.2.frozen 0
        have hN1 : 0 < N := by rw [HN.out]; exact Nat.mul_pos (by omega) (by omega)
        have HX := Lib.hid (HI.out.next (by omega) 0 (by omega))
        have hu : upd (clUp m 0) 0 0 (min (clUp m 0 0 0) 1) 0 0 = min (m 0 0) 1 := by simp [upd, clUp]
        have hu1 : ¬ 1 < min (m 0 0) 1 := by rw [Int.min_def]; split <;> omega
        by_cases a1 : 1 < m 0 0
        · have HS := Lib.hid (HX.out true false (decide_eq_true a1).symm (by rw [hu]; exact (decide_eq_false hu1).symm))
          clear hu hu1 HX
          go_wp2
          go_roundg (gk - 1)
          case measure => have h := HI.out.2.2; omega
          case rel => exact ⟨1, by simp, HS.out⟩
        · have HS := Lib.hid (HX.out false false (decide_eq_false a1).symm (by rw [hu]; exact (decide_eq_false hu1).symm))
          clear hu hu1 HX
          go_wp2
          go_roundg (gk - 1)
          case measure => have h := HI.out.2.2; omega
          case rel => exact ⟨1, by simp, HS.out⟩
      · have hii : (i : Int) ≤ (n : Int) := by omega
        obtain ⟨P, hP, hP1, hP2, hP3⟩ := prod_facts i n hi hn
        have hPN : P + n < N := by have := HN.out; omega
        have c1 := HI.out.1.cell (i := i) (j := i) (by omega) (by omega) (P + i) (by omega)
        rw [clUp_at] at c1
        have c2 := HI.out.1.cell (i := 0) (j := i) (by omega) (by omega) i (by omega)
        rw [clUp_top] at c2
        have f1 := HI.out.1.2.frozen (P + i)
        have f2 := HI.out.1.2.frozen i
        have hP0 : ¬ P = 0 := by
          intro h
          have := Nat.mul_pos (show 0 < i by omega) (show 0 < n + 1 by omega)
          omega
        have HP2 := Lib.hid hP2
        clear hP2 hP3
        have HX := Lib.hid (HI.out.next (by omega) (P + i) (by rw [HP2.out]))
        have hu : upd (clUp m i) i i (min (clUp m i i i) 1) 0 i = m 0 i := by
          unfold upd; rw [if_neg (fun h => i0 h.1.symm), clUp_top]
        have HU := Lib.hid hu
        clear hu
        by_cases a1 : 1 < m i i
        · by_cases a2 : 1 < m 0 i
          · have HS := Lib.hid (HX.out true true (decide_eq_true a1).symm (by rw [HU.out]; exact (decide_eq_true a2).symm))
            clear HX
            go_wp2
            go_roundg (gk - 1)
            case measure => have h := HI.out.2.2; omega
            case rel => exact ⟨i + 1, by go_num, HS.out⟩
          · have HS := Lib.hid (HX.out true false (decide_eq_true a1).symm (by rw [HU.out]; exact (decide_eq_false a2).symm))
            clear HX
            go_wp2
            go_roundg (gk - 1)
            case measure => have h := HI.out.2.2; omega
            case rel => exact ⟨i + 1, by go_num, HS.out⟩
        · by_cases a2 : 1 < m 0 i
          · have HS := Lib.hid (HX.out false true (decide_eq_false a1).symm (by rw [HU.out]; exact (decide_eq_true a2).symm))
            clear HX
            go_wp2
            go_roundg (gk - 1)
            case measure => have h := HI.out.2.2; omega
            case rel => exact ⟨i + 1, by go_num, HS.out⟩
          · have HS := Lib.hid (HX.out false false (decide_eq_false a1).symm (by rw [HU.out]; exact (decide_eq_false a2).symm))
            clear HX
            go_wp2
            go_roundg (gk - 1)
            case measure => have h := HI.out.2.2; omega
            case rel => exact ⟨i + 1, by go_num, HS.out⟩
    · have hii : ¬ (i : Int) ≤ (n : Int) := by omega
      have e : i = n + 1 := by have := HI.out.2.1; omega
      subst e
      go_wp2_with fail
      refine (rclose_any g n N cap (clUp m (n + 1)) wr hn HN.out HI.out.1.2 HF.out).mono ?_
      rintro e w1 ⟨ho, hcl⟩
      have HO := Lib.hid ((HI.out.1.1.trans ho).below hB hBw)
      clear ho
      rcases hcl with ⟨hc, rfl⟩ | ⟨m', hc, rfl, hm⟩
      · have hz : zoneP n (clUp m (n + 1)) = (some (fun _ _ => 0), 0) := by unfold zoneP; rw [hc]
        have HZ := Lib.hid hz
        clear hc hz
        go_wp2_with fail
        refine (empty1_any n _ hn).mono ?_
        rintro e w2 ⟨v, rfl, hb, hv⟩
        have HB := Lib.hid (HO.out.trans (hb.mono (Nat.le_trans hBw HO.out.size)))
        have HV := Lib.hid hv
        clear hb hv
        go_wp2
        go_ret2
        exact ⟨HB.out, v, by rw [HZ.out]; rfl, by rw [HZ.out]; exact HV.out⟩
      · have HC := Lib.hid hc
        have HM := Lib.hid hm
        clear hc hm
        obtain ⟨i0, hi1, hz0, hz1, hz2⟩ := info_parts infoRB
        have HInf := Lib.hid (And.intro hi1 (And.intro hz0 (And.intro hz1 hz2)))
        clear hi1 hz0 hz1 hz2
        have hg1 : g < w1.heap.size := HM.out.lt
        have HS := Lib.hid (show BuildR (w1.alloc (.cells #[.int .i64 n, .slice none 0 0] 78)) w1.heap.size g n N m' 0 (.slice none 0 0) (w1.alloc (.cells #[.int .i64 n, .slice none 0 0] 78)) from
          ⟨Below.refl _ _, by simp, Nat.le_refl _, heap_alloc_new _ _, by simpa [narUp, vals] using World.ownsRow_nil _ _ _ _, fun q h => by omega, by omega⟩)
        have HMA := Lib.hid (HM.out.later ((Below.refl w1.heap.size w1).alloc (Nat.le_refl _) (.cells #[.int .i64 n, .slice none 0 0] 78)))
        have HBA := Lib.hid (HO.out.alloc (Nat.le_trans hBw HO.out.size) (.cells #[.int .i64 n, .slice none 0 0] 78))
        have HlB : B ≤ w1.heap.size := Nat.le_trans hBw HO.out.size
        go_wp2
        generalize w1.alloc (.cells #[.int .i64 n, .slice none 0 0] 78) = w2 at *
        go_loopg [8] N (fun q v wr => ∃ p : Nat, ∃ sv, v = .int .i64 p ∧ BuildR w2 w1.heap.size g n N m' p sv wr ∧ Hid (q + p = N))
        case atStart => exact ⟨0, _, by simp, HS.out, by show _ = _; omega⟩
        case round =>
          clear HS
          obtain ⟨p, sv, rfl, H, HG⟩ := hrel
          have HR := Lib.hid H
          clear H
          by_cases hp : p < N
          · have hrow := (HMA.out.below HR.out.1 hg1)
            have c1 := hrow.cell p (by rw [flat_length, ← HN.out]; exact hp)
            have c2 := HR.out.cell
            have f2 := HR.out.frozen
            obtain ⟨x, hx⟩ : ∃ x, x = (flat n m').getD p 0 := ⟨_, rfl⟩
            rw [← hx] at c1
            have HX := Lib.hid hx
            clear hx hrow
            by_cases h1 : x = none62
            · have hx : x = 4611686018427387904 := h1
              clear h1
              subst hx
              go_wp2_with (at_builtin; refine wpList_append_lies _ rfl _ _ 22 rfl (w1.heap.size + 1) 37 i0 (.int .i32 0) 1 4 Try.underlying22 HInf.out.1 HInf.out.2.1 HInf.out.2.2.1 HInf.out.2.2.2 rfl (by decide) _ _ _ rfl (HR.out.2.2.2.2.1.alloc _) ⟨wr.heap.size, 0, none⟩ 1 1 [.int .i32 2147483647] rfl rfl (cell_one_new _ _ _) (by intro u hu; simp at hu; subst hu; rfl) (by decide) ?c3 ?c4 ?c5 _ rfl ?_)
              case c3 => unfold maxLen; omega
              case c4 => omega
              case c5 => have := HR.out.2.2.1; have := HR.out.2.1; simp; omega
              intro gg cp w3 hown hgrow _ _
              have HA := Lib.hid (HR.out.append 2147483647 (by rw [← HX.out]; rfl) 0 hown hgrow)
              obtain ⟨k1, k2, k3⟩ := HA.out.at
              clear hown hgrow
              have HN2 := Lib.hid (HA.out.store HR.out.2.2.2.2.2.1 (by rw [← HX.out]; exact .inl rfl) hp)
              go_wp2
              go_roundg (gk - 1)
              case measure => have h := HG.out; omega
              case rel => exact ⟨p + 1, _, by go_num, HN2.out, by have h := HG.out; show _ = _; omega⟩
            · have t1 : (x == 4611686018427387904) = false := by simpa [none62] using h1
              have H1 := Lib.hid h1
              clear h1
              by_cases h2 : x < -536870912
              · have d2 : decide (x < -536870912) = true := decide_eq_true h2
                have hall : ¬ allR n m' := fun ha => by have := allR_at ha (p := p) (by rw [← HN.out]; exact hp); rw [← HX.out] at this; rcases this with h | h; exact H1.out h; omega
                have hz : zoneP n (clUp m (n + 1)) = (none, 10) := by unfold zoneP; rw [HC.out]; simp only; rw [if_neg hall]
                have HZ := Lib.hid hz
                clear hz hall
                go_wp2
                go_ret2
                exact ⟨HBA.out.trans (HR.out.1.mono HlB), .pointer none, by rw [HZ.out]; rfl, by rw [HZ.out]; rfl⟩
              · have d2 : decide (x < -536870912) = false := decide_eq_false h2
                by_cases h3 : 536870913 < x
                · have d3 : decide (536870913 < x) = true := decide_eq_true h3
                  have hall : ¬ allR n m' := fun ha => by have := allR_at ha (p := p) (by rw [← HN.out]; exact hp); rw [← HX.out] at this; rcases this with h | h; exact H1.out h; omega
                  have hz : zoneP n (clUp m (n + 1)) = (none, 10) := by unfold zoneP; rw [HC.out]; simp only; rw [if_neg hall]
                  have HZ := Lib.hid hz
                  clear hz hall
                  go_wp2
                  go_ret2
                  exact ⟨HBA.out.trans (HR.out.1.mono HlB), .pointer none, by rw [HZ.out]; rfl, by rw [HZ.out]; rfl⟩
                · have d3 : decide (536870913 < x) = false := decide_eq_false h3
                  have hw : IntKind.i32.wrap x = x := by rw [IntKind.wrap_i32]; omega
                  have hne1 : wr.heap.size ≠ w1.heap.size := by have := HR.out.2.2.1; have := HR.out.2.1; omega
                  have hne2 : wr.heap.size ≠ g := by have := HR.out.2.2.1; have := HR.out.2.1; omega
                  have hpN : (p : Int) < (N : Int) := by omega
                  have hl1 : w1.heap.size < wr.heap.size := by have := HR.out.2.2.1; have := HR.out.2.1; omega
                  have hl2 : g < wr.heap.size := by omega
                  go_wp2_with fail
                  go_region_law (first | (refine step_append_lies _ rfl _ _ 22 rfl (w1.heap.size + 1) 37 i0 (.int .i32 0) 1 4 Try.underlying22 HInf.out.1 HInf.out.2.1 HInf.out.2.2.1 HInf.out.2.2.2 rfl (by decide) sv p (vals .i32 (narUp (flat n m') p)) rfl (by exact HR.out.2.2.2.2.1.alloc _) ⟨wr.heap.size, 0, none⟩ 1 1 [.int .i32 x] rfl rfl (by exact cell_one_new _ _ _) (by intro u hu; simp at hu; subst hu; rfl) (by decide) (by unfold maxLen; omega) (by omega) (by simp; omega) _ rfl ?_; intro gg cp w3 hown hgrow _ _; have HA := Lib.hid (HR.out.append x (by rw [← HX.out]; unfold nar; rw [if_neg H1.out]) 1 hown (by exact hgrow)); have k1 := HA.out.at.1; have k2 := HA.out.at.2.1; have k3 := HA.out.at.2.2; have k4 : w3.cell? ⟨g, p, none⟩ = some (.int .i64 x) := (by rw [HX.out]; exact (HMA.out.below HA.out.below hg1).cell p (by rw [flat_length, ← HN.out]; exact hp)); clear hown hgrow))
                  go_goals
                  all_goals
                    have HN2 := Lib.hid (HA.out.store HR.out.2.2.2.2.2.1 (by rw [← HX.out]; exact .inr (by omega)) hp)
                    go_wp2
                    go_roundg (gk - 1)
                    case measure => have h := HG.out; omega
                    case rel => exact ⟨p + 1, _, by go_num, HN2.out, by have h := HG.out; show _ = _; omega⟩
          · have e : p = N := by have := HR.out.2.2.2.2.2.2; omega
            subst e
            have hrow := HR.out.2.2.2.2.1
            obtain ⟨gg, cp, hv, hge, hlt⟩ := World.ownsRow.form hrow (by rw [HN.out]; exact Nat.mul_pos (by omega) (by omega))
            have hall : allR n m' := allR_flat fun q hq => HR.out.2.2.2.2.2.1 q (by rw [HN.out]; exact hq)
            have hz : zoneP n (clUp m (n + 1)) = (some (narM n m'), 0) := by unfold zoneP; rw [HC.out]; simp only; rw [if_pos hall]
            have HZ := Lib.hid hz
            have HV := Lib.hid hv
            have HA := Lib.hid hall
            clear hz hv hall hrow
            go_wp2
            go_ret2
            refine ⟨HBA.out.trans (HR.out.1.mono HlB), .pointer (some ⟨w1.heap.size, 0, none⟩), by rw [HZ.out]; rfl, ?_⟩
            rw [HZ.out]
            refine ⟨w1.heap.size, gg, cp, rfl, hn, narM_right HA.out, ?_, ?_⟩
            · have := HR.out.2.2.2.1
              rw [HV.out, HN.out] at this
              exact this
            · have h1 := HR.out.2.2.2.2.1
              rw [HV.out] at h1
              rw [HN.out, narUp_flat] at h1
              obtain ⟨_, h2⟩ := h1
              rcases h2 with ⟨h3, _⟩ | ⟨g2, cap2, cur, h3, _, h4, _, _, _, h5⟩
              · cases h3
              · simp only [Value.slice.injEq, Option.some.injEq, Addr.mk.injEq] at h3
                obtain ⟨⟨rfl, _⟩, _, rfl⟩ := h3
                exact ⟨cur, h4, by rw [flat_length]; simpa using h5⟩

end Go.Proofs.Ytgpmfnahjepjjaa
