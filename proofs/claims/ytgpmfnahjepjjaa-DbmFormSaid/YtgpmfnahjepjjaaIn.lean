/- inside of the statements' text: the least valuation is found, round by round. -/
import Derived.Test.YtgpmfnahjepjjaaLk
import Derived.Test.YtgpmfnahjepjjaaRs
import Derived.Test.YtgpmfnahjepjjaaMfm
namespace Go.Proofs.Ytgpmfnahjepjjaa
open Go Go.RowKit
set_option linter.unusedVariables false
set_option linter.unusedSimpArgs false

/-- A function's first numbers, as a list. -/
def lst (n : Nat) (f : Nat → Int) : List Int := (List.range (n + 1)).map f
theorem lst_length (n : Nat) (f : Nat → Int) : (lst n f).length = n + 1 := by simp [lst]
theorem lst_getD (n : Nat) (f : Nat → Int) (i : Nat) (h : i < n + 1) : (lst n f).getD i 0 = f i := by simp [lst, List.getD_eq_getElem?_getD, h]
theorem lst_set (n : Nat) (f : Nat → Int) (j : Nat) (h : j < n + 1) (x : Int) : (lst n f).set j x = lst n (fun a => if a = j then x else f a) :=
  list_ext0 (by simp [lst_length]) fun q hq => by
    rw [List.length_set, lst_length] at hq
    rw [lst_getD _ _ _ hq, List.getD_eq_getElem?_getD, List.getElem?_set]
    by_cases e : j = q
    · subst e
      rw [if_pos rfl, if_pos (by rw [lst_length]; exact h), if_pos rfl]; rfl
    · rw [if_neg e, ← List.getD_eq_getElem?_getD, lst_getD _ _ _ hq, if_neg (fun h => e h.symm)]
/-- The wide cells of a row of bounds. -/
def widC (n : Nat) (cells : List Int) : Mat := fun i j => wid (cells.getD (i * (n + 1) + j) 0)
/-- The state is a valuation within bounds, in a block of the call's own. -/
def InR (w0 : World) (n : Nat) (f : Nat → Int) (wr : World) : Prop := Below w0.heap.size w0 wr ∧ RowAt wr w0.heap.size 2 .i64 (lst n f)
def InEnds (w : World) (n : Nat) (f : Nat → Int) (e : Ending) (w' : World) : Prop := ∃ cap, e = .returned (.slice (some ⟨w.heap.size, 0, none⟩) (n + 1) cap) ∧ InR w n f w'
theorem insS_same {g : Int} {m : Mat} {v : Nat → Int} {i j : Nat} (h : ¬ (m i j ≠ none62 ∧ v j < v i - (m i j / 2 * g - (1 - m i j % 2)))) : insS g m v i j = v := if_neg h
theorem insS_set {g : Int} {m : Mat} {v : Nat → Int} {i j : Nat} (h : m i j ≠ none62 ∧ v j < v i - (m i j / 2 * g - (1 - m i j % 2))) : insS g m v i j = fun a => if a = j then v i - (m i j / 2 * g - (1 - m i j % 2)) else v a := if_pos h

set_option maxRecDepth 100000 in
set_option maxHeartbeats 4000000 in
theorem inside_any (n : Nat) (A : Option Addr) (c : Nat) (cells : List Int) (u : Nat → Int) (w : World) (hn : n ≤ 8) (hI : Ints w .i32 A cells) (hl : cells.length = (n + 1) * (n + 1))
    (hr : ∀ q, q < (n + 1) * (n + 1) → rightB (cells.getD q 0) = true) (hu : Sol n ((n : Int) + 1) (widC n cells) u) (hub : ∀ a, a ≤ n → u a ≤ 137438953472) :
    Calls Try.prog 34 #[.int .i64 n, .slice A ((n + 1) * (n + 1)) c] w (InEnds w n (insR n ((n : Int) + 1) (widC n cells) (n + 2))) := by
  have HI := Lib.hid hI
  have HL := Lib.hid hl
  have HR := Lib.hid hr
  have HU := Lib.hid hu
  have HUB := Lib.hid hub
  obtain ⟨N, hN⟩ : ∃ N : Nat, N = (n + 1) * (n + 1) := ⟨_, rfl⟩
  have hN81 : N ≤ 81 := by
    have := Nat.mul_le_mul (show n + 1 ≤ 9 by omega) (show n + 1 ≤ 9 by omega)
    omega
  rw [← hN]
  have HN := Lib.hid hN
  have hmk := run_make_row' (P := Try.prog) 56 2 (.int .i64 0) 8 Try.underlying56 infoI rfl .i64 .i64 (n + 1) (by omega) (by omega)
  have hcast : ((n + 1 : Nat) : Int) = (n : Int) + 1 := by omega
  rw [hcast] at hmk
  have HS := Lib.hid (show InR w n (insR n ((n : Int) + 1) (widC n cells) 0) (w.alloc (.cells (madeCells #[.int .i64 0] (n + 1)) 2)) from ⟨(Below.refl _ _).alloc (Nat.le_refl _) _, made_row w _ _ (n + 1) _ (lst_length _ _) (fun p hp => by rw [lst_getD _ _ _ hp]; rfl)⟩)
  clear hI hl hr hu hub hN hcast
  go_enter Try.func34, Try.ntmps34
  go_wp2
  generalize w.alloc (.cells (madeCells #[.int .i64 0] (n + 1)) 2) = w1 at *
  clear hmk
  go_loopg [7] (n + 2) (fun q x wr => ∃ r : Nat, x = .int .i64 r ∧ InR w n (insR n ((n : Int) + 1) (widC n cells) r) wr ∧ Hid (q + r = n + 2))
  case atStart => exact ⟨0, by simp, HS.out, by show _ = _; omega⟩
  case round =>
    clear HS
    obtain ⟨r, rfl, H, HC⟩ := hrel
    have H0 := Lib.hid H
    clear H
    have hr10 : r ≤ 10 := by have := HC.out; omega
    by_cases hr : r ≤ n + 1
    · have hri : (r : Int) ≤ (n : Int) + 1 := by omega
      have hle0 := Lib.hid (insR_le HU.out r)
      have hge0 := Lib.hid (insR_pos n ((n : Int) + 1) (widC n cells) r)
      obtain ⟨v0, hv0⟩ : ∃ v0, v0 = insR n ((n : Int) + 1) (widC n cells) r := ⟨_, rfl⟩
      rw [← hv0] at H0 hle0 hge0
      have HV0 := Lib.hid hv0
      have H1 := Lib.hid (show InR w n (insI n ((n : Int) + 1) (widC n cells) v0 0) wr from H0.out)
      clear hv0 H0
      go_wp2
      go_loopg [8] (n + 1) (fun q x wr => ∃ i : Nat, x = .int .i64 i ∧ InR w n (insI n ((n : Int) + 1) (widC n cells) v0 i) wr ∧ Hid (q + i = n + 1))
      case atStart => exact ⟨0, by simp, H1.out, by show _ = _; omega⟩
      case round =>
        clear H1
        obtain ⟨i, rfl, H, HC2⟩ := hrel
        have H2 := Lib.hid H
        clear H
        by_cases hi : i ≤ n
        · have hii : (i : Int) ≤ (n : Int) := by omega
          have hle1 := Lib.hid (insI_le HU.out hle0.out i (by omega))
          have hge1 := Lib.hid (fun a => Int.le_trans (hge0.out a) (by have := insI_ge n ((n : Int) + 1) (widC n cells) v0 a 0 i; rw [Nat.zero_add] at this; exact this))
          obtain ⟨v1, hv1⟩ : ∃ v1, v1 = insI n ((n : Int) + 1) (widC n cells) v0 i := ⟨_, rfl⟩
          rw [← hv1] at H2 hle1 hge1
          have HV1 := Lib.hid hv1
          have H3 := Lib.hid (show InR w n (insJ ((n : Int) + 1) (widC n cells) v1 i 0) wr from H2.out)
          clear hv1 H2
          go_wp2
          go_loopg [9] (n + 1) (fun q x wr => ∃ j : Nat, x = .int .i64 j ∧ InR w n (insJ ((n : Int) + 1) (widC n cells) v1 i j) wr ∧ Hid (q + j = n + 1))
          case atStart => exact ⟨0, by simp, H3.out, by show _ = _; omega⟩
          case round =>
            clear H3
            obtain ⟨j, rfl, H, HC3⟩ := hrel
            have H4 := Lib.hid H
            clear H
            by_cases hj : j ≤ n
            · have hjj : (j : Int) ≤ (n : Int) := by omega
              have hle2 := insJ_le HU.out hle1.out hi j (by omega)
              have hge2 : ∀ a, 0 ≤ insJ ((n : Int) + 1) (widC n cells) v1 i j a := fun a => Int.le_trans (hge1.out a) (by have := insJ_ge ((n : Int) + 1) (widC n cells) v1 i a 0 j; rw [Nat.zero_add] at this; exact this)
              have hstep : insJ ((n : Int) + 1) (widC n cells) v1 i (j + 1) = insS ((n : Int) + 1) (widC n cells) (insJ ((n : Int) + 1) (widC n cells) v1 i j) i j := rfl
              obtain ⟨v2, hv2⟩ : ∃ v2, v2 = insJ ((n : Int) + 1) (widC n cells) v1 i j := ⟨_, rfl⟩
              rw [← hv2] at H4 hle2 hge2 hstep
              have HST := Lib.hid hstep
              have hvi := hge2 i
              have hvi' := Int.le_trans (hle2 i hi) (HUB.out i hi)
              have hvj := hge2 j
              have hvj' := Int.le_trans (hle2 j hj) (HUB.out j hj)
              clear hstep hv2 hle2 hge2
              obtain ⟨P, hP, hP1, hP2, hP3⟩ := prod_facts i n hi hn
              have hPN : P + n < N := by have := HN.out; omega
              obtain ⟨b1, o1, e1, c1⟩ := HI.out.below H4.out.1 (P + j) (by rw [HL.out, ← HN.out]; omega)
              have hrx := HR.out (P + j) (by rw [← HN.out]; omega)
              obtain ⟨x, hx⟩ : ∃ x, x = cells.getD (P + j) 0 := ⟨_, rfl⟩
              rw [← hx] at c1 hrx
              have HX := Lib.hid (show widC n cells i j = wid x by unfold widC; rw [← hP2, hx])
              have c2 := H4.out.2.cell i (by rw [lst_length]; omega)
              rw [lst_getD _ _ _ (by omega)] at c2
              have c3 := H4.out.2.cell j (by rw [lst_length]; omega)
              rw [lst_getD _ _ _ (by omega)] at c3
              have f3 := H4.out.2.frozen j
              subst e1
              have g1 : IntKind.i64.wrap ((n : Int) + 1) = (n : Int) + 1 := IntWalk.i64_in _ (by omega)
              have g2 : IntKind.i64.wrap (P : Int) = (P : Int) := IntWalk.i64_in _ (by omega)
              have g3 : IntKind.i64.wrap ((P : Int) + (j : Int)) = (P : Int) + (j : Int) := IntWalk.i64_in _ (by omega)
              have l1 : (P : Int) + (j : Int) < (N : Int) := by omega
              have l3 : 0 ≤ (P : Int) + (j : Int) := by omega
              have l4 : (i : Int) < (n : Int) + 1 := by omega
              have l5 : (j : Int) < (n : Int) + 1 := by omega
              have n1 : ((P : Int) + (j : Int)).toNat = P + j := by omega
              clear hx hP2 hP3
              by_cases hinf : x = 2147483647
              · have hsame : insJ ((n : Int) + 1) (widC n cells) v1 i (j + 1) = v2 := by
                  rw [HST.out]
                  refine insS_same fun h => h.1 ?_
                  rw [HX.out]; unfold wid; rw [if_pos hinf]
                have HSM := Lib.hid (show InR w n (insJ ((n : Int) + 1) (widC n cells) v1 i (j + 1)) wr from by rw [hsame]; exact H4.out)
                have HV := Lib.hid (fun w => rvalue_no x w (by simp [someB, hinf]) (by omega) (by omega))
                clear hinf hsame hrx
                go_wp2_with (go_at_call 55; refine (HV.out _).mono ?_; rintro e w' ⟨rfl, rfl⟩)
                go_roundg (gk - 1)
                case measure => have h := HC3.out; omega
                case rel => exact ⟨j + 1, by go_num, HSM.out, by have h := HC3.out; show _ = _; omega⟩
              · have hbd := rightB_bd hrx hinf
                have hso : someB x = true := by simp [someB, hrx, hinf]
                have HV := Lib.hid (fun w => rvalue_yes x w hso)
                have hwx : wid x = x := by unfold wid; rw [if_neg hinf]
                have hnn : x ≠ none62 := by unfold none62; omega
                obtain ⟨q, hq⟩ : ∃ q, q = x / 2 := ⟨_, rfl⟩
                obtain ⟨r2, hr2⟩ : ∃ r2, r2 = x % 2 := ⟨_, rfl⟩
                have hr01 : r2 = 0 ∨ r2 = 1 := by omega
                have hq0 : -268435456 ≤ q := by omega
                have hq1 : q ≤ 268435456 := by omega
                have hm1 : q * ((n : Int) + 1) ≤ 268435456 * 9 := by
                  rcases (show 0 ≤ q ∨ q ≤ 0 by omega) with h | h
                  · exact Int.mul_le_mul (by omega) (by omega) (by omega) (by omega)
                  · have := Int.mul_le_mul_of_nonneg_right (a := q) (b := 0) (c := (n : Int) + 1) h (by omega)
                    omega
                have hm2 : -(268435456 * 9) ≤ q * ((n : Int) + 1) := by
                  have h1 : -268435456 * ((n : Int) + 1) ≤ q * ((n : Int) + 1) := Int.mul_le_mul_of_nonneg_right hq0 (by omega)
                  omega
                obtain ⟨T, hT⟩ : ∃ T, T = q * ((n : Int) + 1) := ⟨_, rfl⟩
                have HSS := Lib.hid (insS_same (g := (n : Int) + 1) (m := widC n cells) (v := v2) (i := i) (j := j))
                have HSE := Lib.hid (insS_set (g := (n : Int) + 1) (m := widC n cells) (v := v2) (i := i) (j := j))
                rw [HX.out, hwx, ← hq, ← hr2, ← hT] at HSS HSE
                rw [← hq, ← hr2] at HV
                rw [← hT] at hm1 hm2
                have HNN := Lib.hid hnn
                have hTr : q * ((n : Int) + 1) = T := hT.symm
                clear hinf hbd hso hwx hnn hq hr2 hrx hT
                obtain ⟨y, hy⟩ : ∃ y, y = v2 i := ⟨_, rfl⟩
                obtain ⟨z, hz⟩ : ∃ z, z = v2 j := ⟨_, rfl⟩
                rw [← hy] at c2 hvi hvi' HSS HSE
                rw [← hz] at c3 hvj hvj' HSS HSE
                clear hy hz
                rcases hr01 with rfl | rfl
                · have e1 : decide ((0 : Int) = 1) = false := rfl
                  rw [e1] at HV
                  clear e1
                  have g5 : IntKind.i64.wrap (y - (T - 1)) = y - (T - 1) := IntWalk.i64_in _ (by omega)
                  by_cases hlt : z < y - (T - 1)
                  · have t1 : decide (z < y - (T - 1)) = true := decide_eq_true hlt
                    have hset := HSE.out ⟨HNN.out, by omega⟩
                    have HSM := Lib.hid (fun k => show InR w n (insJ ((n : Int) + 1) (widC n cells) v1 i (j + 1)) ((wr.drewN k).setCell ⟨w.heap.size, j, none⟩ (.int .i64 (y - (T - 1)))) from by
                      refine ⟨(belowN H4.out.1 k).setCell (Nat.le_refl _) _, ?_⟩
                      have := (H4.out.2.drewN k).set j (y - (T - 1))
                      rw [lst_set _ _ _ (by omega)] at this
                      rw [HST.out, hset, show y - (T - (1 - 0)) = y - (T - 1) by omega]
                      exact this)
                    clear hset hlt
                    go_wp2_with (go_at_call 55; refine (HV.out _).mono ?_; rintro e w' ⟨rfl, rfl⟩)
                    go_quiet (fail)
                    go_wp2
                    go_roundg (gk - 1)
                    case measure => have h := HC3.out; omega
                    case rel => exact ⟨j + 1, by go_num, HSM.out _, by have h := HC3.out; show _ = _; omega⟩
                  · have t1 : decide (z < y - (T - 1)) = false := decide_eq_false hlt
                    have hset := HSS.out (fun h => by have := h.2; omega)
                    have HSM := Lib.hid (fun k => show InR w n (insJ ((n : Int) + 1) (widC n cells) v1 i (j + 1)) (wr.drewN k) from by
                      rw [HST.out, hset]
                      exact ⟨belowN H4.out.1 k, H4.out.2.drewN k⟩)
                    clear hset hlt
                    go_wp2_with (go_at_call 55; refine (HV.out _).mono ?_; rintro e w' ⟨rfl, rfl⟩)
                    go_quiet (fail)
                    go_wp2
                    go_roundg (gk - 1)
                    case measure => have h := HC3.out; omega
                    case rel => exact ⟨j + 1, by go_num, HSM.out _, by have h := HC3.out; show _ = _; omega⟩
                · have e1 : decide ((1 : Int) = 1) = true := rfl
                  rw [e1] at HV
                  clear e1
                  have g5 : IntKind.i64.wrap (y - T) = y - T := IntWalk.i64_in _ (by omega)
                  by_cases hlt : z < y - T
                  · have t1 : decide (z < y - T) = true := decide_eq_true hlt
                    have hset := HSE.out ⟨HNN.out, by omega⟩
                    have HSM := Lib.hid (fun k => show InR w n (insJ ((n : Int) + 1) (widC n cells) v1 i (j + 1)) ((wr.drewN k).setCell ⟨w.heap.size, j, none⟩ (.int .i64 (y - T))) from by
                      refine ⟨(belowN H4.out.1 k).setCell (Nat.le_refl _) _, ?_⟩
                      have := (H4.out.2.drewN k).set j (y - T)
                      rw [lst_set _ _ _ (by omega)] at this
                      rw [HST.out, hset, show y - (T - (1 - 1)) = y - T by omega]
                      exact this)
                    clear hset hlt
                    go_wp2_with (go_at_call 55; refine (HV.out _).mono ?_; rintro e w' ⟨rfl, rfl⟩)
                    go_quiet (fail)
                    go_wp2
                    go_roundg (gk - 1)
                    case measure => have h := HC3.out; omega
                    case rel => exact ⟨j + 1, by go_num, HSM.out _, by have h := HC3.out; show _ = _; omega⟩
                  · have t1 : decide (z < y - T) = false := decide_eq_false hlt
                    have hset := HSS.out (fun h => by have := h.2; omega)
                    have HSM := Lib.hid (fun k => show InR w n (insJ ((n : Int) + 1) (widC n cells) v1 i (j + 1)) (wr.drewN k) from by
                      rw [HST.out, hset]
                      exact ⟨belowN H4.out.1 k, H4.out.2.drewN k⟩)
                    clear hset hlt
                    go_wp2_with (go_at_call 55; refine (HV.out _).mono ?_; rintro e w' ⟨rfl, rfl⟩)
                    go_quiet (fail)
                    go_wp2
                    go_roundg (gk - 1)
                    case measure => have h := HC3.out; omega
                    case rel => exact ⟨j + 1, by go_num, HSM.out _, by have h := HC3.out; show _ = _; omega⟩
            · have hjj : ¬ (j : Int) ≤ (n : Int) := by omega
              have e : j = n + 1 := by have := HC3.out; omega
              have HSM := Lib.hid (show InR w n (insI n ((n : Int) + 1) (widC n cells) v0 (i + 1)) wr from by
                have := H4.out
                rw [e, HV1.out] at this
                exact this)
              clear e
              go_wp2
              go_roundg (n - i)
              case measure => have h := HC2.out; omega
              case rel => exact ⟨i + 1, by go_num, HSM.out, by show _ = _; omega⟩
        · have hii : ¬ (i : Int) ≤ (n : Int) := by omega
          have e : i = n + 1 := by have := HC2.out; omega
          have HSM := Lib.hid (show InR w n (insR n ((n : Int) + 1) (widC n cells) (r + 1)) wr from by
            have := H2.out
            rw [e, HV0.out] at this
            exact this)
          clear e
          go_wp2
          go_roundg (n + 1 - r)
          case measure => have h := HC.out; omega
          case rel => exact ⟨r + 1, by go_num, HSM.out, by show _ = _; omega⟩
    · have hri : ¬ (r : Int) ≤ (n : Int) + 1 := by omega
      have e : r = n + 2 := by have := HC.out; omega
      have HE := Lib.hid (show InR w n (insR n ((n : Int) + 1) (widC n cells) (n + 2)) wr from by have := H0.out; rw [e] at this; exact this)
      clear e H0
      go_wp2
      go_ret
      exact ⟨_, rfl, HE.out⟩

end Go.Proofs.Ytgpmfnahjepjjaa
