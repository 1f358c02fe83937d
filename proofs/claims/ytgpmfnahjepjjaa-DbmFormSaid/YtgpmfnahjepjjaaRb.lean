/- The document's close over a row of wide bounds: the same closed form. -/
import Derived.Test.YtgpmfnahjepjjaaRa
namespace Go.Proofs.Ytgpmfnahjepjjaa
open Go Go.RowKit
set_option linter.unusedVariables false
set_option linter.unusedSimpArgs false

/-- The row is cur; nothing else was touched. -/
def RAt (w0 : World) (g n : Nat) (cur : Mat) (wr : World) : Prop := Only g w0 wr ∧ RowAt wr g 2 .i64 (flat n cur)
theorem RAt.step {w0 wr : World} {g n : Nat} {cur : Mat} (h : RAt w0 g n cur wr) {i j : Nat} (hi : i < n + 1) (hj : j < n + 1) (v : Int) (p : Nat) (hp : p = i * (n + 1) + j) :
    RAt w0 g n (upd cur i j v) (wr.setCell ⟨g, p, none⟩ (.int .i64 v)) := by
  subst hp
  refine ⟨h.1.setCell _ _, ?_⟩
  rw [← flat_upd cur hi hj v]
  exact h.2.set _ _
theorem RAt.cell {w0 wr : World} {g n : Nat} {cur : Mat} (h : RAt w0 g n cur wr) {i j : Nat} (hi : i < n + 1) (hj : j < n + 1) (p : Nat) (hp : p = i * (n + 1) + j) :
    wr.cell? ⟨g, p, none⟩ = some (.int .i64 (cur i j)) := by
  subst hp
  have := h.2.cell (i * (n + 1) + j) (by rw [flat_length]; exact at_lt hi hj)
  rwa [flat_at cur hi hj] at this
theorem RAt.drewN {w0 wr : World} {g n : Nat} {cur : Mat} (h : RAt w0 g n cur wr) (q : Nat) : RAt w0 g n cur (wr.drewN q) := ⟨h.1.drewN q, h.2⟩

def ROuter (w0 : World) (b n : Nat) (m0 : Mat) (g k : Nat) (m : Mat) (wr : World) : Prop := RAt w0 b n m wr ∧ RoundOk n m0 k m ∧ g + k = n + 1
def RMid (w0 : World) (b n : Nat) (m : Mat) (k g i : Nat) (cur : Mat) (wr : World) : Prop :=
  RAt w0 b n cur wr ∧ RefOk n (1073741824 * 4 ^ k) m k i 0 cur ∧ i ≤ n + 1 ∧ g + i = n + 1
def RInn (w0 : World) (b n : Nat) (m : Mat) (k i g j : Nat) (cur : Mat) (wr : World) : Prop :=
  RAt w0 b n cur wr ∧ RefOk n (1073741824 * 4 ^ k) m k i j cur ∧ j ≤ n + 1 ∧ g + j = n + 1
def RTest (w0 : World) (b n : Nat) (m : Mat) (k g i : Nat) (cur : Mat) (wr : World) : Prop :=
  RAt w0 b n cur wr ∧ RefOk n (1073741824 * 4 ^ k) m k (n + 1) 0 cur ∧ (∀ a, a < i → 1 ≤ cur a a) ∧ i ≤ n + 1 ∧ g + i = n + 1

theorem RInn.bounds {w0 wr : World} {b n : Nat} {m m0 cur : Mat} {k i g j : Nat} (h : RInn w0 b n m k i g j cur wr) (hr : RoundOk n m0 k m) (hn : n ≤ 8) (hk : k ≤ n) {a c : Nat} (ha : a ≤ n) (hc : c ≤ n) :
    Bd 1152921504606846976 (cur a c) := by
  have h4 := pow2_le (show k ≤ 9 by omega)
  have h1 := one_le_pow2 k
  exact (h.2.1.bounds hr.fit (by omega) hk ha hc).mono (by omega)
theorem RInn.stepTo {w0 wr : World} {b n : Nat} {m m0 cur : Mat} {k i g j : Nat} (h : RInn w0 b n m k i g j cur wr) (hr : RoundOk n m0 k m) (hk : k ≤ n) (hi : i ≤ n) (hj : j ≤ n) (hlt : wsum (cur i k) (cur k j) < cur i j) (p : Nat) (hp : p = i * (n + 1) + j) :
    RInn w0 b n m k i (g - 1) (j + 1) (upd cur i j (wsum (cur i k) (cur k j))) (wr.setCell ⟨b, p, none⟩ (.int .i64 (wsum (cur i k) (cur k j)))) := by
  have h1 := one_le_pow2 k
  have hs := h.2.1.step hr.fit (by omega) hk hi hj
  rw [show min (cur i j) (wsum (cur i k) (cur k j)) = wsum (cur i k) (cur k j) by rw [Int.min_def, if_neg (by omega)]] at hs
  have := h.2.2.2
  exact ⟨h.1.step (by omega) (by omega) _ p hp, hs, by omega, by omega⟩
theorem RInn.stepSame {w0 wr : World} {b n : Nat} {m m0 cur : Mat} {k i g j : Nat} (h : RInn w0 b n m k i g j cur wr) (hr : RoundOk n m0 k m) (hk : k ≤ n) (hi : i ≤ n) (hj : j ≤ n) (hlt : ¬ wsum (cur i k) (cur k j) < cur i j) :
    RInn w0 b n m k i (g - 1) (j + 1) cur wr := by
  have h1 := one_le_pow2 k
  have hs := h.2.1.step hr.fit (by omega) hk hi hj
  have e : upd cur i j (min (cur i j) (wsum (cur i k) (cur k j))) = cur := by
    rw [show min (cur i j) (wsum (cur i k) (cur k j)) = cur i j by rw [Int.min_def, if_pos (by omega)]]
    funext a c; simp only [upd]; split
    · rename_i h; rw [h.1, h.2]
    · rfl
  rw [e] at hs
  have := h.2.2.2
  exact ⟨h.1, hs, by omega, by omega⟩
theorem RInn.drewN {w0 wr : World} {b n : Nat} {m cur : Mat} {k i g j : Nat} (h : RInn w0 b n m k i g j cur wr) (q : Nat) : RInn w0 b n m k i g j cur (wr.drewN q) := ⟨h.1.drewN q, h.2⟩

def RCloseEnds (w0 : World) (g n : Nat) (m0 : Mat) (e : Ending) (w' : World) : Prop :=
  Only g w0 w' ∧ ((closed n m0 = none ∧ e = .returned (.bool false)) ∨ ∃ m', closed n m0 = some m' ∧ e = .returned (.bool true) ∧ RowAt w' g 2 .i64 (flat n m'))

theorem prod_facts (i n : Nat) (hi : i ≤ n) (hn : n ≤ 8) : ∃ P : Nat, (i : Int) * ((n : Int) + 1) = (P : Int) ∧ P ≤ 72 ∧ P = i * (n + 1) ∧ P + n < (n + 1) * (n + 1) := by
  refine ⟨i * (n + 1), by simp, ?_, rfl, at_lt (by omega) (by omega)⟩
  have := Nat.mul_le_mul (show i ≤ 8 by omega) (show n + 1 ≤ 9 by omega)
  omega

set_option maxRecDepth 100000 in
set_option maxHeartbeats 2000000 in
theorem rclose_any (g n N cap : Nat) (m0 : Mat) (w : World) (hn : n ≤ 8) (hN : N = (n + 1) * (n + 1)) (h : RowAt w g 2 .i64 (flat n m0)) (hf : Fit n 1073741824 m0) :
    Calls Try.prog 63 #[.int .i64 n, .slice (some ⟨g, 0, none⟩) N cap] w (RCloseEnds w g n m0) := by
  have H0 := Lib.hid (show ROuter w g n m0 (n + 1) 0 m0 w from ⟨⟨Only.refl _ _, h⟩, RoundOk.start hf, by omega⟩)
  have HN := Lib.hid hN
  have hN81 : N ≤ 81 := by
    have := Nat.mul_le_mul (show n + 1 ≤ 9 by omega) (show n + 1 ≤ 9 by omega)
    omega
  clear h hf hN
  go_enter Try.func63, Try.ntmps63
  go_wp2
  go_loopg [5] (n + 1) (fun q v wr => ∃ k : Nat, ∃ m, v = .int .i64 k ∧ ROuter w g n m0 q k m wr)
  case atStart => exact ⟨0, m0, by simp, H0.out⟩
  case round =>
    clear H0
    obtain ⟨k, m, rfl, H⟩ := hrel
    have HK := Lib.hid H
    clear H
    by_cases hk : k ≤ n
    · have hkk : (k : Int) ≤ (n : Int) := by omega
      have H1 := Lib.hid (show RMid w g n m k (n + 1) 0 m wr from ⟨HK.out.1, HK.out.2.1.ref (by omega), by omega, by omega⟩)
      go_wp2
      go_loopg [6] (n + 1) (fun q v wr => ∃ i : Nat, ∃ cur, v = .int .i64 i ∧ RMid w g n m k q i cur wr)
      case atStart => exact ⟨0, m, by simp, H1.out⟩
      case round =>
        clear H1
        obtain ⟨i, cur, rfl, H⟩ := hrel
        have HI := Lib.hid H
        clear H
        by_cases hi : i ≤ n
        · have hii : (i : Int) ≤ (n : Int) := by omega
          have H1 := Lib.hid (show RInn w g n m k i (n + 1) 0 cur wr from ⟨HI.out.1, HI.out.2.1, by omega, by omega⟩)
          go_wp2
          go_loopg [7] (n + 1) (fun q v wr => ∃ j : Nat, ∃ cur, v = .int .i64 j ∧ RInn w g n m k i q j cur wr)
          case atStart => exact ⟨0, cur, by simp, H1.out⟩
          case round =>
            clear H1
            obtain ⟨j, cur, rfl, H⟩ := hrel
            have HJ := Lib.hid H
            clear H
            by_cases hj : j ≤ n
            · have hjj : (j : Int) ≤ (n : Int) := by omega
              obtain ⟨P, hP, hP1, hP2, hP3⟩ := prod_facts i n hi hn
              obtain ⟨Q, hQ, hQ1, hQ2, hQ3⟩ := prod_facts k n hk hn
              have hPN : P + n < N := by have := HN.out; omega
              have hQN : Q + n < N := by have := HN.out; omega
              have c1 := HJ.out.1.cell (i := i) (j := k) (by omega) (by omega) (P + k) (by omega)
              have c2 := HJ.out.1.cell (i := k) (j := j) (by omega) (by omega) (Q + j) (by omega)
              have c3 := HJ.out.1.cell (i := i) (j := j) (by omega) (by omega) (P + j) (by omega)
              have f1 := HJ.out.1.2.frozen (P + j)
              have HP2 := Lib.hid hP2
              have HQ2 := Lib.hid hQ2
              clear hP2 hQ2 hP3 hQ3
              have HB1 := Lib.hid (HJ.out.bounds HK.out.2.1 hn hk hi hk)
              have HB2 := Lib.hid (HJ.out.bounds HK.out.2.1 hn hk hk hj)
              have g1 : IntKind.i64.wrap ((n : Int) + 1) = (n : Int) + 1 := IntWalk.i64_in _ (by omega)
              have g2 : IntKind.i64.wrap (P : Int) = (P : Int) := IntWalk.i64_in _ (by omega)
              have g3 : IntKind.i64.wrap ((P : Int) + (k : Int)) = (P : Int) + (k : Int) := IntWalk.i64_in _ (by omega)
              have g4 : IntKind.i64.wrap (Q : Int) = (Q : Int) := IntWalk.i64_in _ (by omega)
              have g5 : IntKind.i64.wrap ((Q : Int) + (j : Int)) = (Q : Int) + (j : Int) := IntWalk.i64_in _ (by omega)
              have l1 : (P : Int) + (k : Int) < (N : Int) := by omega
              have l2 : (Q : Int) + (j : Int) < (N : Int) := by omega
              have l3 : 0 ≤ (P : Int) + (k : Int) := by omega
              have l4 : 0 ≤ (Q : Int) + (j : Int) := by omega
              have n1 : ((P : Int) + (k : Int)).toNat = P + k := by omega
              have n2 : ((Q : Int) + (j : Int)).toNat = Q + j := by omega
              go_wp2_with fail
              go_quiet ((go_at_call 70; exact Calls.quiet_of_same (plus_still _ _ _ (by exact HB1.out) (by exact HB2.out))))
              have HQ := Lib.hid (HJ.out.drewN nq)
              clear g1 g2 g3 g4 g5 n1 n2
              by_cases hlt : wsum (cur i k) (cur k j) < cur i j
              · have HS := Lib.hid (HQ.out.stepTo HK.out.2.1 hk hi hj hlt (P + j) (by rw [HP2.out]))
                go_wp2
                go_roundg (gk - 1)
                case measure => have h := HJ.out.2.2.2; omega
                case rel => exact ⟨j + 1, _, by go_num, HS.out⟩
              · have HS := Lib.hid (HQ.out.stepSame HK.out.2.1 hk hi hj hlt)
                go_wp2
                go_roundg (gk - 1)
                case measure => have h := HJ.out.2.2.2; omega
                case rel => exact ⟨j + 1, _, by go_num, HS.out⟩
            · have hjj : ¬ (j : Int) ≤ (n : Int) := by omega
              have e : j = n + 1 := by have := HJ.out.2.2.1; omega
              have HS := Lib.hid (show RMid w g n m k (n - i) (i + 1) cur wr from ⟨HJ.out.1, (by have := HJ.out.2.1; rw [e] at this; exact this.row), by omega, by omega⟩)
              clear e
              go_wp2
              go_roundg (n - i)
              case measure => have h := HI.out.2.2.2; omega
              case rel => exact ⟨i + 1, _, by go_num, HS.out⟩
        · have hii : ¬ (i : Int) ≤ (n : Int) := by omega
          have e : i = n + 1 := by have := HI.out.2.2.1; omega
          have H1 := Lib.hid (show RTest w g n m k (n + 1) 0 cur wr from ⟨HI.out.1, (by have := HI.out.2.1; rw [e] at this; exact this), fun a ha => by omega, by omega, by omega⟩)
          clear e
          go_wp2
          go_loopg [9] (n + 1) (fun q v wr => ∃ i : Nat, v = .int .i64 i ∧ RTest w g n m k q i cur wr)
          case atStart => exact ⟨0, by simp, H1.out⟩
          case round =>
            clear H1
            obtain ⟨a, rfl, H⟩ := hrel
            have HT := Lib.hid H
            clear H
            by_cases ha : a ≤ n
            · have haa : (a : Int) ≤ (n : Int) := by omega
              obtain ⟨P, hP, hP1, hP2, hP3⟩ := prod_facts a n ha hn
              have hPN : P + n < N := by have := HN.out; omega
              have c1 := HT.out.1.cell (i := a) (j := a) (by omega) (by omega) (P + a) (by omega)
              clear hP2 hP3
              by_cases hd : cur a a < 1
              · go_wp2
                go_ret
                exact ⟨HT.out.1.1, .inl ⟨RefOk.fail HK.out.2.1 hk HT.out.2.1 ha hd, rfl⟩⟩
              · have HD := Lib.hid hd
                go_wp2
                go_roundg (gk - 1)
                case measure => have h := HT.out.2.2.2.2; omega
                case rel =>
                  refine ⟨a + 1, by go_num, HT.out.1, HT.out.2.1, fun b hb => ?_, by omega, by have h := HT.out.2.2.2.2; omega⟩
                  by_cases e : b = a
                  · subst e; have h := HD.out; omega
                  · exact HT.out.2.2.1 b (by omega)
            · have haa : ¬ (a : Int) ≤ (n : Int) := by omega
              have HS := Lib.hid (show ROuter w g n m0 (n - k) (k + 1) cur wr from ⟨HT.out.1, RefOk.next HK.out.2.1 hk HT.out.2.1 (fun i hi => HT.out.2.2.1 i (by omega)), by omega⟩)
              go_wp2
              go_roundg (n - k)
              case measure => have h := HK.out.2.2; omega
              case rel => exact ⟨k + 1, _, by go_num, HS.out⟩
    · have hkk : ¬ (k : Int) ≤ (n : Int) := by omega
      go_wp2
      go_ret
      have e : k = n + 1 := by have := HK.out.2.1.le; omega
      have hd := HK.out.2.1
      rw [e] at hd
      exact ⟨HK.out.1.1, .inr ⟨m, hd.done, rfl, HK.out.1.2⟩⟩

end Go.Proofs.Ytgpmfnahjepjjaa
