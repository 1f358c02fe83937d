/- Texts of ours, laid together: Rb, Rc, Rd, Re, Mab, Rf, Ap, Mcl, Msm. -/
import Derived.Deep.AppendLies
import Derived.Deep.RegionLaw
import Derived.Deep.OwnRows
import Derived.Deep.RegionHeld3
import Derived.WalkKit
import Derived.Test.YtidcnlecgcobmaaDoorMg1
/- The document's close over a row of wide bounds: the same closed form. -/
namespace Go.Proofs.YtidcnlecgcobmaaDoor
open Go Go.RowKit
set_option linter.unusedVariables false
set_option linter.unusedSimpArgs false

/-- The row is cur; nothing else was touched. -/
def RAt (w0 : World) (g n : Nat) (cur : Mat) (wr : World) : Prop := Only g w0 wr ∧ RowAt wr g 2 .i64 (flat n cur)
theorem RAt.step {w0 wr : World} {g n : Nat} {cur : Mat} (h : RAt w0 g n cur wr) {i j : Nat} (hi : i < n + 1) (hj : j < n + 1) (v : Int) (p : Nat) (hp : p = i * (n + 1) + j) :
    RAt w0 g n (upd cur i j v) (wr.setCell ⟨g, p, none⟩ (.int .i64 v)) := by
  subst hp
  refine ⟨h.1.setCell _ _, ?_⟩
  rw [← flat_upd cur hi hj v]
  exact h.2.set _ _
theorem RAt.cell {w0 wr : World} {g n : Nat} {cur : Mat} (h : RAt w0 g n cur wr) {i j : Nat} (hi : i < n + 1) (hj : j < n + 1) (p : Nat) (hp : p = i * (n + 1) + j) :
    wr.cell? ⟨g, p, none⟩ = some (.int .i64 (cur i j)) := by
  subst hp
  have := h.2.cell (i * (n + 1) + j) (by rw [flat_length]; exact at_lt hi hj)
  rwa [flat_at cur hi hj] at this
theorem RAt.drewN {w0 wr : World} {g n : Nat} {cur : Mat} (h : RAt w0 g n cur wr) (q : Nat) : RAt w0 g n cur (wr.drewN q) := ⟨h.1.drewN q, h.2⟩

def ROuter (w0 : World) (b n : Nat) (m0 : Mat) (g k : Nat) (m : Mat) (wr : World) : Prop := RAt w0 b n m wr ∧ RoundOk n m0 k m ∧ g + k = n + 1
def RMid (w0 : World) (b n : Nat) (m : Mat) (k g i : Nat) (cur : Mat) (wr : World) : Prop :=
  RAt w0 b n cur wr ∧ RefOk n (1073741824 * 4 ^ k) m k i 0 cur ∧ i ≤ n + 1 ∧ g + i = n + 1
def RInn (w0 : World) (b n : Nat) (m : Mat) (k i g j : Nat) (cur : Mat) (wr : World) : Prop :=
  RAt w0 b n cur wr ∧ RefOk n (1073741824 * 4 ^ k) m k i j cur ∧ j ≤ n + 1 ∧ g + j = n + 1
def RTest (w0 : World) (b n : Nat) (m : Mat) (k g i : Nat) (cur : Mat) (wr : World) : Prop :=
  RAt w0 b n cur wr ∧ RefOk n (1073741824 * 4 ^ k) m k (n + 1) 0 cur ∧ (∀ a, a < i → 1 ≤ cur a a) ∧ i ≤ n + 1 ∧ g + i = n + 1

theorem RInn.bounds {w0 wr : World} {b n : Nat} {m m0 cur : Mat} {k i g j : Nat} (h : RInn w0 b n m k i g j cur wr) (hr : RoundOk n m0 k m) (hn : n ≤ 8) (hk : k ≤ n) {a c : Nat} (ha : a ≤ n) (hc : c ≤ n) :
    Bd 1152921504606846976 (cur a c) := by
  have h4 := pow2_le (show k ≤ 9 by omega)
  have h1 := one_le_pow2 k
  exact (h.2.1.bounds hr.fit (by omega) hk ha hc).mono (by omega)
theorem RInn.stepTo {w0 wr : World} {b n : Nat} {m m0 cur : Mat} {k i g j : Nat} (h : RInn w0 b n m k i g j cur wr) (hr : RoundOk n m0 k m) (hk : k ≤ n) (hi : i ≤ n) (hj : j ≤ n) (hlt : wsum (cur i k) (cur k j) < cur i j) (p : Nat) (hp : p = i * (n + 1) + j) :
    RInn w0 b n m k i (g - 1) (j + 1) (upd cur i j (wsum (cur i k) (cur k j))) (wr.setCell ⟨b, p, none⟩ (.int .i64 (wsum (cur i k) (cur k j)))) := by
  have h1 := one_le_pow2 k
  have hs := h.2.1.step hr.fit (by omega) hk hi hj
  rw [show min (cur i j) (wsum (cur i k) (cur k j)) = wsum (cur i k) (cur k j) by rw [Int.min_def, if_neg (by omega)]] at hs
  have := h.2.2.2
  exact ⟨h.1.step (by omega) (by omega) _ p hp, hs, by omega, by omega⟩
theorem RInn.stepSame {w0 wr : World} {b n : Nat} {m m0 cur : Mat} {k i g j : Nat} (h : RInn w0 b n m k i g j cur wr) (hr : RoundOk n m0 k m) (hk : k ≤ n) (hi : i ≤ n) (hj : j ≤ n) (hlt : ¬ wsum (cur i k) (cur k j) < cur i j) :
    RInn w0 b n m k i (g - 1) (j + 1) cur wr := by
  have h1 := one_le_pow2 k
  have hs := h.2.1.step hr.fit (by omega) hk hi hj
  have e : upd cur i j (min (cur i j) (wsum (cur i k) (cur k j))) = cur := by
    rw [show min (cur i j) (wsum (cur i k) (cur k j)) = cur i j by rw [Int.min_def, if_pos (by omega)]]
    funext a c; simp only [upd]; split
    · rename_i h; rw [h.1, h.2]
    · rfl
  rw [e] at hs
  have := h.2.2.2
  exact ⟨h.1, hs, by omega, by omega⟩
theorem RInn.drewN {w0 wr : World} {b n : Nat} {m cur : Mat} {k i g j : Nat} (h : RInn w0 b n m k i g j cur wr) (q : Nat) : RInn w0 b n m k i g j cur (wr.drewN q) := ⟨h.1.drewN q, h.2⟩

def RCloseEnds (w0 : World) (g n : Nat) (m0 : Mat) (e : Ending) (w' : World) : Prop :=
  Only g w0 w' ∧ ((closed n m0 = none ∧ e = .returned (.bool false)) ∨ ∃ m', closed n m0 = some m' ∧ e = .returned (.bool true) ∧ RowAt w' g 2 .i64 (flat n m'))

theorem prod_facts (i n : Nat) (hi : i ≤ n) (hn : n ≤ 8) : ∃ P : Nat, (i : Int) * ((n : Int) + 1) = (P : Int) ∧ P ≤ 72 ∧ P = i * (n + 1) ∧ P + n < (n + 1) * (n + 1) := by
  refine ⟨i * (n + 1), by simp, ?_, rfl, at_lt (by omega) (by omega)⟩
  have := Nat.mul_le_mul (show i ≤ 8 by omega) (show n + 1 ≤ 9 by omega)
  omega

set_option maxRecDepth 100000 in
set_option maxHeartbeats 2000000 in
theorem rclose_any (g n N cap : Nat) (m0 : Mat) (w : World) (hn : n ≤ 8) (hN : N = (n + 1) * (n + 1)) (h : RowAt w g 2 .i64 (flat n m0)) (hf : Fit n 1073741824 m0) :
    Calls Tryd.prog 117 #[.int .i64 n, .slice (some ⟨g, 0, none⟩) N cap] w (RCloseEnds w g n m0) := by
  have H0 := Lib.hid (show ROuter w g n m0 (n + 1) 0 m0 w from ⟨⟨Only.refl _ _, h⟩, RoundOk.start hf, by omega⟩)
  have HN := Lib.hid hN
  have hN81 : N ≤ 81 := by
    have := Nat.mul_le_mul (show n + 1 ≤ 9 by omega) (show n + 1 ≤ 9 by omega)
    omega
  clear h hf hN
  go_enter Tryd.func117, Tryd.ntmps117
  go_wp2
  go_loopg [5] (n + 1) (fun q v wr => ∃ k : Nat, ∃ m, v = .int .i64 k ∧ ROuter w g n m0 q k m wr)
  case atStart => exact ⟨0, m0, by simp, H0.out⟩
  case round =>
    clear H0
    obtain ⟨k, m, rfl, H⟩ := hrel
    have HK := Lib.hid H
    clear H
    by_cases hk : k ≤ n
    · have hkk : (k : Int) ≤ (n : Int) := by omega
      have H1 := Lib.hid (show RMid w g n m k (n + 1) 0 m wr from ⟨HK.out.1, HK.out.2.1.ref (by omega), by omega, by omega⟩)
      go_wp2
      go_loopg [6] (n + 1) (fun q v wr => ∃ i : Nat, ∃ cur, v = .int .i64 i ∧ RMid w g n m k q i cur wr)
      case atStart => exact ⟨0, m, by simp, H1.out⟩
      case round =>
        clear H1
        obtain ⟨i, cur, rfl, H⟩ := hrel
        have HI := Lib.hid H
        clear H
        by_cases hi : i ≤ n
        · have hii : (i : Int) ≤ (n : Int) := by omega
          have H1 := Lib.hid (show RInn w g n m k i (n + 1) 0 cur wr from ⟨HI.out.1, HI.out.2.1, by omega, by omega⟩)
          go_wp2
          go_loopg [7] (n + 1) (fun q v wr => ∃ j : Nat, ∃ cur, v = .int .i64 j ∧ RInn w g n m k i q j cur wr)
          case atStart => exact ⟨0, cur, by simp, H1.out⟩
          case round =>
            clear H1
            obtain ⟨j, cur, rfl, H⟩ := hrel
            have HJ := Lib.hid H
            clear H
            by_cases hj : j ≤ n
            · have hjj : (j : Int) ≤ (n : Int) := by omega
              obtain ⟨P, hP, hP1, hP2, hP3⟩ := prod_facts i n hi hn
              obtain ⟨Q, hQ, hQ1, hQ2, hQ3⟩ := prod_facts k n hk hn
              have hPN : P + n < N := by have := HN.out; omega
              have hQN : Q + n < N := by have := HN.out; omega
              have c1 := HJ.out.1.cell (i := i) (j := k) (by omega) (by omega) (P + k) (by omega)
              have c2 := HJ.out.1.cell (i := k) (j := j) (by omega) (by omega) (Q + j) (by omega)
              have c3 := HJ.out.1.cell (i := i) (j := j) (by omega) (by omega) (P + j) (by omega)
              have f1 := HJ.out.1.2.frozen (P + j)
              have HP2 := Lib.hid hP2
              have HQ2 := Lib.hid hQ2
              clear hP2 hQ2 hP3 hQ3
              have HB1 := Lib.hid (HJ.out.bounds HK.out.2.1 hn hk hi hk)
              have HB2 := Lib.hid (HJ.out.bounds HK.out.2.1 hn hk hk hj)
              have g1 : IntKind.i64.wrap ((n : Int) + 1) = (n : Int) + 1 := IntWalk.i64_in _ (by omega)
              have g2 : IntKind.i64.wrap (P : Int) = (P : Int) := IntWalk.i64_in _ (by omega)
              have g3 : IntKind.i64.wrap ((P : Int) + (k : Int)) = (P : Int) + (k : Int) := IntWalk.i64_in _ (by omega)
              have g4 : IntKind.i64.wrap (Q : Int) = (Q : Int) := IntWalk.i64_in _ (by omega)
              have g5 : IntKind.i64.wrap ((Q : Int) + (j : Int)) = (Q : Int) + (j : Int) := IntWalk.i64_in _ (by omega)
              have l1 : (P : Int) + (k : Int) < (N : Int) := by omega
              have l2 : (Q : Int) + (j : Int) < (N : Int) := by omega
              have l3 : 0 ≤ (P : Int) + (k : Int) := by omega
              have l4 : 0 ≤ (Q : Int) + (j : Int) := by omega
              have n1 : ((P : Int) + (k : Int)).toNat = P + k := by omega
              have n2 : ((Q : Int) + (j : Int)).toNat = Q + j := by omega
              go_wp2_with fail
              go_quiet ((go_at_call 122; exact Calls.quiet_of_same (plus_still _ _ _ (by exact HB1.out) (by exact HB2.out))))
              have HQ := Lib.hid (HJ.out.drewN nq)
              clear g1 g2 g3 g4 g5 n1 n2
              by_cases hlt : wsum (cur i k) (cur k j) < cur i j
              · have HS := Lib.hid (HQ.out.stepTo HK.out.2.1 hk hi hj hlt (P + j) (by rw [HP2.out]))
                go_wp2
                go_roundg (gk - 1)
                case measure => have h := HJ.out.2.2.2; omega
                case rel => exact ⟨j + 1, _, by go_num, HS.out⟩
              · have HS := Lib.hid (HQ.out.stepSame HK.out.2.1 hk hi hj hlt)
                go_wp2
                go_roundg (gk - 1)
                case measure => have h := HJ.out.2.2.2; omega
                case rel => exact ⟨j + 1, _, by go_num, HS.out⟩
            · have hjj : ¬ (j : Int) ≤ (n : Int) := by omega
              have e : j = n + 1 := by have := HJ.out.2.2.1; omega
              have HS := Lib.hid (show RMid w g n m k (n - i) (i + 1) cur wr from ⟨HJ.out.1, (by have := HJ.out.2.1; rw [e] at this; exact this.row), by omega, by omega⟩)
              clear e
              go_wp2
              go_roundg (n - i)
              case measure => have h := HI.out.2.2.2; omega
              case rel => exact ⟨i + 1, _, by go_num, HS.out⟩
        · have hii : ¬ (i : Int) ≤ (n : Int) := by omega
          have e : i = n + 1 := by have := HI.out.2.2.1; omega
          have H1 := Lib.hid (show RTest w g n m k (n + 1) 0 cur wr from ⟨HI.out.1, (by have := HI.out.2.1; rw [e] at this; exact this), fun a ha => by omega, by omega, by omega⟩)
          clear e
          go_wp2
          go_loopg [9] (n + 1) (fun q v wr => ∃ i : Nat, v = .int .i64 i ∧ RTest w g n m k q i cur wr)
          case atStart => exact ⟨0, by simp, H1.out⟩
          case round =>
            clear H1
            obtain ⟨a, rfl, H⟩ := hrel
            have HT := Lib.hid H
            clear H
            by_cases ha : a ≤ n
            · have haa : (a : Int) ≤ (n : Int) := by omega
              obtain ⟨P, hP, hP1, hP2, hP3⟩ := prod_facts a n ha hn
              have hPN : P + n < N := by have := HN.out; omega
              have c1 := HT.out.1.cell (i := a) (j := a) (by omega) (by omega) (P + a) (by omega)
              clear hP2 hP3
              by_cases hd : cur a a < 1
              · go_wp2
                go_ret
                exact ⟨HT.out.1.1, .inl ⟨RefOk.fail HK.out.2.1 hk HT.out.2.1 ha hd, rfl⟩⟩
              · have HD := Lib.hid hd
                go_wp2
                go_roundg (gk - 1)
                case measure => have h := HT.out.2.2.2.2; omega
                case rel =>
                  refine ⟨a + 1, by go_num, HT.out.1, HT.out.2.1, fun b hb => ?_, by omega, by have h := HT.out.2.2.2.2; omega⟩
                  by_cases e : b = a
                  · subst e; have h := HD.out; omega
                  · exact HT.out.2.2.1 b (by omega)
            · have haa : ¬ (a : Int) ≤ (n : Int) := by omega
              have HS := Lib.hid (show ROuter w g n m0 (n - k) (k + 1) cur wr from ⟨HT.out.1, RefOk.next HK.out.2.1 hk HT.out.2.1 (fun i hi => HT.out.2.2.1 i (by omega)), by omega⟩)
              go_wp2
              go_roundg (n - k)
              case measure => have h := HK.out.2.2; omega
              case rel => exact ⟨k + 1, _, by go_num, HS.out⟩
    · have hkk : ¬ (k : Int) ≤ (n : Int) := by omega
      go_wp2
      go_ret
      have e : k = n + 1 := by have := HK.out.2.1.le; omega
      have hd := HK.out.2.1
      rw [e] at hd
      exact ⟨HK.out.1.1, .inr ⟨m, hd.done, rfl, HK.out.1.2⟩⟩

end Go.Proofs.YtidcnlecgcobmaaDoor

/- The document's zones, made of bounds. -/
namespace Go.Proofs.YtidcnlecgcobmaaDoor
open Go Go.RowKit
set_option linter.unusedVariables false
set_option linter.unusedSimpArgs false

theorem infoI : (Tryd.prog.info? 2).map (fun i => (i.zero, i.size, i.bytes)) = some (some (.int .i64 0), 1, 8) := by kernel_rfl
theorem infoRB : (Tryd.prog.info? 64).map (fun i => (i.zero, i.size, i.bytes)) = some (some (.int .i32 0), 1, 4) := by kernel_rfl

/-- The wide row, so far. -/
def WideR (w0 : World) (l : List Int) (p : Nat) (v : Value) (wr : World) : Prop :=
  Below w0.heap.size w0 wr ∧ wr.ownsRow w0.heap.size 2 1 v p (vals .i64 (widUp l p)) ∧ p ≤ l.length
theorem WideR.next {w0 wr w1 : World} {l : List Int} {p : Nat} {v v' : Value} {o : Obj} (h : WideR w0 l p v wr) (hp : p < l.length) (x : Int) (hx : x = wid (l.getD p 0))
    (hown : w1.ownsRow w0.heap.size 2 1 v' (p + 1) (vals .i64 (widUp l p) ++ [.int .i64 x])) (hg : (wr.alloc o).grownBy w1 v.ownBlock) : WideR w0 l (p + 1) v' w1 := by
  refine ⟨(h.1.alloc h.1.size o).grown hg (by have := h.1.size; simp; omega) (fun k hk => (h.2.1.lt k hk).1), ?_, by omega⟩
  have e : vals .i64 (widUp l (p + 1)) = vals .i64 (widUp l p) ++ [.int .i64 x] := by rw [hx]; simp [vals, widUp]
  rw [e]; exact hown

set_option maxRecDepth 100000 in
set_option maxHeartbeats 2000000 in
theorem wide_any (A : Option Addr) (c : Nat) (l : List Int) (w : World) (hI : Ints w .i32 A l) (hl : l.length ≤ 1000) (hr : ∀ q, q < l.length → -2147483648 ≤ l.getD q 0 ∧ l.getD q 0 ≤ 2147483647) :
    Calls Tryd.prog 104 #[.slice A l.length c] w fun e w' => ∃ v, e = .returned v ∧ WideR w l l.length v w' := by
  have HI := Lib.hid hI
  have HR := Lib.hid hr
  clear hI hr
  obtain ⟨i0, hi, hz0, hz1, hz2⟩ := info_parts infoI
  have HInf := Lib.hid (And.intro hi (And.intro hz0 (And.intro hz1 hz2)))
  clear hi hz0 hz1 hz2
  have HS := Lib.hid (show WideR w l 0 (.slice none 0 0) w from ⟨Below.refl _ _, by simpa [widUp, vals] using World.ownsRow_nil w _ _ _, by omega⟩)
  go_enter Tryd.func104, Tryd.ntmps104
  go_wp2
  go_loopg [3, 4] l.length (fun g v x wr => ∃ p : Nat, x = .int .i64 p ∧ WideR w l p v wr ∧ Hid (g + p = l.length))
  case atStart => exact ⟨0, by simp, HS.out, by show _ = _; omega⟩
  case round =>
    clear HS
    obtain ⟨p, rfl, H, HG⟩ := hrel
    have HW := Lib.hid H
    clear H
    by_cases hp : p < l.length
    · obtain ⟨b, off, rfl, hc⟩ := HI.out.below HW.out.1 p hp
      have hb := HR.out p hp
      obtain ⟨x, hx⟩ : ∃ x, x = l.getD p 0 := ⟨_, rfl⟩
      rw [← hx] at hc hb
      have HX := Lib.hid hx
      clear hx
      obtain ⟨hb0, hb1⟩ := hb
      by_cases hinf : x = 2147483647
      · subst hinf
        go_wp2_with (at_builtin; refine wpList_append_own _ rfl _ _ 84 rfl w.heap.size 2 i0 (.int .i64 0) 1 8 Tryd.underlying84 HInf.out.1 HInf.out.2.1 HInf.out.2.2.1 HInf.out.2.2.2 rfl (by decide) _ _ _ rfl (HW.out.2.1.alloc _) ⟨wr.heap.size, 0, none⟩ 1 1 [.int .i64 4611686018427387904] rfl rfl (cell_one_new _ _ _) (by intro u hu; simp at hu; subst hu; rfl) ?c3 ?c4 ?c5 ?_)
        case c3 => unfold maxLen; omega
        case c4 => omega
        case c5 => have := HW.out.1.size; simp; omega
        intro v' w1 hown hgrow _
        have HN := Lib.hid (HW.out.next hp 4611686018427387904 (by rw [← HX.out]; rfl) hown hgrow)
        clear hown hgrow
        go_wp2
        go_roundg (gk - 1)
        case measure => have h := HG.out; omega
        case rel => exact ⟨p + 1, by go_num, HN.out, by have h := HG.out; show _ = _; omega⟩
      · have t1 : (x == 2147483647) = false := by simp [hinf]
        have HNI := Lib.hid hinf
        clear hinf
        go_wp2_with (at_builtin; refine wpList_append_own _ rfl _ _ 84 rfl w.heap.size 2 i0 (.int .i64 0) 1 8 Tryd.underlying84 HInf.out.1 HInf.out.2.1 HInf.out.2.2.1 HInf.out.2.2.2 rfl (by decide) _ _ _ rfl (HW.out.2.1.alloc _) ⟨wr.heap.size, 0, none⟩ 1 1 [.int .i64 x] rfl rfl (cell_one_new _ _ _) (by intro u hu; simp at hu; subst hu; rfl) ?c3 ?c4 ?c5 ?_)
        case c3 => unfold maxLen; omega
        case c4 => omega
        case c5 => have := HW.out.1.size; simp; omega
        intro v' w1 hown hgrow _
        have HN := Lib.hid (HW.out.next hp x (by rw [← HX.out]; unfold wid; rw [if_neg HNI.out]) hown hgrow)
        clear hown hgrow
        go_wp2
        go_roundg (gk - 1)
        case measure => have h := HG.out; omega
        case rel => exact ⟨p + 1, by go_num, HN.out, by have h := HG.out; show _ = _; omega⟩
    · have e : p = l.length := by have := HW.out.2.2; omega
      subst e
      go_wp2
      go_ret
      exact ⟨_, rfl, HW.out⟩

end Go.Proofs.YtidcnlecgcobmaaDoor

/- The document's zone: the empty one; the one of wide cells, or the error. -/
namespace Go.Proofs.YtidcnlecgcobmaaDoor
open Go Go.RowKit
set_option linter.unusedVariables false
set_option linter.unusedSimpArgs false

/-- A zone of the document's, or nil. -/
def RefZ (w : World) (v : Value) : Option (Nat × Mat) → Prop
  | none => v = .pointer none
  | some (n, m) => ∃ b g cap, v = .pointer (some ⟨b, 0, none⟩) ∧ n ≤ 8 ∧ RightM n m ∧
      w.heap[b]? = some (.cells #[.int .i64 n, .slice (some ⟨g, 0, none⟩) ((n + 1) * (n + 1)) cap] 140 (0, 0)) ∧ RowAt w g 64 .i32 (flat n m)
theorem RefZ.below {w w' : World} {v : Value} {z : Option (Nat × Mat)} (h : RefZ w v z) (hb : Below w.heap.size w w') : RefZ w' v z := by
  match z, h with
  | none, h => exact h
  | some (n, m), ⟨b, g, cap, h1, hn, hr, h2, h3⟩ => exact ⟨b, g, cap, h1, hn, hr, (hb.block b (Array.getElem?_eq_some_iff.1 h2).1).trans h2, h3.later hb⟩
/-- A function that makes a zone of the document's ends with this answer. -/
def MakesR (w0 : World) (n : Nat) (r : Option Mat × Int) (e : Ending) (w' : World) : Prop :=
  Below w0.heap.size w0 w' ∧ ∃ v, e = .returned (.tuple #[v, .int .i64 r.2]) ∧ RefZ w' v (r.1.map fun m => (n, m))

theorem zeros_row (w : World) (N : Nat) (xs : List Int) (hl : xs.length = N) (hx : ∀ p, p < N → xs.getD p 0 = 0) : RowAt (w.alloc (.cells (madeCells #[.int .i32 0] N) 64)) w.heap.size 64 .i32 xs := by
  refine ⟨_, heap_alloc_new _ _, ?_⟩
  subst hl
  apply List.ext_getElem?
  intro p
  by_cases hp : p < xs.length
  · have := hx p hp
    rw [List.getD_eq_getElem?_getD, List.getElem?_eq_getElem hp] at this
    have e : xs[p] = 0 := this
    simp [madeCells, vals, hp, e, Nat.mod_one]
  · simp [madeCells, vals, hp]

set_option maxRecDepth 100000 in
set_option maxHeartbeats 1000000 in
theorem empty1_any (n : Nat) (w : World) (hn : n ≤ 8) :
    Calls Tryd.prog 118 #[.int .i64 n] w fun e w' => ∃ v, e = .returned v ∧ Below w.heap.size w w' ∧ RefZ w' v (some (n, fun _ _ => 0)) := by
  obtain ⟨N, hN⟩ : ∃ N : Nat, N = (n + 1) * (n + 1) := ⟨_, rfl⟩
  have hNi : ((n : Int) + 1) * ((n : Int) + 1) = (N : Int) := by rw [hN]; simp
  have hN81 : N ≤ 81 := by
    have := Nat.mul_le_mul (show n + 1 ≤ 9 by omega) (show n + 1 ≤ 9 by omega)
    omega
  have HN := Lib.hid hN
  clear hN
  have hmk := run_make_row' (P := Tryd.prog) 22 64 (.int .i32 0) 4 Tryd.underlying22 infoRB rfl .i64 .i64 N (by omega) (by omega)
  go_enter Tryd.func118, Tryd.ntmps118
  go_wp2
  go_ret
  have hB : Below w.heap.size w (w.alloc (.cells (madeCells #[.int .i32 0] N) 64)) := (Below.refl _ _).alloc (Nat.le_refl _) _
  have hrow := zeros_row w N (flat n (fun _ _ => 0)) (by rw [flat_length, HN.out]) (fun p hp => by rw [flat_getD _ _ _ (by rw [← HN.out]; exact hp)])
  refine ⟨_, rfl, hB.alloc hB.size _, w.heap.size + 1, w.heap.size, N, rfl, hn, right_zero n, ?_, hrow.later ((Below.refl _ _).alloc (Nat.le_refl _) _)⟩
  rw [← HN.out]
  have := heap_alloc_new (w.alloc (.cells (madeCells #[.int .i32 0] N) 64)) (.cells #[.int .i64 n, .slice (some ⟨w.heap.size, 0, none⟩) N N] 140)
  simpa using this

/-! ### made -/
def ClR (w0 : World) (g n : Nat) (m : Mat) (q i : Nat) (wr : World) : Prop := RAt w0 g n (clUp m i) wr ∧ i ≤ n + 1 ∧ q + i = n + 1
def store1 (c : Bool) (w : World) (a : Addr) : World := if c then w.setCell a (.int .i64 1) else w
theorem RAt.store1 {w0 wr : World} {g n : Nat} {cur : Mat} (h : RAt w0 g n cur wr) {i j : Nat} (hi : i < n + 1) (hj : j < n + 1) (p : Nat) (hp : p = i * (n + 1) + j) (c : Bool) (hc : c = decide (1 < cur i j)) :
    RAt w0 g n (upd cur i j (min (cur i j) 1)) (store1 c wr ⟨g, p, none⟩) := by
  subst hc
  by_cases hlt : 1 < cur i j
  · rw [decide_eq_true hlt]
    have e : min (cur i j) 1 = 1 := by rw [Int.min_def, if_neg (by omega)]
    rw [e]
    exact h.step hi hj 1 p hp
  · rw [decide_eq_false hlt]
    have e : upd cur i j (min (cur i j) 1) = cur := by
      have : min (cur i j) 1 = cur i j := by rw [Int.min_def, if_pos (by omega)]
      rw [this]
      funext a c; simp only [upd]; split
      · rename_i h; rw [h.1, h.2]
      · rfl
    rw [e]
    exact h
theorem ClR.next {w0 wr : World} {g n : Nat} {m : Mat} {q i : Nat} (h : ClR w0 g n m q i wr) (hi : i < n + 1) (p : Nat) (hp : p = i * (n + 1) + i) (c1 c2 : Bool) (h1 : c1 = decide (1 < m i i)) (h2 : c2 = decide (1 < upd (clUp m i) i i (min (clUp m i i i) 1) 0 i)) :
    ClR w0 g n m (q - 1) (i + 1) (store1 c2 (store1 c1 wr ⟨g, p, none⟩) ⟨g, i, none⟩) := by
  have ha := h.1.store1 hi hi p hp c1 (by rw [clUp_at]; exact h1)
  have hb := ha.store1 (i := 0) (j := i) (by omega) hi i (by omega) c2 h2
  rw [clUp_step] at hb
  have := h.2.2
  exact ⟨hb, by omega, by omega⟩

/-- The zone's own cells, so far. -/
def BuildR (w1 : World) (zb g n N : Nat) (m : Mat) (p : Nat) (sv : Value) (wr : World) : Prop :=
  Below zb w1 wr ∧ zb < w1.heap.size ∧ w1.heap.size ≤ wr.heap.size ∧ wr.heap[zb]? = some (.cells #[.int .i64 n, sv] 140 (0, 0)) ∧ wr.ownsRow (zb + 1) 64 1 sv p (vals .i32 (narUp (flat n m) p)) ∧
  (∀ q, q < p → inR ((flat n m).getD q 0)) ∧ p ≤ N
theorem BuildR.cell {w1 wr : World} {zb g n N : Nat} {m : Mat} {p : Nat} {sv : Value} (h : BuildR w1 zb g n N m p sv wr) : wr.cell? ⟨zb, 1, none⟩ = some sv := by
  simp [World.cell?, h.2.2.2.1]
theorem BuildR.frozen {w1 wr : World} {zb g n N : Nat} {m : Mat} {p : Nat} {sv : Value} (h : BuildR w1 zb g n N m p sv wr) : wr.frozen? ⟨zb, 1, none⟩ = false := by
  simp [World.frozen?, h.2.2.2.1]
/-- What an append to the zone's cells leaves, ahead of the store into the field. -/
structure Appended (w1 : World) (zb g n N : Nat) (m : Mat) (p : Nat) (sv sv' : Value) (w2 : World) : Prop where
  below : Below zb w1 w2
  lt : zb < w1.heap.size
  size : w1.heap.size ≤ w2.heap.size
  cell : w2.heap[zb]? = some (.cells #[.int .i64 n, sv] 140 (0, 0))
  own : w2.ownsRow (zb + 1) 64 1 sv' (p + 1) (vals .i32 (narUp (flat n m) (p + 1)))
theorem BuildR.append {w1 wr w2 : World} {zb g n N : Nat} {m : Mat} {p : Nat} {sv sv' : Value} {o : Obj} (h : BuildR w1 zb g n N m p sv wr) (x : Int) (hx : x = nar ((flat n m).getD p 0)) (q : Nat)
    (hown : w2.ownsRow (zb + 1) 64 1 sv' (p + 1) (vals .i32 (narUp (flat n m) p) ++ [.int .i32 x])) (hg : ((wr.alloc o).drewN q).grownBy w2 sv.ownBlock) : Appended w1 zb g n N m p sv sv' w2 := by
  have hne : ∀ k, sv.ownBlock = some k → zb + 1 ≤ k := fun k hk => (h.2.2.2.2.1.lt k hk).1
  have hsz := h.2.2.1
  have hlt := h.2.1
  have hs2 := hg.size
  have hsa : ((wr.alloc o).drewN q).heap.size = wr.heap.size + 1 := by simp
  have ha : Below zb w1 ((wr.alloc o).drewN q) := belowN (h.1.alloc (by omega) o) q
  refine ⟨ha.grown hg (by omega) (fun k hk => by have := hne k hk; omega), hlt, by omega, ?_, ?_⟩
  · rw [hg.block zb (by omega) (fun e => by have := hne zb e.symm; omega)]
    show (wr.alloc o).heap[zb]? = _
    exact (heap_alloc_old wr o (show zb < wr.heap.size by omega)).trans h.2.2.2.1
  · have e : vals .i32 (narUp (flat n m) (p + 1)) = vals .i32 (narUp (flat n m) p) ++ [.int .i32 x] := by rw [hx]; simp [vals, narUp]
    rw [e]; exact hown
theorem Appended.store {w1 w2 : World} {zb g n N : Nat} {m : Mat} {p : Nat} {sv sv' : Value} (h : Appended w1 zb g n N m p sv sv' w2) (hin : ∀ q, q < p → inR ((flat n m).getD q 0)) (hp : inR ((flat n m).getD p 0)) (hN : p < N) :
    BuildR w1 zb g n N m (p + 1) sv' (w2.setCell ⟨zb, 1, none⟩ sv') := by
  refine ⟨h.below.setCell (p := ⟨zb, 1, none⟩) (Nat.le_refl _) _, h.lt, by simpa [World.setCell] using h.size, ?_, ownsRow_setCell_below h.own (by show zb < zb + 1; omega) _, fun q hq => ?_, by omega⟩
  · simp only [World.setCell, Array.getElem?_modify, if_true, h.cell, Option.map_some]
    simp
  · by_cases e : q = p
    · subst e; exact hp
    · exact hin q (by omega)
theorem Appended.at {w1 w2 : World} {zb g n N : Nat} {m : Mat} {p : Nat} {sv sv' : Value} (h : Appended w1 zb g n N m p sv sv' w2) : w2.cell? ⟨zb, 1, none⟩ = some sv ∧ w2.frozen? ⟨zb, 1, none⟩ = false ∧ zb < w2.heap.size := by
  have := h.size
  have := h.lt
  refine ⟨?_, ?_, by omega⟩
  · simp [World.cell?, h.cell]
  · simp [World.frozen?, h.cell]

end Go.Proofs.YtidcnlecgcobmaaDoor

/- The document's zone of wide cells. -/
namespace Go.Proofs.YtidcnlecgcobmaaDoor
open Go Go.RowKit
set_option linter.unusedVariables false
set_option linter.unusedSimpArgs false

set_option maxRecDepth 100000 in
set_option maxHeartbeats 2000000 in
theorem rmade_any (g n N cap : Nat) (m : Mat) (w : World) (hn : n ≤ 8) (hN : N = (n + 1) * (n + 1)) (h : RowAt w g 2 .i64 (flat n m)) (hf : ∀ i j, i ≤ n → j ≤ n → Bd 1073741824 (m i j)) (B : Nat) (hB : B ≤ g) (hBw : B ≤ w.heap.size) :
    Calls Tryd.prog 103 #[.int .i64 n, .slice (some ⟨g, 0, none⟩) N cap] w fun e w' => Below B w w' ∧ ∃ v, e = .returned (.tuple #[v, .int .i64 (zoneP n (clUp m (n + 1))).2]) ∧ RefZ w' v ((zoneP n (clUp m (n + 1))).1.map fun m => (n, m)) := by
  have H0 := Lib.hid (show ClR w g n m (n + 1) 0 w from ⟨⟨Only.refl _ _, by rw [clUp_zero]; exact h⟩, by omega, by omega⟩)
  have HN := Lib.hid hN
  have HF := Lib.hid (clUp_fit hf)
  have hN81 : N ≤ 81 := by
    have := Nat.mul_le_mul (show n + 1 ≤ 9 by omega) (show n + 1 ≤ 9 by omega)
    omega
  clear h hf hN
  go_enter Tryd.func103, Tryd.ntmps103
  go_wp2
  go_loopg [6] (n + 1) (fun q v wr => ∃ i : Nat, v = .int .i64 i ∧ ClR w g n m q i wr)
  case atStart => exact ⟨0, by simp, H0.out⟩
  case round =>
    clear H0
    obtain ⟨i, rfl, H⟩ := hrel
    have HI := Lib.hid H
    clear H
    by_cases hi : i ≤ n
    · by_cases i0 : i = 0
      · subst i0
        have c1 := HI.out.1.cell (i := 0) (j := 0) (by omega) (by omega) 0 (by omega)
        rw [clUp_at] at c1
        have f1 := HI.out.1.2.frozen 0
        have hN1 : 0 < N := by rw [HN.out]; exact Nat.mul_pos (by omega) (by omega)
        have HX := Lib.hid (HI.out.next (by omega) 0 (by omega))
        have hu : upd (clUp m 0) 0 0 (min (clUp m 0 0 0) 1) 0 0 = min (m 0 0) 1 := by simp [upd, clUp]
        have hu1 : ¬ 1 < min (m 0 0) 1 := by rw [Int.min_def]; split <;> omega
        by_cases a1 : 1 < m 0 0
        · have HS := Lib.hid (HX.out true false (decide_eq_true a1).symm (by rw [hu]; exact (decide_eq_false hu1).symm))
          clear hu hu1 HX
          go_wp2
          go_roundg (gk - 1)
          case measure => have h := HI.out.2.2; omega
          case rel => exact ⟨1, by simp, HS.out⟩
        · have HS := Lib.hid (HX.out false false (decide_eq_false a1).symm (by rw [hu]; exact (decide_eq_false hu1).symm))
          clear hu hu1 HX
          go_wp2
          go_roundg (gk - 1)
          case measure => have h := HI.out.2.2; omega
          case rel => exact ⟨1, by simp, HS.out⟩
      · have hii : (i : Int) ≤ (n : Int) := by omega
        obtain ⟨P, hP, hP1, hP2, hP3⟩ := prod_facts i n hi hn
        have hPN : P + n < N := by have := HN.out; omega
        have c1 := HI.out.1.cell (i := i) (j := i) (by omega) (by omega) (P + i) (by omega)
        rw [clUp_at] at c1
        have c2 := HI.out.1.cell (i := 0) (j := i) (by omega) (by omega) i (by omega)
        rw [clUp_top] at c2
        have f1 := HI.out.1.2.frozen (P + i)
        have f2 := HI.out.1.2.frozen i
        have hP0 : ¬ P = 0 := by
          intro h
          have := Nat.mul_pos (show 0 < i by omega) (show 0 < n + 1 by omega)
          omega
        have HP2 := Lib.hid hP2
        clear hP2 hP3
        have HX := Lib.hid (HI.out.next (by omega) (P + i) (by rw [HP2.out]))
        have hu : upd (clUp m i) i i (min (clUp m i i i) 1) 0 i = m 0 i := by
          unfold upd; rw [if_neg (fun h => i0 h.1.symm), clUp_top]
        have HU := Lib.hid hu
        clear hu
        by_cases a1 : 1 < m i i
        · by_cases a2 : 1 < m 0 i
          · have HS := Lib.hid (HX.out true true (decide_eq_true a1).symm (by rw [HU.out]; exact (decide_eq_true a2).symm))
            clear HX
            go_wp2
            go_roundg (gk - 1)
            case measure => have h := HI.out.2.2; omega
            case rel => exact ⟨i + 1, by go_num, HS.out⟩
          · have HS := Lib.hid (HX.out true false (decide_eq_true a1).symm (by rw [HU.out]; exact (decide_eq_false a2).symm))
            clear HX
            go_wp2
            go_roundg (gk - 1)
            case measure => have h := HI.out.2.2; omega
            case rel => exact ⟨i + 1, by go_num, HS.out⟩
        · by_cases a2 : 1 < m 0 i
          · have HS := Lib.hid (HX.out false true (decide_eq_false a1).symm (by rw [HU.out]; exact (decide_eq_true a2).symm))
            clear HX
            go_wp2
            go_roundg (gk - 1)
            case measure => have h := HI.out.2.2; omega
            case rel => exact ⟨i + 1, by go_num, HS.out⟩
          · have HS := Lib.hid (HX.out false false (decide_eq_false a1).symm (by rw [HU.out]; exact (decide_eq_false a2).symm))
            clear HX
            go_wp2
            go_roundg (gk - 1)
            case measure => have h := HI.out.2.2; omega
            case rel => exact ⟨i + 1, by go_num, HS.out⟩
    · have hii : ¬ (i : Int) ≤ (n : Int) := by omega
      have e : i = n + 1 := by have := HI.out.2.1; omega
      subst e
      go_wp2_with fail
      refine (rclose_any g n N cap (clUp m (n + 1)) wr hn HN.out HI.out.1.2 HF.out).mono ?_
      rintro e w1 ⟨ho, hcl⟩
      have HO := Lib.hid ((HI.out.1.1.trans ho).below hB hBw)
      clear ho
      rcases hcl with ⟨hc, rfl⟩ | ⟨m', hc, rfl, hm⟩
      · have hz : zoneP n (clUp m (n + 1)) = (some (fun _ _ => 0), 0) := by unfold zoneP; rw [hc]
        have HZ := Lib.hid hz
        clear hc hz
        go_wp2_with fail
        refine (empty1_any n _ hn).mono ?_
        rintro e w2 ⟨v, rfl, hb, hv⟩
        have HB := Lib.hid (HO.out.trans (hb.mono (Nat.le_trans hBw HO.out.size)))
        have HV := Lib.hid hv
        clear hb hv
        go_wp2
        go_ret2
        exact ⟨HB.out, v, by rw [HZ.out]; rfl, by rw [HZ.out]; exact HV.out⟩
      · have HC := Lib.hid hc
        have HM := Lib.hid hm
        clear hc hm
        obtain ⟨i0, hi1, hz0, hz1, hz2⟩ := info_parts infoRB
        have HInf := Lib.hid (And.intro hi1 (And.intro hz0 (And.intro hz1 hz2)))
        clear hi1 hz0 hz1 hz2
        have hg1 : g < w1.heap.size := HM.out.lt
        have HS := Lib.hid (show BuildR (w1.alloc (.cells #[.int .i64 n, .slice none 0 0] 140)) w1.heap.size g n N m' 0 (.slice none 0 0) (w1.alloc (.cells #[.int .i64 n, .slice none 0 0] 140)) from
          ⟨Below.refl _ _, by simp, Nat.le_refl _, heap_alloc_new _ _, by simpa [narUp, vals] using World.ownsRow_nil _ _ _ _, fun q h => by omega, by omega⟩)
        have HMA := Lib.hid (HM.out.later ((Below.refl w1.heap.size w1).alloc (Nat.le_refl _) (.cells #[.int .i64 n, .slice none 0 0] 140)))
        have HBA := Lib.hid (HO.out.alloc (Nat.le_trans hBw HO.out.size) (.cells #[.int .i64 n, .slice none 0 0] 140))
        have HlB : B ≤ w1.heap.size := Nat.le_trans hBw HO.out.size
        go_wp2
        generalize w1.alloc (.cells #[.int .i64 n, .slice none 0 0] 140) = w2 at *
        go_loopg [8] N (fun q v wr => ∃ p : Nat, ∃ sv, v = .int .i64 p ∧ BuildR w2 w1.heap.size g n N m' p sv wr ∧ Hid (q + p = N))
        case atStart => exact ⟨0, _, by simp, HS.out, by show _ = _; omega⟩
        case round =>
          clear HS
          obtain ⟨p, sv, rfl, H, HG⟩ := hrel
          have HR := Lib.hid H
          clear H
          by_cases hp : p < N
          · have hrow := (HMA.out.below HR.out.1 hg1)
            have c1 := hrow.cell p (by rw [flat_length, ← HN.out]; exact hp)
            have c2 := HR.out.cell
            have f2 := HR.out.frozen
            obtain ⟨x, hx⟩ : ∃ x, x = (flat n m').getD p 0 := ⟨_, rfl⟩
            rw [← hx] at c1
            have HX := Lib.hid hx
            clear hx hrow
            by_cases h1 : x = none62
            · have hx : x = 4611686018427387904 := h1
              clear h1
              subst hx
              go_wp2_with (at_builtin; refine wpList_append_lies _ rfl _ _ 22 rfl (w1.heap.size + 1) 64 i0 (.int .i32 0) 1 4 Tryd.underlying22 HInf.out.1 HInf.out.2.1 HInf.out.2.2.1 HInf.out.2.2.2 rfl (by decide) _ _ _ rfl (HR.out.2.2.2.2.1.alloc _) ⟨wr.heap.size, 0, none⟩ 1 1 [.int .i32 2147483647] rfl rfl (cell_one_new _ _ _) (by intro u hu; simp at hu; subst hu; rfl) (by decide) ?c3 ?c4 ?c5 _ rfl ?_)
              case c3 => unfold maxLen; omega
              case c4 => omega
              case c5 => have := HR.out.2.2.1; have := HR.out.2.1; simp; omega
              intro gg cp w3 hown hgrow _ _
              have HA := Lib.hid (HR.out.append 2147483647 (by rw [← HX.out]; rfl) 0 hown hgrow)
              obtain ⟨k1, k2, k3⟩ := HA.out.at
              clear hown hgrow
              have HN2 := Lib.hid (HA.out.store HR.out.2.2.2.2.2.1 (by rw [← HX.out]; exact .inl rfl) hp)
              go_wp2
              go_roundg (gk - 1)
              case measure => have h := HG.out; omega
              case rel => exact ⟨p + 1, _, by go_num, HN2.out, by have h := HG.out; show _ = _; omega⟩
            · have t1 : (x == 4611686018427387904) = false := by simpa [none62] using h1
              have H1 := Lib.hid h1
              clear h1
              by_cases h2 : x < -536870912
              · have d2 : decide (x < -536870912) = true := decide_eq_true h2
                have hall : ¬ allR n m' := fun ha => by have := allR_at ha (p := p) (by rw [← HN.out]; exact hp); rw [← HX.out] at this; rcases this with h | h; exact H1.out h; omega
                have hz : zoneP n (clUp m (n + 1)) = (none, 10) := by unfold zoneP; rw [HC.out]; simp only; rw [if_neg hall]
                have HZ := Lib.hid hz
                clear hz hall
                go_wp2
                go_ret2
                exact ⟨HBA.out.trans (HR.out.1.mono HlB), .pointer none, by rw [HZ.out]; rfl, by rw [HZ.out]; rfl⟩
              · have d2 : decide (x < -536870912) = false := decide_eq_false h2
                by_cases h3 : 536870913 < x
                · have d3 : decide (536870913 < x) = true := decide_eq_true h3
                  have hall : ¬ allR n m' := fun ha => by have := allR_at ha (p := p) (by rw [← HN.out]; exact hp); rw [← HX.out] at this; rcases this with h | h; exact H1.out h; omega
                  have hz : zoneP n (clUp m (n + 1)) = (none, 10) := by unfold zoneP; rw [HC.out]; simp only; rw [if_neg hall]
                  have HZ := Lib.hid hz
                  clear hz hall
                  go_wp2
                  go_ret2
                  exact ⟨HBA.out.trans (HR.out.1.mono HlB), .pointer none, by rw [HZ.out]; rfl, by rw [HZ.out]; rfl⟩
                · have d3 : decide (536870913 < x) = false := decide_eq_false h3
                  have hw : IntKind.i32.wrap x = x := by rw [IntKind.wrap_i32]; omega
                  have hne1 : wr.heap.size ≠ w1.heap.size := by have := HR.out.2.2.1; have := HR.out.2.1; omega
                  have hne2 : wr.heap.size ≠ g := by have := HR.out.2.2.1; have := HR.out.2.1; omega
                  have hpN : (p : Int) < (N : Int) := by omega
                  have hl1 : w1.heap.size < wr.heap.size := by have := HR.out.2.2.1; have := HR.out.2.1; omega
                  have hl2 : g < wr.heap.size := by omega
                  go_wp2_with fail
                  go_region_law (first | (refine step_append_lies _ rfl _ _ 22 rfl (w1.heap.size + 1) 64 i0 (.int .i32 0) 1 4 Tryd.underlying22 HInf.out.1 HInf.out.2.1 HInf.out.2.2.1 HInf.out.2.2.2 rfl (by decide) sv p (vals .i32 (narUp (flat n m') p)) rfl (by exact HR.out.2.2.2.2.1.alloc _) ⟨wr.heap.size, 0, none⟩ 1 1 [.int .i32 x] rfl rfl (by exact cell_one_new _ _ _) (by intro u hu; simp at hu; subst hu; rfl) (by decide) (by unfold maxLen; omega) (by omega) (by simp; omega) _ rfl ?_; intro gg cp w3 hown hgrow _ _; have HA := Lib.hid (HR.out.append x (by rw [← HX.out]; unfold nar; rw [if_neg H1.out]) 1 hown (by exact hgrow)); have k1 := HA.out.at.1; have k2 := HA.out.at.2.1; have k3 := HA.out.at.2.2; have k4 : w3.cell? ⟨g, p, none⟩ = some (.int .i64 x) := (by rw [HX.out]; exact (HMA.out.below HA.out.below hg1).cell p (by rw [flat_length, ← HN.out]; exact hp)); clear hown hgrow))
                  go_goals
                  all_goals
                    have HN2 := Lib.hid (HA.out.store HR.out.2.2.2.2.2.1 (by rw [← HX.out]; exact .inr (by omega)) hp)
                    go_wp2
                    go_roundg (gk - 1)
                    case measure => have h := HG.out; omega
                    case rel => exact ⟨p + 1, _, by go_num, HN2.out, by have h := HG.out; show _ = _; omega⟩
          · have e : p = N := by have := HR.out.2.2.2.2.2.2; omega
            subst e
            have hrow := HR.out.2.2.2.2.1
            obtain ⟨gg, cp, hv, hge, hlt⟩ := World.ownsRow.form hrow (by rw [HN.out]; exact Nat.mul_pos (by omega) (by omega))
            have hall : allR n m' := allR_flat fun q hq => HR.out.2.2.2.2.2.1 q (by rw [HN.out]; exact hq)
            have hz : zoneP n (clUp m (n + 1)) = (some (narM n m'), 0) := by unfold zoneP; rw [HC.out]; simp only; rw [if_pos hall]
            have HZ := Lib.hid hz
            have HV := Lib.hid hv
            have HA := Lib.hid hall
            clear hz hv hall hrow
            go_wp2
            go_ret2
            refine ⟨HBA.out.trans (HR.out.1.mono HlB), .pointer (some ⟨w1.heap.size, 0, none⟩), by rw [HZ.out]; rfl, ?_⟩
            rw [HZ.out]
            refine ⟨w1.heap.size, gg, cp, rfl, hn, narM_right HA.out, ?_, ?_⟩
            · have := HR.out.2.2.2.1
              rw [HV.out, HN.out] at this
              exact this
            · have h1 := HR.out.2.2.2.2.1
              rw [HV.out] at h1
              rw [HN.out, narUp_flat] at h1
              obtain ⟨_, h2⟩ := h1
              rcases h2 with ⟨h3, _⟩ | ⟨g2, cap2, cur, h3, _, h4, _, _, _, h5⟩
              · cases h3
              · simp only [Value.slice.injEq, Option.some.injEq, Addr.mk.injEq] at h3
                obtain ⟨⟨rfl, _⟩, _, rfl⟩ := h3
                exact ⟨cur, h4, by rw [flat_length]; simpa using h5⟩

end Go.Proofs.YtidcnlecgcobmaaDoor

/- The closed form hangs on the cells of the clocks alone; the program's wide matrix and the document's have the same ones. -/
namespace Go.Proofs.YtidcnlecgcobmaaDoor
set_option linter.unusedVariables false

/-- The same cells of clocks 0 to n. -/
def Agree (n : Nat) (m o : Mat) : Prop := ∀ i j, i ≤ n → j ≤ n → m i j = o i j
theorem Agree.fwd {n : Nat} {m o : Mat} (h : Agree n m o) {k : Nat} (hk : k ≤ n) : Agree n (fw k n m) (fw k n o) := fun i j hi hj => by
  unfold fw; rw [if_pos ⟨hi, hj⟩, if_pos ⟨hi, hj⟩, h i j hi hj, h i k hi hk, h k j hk hj]
theorem closeP_agree {n : Nat} : ∀ s k m o, Agree n m o → k + s ≤ n + 1 → (closeP n s k m = none ∧ closeP n s k o = none) ∨ ∃ m' o', closeP n s k m = some m' ∧ closeP n s k o = some o' ∧ Agree n m' o'
  | 0, k, m, o, h, _ => .inr ⟨m, o, rfl, rfl, h⟩
  | s + 1, k, m, o, h, hk => by
    have hf := h.fwd (k := k) (by omega)
    simp only [closeP]
    by_cases hd : ∀ i, i ≤ n → 1 ≤ fw k n m i i
    · have hd' : ∀ i, i ≤ n → 1 ≤ fw k n o i i := fun i hi => by rw [← hf i i hi hi]; exact hd i hi
      rw [if_pos hd, if_pos hd']
      exact closeP_agree s (k + 1) _ _ hf (by omega)
    · have hd' : ¬ ∀ i, i ≤ n → 1 ≤ fw k n o i i := fun h' => hd fun i hi => by rw [hf i i hi hi]; exact h' i hi
      rw [if_neg hd, if_neg hd']
      exact .inl ⟨rfl, rfl⟩
theorem closed_agree {n : Nat} {m o : Mat} (h : Agree n m o) : (closed n m = none ∧ closed n o = none) ∨ ∃ m' o', closed n m = some m' ∧ closed n o = some o' ∧ Agree n m' o' :=
  closeP_agree (n + 1) 0 m o h (by omega)
theorem narM_agree {n : Nat} {m o : Mat} (h : Agree n m o) : narM n m = narM n o := by
  funext i j; unfold narM
  by_cases hij : i ≤ n ∧ j ≤ n
  · rw [if_pos hij, if_pos hij, h i j hij.1 hij.2]
  · rw [if_neg hij, if_neg hij]
theorem zoneP_agree {n : Nat} {m o : Mat} (h : Agree n m o) : zoneP n m = zoneP n o := by
  unfold zoneP
  rcases closed_agree h with ⟨h1, h2⟩ | ⟨m', o', h1, h2, h3⟩
  · rw [h1, h2]
  · rw [h1, h2]
    simp only
    by_cases ha : allR n m'
    · have hb : allR n o' := fun i hi j hj => by rw [← h3 i j hi hj]; exact ha i hi j hj
      rw [if_pos ha, if_pos hb, narM_agree h3]
    · have hb : ¬ allR n o' := fun hb => ha fun i hi j hj => by rw [h3 i j hi hj]; exact hb i hi j hj
      rw [if_neg ha, if_neg hb]

/-- The wide matrix of a row of bounds. -/
def widM (n : Nat) (cells : List Int) : Mat := fun i j => wid (cells.getD (i * (n + 1) + j) 0)
theorem widUp_flat {n : Nat} {cells : List Int} : widUp cells ((n + 1) * (n + 1)) = flat n (widM n cells) := by
  apply list_ext0 (by rw [widUp_length, flat_length])
  intro p hp
  rw [widUp_length] at hp
  rw [widUp_getD _ _ _ hp, flat_getD _ _ _ hp]
  show _ = wid (cells.getD (p / (n + 1) * (n + 1) + p % (n + 1)) 0)
  rw [Nat.mul_comm, Nat.div_add_mod]
theorem widM_bd {n : Nat} {cells : List Int} (h : ∀ q, q < (n + 1) * (n + 1) → rightB (cells.getD q 0) = true) : ∀ i j, i ≤ n → j ≤ n → Bd 1073741824 (widM n cells i j) := fun i j hi hj => by
  have hr := h (i * (n + 1) + j) (at_lt (by omega) (by omega))
  unfold widM wid
  by_cases e : cells.getD (i * (n + 1) + j) 0 = 2147483647
  · rw [if_pos e]; exact .inl rfl
  · rw [if_neg e]
    have := rightB_bd hr e
    exact .inr (by omega)

/-- What keeping the first p cells leaves of a cell. -/
theorem keepUp_cell (n : Nat) (cells : List Int) (i j : Nat) (hi : i ≤ n) (hj : j ≤ n) (hr : ∀ q, q < (n + 1) * (n + 1) → rightB (cells.getD q 0) = true) : ∀ p, p ≤ (n + 1) * (n + 1) →
    keepUp n cells p i j = if i * (n + 1) + j < p then (if i = j ∨ i = 0 then min 1 (wid (cells.getD (i * (n + 1) + j) 0)) else wid (cells.getD (i * (n + 1) + j) 0)) else openM n i j
  | 0, _ => by rw [if_neg (by omega)]; rfl
  | p + 1, hp => by
    have ih := keepUp_cell n cells i j hi hj hr p (by omega)
    have hrp := hr p (by omega)
    show keepM (keepUp n cells p) (p / (n + 1)) (p % (n + 1)) (cells.getD p 0) i j = _
    have hopen : openM n i j = if i = j ∨ i = 0 then 1 else none62 := by unfold openM; rw [if_pos ⟨hi, hj⟩]
    by_cases e : i * (n + 1) + j = p
    · have h1 := (at_row (i := i) (show j < n + 1 by omega)).1
      have h2 := (at_row (i := i) (show j < n + 1 by omega)).2
      rw [e] at h1 h2
      rw [if_neg (by omega)] at ih
      rw [if_pos (by omega), h1, h2, e]
      unfold keepM
      by_cases hinf : cells.getD p 0 = 2147483647
      · rw [if_pos hinf, ih, hopen]
        have hw : wid (cells.getD p 0) = none62 := by unfold wid; rw [if_pos hinf]
        rw [hw]
        by_cases hd : i = j ∨ i = 0
        · rw [if_pos hd, if_pos hd]; decide
        · rw [if_neg hd, if_neg hd]
      · rw [if_neg hinf]
        have hw : wid (cells.getD p 0) = cells.getD p 0 := by unfold wid; rw [if_neg hinf]
        have hb := rightB_bd hrp hinf
        rw [hw]
        unfold upd
        rw [if_pos ⟨rfl, rfl⟩, ih, hopen]
        by_cases hd : i = j ∨ i = 0
        · rw [if_pos hd, if_pos hd]
        · rw [if_neg hd, if_neg hd, Int.min_def]
          unfold none62
          rw [if_neg (by omega)]
    · have hne : ¬ (i = p / (n + 1) ∧ j = p % (n + 1)) := fun h => e (by rw [h.1, h.2, Nat.mul_comm]; exact Nat.div_add_mod _ _)
      have hk : keepM (keepUp n cells p) (p / (n + 1)) (p % (n + 1)) (cells.getD p 0) i j = keepUp n cells p i j := by
        unfold keepM
        split
        · rfl
        · unfold upd; rw [if_neg hne]
      rw [hk, ih]
      by_cases hlt : i * (n + 1) + j < p
      · rw [if_pos hlt, if_pos (show i * (n + 1) + j < p + 1 by omega)]
      · rw [if_neg hlt, if_neg (show ¬ i * (n + 1) + j < p + 1 by omega)]

/-- The program's wide matrix is the document's. -/
theorem keep_wide {n : Nat} {cells : List Int} (hr : ∀ q, q < (n + 1) * (n + 1) → rightB (cells.getD q 0) = true) : Agree n (clUp (widM n cells) (n + 1)) (keepUp n cells ((n + 1) * (n + 1))) := fun i j hi hj => by
  rw [keepUp_cell n cells i j hi hj hr _ (Nat.le_refl _), if_pos (at_lt (by omega) (by omega))]
  unfold clUp
  by_cases hd : i = j ∨ i = 0
  · rw [if_pos (by omega), if_pos hd, Int.min_comm]; rfl
  · rw [if_neg (by omega), if_neg hd]; rfl

end Go.Proofs.YtidcnlecgcobmaaDoor

/- The document's Of. -/
namespace Go.Proofs.YtidcnlecgcobmaaDoor
open Go Go.RowKit
set_option linter.unusedVariables false
set_option linter.unusedSimpArgs false

set_option maxRecDepth 100000 in
set_option maxHeartbeats 1000000 in
theorem rof_clock (n : Int) (A : Option Addr) (c : Nat) (cells : List Int) (w : World) (hn : ¬ (0 ≤ n ∧ n ≤ 8)) :
    Calls Tryd.prog 58 #[.int .i64 n, .slice A cells.length c] w (MakesR w n.toNat (ofP n cells)) := by
  have hz : ofP n cells = (none, 12) := by unfold ofP; rw [if_neg hn]
  rw [hz]
  clear hz
  by_cases h0 : n < 0
  · have d0 : decide (n < 0) = true := decide_eq_true h0
    go_enter Tryd.func58, Tryd.ntmps58
    go_wp2
    go_ret2
    exact ⟨Below.refl _ _, .pointer none, rfl, rfl⟩
  · have d0 : decide (n < 0) = false := decide_eq_false h0
    have h8 : 8 < n := by omega
    clear hn
    go_enter Tryd.func58, Tryd.ntmps58
    go_wp2
    go_ret2
    exact ⟨Below.refl _ _, .pointer none, rfl, rfl⟩

set_option maxRecDepth 100000 in
set_option maxHeartbeats 1000000 in
theorem rof_long (n : Nat) (A : Option Addr) (c : Nat) (cells : List Int) (w : World) (hn : n ≤ 8) (hlen : ¬ (cells.length : Int) = ((n : Int) + 1) * ((n : Int) + 1)) (hmax : cells.length ≤ 4611686018427387904) :
    Calls Tryd.prog 58 #[.int .i64 n, .slice A cells.length c] w (MakesR w n (ofP n cells)) := by
  have hz : ofP n cells = (none, 6) := by unfold ofP; rw [if_pos (by omega), if_neg hlen]
  rw [hz]
  clear hz
  have hm : ((n : Int) + 1) * ((n : Int) + 1) ≤ 9 * 9 := Int.mul_le_mul (by omega) (by omega) (by omega) (by omega)
  have hm0 : 0 ≤ ((n : Int) + 1) * ((n : Int) + 1) := Int.mul_nonneg (by omega) (by omega)
  have t1 : ((cells.length : Int) != ((n : Int) + 1) * ((n : Int) + 1)) = true := by simpa using hlen
  have d0 : decide ((n : Int) < 0) = false := decide_eq_false (by omega)
  clear hlen
  go_enter Tryd.func58, Tryd.ntmps58
  go_wp2
  go_ret2
  exact ⟨Below.refl _ _, .pointer none, rfl, rfl⟩

set_option maxRecDepth 100000 in
set_option maxHeartbeats 2000000 in
theorem rof_yes (n : Nat) (A : Option Addr) (c : Nat) (cells : List Int) (w : World) (hn : n ≤ 8) (hI : Ints w .i32 A cells) (hlen : (cells.length : Int) = ((n : Int) + 1) * ((n : Int) + 1))
    (hk : ∀ q, q < cells.length → -2147483648 ≤ cells.getD q 0 ∧ cells.getD q 0 ≤ 2147483647) :
    Calls Tryd.prog 58 #[.int .i64 n, .slice A cells.length c] w (MakesR w n (ofP n cells)) := by
  have hl81 : cells.length ≤ 81 := by
    have : ((n : Int) + 1) * ((n : Int) + 1) ≤ 9 * 9 := Int.mul_le_mul (by omega) (by omega) (by omega) (by omega)
    omega
  have hm : ((n : Int) + 1) * ((n : Int) + 1) ≤ 81 := by omega
  have hm0 : 0 ≤ ((n : Int) + 1) * ((n : Int) + 1) := by omega
  have HL := Lib.hid (show cells.length = (n + 1) * (n + 1) from by
    have : ((cells.length : Nat) : Int) = (((n + 1) * (n + 1) : Nat) : Int) := by rw [hlen]; simp
    omega)
  have HLI := Lib.hid hlen
  have HI := Lib.hid hI
  have HK := Lib.hid hk
  have t1 : ((cells.length : Int) != ((n : Int) + 1) * ((n : Int) + 1)) = false := by simp [hlen]
  have d0 : decide ((n : Int) < 0) = false := decide_eq_false (by omega)
  clear hlen hI hk
  go_enter Tryd.func58, Tryd.ntmps58
  go_wp2
  go_loopg [6] cells.length (fun g v wr => ∃ p : Nat, v = .int .i64 p ∧ w = wr ∧ Hid (p ≤ cells.length ∧ g + p = cells.length ∧ ∀ q, q < p → rightB (cells.getD q 0) = true))
  case atStart => exact ⟨0, by simp, rfl, by omega, by omega, fun q h => by omega⟩
  case round =>
    obtain ⟨p, rfl, rfl, HG⟩ := hrel
    by_cases hp : p < cells.length
    · obtain ⟨b, off, rfl, hc⟩ := HI.out p hp
      have hb := HK.out p hp
      obtain ⟨x, hx⟩ : ∃ x, x = cells.getD p 0 := ⟨_, rfl⟩
      rw [← hx] at hc hb
      have HX := Lib.hid hx
      clear hx
      obtain ⟨hb0, hb1⟩ := hb
      by_cases hr : rightB x = true
      · have HRR := Lib.hid hr
        clear hr
        go_wp2_with fail
        refine (rright_yes _ _ HRR.out hb0 hb1).mono ?_
        rintro e w' ⟨rfl, rfl⟩
        go_wp2
        go_roundg (gk - 1)
        case measure => have := HG.out; omega
        case rel =>
          refine ⟨p + 1, by go_num, rfl, by omega, by have := HG.out.2.1; omega, fun q hq => ?_⟩
          by_cases e : q = p
          · subst e; rw [← HX.out]; exact HRR.out
          · exact HG.out.2.2 q (by omega)
      · have hrf : rightB x = false := by simpa using hr
        have HRR := Lib.hid hrf
        clear hr hrf
        have hall : cells.all rightB = false := by
          rw [Bool.eq_false_iff]
          intro ha
          have := (all_getD cells rightB 0).1 ha p hp
          rw [← HX.out, HRR.out] at this
          cases this
        have hz : ofP n cells = (none, 7) := by
          unfold ofP; rw [if_pos (by omega), if_pos HLI.out, hall]; rfl
        have HZ := Lib.hid hz
        clear hz hall
        go_wp2_with fail
        refine (rright_no _ _ HRR.out hb0 hb1).mono ?_
        rintro e w' ⟨rfl, rfl⟩
        go_wp2
        go_ret2
        exact ⟨Below.refl _ _, .pointer none, by rw [HZ.out]; rfl, by rw [HZ.out]; rfl⟩
    · have e : p = cells.length := by have := HG.out.1; omega
      have hall : cells.all rightB = true := (all_getD cells rightB 0).2 (by rw [← e]; exact HG.out.2.2)
      have hr : ∀ q, q < (n + 1) * (n + 1) → rightB (cells.getD q 0) = true := fun q hq => HG.out.2.2 q (by rw [e, HL.out]; exact hq)
      have hz : ofP n cells = zoneP n (clUp (widM n cells) (n + 1)) := by
        unfold ofP; rw [if_pos (by omega), if_pos HLI.out, if_pos hall, Int.toNat_natCast, HL.out]
        exact (zoneP_agree (keep_wide hr)).symm
      have HZ := Lib.hid hz
      have HRR := Lib.hid hr
      clear hz hall hr e
      go_wp2_with fail
      refine (wide_any A c cells _ HI.out (by omega) HK.out).mono ?_
      rintro e w1 ⟨v, rfl, hw⟩
      have hown : OwnI w1 w.heap.size 2 .i64 v (widUp cells cells.length) := by
        unfold OwnI; rw [widUp_length]; exact hw.2.1
      obtain ⟨g, cp, hv, hge, hrow⟩ := hown.row (by rw [widUp_length, HL.out]; exact Nat.mul_pos (by omega) (by omega))
      rw [widUp_length] at hv
      have HW := Lib.hid hw.1
      have hrow2 : RowAt w1 g 2 .i64 (flat n (widM n cells)) := by
        rw [HL.out, widUp_flat] at hrow; exact hrow
      have HRow := Lib.hid hrow2
      clear hrow hrow2 hown hw
      rw [hv]
      clear hv
      go_wp2_with fail
      refine (rmade_any g n cells.length cp (widM n cells) _ hn HL.out HRow.out (widM_bd HRR.out) w.heap.size hge HW.out.size).mono ?_
      rintro e w2 ⟨hb, v2, rfl, hz2⟩
      have HB := Lib.hid hb
      have HZ2 := Lib.hid hz2
      clear hb hz2
      go_wp2
      go_ret2
      rw [HZ.out]
      exact ⟨HW.out.trans HB.out, v2, rfl, HZ2.out⟩

/-- The document's Of, whatever it is given. -/
theorem rof_any (n : Int) (A : Option Addr) (c : Nat) (cells : List Int) (w : World) (hI : Ints w .i32 A cells) (hmax : cells.length ≤ 4611686018427387904)
    (hk : ∀ q, q < cells.length → -2147483648 ≤ cells.getD q 0 ∧ cells.getD q 0 ≤ 2147483647) :
    Calls Tryd.prog 58 #[.int .i64 n, .slice A cells.length c] w (MakesR w n.toNat (ofP n cells)) := by
  by_cases hn : 0 ≤ n ∧ n ≤ 8
  · obtain ⟨k, rfl⟩ : ∃ k : Nat, n = k := ⟨n.toNat, by omega⟩
    by_cases hl : (cells.length : Int) = ((k : Int) + 1) * ((k : Int) + 1)
    · exact rof_yes k A c cells w (by omega) hI hl hk
    · exact rof_long k A c cells w (by omega) hl hmax
  · exact rof_clock n A c cells w hn

end Go.Proofs.YtidcnlecgcobmaaDoor

/- append onto nil, the source nil or not; rows of bounds of differences of the call's own. -/
namespace Go.Proofs.YtidcnlecgcobmaaDoor
open Go Go.RowKit
set_option linter.unusedVariables false
set_option linter.unusedSimpArgs false

theorem run_append_fresh {P : Program} (w : World) (t ty e : TypeId) (i : TypeInfo) (z : Value) (size bytes : Nat) (ht : P.underlying t = some (.slice e)) (hi : P.info? e = some i) (hz : i.zero = some z)
    (hsize : i.size = size) (hby : i.bytes = bytes) (hzs : z.cells.size = size) (hsz : 0 < size) (A : Option Addr) (m c : Nat) (news : List Value) (hl : news.length = m * size) (h0 : A = none → m = 0)
    (hnews : ∀ ad, A = some ad → ∀ j u, news[j]? = some u → w.cell? (ad.add j) = some u) (h1 : ∀ u ∈ news, u.oneCell' = true) (h63 : m ≤ maxLen) (hbytes : m * bytes ≤ 140737488355328) :
    ∃ v' w', (Builtin.append_ #[t, t] ty #[.slice none 0 0, .slice A m c]).run P w = .ok v' w' ∧ w'.ownsRow w.heap.size e size v' m news ∧ w.grownBy w' none := by
  match A, h0, hnews with
  | none, h0, _ =>
    obtain rfl := h0 rfl
    have hn : news = [] := by simpa using hl
    subst hn
    refine ⟨.slice none 0 0, w, ?_, World.ownsRow_nil w _ _ _, ⟨rfl, rfl, rfl, Nat.le_refl _, fun _ _ _ => rfl⟩⟩
    simp [Builtin.append_, run_underlying ht, sizeOf, typeInfo, hi, Builtin.lenOf, Builtin.firstCells]
  | some ad, _, hnews =>
    obtain ⟨v', w', h2, h3, h4, _⟩ := run_append_own w w.heap.size t ty e i z size bytes ht hi hz hsize hby hzs hsz (.slice none 0 0) 0 [] (World.ownsRow_nil w _ _ _) ad m c news hl (hnews ad rfl) h1 (by omega) (by rw [Nat.zero_add]; exact hbytes) (Nat.le_refl _)
    refine ⟨v', w', h2, by simpa using h3, h4⟩

/-- An append whose run is known. -/
theorem wpList_append_run {P : Program} {w : World} {ops : Array Oper} {rest : List Oper} {o : Oper} {a : Act} {Q : Exit → Act → World → Prop} (hgd : o.guard = none) (s x : Operand) (t : TypeId)
    (ho : o.op = .call { callee := .builtin .append, args := #[s, x], argTypes := #[t, t] }) (v0 x0 v' : Value) (w' : World) (hs : a.eval s = v0) (hx : a.eval x = x0)
    (hr : (Builtin.append_ #[t, t] o.type #[v0, x0]).run P w = .ok v' w') (h : wpList P ops Q rest (a.put o.dst v') w') : wpList P ops Q (o :: rest) a w := by
  refine wpList_plain hgd fun _ hK => ?_
  unfold Oper.wp execOp
  simp only [ho, resolve, invoke, builtin, Sem.run_bind, Sem.run_pure, Result.andThen_ok, List.map_toArray, List.map_cons, List.map_nil, hs, hx, hr]
  exact hK _ _ h

/-- The cells of bounds of differences. -/
def lcells (l : List (Int × Int × Int)) : List Value := l.flatMap fun x => [.int .i64 x.1, .int .i64 x.2.1, .int .i32 x.2.2]
theorem lcells_length (l : List (Int × Int × Int)) : (lcells l).length = l.length * 3 := by
  induction l with
  | nil => rfl
  | cons x l ih => simp only [lcells, List.flatMap_cons, List.length_append, List.length_cons, List.length_nil] at ih ⊢; omega
theorem lcells_at : ∀ (l : List (Int × Int × Int)) (j : Nat), j < l.length → (lcells l)[j * 3]? = some (.int .i64 (l.getD j (0, 0, 0)).1) ∧ (lcells l)[j * 3 + 1]? = some (.int .i64 (l.getD j (0, 0, 0)).2.1) ∧ (lcells l)[j * 3 + 2]? = some (.int .i32 (l.getD j (0, 0, 0)).2.2)
  | [], j, h => by simp at h
  | x :: l, 0, _ => by simp [lcells]
  | x :: l, j + 1, h => by
    have ih := lcells_at l j (by simpa using h)
    have e : ∀ q, (lcells (x :: l))[(j + 1) * 3 + q]? = (lcells l)[j * 3 + q]? := fun q => by
      rw [show lcells (x :: l) = [.int .i64 x.1, .int .i64 x.2.1, .int .i32 x.2.2] ++ lcells l from rfl, List.getElem?_append_right (by simp; omega)]
      congr 1
      simp; omega
    have e0 := e 0
    rw [Nat.add_zero, Nat.add_zero] at e0
    rw [e0, e 1, e 2, List.getD_cons_succ]
    exact ih
theorem lcells_one (l : List (Int × Int × Int)) : ∀ u ∈ lcells l, u.oneCell' = true := by
  intro u hu
  obtain ⟨x, _, h⟩ := List.mem_flatMap.1 hu
  simp only [List.mem_cons, List.mem_nil_iff, or_false] at h
  rcases h with rfl | rfl | rfl <;> rfl
theorem lcells_index (l : List (Int × Int × Int)) (j : Nat) (u : Value) (h : (lcells l)[j]? = some u) : ∃ p, p < l.length ∧ ((j = p * 3 ∧ u = .int .i64 (l.getD p (0, 0, 0)).1) ∨ (j = p * 3 + 1 ∧ u = .int .i64 (l.getD p (0, 0, 0)).2.1) ∨ (j = p * 3 + 2 ∧ u = .int .i32 (l.getD p (0, 0, 0)).2.2)) := by
  have hj : j < l.length * 3 := by
    rw [← lcells_length]
    exact (List.getElem?_eq_some_iff.1 h).1
  have hp : j / 3 < l.length := by omega
  obtain ⟨h0, h1, h2⟩ := lcells_at l (j / 3) hp
  refine ⟨j / 3, hp, ?_⟩
  rcases (show j % 3 = 0 ∨ j % 3 = 1 ∨ j % 3 = 2 by omega) with e | e | e
  · left
    have e' : j = j / 3 * 3 := by omega
    rw [← e'] at h0
    rw [h0] at h
    exact ⟨e', (Option.some.inj h).symm⟩
  · right; left
    have e' : j = j / 3 * 3 + 1 := by omega
    rw [← e'] at h1
    rw [h1] at h
    exact ⟨e', (Option.some.inj h).symm⟩
  · right; right
    have e' : j = j / 3 * 3 + 2 := by omega
    rw [← e'] at h2
    rw [h2] at h
    exact ⟨e', (Option.some.inj h).symm⟩
theorem lims_news {w : World} {A : Option Addr} {l : List (Int × Int × Int)} (h : Lims w A l) : ∀ ad, A = some ad → ∀ j u, (lcells l)[j]? = some u → w.cell? (ad.add j) = some u := by
  intro ad e j u hu
  obtain ⟨p, hp, hc⟩ := lcells_index l j u hu
  obtain ⟨b, off, e', c0, c1, c2⟩ := h p hp
  subst e
  simp only [Option.some.injEq] at e'
  subst e'
  have ea : ∀ k, (⟨b, off, none⟩ : Addr).add k = ⟨b, off + k, none⟩ := fun k => by unfold Addr.add; split <;> simp_all
  rw [ea]
  rcases hc with ⟨rfl, rfl⟩ | ⟨rfl, rfl⟩ | ⟨rfl, rfl⟩
  · exact c0
  · rw [← Nat.add_assoc]; exact c1
  · rw [← Nat.add_assoc]; exact c2
theorem ints_news {w : World} {k : IntKind} {A : Option Addr} {xs : List Int} (h : Ints w k A xs) : ∀ ad, A = some ad → ∀ j u, (vals k xs)[j]? = some u → w.cell? (ad.add j) = some u := by
  intro ad e j u hu
  have hj : j < xs.length := by
    have := (List.getElem?_eq_some_iff.1 hu).1
    simpa [vals] using this
  obtain ⟨b, off, e', c0⟩ := h j hj
  subst e
  simp only [Option.some.injEq] at e'
  subst e'
  have ea : ∀ k, (⟨b, off, none⟩ : Addr).add k = ⟨b, off + k, none⟩ := fun k => by unfold Addr.add; split <;> simp_all
  rw [ea, c0]
  simp [vals, List.getElem?_map, List.getElem?_eq_getElem hj] at hu
  rw [← hu, List.getD_eq_getElem?_getD, List.getElem?_eq_getElem hj]
  rfl
/-- A row of the call's own of bounds of differences. -/
def OwnL (w : World) (base : Nat) (e : TypeId) (v : Value) (l : List (Int × Int × Int)) : Prop := w.ownsRow base e 3 v l.length (lcells l)
theorem OwnL.lims {w : World} {base : Nat} {e : TypeId} {v : Value} {l : List (Int × Int × Int)} (h : OwnL w base e v l) : ∃ A cap, v = .slice A l.length cap ∧ Lims w A l := by
  obtain ⟨hl, h⟩ := h
  rcases h with ⟨rfl, h0⟩ | ⟨g, cap, cur, rfl, _, h1, _, _, _, h2⟩
  · refine ⟨none, 0, by rw [h0], fun j hj => by omega⟩
  · refine ⟨some ⟨g, 0, none⟩, cap, rfl, fun j hj => ?_⟩
    have hc : ∀ q u, (lcells l)[q]? = some u → w.cell? ⟨g, q, none⟩ = some u := fun q u hu => by
      have hq : q < l.length * 3 := by rw [← lcells_length]; exact (List.getElem?_eq_some_iff.1 hu).1
      rw [← h2, List.getElem?_take, if_pos hq] at hu
      simp only [World.cell?, h1]
      simpa using hu
    obtain ⟨a0, a1, a2⟩ := lcells_at l j hj
    exact ⟨g, 0, rfl, by rw [Nat.zero_add]; exact hc _ _ a0, by rw [Nat.zero_add]; exact hc _ _ a1, by rw [Nat.zero_add]; exact hc _ _ a2⟩
theorem OwnL.later {w w' : World} {base : Nat} {e : TypeId} {v : Value} {l : List (Int × Int × Int)} (h : OwnL w base e v l) (hb : Below w.heap.size w w') : OwnL w' base e v l := by
  obtain ⟨hl, h⟩ := h
  refine ⟨hl, ?_⟩
  rcases h with h | ⟨g, cap, cur, e1, e2, h1, h2⟩
  · exact .inl h
  · exact .inr ⟨g, cap, cur, e1, e2, (hb.block g (Array.getElem?_eq_some_iff.1 h1).1).trans h1, h2⟩

end Go.Proofs.YtidcnlecgcobmaaDoor

/- The diagonal of a closed form, and the shape of every zone. -/
namespace Go.Proofs.YtidcnlecgcobmaaDoor
set_option linter.unusedVariables false
set_option linter.unusedSimpArgs false

theorem fw_diag {k n : Nat} {m : Mat} (h : ∀ i, i ≤ n → m i i ≤ 1) : ∀ i, i ≤ n → fw k n m i i ≤ 1 := fun i hi => by
  unfold fw
  rw [if_pos ⟨hi, hi⟩]
  have := h i hi
  omega
theorem closeP_diag {n : Nat} : ∀ s k m m', (∀ i, i ≤ n → m i i ≤ 1) → closeP n s k m = some m' → ∀ i, i ≤ n → m' i i ≤ 1
  | 0, k, m, m', h, e => by
    simp [closeP] at e
    subst e
    exact h
  | s + 1, k, m, m', h, e => by
    unfold closeP at e
    split at e
    · exact closeP_diag s (k + 1) _ m' (fw_diag h) e
    · cases e
theorem closeP_low {n : Nat} : ∀ s k m m', closeP n (s + 1) k m = some m' → ∀ i, i ≤ n → 1 ≤ m' i i
  | 0, k, m, m', e => by
    unfold closeP at e
    split at e
    · simp [closeP] at e
      subst e
      assumption
    · cases e
  | s + 1, k, m, m', e => by
    unfold closeP at e
    split at e
    · exact closeP_low s (k + 1) _ m' e
    · cases e
/-- On the diagonal of a closed form stands 0, reached. -/
theorem closed_diag {n : Nat} {m m' : Mat} (h : ∀ i, i ≤ n → m i i ≤ 1) (e : closed n m = some m') : ∀ i, i ≤ n → m' i i = 1 := fun i hi => by
  have h1 := closeP_diag _ _ _ _ h e i hi
  have h2 := closeP_low _ _ _ _ e i hi
  omega

/-- The shape of a zone: nothing outside; empty: all 0; else 1 on the diagonal. -/
structure Shape (n : Nat) (m : Mat) : Prop where
  inside : Inside n m
  cases : m = (fun _ _ => 0) ∨ ∀ i, i ≤ n → m i i = 1
theorem zoneP_shape {n : Nat} {m z : Mat} (h : ∀ i, i ≤ n → m i i ≤ 1) (e : (zoneP n m).1 = some z) : Shape n z := by
  unfold zoneP at e
  split at e
  · simp at e
    subst e
    exact ⟨fun _ _ _ => rfl, .inl rfl⟩
  · rename_i m' hm
    split at e
    · simp at e
      subst e
      refine ⟨narM_inside _ _, .inr fun i hi => ?_⟩
      unfold narM
      rw [if_pos ⟨hi, hi⟩, closed_diag h hm i hi]
      decide
    · cases e
theorem ofP_shape {n : Int} {cells : List Int} {z : Mat} (e : (ofP n cells).1 = some z) : 0 ≤ n ∧ n ≤ 8 ∧ Shape n.toNat z := by
  unfold ofP at e
  split at e
  · rename_i hn
    refine ⟨hn.1, hn.2, ?_⟩
    split at e
    · split at e
      · rename_i hr
        have hr' := (all_getD cells rightB 0).1 hr
        exact zoneP_shape (fun i hi => (keepUp_fit _ _ _ hr').diag i hi) e
      · cases e
    · cases e
  · cases e
theorem limP_shape {n : Int} {l : List (Int × Int × Int)} {z : Mat} (e : (limP n l).1 = some z) : 0 ≤ n ∧ n ≤ 8 ∧ Shape n.toNat z := by
  unfold limP at e
  split at e
  · rename_i hn
    refine ⟨hn.1, hn.2, ?_⟩
    split at e
    · rename_i hr
      have hr' := (all_getD l (limOk n.toNat) (0, 0, 0)).1 hr
      exact zoneP_shape (fun i hi => (limUp_fit _ _ _ hr').diag i hi) e
    · cases e
  · cases e
/-- Two that hold the same within are the same. -/
theorem inside_ext {n : Nat} {m o : Mat} (hm : Inside n m) (ho : Inside n o) (h : ∀ i j, i ≤ n → j ≤ n → m i j = o i j) : m = o := by
  funext a c
  by_cases hb : a ≤ n ∧ c ≤ n
  · exact h a c hb.1 hb.2
  · rw [hm a c (by omega), ho a c (by omega)]

end Go.Proofs.YtidcnlecgcobmaaDoor

/- What bounds mean: valuations on a grid. The closed form has the same ones, it is closed, and it is its own closed form. -/
namespace Go.Proofs.YtidcnlecgcobmaaDoor
set_option linter.unusedVariables false
set_option linter.unusedSimpArgs false

/-! ### sums of wide bounds -/
theorem wsum_min {a b : Int} (ha : a ≠ none62) (hb : b ≠ none62) : wsum a b = (a - a % 2) + (b - b % 2) + min (a % 2) (b % 2) := by
  unfold wsum
  rw [if_neg (by simp [ha, hb])]
  rcases two_cases a b with ⟨h, h1⟩ | ⟨h, h1, h2⟩ <;> rw [h] <;> omega
theorem wsum_none_left (b : Int) : wsum none62 b = none62 := by simp [wsum]
theorem wsum_none_right (a : Int) : wsum a none62 = none62 := by simp [wsum]
theorem wsum_comm (a b : Int) : wsum a b = wsum b a := by
  by_cases ha : a = none62
  · rw [ha, wsum_none_left, wsum_none_right]
  · by_cases hb : b = none62
    · rw [hb, wsum_none_left, wsum_none_right]
    · rw [wsum_min ha hb, wsum_min hb ha]; omega
/-- A wide bound that may be added a few times. -/
abbrev FB (a : Int) : Prop := Bd 288230376151711744 a
theorem FB.fin {a : Int} (h : FB a) (hn : a ≠ none62) : -288230376151711744 ≤ a ∧ a ≤ 288230376151711744 := by
  rcases h with h | h
  · exact absurd h hn
  · exact h
theorem FB.le {a : Int} (h : FB a) : a ≤ none62 := by
  unfold none62
  rcases h with h | h
  · unfold none62 at h; omega
  · omega
theorem wsum_fin_ne {a b : Int} (ha : FB a) (hb : FB b) (h1 : a ≠ none62) (h2 : b ≠ none62) : wsum a b ≠ none62 := by
  rw [wsum_min h1 h2]
  have := ha.fin h1
  have := hb.fin h2
  unfold none62
  omega
theorem wsum_assoc {a b c : Int} (ha : FB a) (hb : FB b) (hc : FB c) : wsum (wsum a b) c = wsum a (wsum b c) := by
  by_cases h1 : a = none62
  · rw [h1, wsum_none_left, wsum_none_left, wsum_none_left]
  · by_cases h2 : b = none62
    · rw [h2, wsum_none_right, wsum_none_left, wsum_none_right]
    · by_cases h3 : c = none62
      · rw [h3, wsum_none_right, wsum_none_right, wsum_none_right]
      · have e1 := wsum_fin_ne ha hb h1 h2
        have e2 := wsum_fin_ne hb hc h2 h3
        rw [wsum_min e1 h3, wsum_min h1 e2, wsum_min h1 h2, wsum_min h2 h3]
        omega
theorem wsum_le {a a' b b' : Int} (ha : FB a) (ha' : FB a') (hb : FB b) (hb' : FB b') (h1 : a ≤ a') (h2 : b ≤ b') : wsum a b ≤ wsum a' b' := by
  by_cases e1 : a' = none62
  · rw [e1, wsum_none_left]
    by_cases e2 : a = none62
    · rw [e2, wsum_none_left]; exact Int.le_refl _
    · by_cases e3 : b = none62
      · rw [e3, wsum_none_right]; exact Int.le_refl _
      · have := ha.fin e2
        have := hb.fin e3
        rw [wsum_min e2 e3]; unfold none62; omega
  · by_cases e2 : b' = none62
    · rw [e2, wsum_none_right]
      by_cases e3 : a = none62
      · rw [e3, wsum_none_left]; exact Int.le_refl _
      · by_cases e4 : b = none62
        · rw [e4, wsum_none_right]; exact Int.le_refl _
        · have := ha.fin e3
          have := hb.fin e4
          rw [wsum_min e3 e4]; unfold none62; omega
    · have f1 := ha'.fin e1
      have f2 := hb'.fin e2
      have e3 : a ≠ none62 := fun h => by unfold none62 at h; omega
      have e4 : b ≠ none62 := fun h => by unfold none62 at h; omega
      rw [wsum_min e3 e4, wsum_min e1 e2]
      omega

/-! ### the closed form is closed -/
/-- No way by a clock ahead of k is stricter. -/
def Tri (n : Nat) (m : Mat) (k : Nat) : Prop := ∀ l, l < k → ∀ i j, i ≤ n → j ≤ n → m i j ≤ wsum (m i l) (m l j)
theorem fw_le (k n : Nat) (m : Mat) (i j : Nat) : fw k n m i j ≤ m i j := by
  unfold fw; split
  · omega
  · exact Int.le_refl _
theorem half_fb {a : Int} (h : Bd 1125899906842624 a) : FB a := h.mono (by omega)
theorem sum_fb {a b : Int} (h : Bd 1125899906842624 a) (h' : Bd 1125899906842624 b) : FB (wsum a b) := (h.sum h').mono (by omega)
theorem fw_tri {n k : Nat} {m : Mat} (hf : ∀ i j, i ≤ n → j ≤ n → Bd 1125899906842624 (m i j)) (hk : k ≤ n) (hd : ∀ i, i ≤ n → m i i = 1) (ht : Tri n m k) : Tri n (fw k n m) (k + 1) := by
  intro l hl i j hi hj
  by_cases e : l = k
  · subst e
    rw [fw_col (hd l hk), fw_row (hd l hk)]
    unfold fw
    rw [if_pos ⟨hi, hj⟩]
    omega
  · have hlk : l < k := by omega
    have hln : l ≤ n := by omega
    have t1 := ht l hlk i j hi hj
    have t2 := ht l hlk k j hk hj
    have t3 := ht l hlk i k hi hk
    have t4 := ht l hlk k k hk hk
    rw [hd k hk] at t4
    have fa := hf i l hi hln
    have fb := hf l j hln hj
    have fc := hf i k hi hk
    have fd := hf k j hk hj
    have fp := hf k l hk hln
    have fq := hf l k hln hk
    unfold fw
    rw [if_pos ⟨hi, hj⟩, if_pos ⟨hi, hln⟩, if_pos ⟨hln, hj⟩]
    generalize m i j = x at *
    generalize m i l = a at *
    generalize m l j = b at *
    generalize m i k = c at *
    generalize m k j = d at *
    generalize m k l = p at *
    generalize m l k = q at *
    have g2 : wsum c d ≤ wsum (wsum c p) b := by
      rw [wsum_assoc (half_fb fc) (half_fb fp) (half_fb fb)]
      exact wsum_le (half_fb fc) (half_fb fc) (half_fb fd) (sum_fb fp fb) (Int.le_refl _) t2
    have g3 : wsum c d ≤ wsum a (wsum q d) := by
      rw [← wsum_assoc (half_fb fa) (half_fb fq) (half_fb fd)]
      exact wsum_le (half_fb fc) (sum_fb fa fq) (half_fb fd) (half_fb fd) t3 (Int.le_refl _)
    have g4 : wsum c d ≤ wsum (wsum c p) (wsum q d) := by
      rw [wsum_assoc (half_fb fc) (half_fb fp) (sum_fb fq fd), ← wsum_assoc (half_fb fp) (half_fb fq) (half_fb fd)]
      refine wsum_le (half_fb fc) (half_fb fc) (half_fb fd) ?_ (Int.le_refl _) ?_
      · have := ((fp.sum fq).sum fd)
        exact this.mono (by omega)
      · have := wsum_le (a := 1) (b := d) (a' := wsum p q) (b' := d) (.inr (by omega)) (sum_fb fp fq) (half_fb fd) (half_fb fd) t4 (Int.le_refl _)
        rwa [wsum_one_left] at this
    have m1 : min a (wsum c p) = a ∨ min a (wsum c p) = wsum c p := by omega
    have m2 : min b (wsum q d) = b ∨ min b (wsum q d) = wsum q d := by omega
    rcases m1 with m1 | m1 <;> rcases m2 with m2 | m2 <;> rw [m1, m2]
    · omega
    · omega
    · omega
    · omega

theorem four_le {k : Nat} (h : k ≤ 9) : (1073741824 : Int) * 4 ^ k ≤ 281474976710656 := by
  have := pow2_le h
  omega
theorem fit_bd {n k : Nat} {m : Mat} (h : Fit n (1073741824 * 4 ^ k) m) (hk : k ≤ 9) : ∀ i j, i ≤ n → j ≤ n → Bd 1125899906842624 (m i j) := fun i j hi hj => (h.bd i j hi hj).mono (by have := four_le hk; omega)
theorem fit_next {n k : Nat} {m : Mat} (h : Fit n (1073741824 * 4 ^ k) m) (hk : k ≤ n) : Fit n (1073741824 * 4 ^ (k + 1)) (fw k n m) := by
  have := h.fwd hk (by have := one_le_pow2 k; omega)
  exact ⟨fun i j hi hj => (this.bd i j hi hj).mono (pow2_step k), this.diag⟩

/-- What a closed form is. -/
structure Closed (n : Nat) (m m' : Mat) : Prop where
  tri : Tri n m' (n + 1)
  bd : ∀ i j, i ≤ n → j ≤ n → Bd 1125899906842624 (m' i j)
  one : ∀ i, i ≤ n → m' i i = 1
  le : ∀ i j, m' i j ≤ m i j
theorem closeP_closed {n : Nat} (hn : n ≤ 8) : ∀ s k m m', k + s = n + 1 → Fit n (1073741824 * 4 ^ k) m → Tri n m k → (∀ i, i ≤ n → s = 0 → m i i = 1) → closeP n s k m = some m' → Closed n m m'
  | 0, k, m, m', hk, hf, ht, h1, e => by
    simp [closeP] at e
    subst e
    have : k = n + 1 := by omega
    subst this
    exact ⟨ht, fit_bd hf (by omega), fun i hi => h1 i hi rfl, fun _ _ => Int.le_refl _⟩
  | s + 1, k, m, m', hk, hf, ht, h1, e => by
    unfold closeP at e
    split at e
    · rename_i hd
      have hone : ∀ i, i ≤ n → m i i = 1 := fun i hi => by
        have a := hd i hi
        have b := fw_le k n m i i
        have c := hf.diag i hi
        omega
      have hf' := fit_next hf (show k ≤ n by omega)
      have hone' : ∀ i, i ≤ n → fw k n m i i = 1 := fun i hi => by
        have a := hd i hi
        have b := hf'.diag i hi
        omega
      have ht' := fw_tri (fit_bd hf (by omega)) (by omega) hone ht
      have := closeP_closed hn s (k + 1) (fw k n m) m' (by omega) hf' ht' (fun i hi _ => hone' i hi) e
      exact ⟨this.tri, this.bd, this.one, fun i j => Int.le_trans (this.le i j) (fw_le k n m i j)⟩
    · cases e
theorem closed_closed {n : Nat} {m m' : Mat} (hn : n ≤ 8) (hf : Fit n 1073741824 m) (e : closed n m = some m') : Closed n m m' :=
  closeP_closed hn (n + 1) 0 m m' (by omega) (by simpa using hf) (fun l hl => by omega) (fun i hi h => by omega) e

/-- What is closed is its own closed form. -/
theorem fw_id {k n : Nat} {m : Mat} (hk : k ≤ n) (ht : Tri n m (n + 1)) : fw k n m = m := by
  funext i j
  unfold fw
  split
  · rename_i h
    have := ht k (by omega) i j h.1 h.2
    omega
  · rfl
theorem closeP_id {n : Nat} {m : Mat} (ht : Tri n m (n + 1)) (h1 : ∀ i, i ≤ n → m i i = 1) : ∀ s k, k + s ≤ n + 1 → closeP n s k m = some m
  | 0, k, _ => rfl
  | s + 1, k, hk => by
    unfold closeP
    rw [fw_id (by omega) ht, if_pos (fun i hi => by rw [h1 i hi]; exact Int.le_refl _)]
    exact closeP_id ht h1 s (k + 1) (by omega)
theorem closed_id {n : Nat} {m : Mat} (ht : Tri n m (n + 1)) (h1 : ∀ i, i ≤ n → m i i = 1) : closed n m = some m := closeP_id ht h1 _ _ (by omega)

/-! ### valuations -/
/-- Does a difference, in units of a grid, keep a wide bound? -/
def sat (g b x : Int) : Prop := b = none62 ∨ x < b / 2 * g + b % 2
theorem sat_mono {g a b x : Int} (hg : 1 ≤ g) (hb : FB b) (h : a ≤ b) (hs : sat g a x) : sat g b x := by
  rcases hb with hb | hb
  · exact .inl hb
  · right
    rcases hs with hs | hs
    · unfold none62 at hs; omega
    · by_cases e : a / 2 = b / 2
      · rw [← e]; omega
      · have h2 : (a / 2 + 1) * g ≤ b / 2 * g := Int.mul_le_mul_of_nonneg_right (by omega) (by omega)
        rw [Int.add_mul, Int.one_mul] at h2
        omega
theorem sat_sum {g a b x y : Int} (h1 : sat g a x) (h2 : sat g b y) : sat g (wsum a b) (x + y) := by
  by_cases ha : a = none62
  · left; rw [ha, wsum_none_left]
  · by_cases hb : b = none62
    · left; rw [hb, wsum_none_right]
    · right
      rw [wsum_min ha hb]
      rcases h1 with h1 | h1
      · exact absurd h1 ha
      · rcases h2 with h2 | h2
        · exact absurd h2 hb
        · have e1 : (a - a % 2 + (b - b % 2) + min (a % 2) (b % 2)) / 2 = a / 2 + b / 2 := by omega
          have e2 : (a - a % 2 + (b - b % 2) + min (a % 2) (b % 2)) % 2 = min (a % 2) (b % 2) := by omega
          rw [e1, e2, Int.add_mul]
          omega
theorem sat_min {g a b x : Int} (hg : 1 ≤ g) (ha : FB a) (hb : FB b) : sat g (min a b) x ↔ sat g a x ∧ sat g b x := by
  constructor
  · intro h
    exact ⟨sat_mono hg ha (by omega) h, sat_mono hg hb (by omega) h⟩
  · intro ⟨h1, h2⟩
    rcases (show min a b = a ∨ min a b = b by omega) with e | e <;> rw [e] <;> assumption
theorem sat_zero {g b : Int} (hg : 1 ≤ g) (hs : sat g b 0) : 1 ≤ b := by
  rcases hs with hs | hs
  · rw [hs]; decide
  · by_cases h : 1 ≤ b
    · exact h
    · exfalso
      by_cases e : b = 0
      · subst e; simp at hs
      · have h2 : b / 2 * g ≤ -1 * g := Int.mul_le_mul_of_nonneg_right (by omega) (by omega)
        omega
theorem sat_one {g x : Int} (hx : x ≤ 0) : sat g 1 x := .inr (by simp; omega)

/-- Does a valuation keep all cells? -/
def satM (n : Nat) (g : Int) (m : Mat) (v : Nat → Int) : Prop := ∀ i j, i ≤ n → j ≤ n → sat g (m i j) (v i - v j)
theorem satM_fw {n k : Nat} {g : Int} {m : Mat} {v : Nat → Int} (hg : 1 ≤ g) (hf : ∀ i j, i ≤ n → j ≤ n → Bd 1125899906842624 (m i j)) (hk : k ≤ n) : satM n g (fw k n m) v ↔ satM n g m v := by
  constructor
  · intro h i j hi hj
    exact sat_mono hg (half_fb (hf i j hi hj)) (fw_le k n m i j) (h i j hi hj)
  · intro h i j hi hj
    unfold fw
    rw [if_pos ⟨hi, hj⟩, sat_min hg (half_fb (hf i j hi hj)) (sum_fb (hf i k hi hk) (hf k j hk hj))]
    refine ⟨h i j hi hj, ?_⟩
    have := sat_sum (h i k hi hk) (h k j hk hj)
    rwa [show v i - v k + (v k - v j) = v i - v j by omega] at this
def ClosedSat (n : Nat) (g : Int) (m : Mat) (v : Nat → Int) : Option Mat → Prop
  | none => ¬ satM n g m v
  | some m' => satM n g m v ↔ satM n g m' v
theorem closeP_sat {n : Nat} {g : Int} (hn : n ≤ 8) (hg : 1 ≤ g) (v : Nat → Int) : ∀ s k m, k + s = n + 1 → Fit n (1073741824 * 4 ^ k) m → ClosedSat n g m v (closeP n s k m)
  | 0, k, m, _, _ => Iff.rfl
  | s + 1, k, m, hk, hf => by
    have e := satM_fw (v := v) hg (fit_bd hf (by omega)) (show k ≤ n by omega)
    unfold closeP
    split
    · have ih := closeP_sat hn hg v s (k + 1) (fw k n m) (by omega) (fit_next hf (by omega))
      revert ih
      cases closeP n s (k + 1) (fw k n m) with
      | none => exact fun ih h => ih (e.2 h)
      | some m' => exact fun ih => e.symm.trans ih
    · rename_i hd
      intro hs
      refine hd fun i hi => ?_
      have := (e.2 hs) i i hi hi
      rw [Int.sub_self] at this
      exact sat_zero hg this
theorem closed_sat {n : Nat} {g : Int} {m : Mat} (hn : n ≤ 8) (hg : 1 ≤ g) (v : Nat → Int) (hf : Fit n 1073741824 m) : ClosedSat n g m v (closed n m) :=
  closeP_sat hn hg v (n + 1) 0 m (by omega) (by simpa using hf)

/-! ### zones of their own cells -/
/-- The wide cells of narrow ones, with what holds of all valuations. -/
def wideZ (z : Mat) : Mat := fun i j => if i = j ∨ i = 0 then min 1 (wid (z i j)) else wid (z i j)
theorem keep_flat {n : Nat} {z : Mat} (hr : RightM n z) : Agree n (keepUp n (flat n z) ((n + 1) * (n + 1))) (wideZ z) := fun i j hi hj => by
  rw [keepUp_cell n (flat n z) i j hi hj (fun q hq => by
    rw [flat_getD _ _ _ hq]
    have h1 : q / (n + 1) < n + 1 := Nat.div_lt_of_lt_mul hq
    have h2 := Nat.mod_lt q (show 0 < n + 1 by omega)
    exact hr _ _ (by omega) (by omega)) _ (Nat.le_refl _), if_pos (at_lt (by omega) (by omega)), flat_at _ (by omega) (by omega)]
  rfl
theorem flat_right {n : Nat} {z : Mat} (hr : RightM n z) : (flat n z).all rightB = true := (all_getD _ _ 0).2 fun q hq => by
  rw [flat_length] at hq
  rw [flat_getD _ _ _ hq]
  have h1 : q / (n + 1) < n + 1 := Nat.div_lt_of_lt_mul hq
  have h2 := Nat.mod_lt q (show 0 < n + 1 by omega)
  exact hr _ _ (by omega) (by omega)
/-- What Of tells of a matrix. -/
theorem of_flat {n : Nat} {z : Mat} (hn : n ≤ 8) (hr : RightM n z) : ofP n (flat n z) = zoneP n (wideZ z) := by
  unfold ofP
  rw [if_pos (by omega), if_pos (by rw [flat_length]; simp), if_pos (flat_right hr), flat_length, Int.toNat_natCast]
  exact zoneP_agree (keep_flat hr)
theorem wid_nar {x : Int} (h : inR x) : wid (nar x) = x := by
  unfold nar wid
  rcases h with h | h
  · rw [if_pos h, if_pos rfl, h]
  · have e1 : ¬ x = none62 := by unfold none62; omega
    rw [if_neg e1, if_neg (by omega)]
theorem zoneP_zero (n : Nat) : zoneP n (wideZ fun _ _ => 0) = (some (fun _ _ => 0), 0) := by
  have h : closed n (wideZ fun _ _ => 0) = none := by
    unfold closed closeP
    rw [if_neg]
    intro h
    have h1 := h 0 (by omega)
    have h2 := fw_le 0 n (wideZ fun _ _ => 0) 0 0
    have h3 : wideZ (fun _ _ => 0) 0 0 = 0 := by decide
    omega
  unfold zoneP
  rw [h]
/-- What a zone's own matrix is: empty, or closed. -/
inductive ZoneIs (n : Nat) (M z : Mat) : Prop
  | empty (h : z = fun _ _ => 0) (e : closed n M = none)
  | full (m' : Mat) (e : closed n M = some m') (h : allR n m') (hz : z = narM n m') (hc : Closed n M m')
theorem zoneP_is {n : Nat} {M z : Mat} (hn : n ≤ 8) (hf : Fit n 1073741824 M) (e : (zoneP n M).1 = some z) : ZoneIs n M z := by
  unfold zoneP at e
  cases hc : closed n M with
  | none => rw [hc] at e; simp at e; exact .empty e.symm hc
  | some m' =>
    rw [hc] at e
    simp only at e
    by_cases ha : allR n m'
    · rw [if_pos ha] at e
      simp at e
      exact .full m' hc ha e.symm (closed_closed hn hf hc)
    · rw [if_neg ha] at e; cases e
/-- Of a zone's own cells: the zone. -/
theorem of_again {n : Nat} {M z : Mat} (hn : n ≤ 8) (hf : Fit n 1073741824 M) (h0 : ∀ j, j ≤ n → M 0 j ≤ 1) (e : (zoneP n M).1 = some z) : ofP n (flat n z) = (some z, 0) := by
  rcases zoneP_is hn hf e with ⟨h, _⟩ | ⟨m', hm, ha, hz, hc⟩
  · subst h
    rw [of_flat hn (right_zero n), zoneP_zero]
  · have hr : RightM n z := by rw [hz]; exact narM_right ha
    rw [of_flat hn hr]
    have hag : Agree n (wideZ z) m' := fun i j hi hj => by
      have e1 : z i j = nar (m' i j) := by rw [hz]; unfold narM; rw [if_pos ⟨hi, hj⟩]
      have e2 := wid_nar (ha i hi j hj)
      unfold wideZ
      rw [e1, e2]
      split
      · rename_i hij
        have : m' i j ≤ 1 := by
          rcases hij with hij | hij
          · subst hij; rw [hc.one i hi]; exact Int.le_refl _
          · subst hij; exact Int.le_trans (hc.le 0 j) (h0 j hj)
        omega
      · rfl
    rw [zoneP_agree hag]
    unfold zoneP
    rw [closed_id hc.tri hc.one]
    simp only
    rw [if_pos ha, hz]

end Go.Proofs.YtidcnlecgcobmaaDoor
