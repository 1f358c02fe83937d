/- Texts of ours, laid together: Os, Df, Dg, Bl, Dh, Py, Qc. -/
import Derived.Deep.MidRow
import Derived.Test.YtidcnlecgcobmaaDoorProg
import Derived.Lib.Hide
import Derived.Deep.LoopGhost
import Derived.Deep.QuietTactic
import Derived.BigQuiet
import Derived.BigRegion
import Derived.StillTailTactics
import Derived.KernelRfl
import Derived.Deep.RegionHeld3
import Derived.Test.YtidcnlecgcobmaaDoorMg7
/- What zones have in common. -/
namespace Go.Proofs.YtidcnlecgcobmaaDoor
open Go Go.RowKit
set_option linter.unusedVariables false
set_option linter.unusedSimpArgs false
attribute [local go_sem] min_ints max_ints

/-- Zones of k clocks, one behind the other. -/
def ZonesV (w : World) (A : Option Addr) (vs : List Value) (k : Nat) (ms : List Mat) : Prop :=
  Ptrs w A vs ∧ vs.length = ms.length ∧ ∀ j, j < ms.length → ZoneV 126 w (vs.getD j (.pointer none)) (some (k, ms.getD j fun _ _ => 0))
theorem ZonesV.below {w w' : World} {A : Option Addr} {vs : List Value} {k : Nat} {ms : List Mat} (h : ZonesV w A vs k ms) (hb : Below w.heap.size w w') : ZonesV w' A vs k ms :=
  ⟨h.1.below hb, h.2.1, fun j hj => (h.2.2 j hj).below hb⟩

set_option maxHeartbeats 1000000 in
set_option maxRecDepth 100000 in
theorem oalike_ok (v : Value) (k : Nat) (m : Mat) (A : Option Addr) (c : Nat) (vs : List Value) (ms : List Mat) (w : World) (hz : ZoneV 126 w v (some (k, m))) (hv : ZonesV w A vs k ms) (hl : vs.length ≤ 4611686018427387904) :
    Calls Tryd.prog 84 #[v, .slice A vs.length c] w fun e w' => e = .returned (.int .i64 0) ∧ w = w' := by
  have HV := Lib.hid hv
  obtain ⟨bz, rfl, _, _, hmz⟩ := hz
  have HMZ := Lib.hid hmz
  clear hv hmz
  go_enter Tryd.func84, Tryd.ntmps84
  go_wp2
  go_loopg [13] vs.length (fun g v wr => ∃ p : Nat, v = .int .i64 p ∧ w = wr ∧ Hid (p ≤ vs.length ∧ g + p = vs.length))
  case atStart => exact ⟨0, by simp, rfl, by omega, by omega⟩
  case round =>
    obtain ⟨p, rfl, rfl, HG⟩ := hrel
    by_cases hp : p < vs.length
    · obtain ⟨b', off, rfl, c1⟩ := HV.out.1 p hp
      obtain ⟨b2, e2, _⟩ := HV.out.2.2 p (by have := HV.out.2.1; omega)
      rw [e2] at c1
      clear e2
      go_wp2
      go_roundg (gk - 1)
      case measure => have h := HG.out; omega
      case rel => exact ⟨p + 1, by go_num, rfl, by omega, by have h := HG.out; omega⟩
    · have e : p = vs.length := by have := HG.out.1; omega
      subst e
      clear HG
      go_wp2
      go_loopg [22] vs.length (fun g v wr => ∃ p : Nat, v = .int .i64 p ∧ w = wr ∧ Hid (p ≤ vs.length ∧ g + p = vs.length))
      case atStart => exact ⟨0, by simp, rfl, by omega, by omega⟩
      case round =>
        obtain ⟨p, rfl, rfl, HG⟩ := hrel
        by_cases hp : p < vs.length
        · obtain ⟨b', off, rfl, c1⟩ := HV.out.1 p hp
          obtain ⟨b2, e2, _, _, hm2⟩ := HV.out.2.2 p (by have := HV.out.2.1; omega)
          rw [e2] at c1
          have HM2 := Lib.hid hm2
          clear e2 hm2
          go_wp2_with fail
          refine (dim_zone b2 k _ _ HM2.out).mono ?_
          rintro e w1 ⟨rfl, rfl⟩
          go_wp2_with fail
          refine (dim_zone bz k m _ HMZ.out).mono ?_
          rintro e w1 ⟨rfl, rfl⟩
          go_wp2
          go_roundg (gk - 1)
          case measure => have h := HG.out; omega
          case rel => exact ⟨p + 1, by go_num, rfl, by omega, by have h := HG.out; omega⟩
        · have e : p = vs.length := by have := HG.out.1; omega
          subst e
          go_wp2
          go_ret
          exact ⟨rfl, rfl⟩

/-- The strictest of both cells, in the first n + 1 rows. -/
def minF (M V : Mat) : Mat := fun a c => min (M a c) (V a c)
def minW (n : Nat) (M V : Mat) : Mat := mix (minF M V) M n (n + 1) 0
theorem minW_in {n : Nat} {M V : Mat} {a c : Nat} (ha : a ≤ n) (hc : c ≤ n) : minW n M V a c = min (M a c) (V a c) := by
  unfold minW mix
  rw [if_pos (.inl ⟨by omega, hc⟩)]; rfl
def andUp (n : Nat) (M : Mat) (ms : List Mat) : Nat → Mat
  | 0 => M
  | p + 1 => minW n (andUp n M ms p) (openW (some (n, ms.getD p fun _ _ => 0)))
theorem rng_and {n : Nat} {M : Mat} {ms : List Mat} (h : Rng n M) (hr : ∀ j, j < ms.length → RightM n (ms.getD j fun _ _ => 0)) : ∀ p, p ≤ ms.length → Rng n (andUp n M ms p)
  | 0, _ => h
  | p + 1, hp => fun i j hi hj => by
    have h1 := rng_and h hr p (by omega) i j hi hj
    have h2 := rng_open (hr p (by omega)) i j hi hj
    unfold andUp
    rw [minW_in (by omega) (by omega)]
    omega
theorem less_mix (M V : Mat) (n i j : Nat) (hj : j ≤ n) : lessM (mix (minF M V) M n i j) i j (V i j) = mix (minF M V) M n i (j + 1) := by
  unfold lessM
  rw [mix_here]
  exact mix_step _ _ _ _ _ hj

set_option maxHeartbeats 2000000 in
set_option maxRecDepth 100000 in
theorem and_zones (v : Value) (n : Nat) (m : Mat) (A : Option Addr) (c : Nat) (vs : List Value) (ms : List Mat) (w : World) (hz : ZoneV 126 w v (some (n, m))) (hv : ZonesV w A vs n ms) (hl : vs.length ≤ 4611686018427387904) :
    Calls Tryd.prog 34 #[v, .slice A vs.length c] w (MakesZ w n (ofP n (flat n (andUp n (openW (some (n, m))) ms ms.length)))) := by
  have HV := Lib.hid hv
  have HZ := Lib.hid hz
  have HAL := Lib.hid (oalike_ok v n m A c vs ms w hz hv hl)
  obtain ⟨b, rfl, hn, hr, hm⟩ := hz
  have hl8 : (cellsP (some (n, m))).length ≤ 81 := cellsP_short _ fun k m' e => by simp at e; omega
  have HO := Lib.hid (fun w h => oopen_any (.pointer (some ⟨b, 0, none⟩)) (some (n, m)) w h hn hl8)
  have HRG := Lib.hid (rng_open hr)
  have HSH := Lib.hid (fun c m' w h hk => shut_any c n m' w hn h hk)
  have HRR := Lib.hid (fun j hj => show RightM n (ms.getD j fun _ _ => 0) by obtain ⟨_, _, _, h, _⟩ := hv.2.2 j hj; exact h)
  clear hm hl8 hr hv
  go_enter Tryd.func34, Tryd.ntmps34
  go_wp2_with fail
  refine HAL.out.mono ?_
  rintro e w1 ⟨rfl, rfl⟩
  go_wp2_with fail
  refine (HO.out _ HZ.out).mono ?_
  obtain ⟨M, hM⟩ : ∃ M, M = openW (some (n, m)) := ⟨_, rfl⟩
  rintro e w1 ⟨rfl, hb, hw⟩
  have HK1 := Lib.hid (show KW w n (andUp n M ms 0) w1 from ⟨hb, by rw [hM]; exact hw⟩)
  rw [← hM] at HRG
  have HMM := Lib.hid hM
  clear hb hw HO HZ hM HAL
  go_wp2
  go_loopg [23] vs.length (fun g v wr => ∃ p : Nat, v = .int .i64 p ∧ Hid (KW w n (andUp n M ms p) wr) ∧ Hid (p ≤ vs.length ∧ g + p = vs.length))
  case atStart => exact ⟨0, by simp, HK1.out, by omega, by omega⟩
  case round =>
    clear HK1
    obtain ⟨p, rfl, HR, HG⟩ := hrel
    by_cases hp : p < vs.length
    · obtain ⟨b', off, rfl, c1⟩ := (HV.out.below HR.out.1).1 p hp
      have hzp := (HV.out.below HR.out.1).2.2 p (by have := HV.out.2.1; omega)
      have HZP := Lib.hid hzp
      obtain ⟨b2, e2, _, _, hm2⟩ := hzp
      rw [e2] at c1 HZP
      obtain ⟨my, hmy⟩ : ∃ my, my = ms.getD p fun _ _ => 0 := ⟨_, rfl⟩
      rw [← hmy] at HZP
      have HMY := Lib.hid hmy
      clear e2 hm2 hmy
      have hl8 : (cellsP (some (n, my))).length ≤ 81 := cellsP_short _ fun k m' e => by simp at e; omega
      go_wp2_with fail
      refine (oopen_any _ (some (n, my)) _ HZP.out hn hl8).mono ?_
      obtain ⟨V, hV⟩ : ∃ V, V = openW (some (n, my)) := ⟨_, rfl⟩
      rintro e w2 ⟨rfl, hb, hw⟩
      obtain ⟨gv, hgv⟩ : ∃ gv, gv = wr.heap.size := ⟨_, rfl⟩
      obtain ⟨U, hU⟩ : ∃ U, U = andUp n M ms p := ⟨_, rfl⟩
      rw [← hU] at HR
      have HW2 := Lib.hid (show MatAt w2 gv 103 .i32 n V by rw [hV, hgv]; exact hw)
      have HK2 := Lib.hid (show KW w n (mix (minF U V) U n 0 0) w2 by rw [mix_start]; exact HR.out.step hb)
      have hne : gv ≠ w.heap.size := by have := HR.out.2.lt; omega
      have HUV := Lib.hid (And.intro hU hV)
      have h2 := HK2.out.2.head
      rw [← hgv]
      clear hb hw hgv hU hV hl8 c1
      go_wp2
      go_loopg [35] (n + 1) (fun g v wr => ∃ i : Nat, v = .int .i64 i ∧ Hid (KW w n (mix (minF U V) U n i 0) wr ∧ MatAt wr gv 103 .i32 n V) ∧ Hid (i ≤ n + 1 ∧ g + i = n + 1))
      case atStart => exact ⟨0, by simp, ⟨HK2.out, HW2.out⟩, by omega, by omega⟩
      case round =>
        clear HK2 HW2 h2 HR
        obtain ⟨i, rfl, HI, HGI⟩ := hrel
        have h2 := HI.out.1.2.head
        by_cases hi : i < n + 1
        · have hii : (i : Int) < (n : Int) + 1 := by omega
          go_wp2
          go_loopg [44] (n + 1) (fun g v wr => ∃ j : Nat, v = .int .i64 j ∧ Hid (KW w n (mix (minF U V) U n i j) wr ∧ MatAt wr gv 103 .i32 n V) ∧ Hid (j ≤ n + 1 ∧ g + j = n + 1))
          case atStart => exact ⟨0, by simp, HI.out, by omega, by omega⟩
          case round =>
            clear HI h2
            obtain ⟨j, rfl, HJ, HGJ⟩ := hrel
            have h2 := HJ.out.1.2.head
            by_cases hj : j < n + 1
            · have hjj : (j : Int) < (n : Int) + 1 := by omega
              have i9 : (i : Int) < 9 := by omega
              have j9 : (j : Int) < 9 := by omega
              have c1 := HJ.out.2.cell i j (by omega) (by omega)
              have HL := Lib.hid (less_any w.heap.size i j n (mix (minF U V) U n i j) (V i j) wr (by omega) (by omega) HJ.out.1.2)
              rw [less_mix _ _ _ _ _ (by omega)] at HL
              obtain ⟨x, hx⟩ : ∃ x, x = V i j := ⟨_, rfl⟩
              rw [← hx] at c1 HL
              clear hx
              go_wp2_with fail
              refine HL.out.mono ?_
              rintro e w3 ⟨rfl, ho, hm⟩
              have HN := Lib.hid (And.intro (HJ.out.1.only ho hm) (HJ.out.2.only ho hne))
              clear ho hm
              go_wp2
              go_roundg (gk - 1)
              case measure => have h := HGJ.out; omega
              case rel => exact ⟨j + 1, by go_num, HN.out, by omega, by have h := HGJ.out; omega⟩
            · have e : j = n + 1 := by have := HGJ.out.1; omega
              subst e
              have hjj : ¬ (((n + 1 : Nat) : Int) < (n : Int) + 1) := by omega
              have HN := Lib.hid (show KW w n (mix (minF U V) U n (i + 1) 0) wr ∧ MatAt wr gv 103 .i32 n V by rw [← mix_row]; exact HJ.out)
              go_wp2
              go_roundg (n - i)
              case measure => have h := HGI.out; omega
              case rel => exact ⟨i + 1, by go_num, HN.out, by omega, by omega⟩
        · have e : i = n + 1 := by have := HGI.out.1; omega
          subst e
          have hii : ¬ (((n + 1 : Nat) : Int) < (n : Int) + 1) := by omega
          have HN := Lib.hid (show KW w n (andUp n M ms (p + 1)) wr by rw [andUp, ← HMY.out, ← HUV.out.1, ← HUV.out.2]; exact HI.out.1)
          go_wp2
          go_roundg (vs.length - (p + 1))
          case measure => have h := HG.out; omega
          case rel => exact ⟨p + 1, by go_num, HN.out, by omega, by omega⟩
    · have e : p = vs.length := by have := HG.out.1; omega
      subst e
      have HLE := Lib.hid HV.out.2.1
      have HRN := Lib.hid (rng_and HRG.out HRR.out vs.length (by rw [HV.out.2.1]; exact Nat.le_refl _))
      go_wp2_with fail
      refine (HSH.out _ _ _ HR.out.2 HRN.out).mono ?_
      rintro e w2 hz
      have HZ2 := Lib.hid hz
      obtain ⟨hb, v, rfl, hv⟩ := hz
      have HB3 := Lib.hid (HR.out.1.trans (hb.mono HR.out.1.size))
      clear hb hv
      go_wp2
      go_ret2
      rw [← HMM.out, ← HLE.out]
      exact ⟨HB3.out, HZ2.out.2⟩

end Go.Proofs.YtidcnlecgcobmaaDoor

/- Does a zone include another one? -/
namespace Go.Proofs.YtidcnlecgcobmaaDoor
open Go.RowKit
set_option linter.unusedVariables false
set_option linter.unusedSimpArgs false

theorem empty_yes (b n : Nat) (m : Mat) (w : World) (h : MatAt w b 126 .i32 n m) (hm : m 0 0 < 1) : Calls Tryd.prog 39 #[.pointer (some ⟨b, 0, none⟩)] w fun e w' => e = .returned (.bool true) ∧ w' = w :=
  (empty_zone b n m w h).mono fun _ _ k => ⟨by rw [k.1, decide_eq_true hm], k.2.symm⟩
theorem empty_no (b n : Nat) (m : Mat) (w : World) (h : MatAt w b 126 .i32 n m) (hm : ¬ m 0 0 < 1) : Calls Tryd.prog 39 #[.pointer (some ⟨b, 0, none⟩)] w fun e w' => e = .returned (.bool false) ∧ w' = w :=
  (empty_zone b n m w h).mono fun _ _ k => ⟨by rw [k.1, decide_eq_false hm], k.2.symm⟩

/-- Is o in m? -/
def inclM (n : Nat) (m o : Mat) : Bool := decide (o 0 0 < 1 ∨ ∀ i, i ≤ n → ∀ j, j ≤ n → o i j ≤ m i j)
def inclP (z o : Option (Nat × Mat)) : Bool := match z, o with
  | some (n, m), some (k, o) => decide (n = k) && inclM n m o
  | _, _ => false

/-- What was there is there; so far no cell of o is greater. -/
def InclR (w0 : World) (n : Nat) (m o : Mat) (i j : Nat) (wr : World) : Prop :=
  Below w0.heap.size w0 wr ∧ (∀ a c, a < i ∨ (a = i ∧ c < j) → c ≤ n → o a c ≤ m a c) ∧ i ≤ n + 1 ∧ j ≤ n + 1

set_option maxRecDepth 100000 in
set_option maxHeartbeats 2000000 in
theorem incl_full (b c n : Nat) (m o : Mat) (w : World) (hn : n ≤ 8) (h : MatAt w b 126 .i32 n m) (h' : MatAt w c 126 .i32 n o) (he : ¬ o 0 0 < 1) :
    Calls Tryd.prog 33 #[.pointer (some ⟨b, 0, none⟩), .pointer (some ⟨c, 0, none⟩)] w fun e w' => e = .returned (.bool (inclM n m o)) ∧ Below w.heap.size w w' := by
  have H := Lib.hid h
  have H' := Lib.hid h'
  have HE := Lib.hid he
  clear h h' he
  go_enter Tryd.func33, Tryd.ntmps33
  go_wp2_with fail
  refine (alike_two b n c n m o _ H.out H'.out).mono ?_
  rintro e w1 ⟨rfl, q, rfl⟩
  have hd : decide ((n : Int) = n) = true := decide_eq_true rfl
  have h0 := (H.out.drewN q).head
  have HS := Lib.hid (show InclR w n m o 0 0 (w.drewN q) from ⟨belowN (Below.refl _ _) q, fun a c h => by omega, by omega, by omega⟩)
  generalize w.drewN q = wq at *
  go_wp2
  clear hd
  go_loopg [17] (n + 1) (fun g v wr => ∃ i : Nat, v = .int .i64 i ∧ InclR w n m o i 0 wr ∧ Hid (g + i = n + 1))
  case atStart => exact ⟨0, by simp, HS.out, by show _ = _; omega⟩
  case round =>
    clear HS h0
    obtain ⟨i, rfl, HA, HG⟩ := hrel
    have HI := Lib.hid HA
    have h0 := (H.out.later HA.1).head
    clear HA
    by_cases hi : i < n + 1
    · have hii : (i : Int) < (n : Int) + 1 := by omega
      go_wp2
      go_loopg [26] (n + 1) (fun g v wr => ∃ j : Nat, v = .int .i64 j ∧ InclR w n m o i j wr ∧ Hid (g + j = n + 1))
      case atStart => exact ⟨0, by simp, HI.out, by show _ = _; omega⟩
      case round =>
        clear HI h0
        obtain ⟨j, rfl, HA, HG2⟩ := hrel
        have HJ := Lib.hid HA
        by_cases hj : j < n + 1
        · have hjj : (j : Int) < (n : Int) + 1 := by omega
          have c1 := (H.out.later HA.1).cell i j (by omega) (by omega)
          have c2 := (H'.out.later HA.1).cell i j (by omega) (by omega)
          have HO := Lib.hid (H'.out.later HA.1)
          have i9 : (i : Int) < 9 := by omega
          have j9 : (j : Int) < 9 := by omega
          clear HA
          go_wp2_with fail
          go_quiet ((go_at_call 39; exact Calls.quiet_of_same (empty_no c n o _ (by exact HO.out.drewN _) (by have h := HE.out; omega))))
          by_cases hc : m i j < o i j
          · have d1 : decide (m i j < o i j) = true := decide_eq_true hc
            go_wp2
            go_ret
            have hf : inclM n m o = false := by
              unfold inclM
              rw [decide_eq_false_iff_not]
              rintro (h1 | h1)
              · have h2 := HE.out; omega
              · have := h1 i (by omega) j (by omega); omega
            exact ⟨by rw [hf]; rfl, belowN HJ.out.1 _⟩
          · have d1 : decide (m i j < o i j) = false := decide_eq_false hc
            go_wp2
            go_roundg (gk - 1)
            case measure => have h := HG2.out; omega
            case rel =>
              refine ⟨j + 1, by go_num, ⟨belowN HJ.out.1 _, fun a e hae he => ?_, HJ.out.2.2.1, by omega⟩, by have h := HG2.out; show _ = _; omega⟩
              by_cases e2 : a = i ∧ e = j
              · obtain ⟨rfl, rfl⟩ := e2; omega
              · exact HJ.out.2.1 a e (by omega) he
        · have hjj : ¬ (j : Int) < (n : Int) + 1 := by omega
          clear HA
          go_wp2
          go_roundg (n - i)
          case measure => have h := HG.out; omega
          case rel => exact ⟨i + 1, by go_num, ⟨HJ.out.1, fun a e hae he => HJ.out.2.1 a e (by omega) he, by omega, by omega⟩, by show _ = _; omega⟩
    · have hii : ¬ (i : Int) < (n : Int) + 1 := by omega
      go_wp2
      go_ret
      have hf : inclM n m o = true := by
        unfold inclM
        rw [decide_eq_true_iff]
        right
        intro a ha e he
        exact HI.out.2.1 a e (by omega) he
      exact ⟨by rw [hf]; rfl, HI.out.1⟩

set_option maxRecDepth 100000 in
set_option maxHeartbeats 2000000 in
theorem incl_none (b c n : Nat) (m o : Mat) (w : World) (hn : n ≤ 8) (h : MatAt w b 126 .i32 n m) (h' : MatAt w c 126 .i32 n o) (he : o 0 0 < 1) :
    Calls Tryd.prog 33 #[.pointer (some ⟨b, 0, none⟩), .pointer (some ⟨c, 0, none⟩)] w fun e w' => e = .returned (.bool (inclM n m o)) ∧ Below w.heap.size w w' := by
  have hf : inclM n m o = true := by unfold inclM; rw [decide_eq_true_iff]; exact .inl he
  rw [hf]
  clear hf
  have H := Lib.hid h
  have H' := Lib.hid h'
  have HE := Lib.hid he
  clear h h' he
  go_enter Tryd.func33, Tryd.ntmps33
  go_wp2_with fail
  refine (alike_two b n c n m o _ H.out H'.out).mono ?_
  rintro e w1 ⟨rfl, q, rfl⟩
  have hd : decide ((n : Int) = n) = true := decide_eq_true rfl
  have h0 := (H.out.drewN q).head
  have HS := Lib.hid (show Below w.heap.size w (w.drewN q) from belowN (Below.refl _ _) q)
  generalize w.drewN q = wq at *
  go_wp2
  clear hd
  go_loopg [17] (n + 1) (fun g v wr => ∃ i : Nat, v = .int .i64 i ∧ Below w.heap.size w wr ∧ Hid (g + i = n + 1))
  case atStart => exact ⟨0, by simp, HS.out, by show _ = _; omega⟩
  case round =>
    clear HS h0
    obtain ⟨i, rfl, HA, HG⟩ := hrel
    have HI := Lib.hid HA
    have h0 := (H.out.later HA).head
    clear HA
    by_cases hi : i < n + 1
    · have hii : (i : Int) < (n : Int) + 1 := by omega
      go_wp2
      go_loopg [26] (n + 1) (fun g v wr => ∃ j : Nat, v = .int .i64 j ∧ Below w.heap.size w wr ∧ Hid (g + j = n + 1))
      case atStart => exact ⟨0, by simp, HI.out, by show _ = _; omega⟩
      case round =>
        clear HI h0
        obtain ⟨j, rfl, HA, HG2⟩ := hrel
        have HJ := Lib.hid HA
        have HO := Lib.hid (H'.out.later HA)
        clear HA
        by_cases hj : j < n + 1
        · have hjj : (j : Int) < (n : Int) + 1 := by omega
          go_wp2_with fail
          go_quiet ((go_at_call 39; exact Calls.quiet_of_same (empty_yes c n o _ (by exact HO.out.drewN _) (by have h := HE.out; omega))))
          go_wp2
          go_roundg (gk - 1)
          case measure => have h := HG2.out; omega
          case rel => exact ⟨j + 1, by go_num, belowN HJ.out _, by have h := HG2.out; show _ = _; omega⟩
        · have hjj : ¬ (j : Int) < (n : Int) + 1 := by omega
          go_wp2
          go_roundg (n - i)
          case measure => have h := HG.out; omega
          case rel => exact ⟨i + 1, by go_num, HJ.out, by show _ = _; omega⟩
    · have hii : ¬ (i : Int) < (n : Int) + 1 := by omega
      go_wp2
      go_ret
      exact ⟨rfl, HI.out⟩

set_option maxRecDepth 100000 in
set_option maxHeartbeats 1000000 in
theorem incl_unlike (b c n k : Nat) (m o : Mat) (w : World) (h : MatAt w b 126 .i32 n m) (h' : MatAt w c 126 .i32 k o) (hne : n ≠ k) :
    Calls Tryd.prog 33 #[.pointer (some ⟨b, 0, none⟩), .pointer (some ⟨c, 0, none⟩)] w fun e w' => e = .returned (.bool false) ∧ Below w.heap.size w w' := by
  have hd : decide ((n : Int) = k) = false := decide_eq_false (by omega)
  go_enter Tryd.func33, Tryd.ntmps33
  go_wp2_with fail
  refine (alike_two b n c k m o _ h h').mono ?_
  rintro e w1 ⟨rfl, q, rfl⟩
  clear h h'
  go_wp2
  go_ret
  exact ⟨rfl, belowN (Below.refl _ _) q⟩
set_option maxRecDepth 100000 in
set_option maxHeartbeats 1000000 in
theorem incl_nil (v : Value) (w : World) : Calls Tryd.prog 33 #[.pointer none, v] w fun e w' => e = .returned (.bool false) ∧ Below w.heap.size w w' := by
  go_enter Tryd.func33, Tryd.ntmps33
  go_wp2_with fail
  refine (alike_nil v _).mono ?_
  rintro e w1 ⟨rfl, q, rfl⟩
  go_wp2
  go_ret
  exact ⟨rfl, belowN (Below.refl _ _) q⟩
set_option maxRecDepth 100000 in
set_option maxHeartbeats 1000000 in
theorem incl_ofnil (b n : Nat) (m : Mat) (w : World) (h : MatAt w b 126 .i32 n m) : Calls Tryd.prog 33 #[.pointer (some ⟨b, 0, none⟩), .pointer none] w fun e w' => e = .returned (.bool false) ∧ Below w.heap.size w w' := by
  go_enter Tryd.func33, Tryd.ntmps33
  go_wp2_with fail
  refine (alike_none b n m _ h).mono ?_
  rintro e w1 ⟨rfl, q, rfl⟩
  clear h
  go_wp2
  go_ret
  exact ⟨rfl, belowN (Below.refl _ _) q⟩

/-- Includes, of any two. -/
theorem includes_any (v v' : Value) (z o : Option (Nat × Mat)) (w : World) (h : ZoneV 126 w v z) (h' : ZoneV 126 w v' o) :
    Calls Tryd.prog 33 #[v, v'] w fun e w' => e = .returned (.bool (inclP z o)) ∧ Below w.heap.size w w' := by
  match z, h with
  | none, h =>
    have h : v = .pointer none := h
    subst h
    exact incl_nil v' w
  | some (n, m), ⟨b, e, hn, _, hm⟩ =>
    subst e
    match o, h' with
    | none, h' =>
      have h' : v' = .pointer none := h'
      subst h'
      exact incl_ofnil b n m w hm
    | some (k, o), ⟨c, e, _, _, ho⟩ =>
      subst e
      by_cases hk : n = k
      · subst hk
        have e : inclP (some (n, m)) (some (n, o)) = inclM n m o := by simp [inclP]
        rw [e]
        by_cases he : o 0 0 < 1
        · exact incl_none b c n m o w hn hm ho he
        · exact incl_full b c n m o w hn hm ho he
      · have e : inclP (some (n, m)) (some (k, o)) = false := by simp [inclP, hk]
        rw [e]
        exact incl_unlike b c n k m o w hm ho hk

end Go.Proofs.YtidcnlecgcobmaaDoor

/- Are two zones the same? Their arrays are held against one another as wholes. -/
namespace Go.Proofs.YtidcnlecgcobmaaDoor
open Go Go.RowKit
set_option linter.unusedVariables false
set_option linter.unusedSimpArgs false
section
variable {P : Program}
theorem eq_loop (d : Nat) (E n : Nat) (xs ys : Array Value) (f : Nat → Bool) (L : List Nat)
    (hpart : ∀ i, i ∈ L → ∀ w, ∃ a b, (part E xs (i * n)).run P w = .ok a w ∧ (part E ys (i * n)).run P w = .ok b w ∧ (Op.equalIn d E a b).run P w = .ok (f i) w) : ∀ (w : World),
    Sem.run P (forIn L ((none, ()) : Option Bool × Unit) fun i (__s : Option Bool × Unit) => (do
            let __do_lift ← part E xs (i * n)
            let __do_lift_1 ← part E ys (i * n)
            let __do_lift ← Op.equalIn d E __do_lift __do_lift_1
            if (!__do_lift) = true then pure (ForInStep.done ((some false, ()) : Option Bool × Unit)) else pure (ForInStep.yield ((none, ()) : Option Bool × Unit)) : Sem (ForInStep (Option Bool × Unit))))
          w = .ok (if L.all f then (none, ()) else (some false, ())) w := by
  induction L with
  | nil => intro w; simp
  | cons i L ih =>
    intro w
    obtain ⟨a, b, h1, h2, h3⟩ := hpart i (by simp) w
    simp only [List.forIn_cons, Sem.run_bind, h1, h2, h3, Result.andThen_ok]
    cases hf : f i with
    | false => simp [hf]
    | true =>
      simp only [Bool.not_true, Bool.false_eq_true, if_false, Sem.run_pure, Result.andThen_ok]
      rw [ih (fun j hj => hpart j (by simp [hj])) w]
      simp [hf]
/-- Equality of arrays, element by element. -/
theorem run_eq_array (d : Nat) (T len E n : Nat) (hu : P.underlying T = some (.array len E)) (hs : ∀ w, (sizeOf E).run P w = .ok n w) (xs ys : Array Value) (f : Nat → Bool)
    (hpart : ∀ i, i < len → ∀ w, ∃ a b, (part E xs (i * n)).run P w = .ok a w ∧ (part E ys (i * n)).run P w = .ok b w ∧ (Op.equalIn d E a b).run P w = .ok (f i) w) (w : World) :
    (Op.equalIn (d + 1) T (.agg xs) (.agg ys)).run P w = .ok ((List.range len).all f) w := by
  simp only [Op.equalIn, Sem.run_bind, run_underlying hu, Result.andThen_ok, hs]
  rw [Std.Legacy.Range.forIn_eq_forIn_range']
  simp only [Std.Legacy.Range.size, Nat.sub_zero, Nat.add_sub_cancel, Nat.div_one]
  rw [← List.range_eq_range', eq_loop d E n xs ys f (List.range len) (fun i hi => hpart i (by simpa using hi)) w]
  cases h : (List.range len).all f <;> simp
theorem part_cell (E : Nat) (xs : Array Value) (o : Nat) (v : Value) (ha : ∀ w, (isAgg E).run P w = .ok false w) (hv : xs[o]? = some v) (w : World) : (part E xs o).run P w = .ok v w := by
  simp [part, ha, hv]
theorem part_row (E s : Nat) (xs : Array Value) (o : Nat) (ha : ∀ w, (isAgg E).run P w = .ok true w) (hs : ∀ w, (sizeOf E).run P w = .ok s w) (w : World) : (part E xs o).run P w = .ok (.agg (xs.extract o (o + s))) w := by
  simp [part, ha, hs]
end

/-- The 81 cells as a list. -/
def cellsOf (k : IntKind) (m : Mat) : List Value := (List.range 81).map fun p => Value.int k (m (p / 9) (p % 9))
def eqM (m o : Mat) : Bool := (List.range 9).all fun i => (List.range 9).all fun j => m i j == o i j
theorem cellsOf_get (k : IntKind) (m : Mat) (p : Nat) (hp : p < 81) : (cellsOf k m).toArray[p]? = some (.int k (m (p / 9) (p % 9))) := by
  simp [cellsOf, hp]
theorem range_mat {w : World} {b n : Nat} {T : TypeId} {k : IntKind} {m : Mat} (h : MatAt w b T k n m) : w.rangeAt b 1 (cellsOf k m) := by
  intro j v hv
  by_cases hj : j < 81
  · simp [cellsOf, hj] at hv
    subst hv
    have := h.cell (j / 9) (j % 9) (by omega) (by omega)
    have e : 1 + j / 9 * 9 + j % 9 = 1 + j := by omega
    rw [e] at this; exact this
  · simp [cellsOf, hj] at hv

theorem eq_row (d : Nat) (m o : Mat) (i : Nat) (hi : i < 9) (w : World) :
    (Op.equalIn (d + 2) 100 (.agg ((cellsOf .i32 m).toArray.extract (i * 9) (i * 9 + 9))) (.agg ((cellsOf .i32 o).toArray.extract (i * 9) (i * 9 + 9)))).run Tryd.prog w =
      .ok ((List.range 9).all fun j => m i j == o i j) w := by
  refine run_eq_array (P := Tryd.prog) (d + 1) 100 9 64 1 Tryd.underlying100 (fun w => by kernel_rfl) _ _ _ (fun j hj w => ?_) w
  have e1 : (i * 9 + j) / 9 = i := by omega
  have e2 : (i * 9 + j) % 9 = j := by omega
  refine ⟨.int .i32 (m i j), .int .i32 (o i j), ?_, ?_, ?_⟩
  · refine part_cell _ _ _ _ (fun w => by kernel_rfl) ?_ w
    rw [Array.getElem?_extract, if_pos (by simp [cellsOf]; omega), Nat.mul_one, cellsOf_get _ _ _ (by omega), e1, e2]
  · refine part_cell _ _ _ _ (fun w => by kernel_rfl) ?_ w
    rw [Array.getElem?_extract, if_pos (by simp [cellsOf]; omega), Nat.mul_one, cellsOf_get _ _ _ (by omega), e1, e2]
  · exact run_equalIn_int w d _ .i32 .i32 _ _ Tryd.underlying64
theorem eq_mat (d : Nat) (m o : Mat) (w : World) :
    (Op.equalIn (d + 3) 101 (.agg (cellsOf .i32 m).toArray) (.agg (cellsOf .i32 o).toArray)).run Tryd.prog w = .ok (eqM m o) w :=
  run_eq_array (P := Tryd.prog) (d + 2) 101 9 100 9 Tryd.underlying101 (fun w => by kernel_rfl) _ _ _ (fun i hi w =>
    ⟨_, _, part_row _ 9 _ _ (fun w => by kernel_rfl) (fun w => by kernel_rfl) w, part_row _ 9 _ _ (fun w => by kernel_rfl) (fun w => by kernel_rfl) w, eq_row d m o i hi w⟩) w

theorem load_mat {w : World} {b n : Nat} {m : Mat} (h : MatAt w b 126 .i32 n m) :
    (Instr.loadAt 101 (.pointer (some ⟨b, 1, none⟩))).run Tryd.prog w = .ok (.agg (cellsOf .i32 m).toArray) w :=
  run_loadAt_mid w b 1 _ _ _ (range_mat h) Tryd.underlying101 rfl (by simp only [cellsOf, List.length_map, List.length_range]; kernel_rfl)

theorem quiet_value {P : Program} {ops : Array Oper} {w : World} {Q : Act → Prop} {a : Act} {o : Oper} {rest : List Oper} (v : Value) (hw : Region.wanted o (yielded ops a.tmps) = true)
    (hr : ∀ q, (execOp a.eval o).run P (w.drewN q) = .ok (.value v) (w.drewN q)) (h : wpQuiet P ops (fun w' => ∃ n, w' = w.drewN n) Q rest (a.put o.dst v)) :
    wpQuiet P ops (fun w' => ∃ n, w' = w.drewN n) Q (o :: rest) a := by
  unfold wpQuiet
  rw [if_pos hw]
  refine ⟨v, fun w' hw' => ?_, h⟩
  obtain ⟨n, rfl⟩ := hw'
  unfold Oper.quietAt
  rw [hr]
  exact ⟨rfl, rfl⟩
theorem exec_load {P : Program} {a : Act} {o : Oper} {w : World} {v p : Value} (ty : TypeId) (x : Operand) (ho : o.op = .load ty x) (hx : a.eval x = p) (hl : (Instr.loadAt ty p).run P w = .ok v w) :
    (execOp a.eval o).run P w = .ok (.value v) w := by
  simp only [execOp, ho, hx, Sem.run_bind, hl, Result.andThen_ok, Sem.run_pure]

set_option maxRecDepth 100000 in
set_option maxHeartbeats 400000 in
theorem equal_two (b c n : Nat) (m o : Mat) (w : World) (h : MatAt w b 126 .i32 n m) (h' : MatAt w c 126 .i32 n o) :
    Calls Tryd.prog 38 #[.pointer (some ⟨b, 0, none⟩), .pointer (some ⟨c, 0, none⟩)] w fun e w' => e = .returned (.bool (eqM m o)) ∧ Below w.heap.size w w' := by
  have H := Lib.hid h
  have H' := Lib.hid h'
  have L1 : ∀ q, (Instr.loadAt 101 (.pointer (some ⟨b, 1, none⟩))).run Tryd.prog (w.drewN q) = .ok (.agg (cellsOf .i32 m).toArray) (w.drewN q) := fun q => load_mat (h.drewN q)
  have L2 : ∀ q, (Instr.loadAt 101 (.pointer (some ⟨c, 1, none⟩))).run Tryd.prog (w.drewN q) = .ok (.agg (cellsOf .i32 o).toArray) (w.drewN q) := fun q => load_mat (h'.drewN q)
  have E : ∀ w, (Op.equalIn 10000 101 (.agg (cellsOf .i32 m).toArray) (.agg (cellsOf .i32 o).toArray)).run Tryd.prog w = .ok (eqM m o) w := fun w => eq_mat 9997 m o w
  clear h h'
  go_enter Tryd.func38, Tryd.ntmps38
  go_wp2_with fail
  refine wp_region_quiet_lit (by kernel_rfl) (by kernel_rfl) ?_
  repeat (quiet_step ((go_at_call 86; exact Calls.quiet_of (alike_same b c n m o _ (by exact H.out.drewN _) (by exact H'.out.drewN _)))))
  refine quiet_value (.agg (cellsOf .i32 m).toArray) rfl (fun q => exec_load _ _ rfl rfl (L1 q)) ?_
  repeat (quiet_step (fail))
  refine quiet_value (.agg (cellsOf .i32 o).toArray) rfl (fun q => exec_load _ _ rfl rfl (L2 q)) ?_
  repeat (quiet_step (fail))
  refine wpQuiet_nil ?_
  intro _ hw'
  obtain ⟨nq, hw''⟩ := hw'
  subst hw''
  clear L1 L2 E
  go_wp2
  go_ret
  exact ⟨rfl, belowN (Below.refl _ _) _⟩

set_option maxRecDepth 100000 in
set_option maxHeartbeats 400000 in
theorem equal_other (b c n k : Nat) (m o : Mat) (w : World) (h : MatAt w b 126 .i32 n m) (h' : MatAt w c 126 .i32 k o) (hne : n ≠ k) :
    Calls Tryd.prog 38 #[.pointer (some ⟨b, 0, none⟩), .pointer (some ⟨c, 0, none⟩)] w fun e w' => e = .returned (.bool false) ∧ Below w.heap.size w w' := by
  have H := Lib.hid h
  have H' := Lib.hid h'
  clear h h'
  go_enter Tryd.func38, Tryd.ntmps38
  go_wp2_with fail
  go_quiet ((go_at_call 86; exact Calls.quiet_of (alike_other b c n k m o _ (by exact H.out.drewN _) (by exact H'.out.drewN _) hne)))
  go_wp2
  go_ret
  exact ⟨rfl, belowN (Below.refl _ _) _⟩
set_option maxRecDepth 100000 in
set_option maxHeartbeats 400000 in
theorem equal_nil (v : Value) (w : World) : Calls Tryd.prog 38 #[.pointer none, v] w fun e w' => e = .returned (.bool false) ∧ Below w.heap.size w w' := by
  go_enter Tryd.func38, Tryd.ntmps38
  go_wp2_with fail
  go_quiet ((go_at_call 86; exact Calls.quiet_of (alike_nil v _)))
  go_wp2
  go_ret
  exact ⟨rfl, belowN (Below.refl _ _) _⟩
set_option maxRecDepth 100000 in
set_option maxHeartbeats 400000 in
theorem equal_ofnil (b n : Nat) (m : Mat) (w : World) (h : MatAt w b 126 .i32 n m) : Calls Tryd.prog 38 #[.pointer (some ⟨b, 0, none⟩), .pointer none] w fun e w' => e = .returned (.bool false) ∧ Below w.heap.size w w' := by
  have H := Lib.hid h
  clear h
  go_enter Tryd.func38, Tryd.ntmps38
  go_wp2_with fail
  go_quiet ((go_at_call 86; exact Calls.quiet_of (alike_none b n m _ (by exact H.out.drewN _))))
  go_wp2
  go_ret
  exact ⟨rfl, belowN (Below.refl _ _) _⟩

def equalP (z o : Option (Nat × Mat)) : Bool := match z, o with
  | some (n, m), some (k, o) => decide (n = k) && eqM m o
  | _, _ => false
/-- Equal, of any two. -/
theorem equal_any (v v' : Value) (z o : Option (Nat × Mat)) (w : World) (h : ZoneV 126 w v z) (h' : ZoneV 126 w v' o) :
    Calls Tryd.prog 38 #[v, v'] w fun e w' => e = .returned (.bool (equalP z o)) ∧ Below w.heap.size w w' := by
  match z, h with
  | none, h =>
    have h : v = .pointer none := h
    subst h
    exact equal_nil v' w
  | some (n, m), ⟨b, e, hn, _, hm⟩ =>
    subst e
    match o, h' with
    | none, h' =>
      have h' : v' = .pointer none := h'
      subst h'
      exact equal_ofnil b n m w hm
    | some (k, o), ⟨c, e, _, _, ho⟩ =>
      subst e
      by_cases hk : n = k
      · subst hk
        have e : equalP (some (n, m)) (some (n, o)) = eqM m o := by simp [equalP]
        rw [e]
        exact equal_two b c n m o w hm ho
      · have e : equalP (some (n, m)) (some (k, o)) = false := by simp [equalP, hk]
        rw [e]
        exact equal_other b c n k m o w hm ho hk

end Go.Proofs.YtidcnlecgcobmaaDoor

/- The strictest of bounds. -/
namespace Go.Proofs.YtidcnlecgcobmaaDoor
open Go Go.RowKit
set_option linter.unusedVariables false
set_option linter.unusedSimpArgs false

attribute [local go_sem] min_ints max_ints


theorem least_fn (a b : Int) (w : World) : Calls Tryd.prog 112 #[.int .i32 a, .int .i32 b] w fun e w' => e = .returned (.int .i32 (min a b)) ∧ w = w' := by
  go_enter Tryd.func112, Tryd.ntmps112
  go_wp2
  go_ret
  exact ⟨rfl, rfl⟩

/-- The least of the first p, and of a number. -/
def minUp (a : Int) (l : List Int) : Nat → Int
  | 0 => a
  | p + 1 => min (minUp a l p) (l.getD p 0)

set_option maxRecDepth 100000 in
set_option maxHeartbeats 400000 in
theorem fold_min (a : Int) (A : Option Addr) (c : Nat) (l : List Int) (w : World) (hI : Ints w .i32 A l) (hmax : l.length ≤ 4611686018427387904) :
    Calls Tryd.prog 111 #[.int .i32 a, .slice A l.length c, .func (.func 112) #[] #[]] w fun e w' => e = .returned (.int .i32 (minUp a l l.length)) ∧ w = w' := by
  have HI := Lib.hid hI
  clear hI
  go_enter Tryd.func111, Tryd.ntmps111
  go_wp2
  go_loopg [0, 11] l.length (fun g x v wr => ∃ p : Nat, v = .int .i64 p ∧ x = .int .i32 (minUp a l p) ∧ w = wr ∧ Hid (p ≤ l.length ∧ g + p = l.length))
  case atStart => exact ⟨0, by simp, rfl, rfl, by omega, by omega⟩
  case round =>
    obtain ⟨p, rfl, rfl, rfl, HG⟩ := hrel
    by_cases hp : p < l.length
    · obtain ⟨b, off, rfl, hc⟩ := HI.out p hp
      obtain ⟨x, hx⟩ : ∃ x, x = l.getD p 0 := ⟨_, rfl⟩
      rw [← hx] at hc
      have HX := Lib.hid hx
      clear hx
      go_wp2_with fail
      refine (least_fn _ _ _).mono ?_
      rintro e w' ⟨rfl, rfl⟩
      go_wp2
      go_roundg (gk - 1)
      case measure => have h := HG.out; omega
      case rel => exact ⟨p + 1, by go_num, by rw [show minUp a l (p + 1) = min (minUp a l p) (l.getD p 0) from rfl, ← HX.out], rfl, by omega, by have h := HG.out; omega⟩
    · have e : p = l.length := by have := HG.out.1; omega
      subst e
      go_wp2
      go_ret
      exact ⟨rfl, rfl⟩

theorem least_any (A : Option Addr) (c : Nat) (l : List Int) (w : World) (hI : Ints w .i32 A l) (hmax : l.length ≤ 4611686018427387904) :
    Calls Tryd.prog 88 #[.slice A l.length c] w fun e w' => e = .returned (.int .i32 (minUp 2147483647 l l.length)) ∧ w = w' := by
  go_enter Tryd.func88, Tryd.ntmps88
  go_wp2_with fail
  refine (fold_min _ A c l _ hI hmax).mono ?_
  rintro e w' ⟨rfl, rfl⟩
  clear hI
  go_wp2
  go_ret
  exact ⟨rfl, rfl⟩

end Go.Proofs.YtidcnlecgcobmaaDoor

/- Have two zones a valuation in common? The strictest of bounds. -/
namespace Go.Proofs.YtidcnlecgcobmaaDoor
open Go Go.RowKit
set_option linter.unusedVariables false
set_option linter.unusedSimpArgs false
attribute [local go_sem] min_ints max_ints
theorem least_two {w : World} {b : Nat} {x y : Int} (h0 : w.cell? ⟨b, 0, none⟩ = some (.int .i32 x)) (h1 : w.cell? ⟨b, 1, none⟩ = some (.int .i32 y)) : Ints w .i32 (some ⟨b, 0, none⟩) [x, y] := by
  intro j hj
  refine ⟨b, 0, rfl, ?_⟩
  match j, hj with
  | 0, _ => simpa using h0
  | 1, _ => simpa using h1

/-- The strictest cells of both. -/
def minM (m o : Mat) : Mat := fun i j => min (min 2147483647 (m i j)) (o i j)
theorem minM_right {n : Nat} {m o : Mat} (h : RightM n m) (h' : RightM n o) : RightM n (minM m o) := fun i j hi hj => by
  have h1 := h i j hi hj
  have h2 := h' i j hi hj
  unfold rightB at h1 h2 ⊢
  rw [decide_eq_true_iff] at h1 h2 ⊢
  simp only [minM, Int.min_def]
  split <;> split <;> omega
/-- The wide matrix of what two have in common. -/
def meetM (n : Nat) (m o : Mat) (p : Nat) : Mat := keepUp n (flat n (minM m o)) p
theorem meetM_fit {n : Nat} {m o : Mat} (h : RightM n (minM m o)) (p : Nat) (hp : p ≤ (n + 1) * (n + 1)) : Fit n 1073741824 (meetM n m o p) := by
  refine keepUp_fit _ _ _ fun q hq => ?_
  rw [flat_getD _ _ _ (by omega)]
  have : q / (n + 1) < n + 1 := Nat.div_lt_of_lt_mul (by omega)
  have := Nat.mod_lt q (show 0 < n + 1 by omega)
  exact h _ _ (by omega) (by omega)
theorem meetM_step {n : Nat} {m o : Mat} {i j : Nat} (hi : i < n + 1) (hj : j < n + 1) : meetM n m o (i * (n + 1) + j + 1) = keepM (meetM n m o (i * (n + 1) + j)) i j (min (min 2147483647 (m i j)) (o i j)) := by
  have h := at_row (i := i) hj
  have hlt : i * (n + 1) + j < (n + 1) * (n + 1) := by
    have : i * (n + 1) ≤ n * (n + 1) := Nat.mul_le_mul_right _ (by omega)
    rw [Nat.add_mul, Nat.one_mul]; omega
  show keepM (keepUp n (flat n (minM m o)) (i * (n + 1) + j)) ((i * (n + 1) + j) / (n + 1)) ((i * (n + 1) + j) % (n + 1)) ((flat n (minM m o)).getD (i * (n + 1) + j) 0) = _
  rw [flat_getD _ _ _ hlt, h.1, h.2]; rfl

/-- The wide matrix in the first new block, so far. -/
def MeetR (w0 : World) (n : Nat) (m o : Mat) (i j : Nat) (wr : World) : Prop :=
  Below w0.heap.size w0 wr ∧ MatAt wr w0.heap.size 148 .i64 n (meetM n m o (i * (n + 1) + j)) ∧ i ≤ n + 1 ∧ j ≤ n + 1

def meetsP (z o : Option (Nat × Mat)) : Bool := match z, o with
  | some (n, m), some (k, o) => decide (n = k) && (closed n (meetM n m o ((n + 1) * (n + 1)))).isSome
  | _, _ => false
def meets1 (n : Nat) (m o : Mat) : Bool := (closed n (meetM n m o ((n + 1) * (n + 1)))).isSome

theorem meet_below {w0 wr w3 : World} {o : Obj} (h : Below w0.heap.size w0 wr) (ho : Only w0.heap.size (wr.alloc o).drew w3) : Below w0.heap.size w0 w3 :=
  ((h.alloc h.size o).drew).trans (ho.below (Nat.le_refl _) (by have := h.size; simp; omega))

set_option maxRecDepth 100000 in
set_option maxHeartbeats 2000000 in
theorem meets_two (b c n : Nat) (m o : Mat) (w : World) (hn : n ≤ 8) (hrm : RightM n m) (hro : RightM n o) (h : MatAt w b 126 .i32 n m) (h' : MatAt w c 126 .i32 n o) :
    Calls Tryd.prog 40 #[.pointer (some ⟨b, 0, none⟩), .pointer (some ⟨c, 0, none⟩)] w fun e w' => e = .returned (.bool (meets1 n m o)) ∧ Below w.heap.size w w' := by
  have H := Lib.hid h
  have H' := Lib.hid h'
  have HR := Lib.hid (minM_right hrm hro)
  clear h h' hrm hro
  go_enter Tryd.func40, Tryd.ntmps40
  go_wp2_with fail
  refine (alike_same b c n m o _ H.out H'.out).mono ?_
  rintro e w1 ⟨rfl, q, rfl⟩
  have h0 := (H.out.drewN q).head
  have HB := Lib.hid (show Below w.heap.size w (w.drewN q) from belowN (Below.refl _ _) q)
  have hsz : (w.drewN q).heap.size = w.heap.size := rfl
  have HZ := Lib.hid hsz
  clear hsz
  generalize w.drewN q = wq at *
  go_wp2_with fail
  refine (open_any n _ hn).mono ?_
  rintro e w1 ⟨rfl, hb1, hm1⟩
  rw [HZ.out] at hb1 hm1 ⊢
  have hB1 : Below w.heap.size w w1 := HB.out.trans hb1
  have h0 := (H.out.later hB1).head
  have HS := Lib.hid (show MeetR w n m o 0 0 w1 from ⟨hB1, by simpa [meetM, keepUp] using hm1, by omega, by omega⟩)
  clear hb1 hm1 hB1
  go_wp2
  go_loopg [24] (n + 1) (fun g v wr => ∃ i : Nat, v = .int .i64 i ∧ MeetR w n m o i 0 wr ∧ Hid (g + i = n + 1))
  case atStart => exact ⟨0, by simp, HS.out, by show _ = _; omega⟩
  case round =>
    clear HS h0
    obtain ⟨i, rfl, HA, HG⟩ := hrel
    have HI := Lib.hid HA
    have h0 := (H.out.later HA.1).head
    clear HA
    by_cases hi : i < n + 1
    · have hii : (i : Int) < (n : Int) + 1 := by omega
      go_wp2
      go_loopg [33] (n + 1) (fun g v wr => ∃ j : Nat, v = .int .i64 j ∧ MeetR w n m o i j wr ∧ Hid (g + j = n + 1))
      case atStart => exact ⟨0, by simp, HI.out, by show _ = _; omega⟩
      case round =>
        clear HI h0
        obtain ⟨j, rfl, HA, HG2⟩ := hrel
        have HJ := Lib.hid HA
        by_cases hj : j < n + 1
        · have hjj : (j : Int) < (n : Int) + 1 := by omega
          have c1 := (H.out.later HA.1).cell i j (by omega) (by omega)
          have c2 := (H'.out.later HA.1).cell i j (by omega) (by omega)
          clear HA
          have i9 : (i : Int) < 9 := by omega
          have j9 : (j : Int) < 9 := by omega
          obtain ⟨x, hx⟩ : ∃ x, x = m i j := ⟨_, rfl⟩
          obtain ⟨y, hy⟩ : ∃ y, y = o i j := ⟨_, rfl⟩
          rw [← hx] at c1
          rw [← hy] at c2
          have hxy := HR.out i j (by omega) (by omega)
          have hstep := meetM_step (m := m) (o := o) hi hj
          rw [← hx, ← hy] at hstep
          have hmin : minM m o i j = min (min 2147483647 x) y := by rw [hx, hy]; rfl
          rw [hmin] at hxy
          have hb : -2147483648 ≤ min (min 2147483647 x) y ∧ min (min 2147483647 x) y ≤ 2147483647 := by
            unfold rightB at hxy; have := of_decide_eq_true hxy; omega
          have HSt := Lib.hid hstep
          have HXY := Lib.hid hxy
          have HBB := Lib.hid hb
          have HX := Lib.hid hx
          have HY := Lib.hid hy
          clear hx hy hxy hstep hmin hb
          have hlt1 : b < wr.heap.size := (H.out.later HJ.out.1).lt
          have hlt2 : c < wr.heap.size := (H'.out.later HJ.out.1).lt
          go_wp2_with fail
          go_region_held3 (fun w' => w'.cell? ⟨b, 1 + i * 9 + j, none⟩ = some (.int .i32 x) ∧ w'.cell? ⟨c, 1 + i * 9 + j, none⟩ = some (.int .i32 y)) (first | go_keep | exact ⟨k1, k2⟩)
            (first | (go_at_call 88; refine (least_any _ _ [x, y] _ (by exact least_two (by simp) (by simp)) (by simp)).mono ?_; rintro e w' ⟨rfl, rfl⟩) | (go_at_call 82; refine (keep_any _ _ _ i j n _ _ _ (by omega) (by omega) (by exact (HJ.out.2.1.drew.alloc _)) (by rfl) (by rfl) (by exact HBB.out.1) (by exact HBB.out.2)).mono ?_; rintro e w3 ⟨rfl, ho, hm3⟩; have HM3 := Lib.hid hm3; have HB3 := Lib.hid (meet_below HJ.out.1 ho); have k1 : w3.cell? ⟨b, 1 + i * 9 + j, none⟩ = some (.int .i32 x) := (by rw [HX.out]; exact (H.out.later HB3.out).cell i j (by omega) (by omega)); have k2 : w3.cell? ⟨c, 1 + i * 9 + j, none⟩ = some (.int .i32 y) := (by rw [HY.out]; exact (H'.out.later HB3.out).cell i j (by omega) (by omega)); clear ho hm3))
          go_wp2
          go_roundg (gk - 1)
          case measure => have h := HG2.out; omega
          case rel =>
            refine ⟨j + 1, by go_num, ⟨HB3.out, ?_, HJ.out.2.2.1, by omega⟩, by have h := HG2.out; show _ = _; omega⟩
            have e : i * (n + 1) + (j + 1) = i * (n + 1) + j + 1 := by omega
            rw [e, HSt.out]
            exact HM3.out
        · have hjj : ¬ (j : Int) < (n : Int) + 1 := by omega
          clear HA
          go_wp2
          go_roundg (n - i)
          case measure => have h := HG.out; omega
          case rel =>
            refine ⟨i + 1, by go_num, ⟨HJ.out.1, ?_, by omega, by omega⟩, by show _ = _; omega⟩
            have e : (i + 1) * (n + 1) + 0 = i * (n + 1) + j := by have := HJ.out.2.2.2; rw [Nat.add_mul]; omega
            rw [e]
            exact HJ.out.2.1
    · have hii : ¬ (i : Int) < (n : Int) + 1 := by omega
      have e : i = n + 1 := by have := HI.out.2.2.1; omega
      go_wp2_with fail
      refine (close_any w.heap.size n (meetM n m o ((n + 1) * (n + 1))) wr hn (by have := HI.out.2.1; rw [e, Nat.add_zero] at this; exact this) (meetM_fit HR.out _ (Nat.le_refl _))).mono ?_
      rintro e2 w4 ⟨ho, hcl⟩
      have HB4 := Lib.hid (HI.out.1.trans (ho.below (Nat.le_refl _) HI.out.1.size))
      clear ho h0
      rcases hcl with ⟨hc, rfl⟩ | ⟨m', hc, rfl, hm⟩
      · have hf : meets1 n m o = false := by unfold meets1; rw [hc]; rfl
        clear hc
        go_wp2
        go_ret
        exact ⟨by rw [hf]; rfl, HB4.out⟩
      · have hf : meets1 n m o = true := by unfold meets1; rw [hc]; rfl
        clear hc hm
        go_wp2
        go_ret
        exact ⟨by rw [hf]; rfl, HB4.out⟩

set_option maxRecDepth 100000 in
set_option maxHeartbeats 1000000 in
theorem meets_other (b c n k : Nat) (m o : Mat) (w : World) (h : MatAt w b 126 .i32 n m) (h' : MatAt w c 126 .i32 k o) (hne : n ≠ k) :
    Calls Tryd.prog 40 #[.pointer (some ⟨b, 0, none⟩), .pointer (some ⟨c, 0, none⟩)] w fun e w' => e = .returned (.bool false) ∧ Below w.heap.size w w' := by
  go_enter Tryd.func40, Tryd.ntmps40
  go_wp2_with fail
  refine (alike_other b c n k m o _ h h' hne).mono ?_
  rintro e w1 ⟨rfl, q, rfl⟩
  clear h h'
  go_wp2
  go_ret
  exact ⟨rfl, belowN (Below.refl _ _) q⟩
set_option maxRecDepth 100000 in
set_option maxHeartbeats 1000000 in
theorem meets_nil (v : Value) (w : World) : Calls Tryd.prog 40 #[.pointer none, v] w fun e w' => e = .returned (.bool false) ∧ Below w.heap.size w w' := by
  go_enter Tryd.func40, Tryd.ntmps40
  go_wp2_with fail
  refine (alike_nil v _).mono ?_
  rintro e w1 ⟨rfl, q, rfl⟩
  go_wp2
  go_ret
  exact ⟨rfl, belowN (Below.refl _ _) q⟩
set_option maxRecDepth 100000 in
set_option maxHeartbeats 1000000 in
theorem meets_ofnil (b n : Nat) (m : Mat) (w : World) (h : MatAt w b 126 .i32 n m) : Calls Tryd.prog 40 #[.pointer (some ⟨b, 0, none⟩), .pointer none] w fun e w' => e = .returned (.bool false) ∧ Below w.heap.size w w' := by
  go_enter Tryd.func40, Tryd.ntmps40
  go_wp2_with fail
  refine (alike_none b n m _ h).mono ?_
  rintro e w1 ⟨rfl, q, rfl⟩
  clear h
  go_wp2
  go_ret
  exact ⟨rfl, belowN (Below.refl _ _) q⟩

/-- Meets, of any two. -/
theorem meets_any (v v' : Value) (z o : Option (Nat × Mat)) (w : World) (h : ZoneV 126 w v z) (h' : ZoneV 126 w v' o) :
    Calls Tryd.prog 40 #[v, v'] w fun e w' => e = .returned (.bool (meetsP z o)) ∧ Below w.heap.size w w' := by
  match z, h with
  | none, h =>
    have h : v = .pointer none := h
    subst h
    exact meets_nil v' w
  | some (n, m), ⟨b, e, hn, hr, hm⟩ =>
    subst e
    match o, h' with
    | none, h' =>
      have h' : v' = .pointer none := h'
      subst h'
      exact meets_ofnil b n m w hm
    | some (k, o), ⟨c, e, _, hr', ho⟩ =>
      subst e
      by_cases hk : n = k
      · subst hk
        have e : meetsP (some (n, m)) (some (n, o)) = meets1 n m o := by simp [meetsP, meets1]
        rw [e]
        exact meets_two b c n m o w hn hr hr' hm ho
      · have e : meetsP (some (n, m)) (some (k, o)) = false := by simp [meetsP, hk]
        rw [e]
        exact meets_other b c n k m o w hm ho hk

end Go.Proofs.YtidcnlecgcobmaaDoor

/- And is Constrain by all cells: plain. -/
namespace Go.Proofs.YtidcnlecgcobmaaDoor
set_option linter.unusedVariables false
set_option linter.unusedSimpArgs false

theorem ofP_min {n : Nat} {m o : Mat} (hn : n ≤ 8) (hr : RightM n (minM m o)) : ofP n (flat n (minM m o)) = zoneP n (meetM n m o ((n + 1) * (n + 1))) := by
  unfold ofP
  rw [if_pos (by omega), if_pos (by rw [flat_length]; simp), if_pos (flat_right hr), flat_length, Int.toNat_natCast]
  rfl
theorem minM_cell {n : Nat} {m o : Mat} (hm : RightM n m) {i j : Nat} (hi : i ≤ n) (hj : j ≤ n) : minM m o i j = min (m i j) (o i j) := by
  have := right_hi (hm i j hi hj)
  unfold minM
  omega
theorem and_one {n : Nat} {m o : Mat} (hm : RightM n m) : Agree n (andUp n (openW (some (n, m))) [o] 1) (minM m o) := fun i j hi hj => by
  show minW n (openW (some (n, m))) (openW (some (n, o))) i j = _
  rw [minW_in hi hj, open_agree n m i j hi hj, open_agree n o i j hi hj, minM_cell hm hi hj]
theorem and_two {n : Nat} {m o : Mat} (hm : RightM n m) : Agree n (andUp n (openW (some (n, o))) [m, o] 2) (minM m o) := fun i j hi hj => by
  show minW n (minW n (openW (some (n, o))) (openW (some (n, m)))) (openW (some (n, o))) i j = _
  rw [minW_in hi hj, minW_in hi hj, open_agree n m i j hi hj, open_agree n o i j hi hj, minM_cell hm hi hj]
  omega

/-- All cells, as limits, from the last row on. -/
def rowL (o : Mat) (i q : Nat) : List (Int × Int × Int) := (List.range q).map fun (j : Nat) => ((i : Int), (j : Int), o i j)
def allL (n : Nat) (o : Mat) : Nat → List (Int × Int × Int)
  | 0 => []
  | p + 1 => allL n o p ++ rowL o (n - p) (n + 1)
theorem rowL_next (o : Mat) (i q : Nat) : rowL o i (q + 1) = rowL o i q ++ [((i : Int), (q : Int), o i q)] := by simp [rowL, List.range_succ]
theorem rowL_length (o : Mat) (i q : Nat) : (rowL o i q).length = q := by simp [rowL]
theorem allL_length (n : Nat) (o : Mat) : ∀ p, (allL n o p).length = p * (n + 1)
  | 0 => by simp [allL]
  | p + 1 => by rw [allL, List.length_append, allL_length n o p, rowL_length, Nat.add_mul, Nat.one_mul]
theorem allL_is (n : Nat) (o : Mat) : ∀ p x, x ∈ allL n o p → ∃ i j : Nat, i ≤ n ∧ j ≤ n ∧ x = ((i : Int), (j : Int), o i j)
  | 0, x, h => by simp [allL] at h
  | p + 1, x, h => by
    rw [allL, List.mem_append] at h
    rcases h with h | h
    · exact allL_is n o p x h
    · simp only [rowL, List.mem_map, List.mem_range] at h
      obtain ⟨j, hj, e⟩ := h
      exact ⟨n - p, j, by omega, by omega, e.symm⟩
theorem allL_mem (n : Nat) (o : Mat) (i j : Nat) (hi : i ≤ n) (hj : j ≤ n) : ∀ p, n - i < p → ((i : Int), (j : Int), o i j) ∈ allL n o p
  | 0, h => by omega
  | p + 1, h => by
    rw [allL, List.mem_append]
    by_cases e : n - i = p
    · right
      have : n - p = i := by omega
      rw [this]
      exact List.mem_map.2 ⟨j, List.mem_range.2 (by omega), rfl⟩
    · left; exact allL_mem n o i j hi hj p (by omega)
theorem allL_conE {n : Nat} {o : Mat} (ho : RightM n o) (p : Nat) : (allL n o p).all (clkB n) = true ∧ (allL n o p).all bdB = true := by
  refine ⟨List.all_eq_true.2 fun x hx => ?_, List.all_eq_true.2 fun x hx => ?_⟩
  · obtain ⟨i, j, hi, hj, rfl⟩ := allL_is n o p x hx
    unfold clkB anyB
    simp only [Bool.and_eq_true, decide_eq_true_eq]
    omega
  · obtain ⟨i, j, hi, hj, rfl⟩ := allL_is n o p x hx
    exact ho i j hi hj
theorem con_hit {M o : Mat} {l : List (Int × Int × Int)} (hx : ∀ q, q < l.length → (l.getD q (0, 0, 0)).2.2 = o (l.getD q (0, 0, 0)).1.toNat (l.getD q (0, 0, 0)).2.1.toNat) (i j : Nat) : ∀ p, p ≤ l.length →
    (conUp M l p i j = M i j ∧ ∀ q, q < p → ¬ (i = (l.getD q (0, 0, 0)).1.toNat ∧ j = (l.getD q (0, 0, 0)).2.1.toNat)) ∨ conUp M l p i j = min (M i j) (o i j)
  | 0, _ => .inl ⟨rfl, fun q hq => by omega⟩
  | p + 1, hp => by
    have ih := con_hit (M := M) hx i j p (by omega)
    unfold conUp lessM upd
    by_cases e : i = (l.getD p (0, 0, 0)).1.toNat ∧ j = (l.getD p (0, 0, 0)).2.1.toNat
    · rw [if_pos e, hx p (by omega), ← e.1, ← e.2]
      right
      rcases ih with ⟨h, _⟩ | h
      · rw [h]
      · rw [h]; omega
    · rw [if_neg e]
      rcases ih with ⟨h, h2⟩ | h
      · refine .inl ⟨h, fun q hq => ?_⟩
        by_cases e2 : q = p
        · subst e2; exact e
        · exact h2 q (by omega)
      · exact .inr h
theorem con_all {n : Nat} {m o : Mat} (hm : RightM n m) : Agree n (conUp (openW (some (n, m))) (allL n o (n + 1)) (allL n o (n + 1)).length) (minM m o) := fun i j hi hj => by
  have hx : ∀ q, q < (allL n o (n + 1)).length → ((allL n o (n + 1)).getD q (0, 0, 0)).2.2 = o ((allL n o (n + 1)).getD q (0, 0, 0)).1.toNat ((allL n o (n + 1)).getD q (0, 0, 0)).2.1.toNat := fun q hq => by
    have hm : (allL n o (n + 1)).getD q (0, 0, 0) ∈ allL n o (n + 1) := by
      rw [List.getD_eq_getElem?_getD, List.getElem?_eq_getElem hq]; exact List.getElem_mem hq
    obtain ⟨a, b, _, _, e⟩ := allL_is n o _ _ hm
    rw [e]; simp
  rcases con_hit (M := openW (some (n, m))) hx i j _ (Nat.le_refl _) with ⟨_, h⟩ | h
  · obtain ⟨q, hq, e⟩ := List.getElem_of_mem (allL_mem n o i j hi hj (n + 1) (by omega))
    refine absurd ?_ (h q hq)
    rw [List.getD_eq_getElem?_getD, List.getElem?_eq_getElem hq, e]
    simp
  · rw [h, open_agree n m i j hi hj, minM_cell hm hi hj]
theorem con_cells {n : Nat} {m o : Mat} (hn : n ≤ 8) (hm : RightM n m) (ho : RightM n o) : conP n (openW (some (n, m))) (allL n o (n + 1)) = zoneP n (meetM n m o ((n + 1) * (n + 1))) := by
  have h := allL_conE ho (n + 1)
  unfold conP conE
  rw [h.1, h.2, if_pos rfl, if_pos rfl, if_pos rfl, flat_congr (con_all hm), ofP_min hn (minM_right hm ho)]

theorem zoneP_cases (n : Nat) (M : Mat) : (∃ a, zoneP n M = (some a, 0)) ∨ zoneP n M = (none, 10) := by
  unfold zoneP
  split
  · exact .inl ⟨_, rfl⟩
  · split
    · exact .inl ⟨_, rfl⟩
    · exact .inr rfl
theorem eqM_self (a : Mat) : eqM a a = true := by unfold eqM; simp
/-- What two have in common is in both; it is empty just if they do not meet. -/
theorem meet_zone {n : Nat} {m o a : Mat} {e : Int} (hn : n ≤ 8) (hm : RightM n m) (ho : RightM n o) (h : zoneP n (meetM n m o ((n + 1) * (n + 1))) = (some a, e)) :
    inclM n m a = true ∧ inclM n o a = true ∧ decide (a 0 0 < 1) = !meets1 n m o := by
  have hr := minM_right hm ho
  have hf := meetM_fit hr ((n + 1) * (n + 1)) (Nat.le_refl _)
  have h1 : (zoneP n (meetM n m o ((n + 1) * (n + 1)))).1 = some a := by rw [h]
  rcases zoneP_is hn hf h1 with ⟨ha, hc⟩ | ⟨m', hc, ha, hz, hcl⟩
  · subst ha
    refine ⟨decide_eq_true (.inl (by decide)), decide_eq_true (.inl (by decide)), ?_⟩
    unfold meets1
    rw [hc]; rfl
  · have h00 : a 0 0 = 1 := by
      rw [hz]
      unfold narM nar
      rw [if_pos ⟨by omega, by omega⟩, hcl.one 0 (by omega), if_neg (by decide)]
    have hcell : ∀ i j, i ≤ n → j ≤ n → a i j ≤ m i j ∧ a i j ≤ o i j := fun i j hi hj => by
      have e1 : a i j = nar (m' i j) := by rw [hz]; unfold narM; rw [if_pos ⟨hi, hj⟩]
      have e2 := hcl.le i j
      have e3 : meetM n m o ((n + 1) * (n + 1)) i j ≤ wid (minM m o i j) := by
        unfold meetM
        rw [keepUp_cell n (flat n (minM m o)) i j hi hj (fun q hq => by
          have := (all_getD _ rightB 0).1 (flat_right hr) q (by rw [flat_length]; exact hq)
          exact this) _ (Nat.le_refl _), if_pos (at_lt (by omega) (by omega)), flat_at _ (by omega) (by omega)]
        split <;> omega
      have e4 := minM_cell (o := o) hm hi hj
      have r1 := right_hi (hm i j hi hj)
      have r2 := right_hi (ho i j hi hj)
      have r3 := ha i hi j hj
      have b1 := hm i j hi hj
      have b2 := ho i j hi hj
      rw [e4] at e3
      unfold rightB at b1 b2
      simp only [decide_eq_true_eq] at b1 b2
      rw [e1]
      unfold inR at r3
      unfold wid at e3
      unfold nar
      unfold none62 at *
      split at e3 <;> split <;> omega
    refine ⟨decide_eq_true (.inr fun i hi j hj => (hcell i j hi hj).1), decide_eq_true (.inr fun i hi j hj => (hcell i j hi hj).2), ?_⟩
    unfold meets1
    rw [hc, decide_eq_false (by omega)]; rfl

end Go.Proofs.YtidcnlecgcobmaaDoor

/- What OpsCells tells. -/
namespace Go.Proofs.YtidcnlecgcobmaaDoor
open Go Go.RowKit
set_option linter.unusedVariables false
set_option linter.unusedSimpArgs false

theorem cells_three (w : World) (a b c : Value) (e : TypeId) : ∀ j u, [a, b, c][j]? = some u → (w.alloc (.cells #[a, b, c] e (0, 0))).cell? ((⟨w.heap.size, 0, none⟩ : Addr).add j) = some u := by
  intro j u hu
  have ea : (⟨w.heap.size, 0, none⟩ : Addr).add j = ⟨w.heap.size, 0 + j, none⟩ := by unfold Addr.add; split <;> simp_all
  rw [ea, Nat.zero_add]
  have h1 := heap_alloc_new w (.cells #[a, b, c] e (0, 0))
  unfold World.cell?
  rw [h1]
  show ([a, b, c].toArray : Array Value)[j]? = some u
  rw [List.getElem?_toArray]; exact hu
theorem infoLL : (Tryd.prog.info? 68).map (fun i => (i.zero, i.size, i.bytes)) = some (some (.agg #[.int .i64 0, .int .i64 0, .int .i32 0]), 3, 24) := by kernel_rfl
/-- A row of limits of the call's own that grows. -/
def LimR (wx : World) (l : List (Int × Int × Int)) (v : Value) (wr : World) : Prop := Below wx.heap.size wx wr ∧ OwnL wr wx.heap.size 68 v l
theorem LimR.next {wx wr w1 : World} {l : List (Int × Int × Int)} {v v' : Value} {o : Obj} (h : LimR wx l v wr) (x y z : Int)
    (hown : w1.ownsRow wx.heap.size 68 3 v' (l.length + 1) (lcells l ++ [.int .i64 x, .int .i64 y, .int .i32 z])) (hg : (wr.alloc o).grownBy w1 v.ownBlock) : LimR wx (l ++ [(x, y, z)]) v' w1 := by
  refine ⟨(h.1.alloc h.1.size o).grown hg (by have := h.1.size; simp; omega) (fun k hk => (h.2.lt k hk).1), ?_⟩
  unfold OwnL
  have e : lcells (l ++ [(x, y, z)]) = lcells l ++ [.int .i64 x, .int .i64 y, .int .i32 z] := by simp [lcells]
  rw [e, List.length_append]
  exact hown
theorem allL_start (n : Nat) (o : Mat) (p : Nat) : allL n o p = allL n o p ++ rowL o (n - p) 0 := by simp [rowL]
theorem all32 {n : Nat} {o : Mat} (ho : RightM n o) (p : Nat) : ∀ q, q < (allL n o p).length → -2147483648 ≤ ((allL n o p).getD q (0, 0, 0)).2.2 ∧ ((allL n o p).getD q (0, 0, 0)).2.2 ≤ 2147483647 := fun q hq => by
  have := (all_getD _ bdB (0, 0, 0)).1 (allL_conE ho p).2 q hq
  exact right_hi this
theorem zones_one {w : World} {A : Option Addr} {v : Value} {k : Nat} {o : Mat} (hp : Ptrs w A [v]) (h : ZoneV 126 w v (some (k, o))) : ZonesV w A [v] k [o] := ⟨hp, rfl, fun j hj => by
  have : j = 0 := by simp at hj; omega
  subst this; exact h⟩
theorem zones_two {w : World} {A : Option Addr} {v v' : Value} {k : Nat} {m o : Mat} (hp : Ptrs w A [v, v']) (h : ZoneV 126 w v (some (k, m))) (h' : ZoneV 126 w v' (some (k, o))) : ZonesV w A [v, v'] k [m, o] := ⟨hp, rfl, fun j hj => by
  rcases (show j = 0 ∨ j = 1 by simp at hj; omega) with e | e
  · subst e; exact h
  · subst e; exact h'⟩

/-- The law, of two zones. -/
theorem cells_tail {n : Nat} {m o : Mat} (hn : n ≤ 8) (hm : RightM n m) (ho : RightM n o) : ∃ r, (zoneP n (meetM n m o ((n + 1) * (n + 1))) = r) ∧ ofP n (flat n (andUp n (openW (some (n, m))) [o] 1)) = r ∧ ofP n (flat n (andUp n (openW (some (n, o))) [m, o] 2)) = r ∧ conP n (openW (some (n, m))) (allL n o (n + 1)) = r :=
  ⟨_, rfl, by rw [flat_congr (and_one hm), ofP_min hn (minM_right hm ho)], by rw [flat_congr (and_two hm), ofP_min hn (minM_right hm ho)], con_cells hn hm ho⟩

set_option maxRecDepth 100000 in
set_option maxHeartbeats 4000000 in
theorem opscells_any (n : Int) (A : Option Addr) (c : Nat) (cells : List Int) (B : Option Addr) (d : Nat) (other : List Int) (w : World) (hI : Ints w .i32 A cells) (hmax : cells.length ≤ 4611686018427387904)
    (hk : ∀ q, q < cells.length → -2147483648 ≤ cells.getD q 0 ∧ cells.getD q 0 ≤ 2147483647) (hI' : Ints w .i32 B other) (hmax' : other.length ≤ 4611686018427387904)
    (hk' : ∀ q, q < other.length → -2147483648 ≤ other.getD q 0 ∧ other.getD q 0 ≤ 2147483647) (ht : Tab w) :
    Calls Tryd.prog 8 #[.int .i64 n, .slice A cells.length c, .slice B other.length d] w fun e w' => e = .returned (.bool true) ∧ Below w.heap.size w w' := by
  have HG0 := Lib.hid ((((Bag.start (Below.refl w.heap.size w)).add hI' (stable_ints _ _ _)).add hI (stable_ints _ _ _)).add ht stable_tab)
  have HZ1 := Lib.hid (fun w hI => of_any n A c cells w hI hmax hk)
  have HZ2 := Lib.hid (fun w hI => of_any n B d other w hI hmax' hk')
  have HK1 := Lib.hid (fun k m (h : zOf n cells = some (k, m)) => zone_kinds h)
  have HK2 := Lib.hid (fun k m (h : zOf n other = some (k, m)) => zone_kinds h)
  obtain ⟨e1, he1⟩ : ∃ e, e = (ofP n cells).2 := ⟨_, rfl⟩
  obtain ⟨e2, he2⟩ : ∃ e, e = (ofP n other).2 := ⟨_, rfl⟩
  unfold MakesZ at HZ1 HZ2
  rw [← he1, show ((ofP n cells).1.map fun m => (n.toNat, m)) = zOf n cells from rfl] at HZ1
  rw [← he2, show ((ofP n other).1.map fun m => (n.toNat, m)) = zOf n other from rfl] at HZ2
  generalize zOf n cells = z at *
  generalize zOf n other = z' at *
  clear he1 he2 hI hI' hk hk' ht
  go_enter Tryd.func8, Tryd.ntmps8
  go_wp2_with fail
  refine (live04_any _ (HG0.out.at 0 rfl)).mono ?_
  rintro e w1 ⟨rfl, hb⟩
  have HG1 := Lib.hid (HG0.out.step hb)
  clear hb HG0
  go_wp2_with fail
  refine (HZ1.out _ (HG1.out.at 1 rfl)).mono ?_
  rintro e w2 ⟨hb, v, rfl, hv⟩
  have HG2 := Lib.hid ((HG1.out.step hb).add hv (stable_zone _ _ _))
  clear hb hv HG1
  go_wp2_with fail
  refine (HZ2.out _ (HG2.out.at 3 rfl)).mono ?_
  rintro e w3 ⟨hb, v', rfl, hv⟩
  have HG3 := Lib.hid ((HG2.out.step hb).add hv (stable_zone _ _ _))
  clear hb hv HG2 HZ1 HZ2
  have h1 := HG3.out.at 1 rfl
  have h2 := HG3.out.at 0 rfl
  cases z with
  | none =>
    have h1 : v = .pointer none := h1
    subst h1
    clear h2
    go_wp2
    go_ret
    exact ⟨rfl, HG3.out.below⟩
  | some zp =>
    obtain ⟨k, m⟩ := zp
    cases z' with
    | none =>
      have h2 : v' = .pointer none := h2
      subst h2
      obtain ⟨b1, rfl, _⟩ := h1
      go_wp2
      go_ret
      exact ⟨rfl, HG3.out.below⟩
    | some zp' =>
      obtain ⟨k', o⟩ := zp'
      obtain ⟨⟨hn0, hn8, hkn⟩, _⟩ := HK1.out k m rfl
      obtain ⟨⟨_, _, hkn'⟩, _⟩ := HK2.out k' o rfl
      have hkk : k' = k := by omega
      subst hkk
      have hnk : n = (k' : Int) := by omega
      subst hnk
      have hk8 : k' ≤ 8 := by omega
      obtain ⟨b1, rfl, hn, hm, _⟩ := h1
      obtain ⟨b2, rfl, _, ho, _⟩ := h2
      obtain ⟨r, hr0, hr1, hr2, hr3⟩ := cells_tail hn hm ho
      have HMZ := Lib.hid (fun a e h => meet_zone (a := a) (e := e) hn hm ho h)
      rw [hr0] at HMZ
      have HRC := Lib.hid (show (∃ a, r = (some a, 0)) ∨ r = (none, 10) by rw [← hr0]; exact zoneP_cases _ _)
      have HA1 := Lib.hid (fun A c w hz hv => and_zones (.pointer (some ⟨b1, 0, none⟩)) k' m A c [.pointer (some ⟨b2, 0, none⟩)] [o] w hz hv (by simp))
      have HA2 := Lib.hid (fun A c w hz hv => and_zones (.pointer (some ⟨b2, 0, none⟩)) k' o A c [.pointer (some ⟨b1, 0, none⟩), .pointer (some ⟨b2, 0, none⟩)] [m, o] w hz hv (by simp))
      rw [show ([o] : List Mat).length = 1 from rfl, hr1] at HA1
      rw [show ([m, o] : List Mat).length = 2 from rfl, hr2] at HA2
      have HCO := Lib.hid (fun A c w h hI => constrain_zone (.pointer (some ⟨b1, 0, none⟩)) k' m A c (allL k' o (k' + 1)) w h hI (by rw [allL_length]; have := Nat.mul_le_mul (show k' + 1 ≤ 9 by omega) (show k' + 1 ≤ 9 by omega); omega) (all32 ho _))
      rw [hr3] at HCO
      have HLEN := Lib.hid (allL_length k' o)
      have HMEET := Lib.hid (show meetsP (some (k', m)) (some (k', o)) = meets1 k' m o by show (decide (k' = k') && _) = _; rw [decide_eq_true rfl, Bool.true_and]; rfl)
      have HINC := Lib.hid (fun p q => show inclP (some (k', p)) (some (k', q)) = inclM k' p q by show (decide (k' = k') && _) = _; rw [decide_eq_true rfl, Bool.true_and])
      have HEQ := Lib.hid (fun p => show equalP (some (k', p)) (some (k', p)) = true by show (decide (k' = k') && _) = _; rw [decide_eq_true rfl, Bool.true_and, eqM_self])
      obtain ⟨i0, hi1, hz0, hz1, hz2⟩ := info_parts infoLL
      have HInf := Lib.hid (And.intro hi1 (And.intro hz0 (And.intro hz1 hz2)))
      have HS := Lib.hid (show LimR w3 (allL k' o 0) (.slice none 0 0) w3 from ⟨Below.refl _ _, by show w3.ownsRow _ _ 3 _ 0 []; exact World.ownsRow_nil _ _ _ _⟩)
      clear hi1 hz0 hz1 hz2 hr0 hr1 hr2 hr3 hm ho hkn hkn'
      go_wp2
      go_loopg [11, 12] (k' + 1) (fun g v x wr => ∃ p : Nat, x = .int .i64 ((k' : Int) - (p : Int)) ∧ Hid (LimR w3 (allL k' o p) v wr) ∧ Hid (p ≤ k' + 1 ∧ g + p = k' + 1))
      case atStart => exact ⟨0, by simp, HS.out, by omega, by omega⟩
      case round =>
        clear HS
        obtain ⟨p, rfl, HR, HG⟩ := hrel
        by_cases hp : p < k' + 1
        · obtain ⟨i, hi⟩ : ∃ i : Nat, i + p = k' := ⟨k' - p, by omega⟩
          have hip : (k' : Int) - (p : Int) = (i : Int) := by omega
          have HIP := Lib.hid (show k' - p = i by omega)
          rw [hip]
          have HS := Lib.hid (show LimR w3 (allL k' o p ++ rowL o i 0) _ wr by rw [← HIP.out, ← allL_start]; exact HR.out)
          clear HR
          go_wp2
          go_loopg [11, 13] (k' + 1) (fun g v x wr => ∃ j : Nat, x = .int .i64 j ∧ Hid (LimR w3 (allL k' o p ++ rowL o i j) v wr) ∧ Hid (j ≤ k' + 1 ∧ g + j = k' + 1))
          case atStart => exact ⟨0, by simp, HS.out, by omega, by omega⟩
          case round =>
            clear HS
            obtain ⟨j, rfl, HR, HGJ⟩ := hrel
            by_cases hj : j < k' + 1
            · have hji : (j : Int) ≤ (k' : Int) := by omega
              have HCE := Lib.hid (cell_any (.pointer (some ⟨b2, 0, none⟩)) (some (k', o)) (i : Int) (j : Int) wr ((HG3.out.step HR.out.1).at 0 rfl))
              have hcz : cellZ (some (k', o)) (i : Int) (j : Int) = (o i j, 0) := by
                show cellP k' o i j = _
                unfold cellP; rw [if_pos (by omega), Int.toNat_natCast, Int.toNat_natCast]
              rw [hcz] at HCE
              obtain ⟨x, hx⟩ : ∃ x, x = o i j := ⟨_, rfl⟩
              rw [← hx] at HCE
              have HX := Lib.hid hx
              have HLL := Lib.hid (show (allL k' o p ++ rowL o i j).length ≤ 100 by
                rw [List.length_append, HLEN.out, rowL_length]
                have := Nat.mul_le_mul (show p ≤ 8 by omega) (show k' + 1 ≤ 9 by omega)
                omega)
              clear hcz hx
              go_wp2_with fail
              refine HCE.out.mono ?_
              rintro e w4 ⟨rfl, rfl⟩
              go_wp2_with (at_builtin; refine wpList_append_own _ rfl _ _ 23 rfl w3.heap.size 68 i0 (.agg #[.int .i64 0, .int .i64 0, .int .i32 0]) 3 24 Tryd.underlying23 HInf.out.1 HInf.out.2.1 HInf.out.2.2.1 HInf.out.2.2.2 rfl (by decide) _ _ _ rfl (HR.out.2.alloc _) ⟨wr.heap.size, 0, none⟩ 1 1 [.int .i64 i, .int .i64 j, .int .i32 x] rfl rfl (cells_three _ _ _ _ _) (by intro u hu; simp at hu; rcases hu with rfl | rfl | rfl <;> rfl) ?c3 ?c4 ?c5 ?_)
              case c3 => unfold maxLen; have := HLL.out; omega
              case c4 => have := HLL.out; omega
              case c5 => have := HR.out.1.size; simp; omega
              intro v'' w5 hown hgrow _
              have HN := Lib.hid (HR.out.next (i : Int) (j : Int) x (by rw [List.length_append]; exact hown) hgrow)
              rw [HX.out, List.append_assoc, ← rowL_next] at HN
              clear hown hgrow
              go_wp2
              go_roundg (gk - 1)
              case measure => have h := HGJ.out; omega
              case rel => exact ⟨j + 1, by go_num, HN.out, by omega, by have h := HGJ.out; omega⟩
            · have e : j = k' + 1 := by have := HGJ.out.1; omega
              subst e
              have hji : ¬ (((k' + 1 : Nat) : Int) ≤ (k' : Int)) := by omega
              have HN := Lib.hid (show LimR w3 (allL k' o (p + 1)) _ wr by rw [allL, HIP.out]; exact HR.out)
              go_wp2
              go_roundg (k' - p)
              case measure => have h := HG.out; omega
              case rel => exact ⟨p + 1, by go_num, HN.out, by omega, by omega⟩
        · have e : p = k' + 1 := by have := HG.out.1; omega
          subst e
          have hpi : ¬ (0 ≤ (k' : Int) - ((k' + 1 : Nat) : Int)) := by omega
          obtain ⟨LA, lc, rfl, hlims⟩ := HR.out.2.lims
          have HG4 := Lib.hid ((HG3.out.step HR.out.1).add hlims (stable_lims _ _))
          clear hlims HR HG
          go_wp2_with fail
          have HGA := Lib.hid (fun o => HG4.out.alloc o)
          refine (HA1.out _ _ _ ((HGA.out _).at 2 rfl) (zones_one (by exact ptrs_new _ _ _) ((HGA.out _).at 1 rfl))).mono ?_
          rcases HRC.out with ⟨a, rfl⟩ | rfl
          · rintro e w4 ⟨hb, a1, rfl, ha⟩
            have HG5 := Lib.hid (((HGA.out _).step hb).add (show ZoneV 126 w4 a1 (some (k', a)) from ha) (stable_zone _ _ _))
            obtain ⟨ba1, rfl, _⟩ := ha
            clear hb HG4 HGA
            go_wp2_with fail
            refine (HCO.out _ _ _ (HG5.out.at 3 rfl) (HG5.out.at 1 rfl)).mono ?_
            rintro e w5 ⟨hb, a2, rfl, ha⟩
            have HG6 := Lib.hid ((HG5.out.step hb).add (show ZoneV 126 w5 a2 (some (k', a)) from ha) (stable_zone _ _ _))
            obtain ⟨ba2, rfl, _⟩ := ha
            clear hb HG5
            go_wp2_with fail
            have HGA := Lib.hid (fun o => HG6.out.alloc o)
            refine (HA2.out _ _ _ ((HGA.out _).at 3 rfl) (zones_two (by exact ptrs_new _ _ _) ((HGA.out _).at 4 rfl) ((HGA.out _).at 3 rfl))).mono ?_
            rintro e w6 ⟨hb, a3, rfl, ha⟩
            have HG7 := Lib.hid (((HGA.out _).step hb).add (show ZoneV 126 w6 a3 (some (k', a)) from ha) (stable_zone _ _ _))
            obtain ⟨ba3, rfl, _⟩ := ha
            clear hb HG6 HGA
            have HMZ2 := Lib.hid (HMZ.out a 0 rfl)
            go_wp2_with fail
            refine (equal_any _ _ _ _ _ (HG7.out.at 2 rfl) (HG7.out.at 1 rfl)).mono ?_
            rw [HEQ.out]
            rintro e w7 ⟨rfl, hb⟩
            have HG8 := Lib.hid (HG7.out.step hb)
            clear hb HG7
            go_wp2_with fail
            refine (equal_any _ _ _ _ _ (HG8.out.at 2 rfl) (HG8.out.at 0 rfl)).mono ?_
            rw [HEQ.out]
            rintro e w8 ⟨rfl, hb⟩
            have HG9 := Lib.hid (HG8.out.step hb)
            clear hb HG8
            go_wp2_with fail
            refine (includes_any _ _ _ _ _ (HG9.out.at 5 rfl) (HG9.out.at 2 rfl)).mono ?_
            rw [HINC.out, HMZ2.out.1]
            rintro e w9 ⟨rfl, hb⟩
            have HG10 := Lib.hid (HG9.out.step hb)
            clear hb HG9
            go_wp2_with fail
            refine (includes_any _ _ _ _ _ (HG10.out.at 4 rfl) (HG10.out.at 2 rfl)).mono ?_
            rw [HINC.out, HMZ2.out.2.1]
            rintro e w10 ⟨rfl, hb⟩
            have HG11 := Lib.hid (HG10.out.step hb)
            clear hb HG10
            go_wp2_with fail
            obtain ⟨bx, ex, _, _, hmx⟩ := (HG11.out.at 2 rfl : ZoneV 126 w10 (.pointer (some ⟨ba1, 0, none⟩)) (some (k', a)))
            have hbx : ba1 = bx := by simpa using ex
            subst hbx
            refine (oempty_any ba1 k' a _ hmx).mono ?_
            rw [show emptyP (some (k', a)) = !meets1 k' m o from HMZ2.out.2.2]
            clear hmx ex
            rintro e w11 ⟨rfl, rfl⟩
            go_wp2_with fail
            refine (meets_any _ _ _ _ _ (HG11.out.at 5 rfl) (HG11.out.at 4 rfl)).mono ?_
            rw [HMEET.out]
            rintro e w12 ⟨rfl, hb⟩
            have HG12 := Lib.hid (HG11.out.step hb)
            generalize meets1 k' m o = q at *
            clear hb HG11
            cases q
            · go_wp2
              go_ret
              exact ⟨rfl, HG12.out.below⟩
            · go_wp2
              go_ret
              exact ⟨rfl, HG12.out.below⟩
          · rintro e w4 ⟨hb, a1, rfl, ha⟩
            have ha : a1 = .pointer none := ha
            subst ha
            have HG5 := Lib.hid ((HGA.out _).step hb)
            clear hb HG4 HGA
            go_wp2_with fail
            refine (HCO.out _ _ _ (HG5.out.at 2 rfl) (HG5.out.at 0 rfl)).mono ?_
            rintro e w5 ⟨hb, a2, rfl, ha⟩
            have HG6 := Lib.hid (HG5.out.step hb)
            clear hb HG5 ha
            go_wp2_with fail
            have HGA := Lib.hid (fun o => HG6.out.alloc o)
            refine (HA2.out _ _ _ ((HGA.out _).at 1 rfl) (zones_two (by exact ptrs_new _ _ _) ((HGA.out _).at 2 rfl) ((HGA.out _).at 1 rfl))).mono ?_
            rintro e w6 ⟨hb, a3, rfl, ha⟩
            have HG7 := Lib.hid ((HGA.out _).step hb)
            clear hb HG6 HGA ha
            go_wp2
            go_ret
            exact ⟨rfl, HG7.out.below⟩

end Go.Proofs.YtidcnlecgcobmaaDoor
