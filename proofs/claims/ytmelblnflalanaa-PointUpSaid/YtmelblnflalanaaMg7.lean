/- Texts of ours, laid together: Oh, Oi, Oj, Px, On, Oq, Os, Df, Dg, Bl, Dh, Py, Ot, Ph. -/
import Derived.Deep.RegionHeld3
import Derived.Deep.MidRow
import Derived.Test.YtmelblnflalanaaProg
import Derived.Lib.Hide
import Derived.Deep.LoopGhost
import Derived.Deep.QuietTactic
import Derived.BigQuiet
import Derived.BigRegion
import Derived.StillTailTactics
import Derived.KernelRfl
import Derived.Test.YtmelblnflalanaaMg6
/- Reset. -/
namespace Go.Proofs.Ytmelblnflalanaa
open Go Go.RowKit
set_option linter.unusedVariables false
set_option linter.unusedSimpArgs false
attribute [local go_sem] min_ints max_ints

theorem rng_forget {n : Nat} {m : Mat} (h : Rng n m) (x : Nat) (hx : x < n + 1) : ∀ p, p ≤ n + 1 → Rng n (forgetUp x m p)
  | 0, _ => h
  | p + 1, hp => by
    have h1 := rng_forget h x hx p (by omega)
    unfold forgetUp
    split
    · exact h1
    · have h2 := rng_upd h1 x p 2147483647 (by decide) (by decide)
      exact rng_upd h2 p x _ (h2 p 0 (by omega) (by omega)).1 (h2 p 0 (by omega) (by omega)).2
/-- The cells when clock c is set to k. -/
def setW (m : Mat) (n c : Nat) (k : Int) : Mat := lessM (lessM (forgetUp c m (n + 1)) c 0 (2 * k + 1)) 0 c (-2 * k + 1)
theorem rng_set {n : Nat} {m : Mat} (h : Rng n m) (c : Nat) (hc : c < n + 1) (k : Int) (k0 : 0 ≤ k) (k1 : k ≤ 1048576) : Rng n (setW m n c k) :=
  rng_less (rng_less (rng_forget h c hc _ (Nat.le_refl _)) c 0 hc (by omega) _ (by omega) (by omega)) 0 c (by omega) hc _ (by omega) (by omega)
def resetW (z : Option (Nat × Mat)) (c : Nat) (k : Int) : Mat := if emptyP z then openW z else setW (openW z) (dimN z) c k

set_option maxHeartbeats 1000000 in
set_option maxRecDepth 100000 in
theorem reset_wrong (v : Value) (z : Option (Nat × Mat)) (c k : Int) (w : World) (h : ZoneV 109 w v z) (he : setE z c k ≠ 0) :
    Calls Try.prog 13 #[v, .int .i64 c, .int .i64 k] w fun e w' => e = .returned (.tuple #[.pointer none, .int .i64 (setE z c k)]) ∧ Below w.heap.size w w' := by
  have HS := Lib.hid (fun w h => oset_any v z c k w h)
  have HZ := Lib.hid h
  obtain ⟨r, hr⟩ : ∃ r, r = setE z c k := ⟨_, rfl⟩
  rw [← hr] at HS he ⊢
  have t1 : (r != 0) = true := by simp [he]
  clear hr he h
  go_enter Try.func13, Try.ntmps13
  go_wp2_with fail
  refine (HS.out _ HZ.out).mono ?_
  rintro e w1 ⟨rfl, hb⟩
  have HB := Lib.hid hb
  clear hb
  go_wp2
  go_ret2
  exact ⟨rfl, HB.out⟩

set_option maxHeartbeats 1000000 in
set_option maxRecDepth 100000 in
theorem reset_right (v : Value) (n : Nat) (m : Mat) (c : Nat) (k : Int) (w : World) (h : ZoneV 109 w v (some (n, m))) (hc : 1 ≤ c ∧ c ≤ n) (hk : 0 ≤ k ∧ k ≤ 1048576) :
    Calls Try.prog 13 #[v, .int .i64 c, .int .i64 k] w (MakesZ w n (ofP n (flat n (resetW (some (n, m)) c k)))) := by
  have hz : setE (some (n, m)) c k = 0 := by
    show (if isB n c = true then (if 0 ≤ k ∧ k ≤ 1048576 then (0 : Int) else 13) else 12) = 0
    rw [if_pos (show isB n c = true from decide_eq_true (by omega)), if_pos hk]
  have HS := Lib.hid (fun w h => oset_any v (some (n, m)) c k w h)
  rw [hz] at HS
  have HZ := Lib.hid h
  obtain ⟨b, rfl, hn, hr, hm⟩ := h
  have hl : (cellsP (some (n, m))).length ≤ 81 := cellsP_short _ fun k m' e => by simp at e; omega
  have HO := Lib.hid (fun w h => oopen_any (.pointer (some ⟨b, 0, none⟩)) (some (n, m)) w h hn hl)
  have HM := Lib.hid hm
  have HRG := Lib.hid (rng_open hr)
  have HSH := Lib.hid (fun c m' w h hk => shut_any c n m' w hn h hk)
  have g1 : IntKind.i64.wrap (2 * k) = 2 * k := IntWalk.i64_in _ (by omega)
  have g2 : IntKind.i64.wrap (2 * k + 1) = 2 * k + 1 := IntWalk.i64_in _ (by omega)
  have g3 : IntKind.i64.wrap (-2 * k) = -2 * k := IntWalk.i64_in _ (by omega)
  have g4 : IntKind.i64.wrap (-2 * k + 1) = -2 * k + 1 := IntWalk.i64_in _ (by omega)
  have g5 : IntKind.i32.wrap (2 * k + 1) = 2 * k + 1 := by rw [IntKind.wrap_i32]; omega
  have g6 : IntKind.i32.wrap (-2 * k + 1) = -2 * k + 1 := by rw [IntKind.wrap_i32]; omega
  clear hm hl hr hz
  go_enter Try.func13, Try.ntmps13
  go_wp2_with fail
  refine (HS.out _ HZ.out).mono ?_
  rintro e w0 ⟨rfl, hb⟩
  have HB0 := Lib.hid hb
  have HM0 := Lib.hid (HM.out.later hb)
  have HZ0 := Lib.hid (HZ.out.below hb)
  clear hb HM HZ
  go_wp2_with fail
  refine (HO.out _ HZ0.out).mono ?_
  rintro e w1 ⟨rfl, hb, hw⟩
  have HB1 := Lib.hid (HB0.out.trans (hb.mono HB0.out.size))
  have HW1 := Lib.hid (show MatAt w1 w0.heap.size 71 .i32 n (openW (some (n, m))) from hw)
  have HM1 := Lib.hid (HM0.out.later hb)
  have HW0 := Lib.hid HB0.out.size
  clear hb hw HM0 HZ0 HO
  go_wp2_with fail
  refine (oempty_any b n m _ HM1.out).mono ?_
  cases he : emptyP (some (n, m)) with
  | true =>
    have HEQ := Lib.hid (show resetW (some (n, m)) c k = openW (some (n, m)) by unfold resetW; rw [if_pos he])
    rintro e w2 ⟨rfl, rfl⟩
    go_wp2_with fail
    refine (HSH.out _ _ _ HW1.out HRG.out).mono ?_
    rintro e w2 hz
    have HZ2 := Lib.hid hz
    obtain ⟨hb, v, rfl, hv⟩ := hz
    have HB2 := Lib.hid (HB1.out.trans (hb.mono HB1.out.size))
    clear hb hv
    go_wp2
    go_ret2
    rw [HEQ.out]
    exact ⟨HB2.out, HZ2.out.2⟩
  | false =>
    have HEQ := Lib.hid (show resetW (some (n, m)) c k = setW (openW (some (n, m))) n c k by unfold resetW; rw [if_neg (by simp [he])]; rfl)
    rintro e w2 ⟨rfl, rfl⟩
    obtain ⟨M, hM⟩ : ∃ M, M = openW (some (n, m)) := ⟨_, rfl⟩
    rw [← hM] at HEQ HW1 HRG
    clear hM he HM1
    go_wp2_with fail
    refine (forget_any _ n c M _ hn hc.2 HW1.out).mono ?_
    rintro e w3 ⟨rfl, ho, hm3⟩
    have HO3 := Lib.hid ho
    have HW3 := Lib.hid hm3
    clear ho hm3
    go_wp2_with fail
    refine (less_any _ c 0 n _ (2 * k + 1) _ (by omega) (by omega) HW3.out).mono ?_
    rintro e w4 ⟨rfl, ho, hm4⟩
    have HO4 := Lib.hid (HO3.out.trans ho)
    have HW4 := Lib.hid hm4
    clear ho hm4
    go_wp2_with fail
    refine (less_any _ 0 c n _ (-2 * k + 1) _ (by omega) (by omega) HW4.out).mono ?_
    rintro e w5 ⟨rfl, ho, hm5⟩
    have HW5 := Lib.hid (show MatAt w5 w0.heap.size 71 .i32 n (setW M n c k) from hm5)
    have HB5 := Lib.hid (HB1.out.trans ((HO4.out.trans ho).below HW0.out HB1.out.size))
    clear ho hm5
    go_wp2_with fail
    refine (HSH.out _ _ _ HW5.out (rng_set HRG.out c (by omega) k hk.1 hk.2)).mono ?_
    rintro e w2 hz
    have HZ2 := Lib.hid hz
    obtain ⟨hb, v, rfl, hv⟩ := hz
    have HB6 := Lib.hid (HB5.out.trans (hb.mono HB5.out.size))
    clear hb hv
    go_wp2
    go_ret2
    rw [HEQ.out]
    exact ⟨HB6.out, HZ2.out.2⟩

end Go.Proofs.Ytmelblnflalanaa

/- Is a number a clock's, or 0? -/
namespace Go.Proofs.Ytmelblnflalanaa
open Go Go.RowKit
set_option linter.unusedVariables false
set_option linter.unusedSimpArgs false
attribute [local go_sem] min_ints max_ints

def anyB (n : Nat) (x : Int) : Bool := decide (0 ≤ x ∧ x ≤ n)
set_option maxHeartbeats 1000000 in
set_option maxRecDepth 100000 in
theorem isany_any (n : Nat) (x : Int) (w : World) : Calls Try.prog 70 #[.agg #[.int .i64 n], .int .i64 x] w fun e w' => e = .returned (.bool (anyB n x)) ∧ Below w.heap.size w w' := by
  have HB := Lib.hid (fun o => (Below.refl _ w).alloc (Nat.le_refl w.heap.size) o)
  have HI := Lib.hid (fun w => is_any n x w)
  by_cases h0 : x = 0
  · subst h0
    rw [show anyB n 0 = true from decide_eq_true (by omega)]
    clear HI
    go_enter Try.func70, Try.ntmps70
    go_wp2
    go_ret
    exact ⟨rfl, HB.out _⟩
  · have t0 : (x == 0) = false := by simp [h0]
    rw [show isB n x = anyB n x by unfold isB anyB; congr 1; simp; omega] at HI
    obtain ⟨r, hr⟩ : ∃ r, r = anyB n x := ⟨_, rfl⟩
    rw [← hr] at HI ⊢
    clear hr h0
    go_enter Try.func70, Try.ntmps70
    go_wp2_with fail
    refine (HI.out _).mono ?_
    rintro e w1 ⟨rfl, hb⟩
    have HB1 := Lib.hid ((HB.out _).trans (hb.mono (HB.out _).size))
    clear hb
    go_wp2
    go_ret
    exact ⟨rfl, HB1.out⟩

end Go.Proofs.Ytmelblnflalanaa

/- What of a zone keeps bounds. -/
namespace Go.Proofs.Ytmelblnflalanaa
open Go Go.RowKit
set_option linter.unusedVariables false
set_option linter.unusedSimpArgs false
attribute [local go_sem] min_ints max_ints

/-- Are a limit's numbers clocks', or 0? -/
def clkB (n : Nat) (x : Int × Int × Int) : Bool := anyB n x.1 && anyB n x.2.1
/-- Is its bound right? -/
def bdB (x : Int × Int × Int) : Bool := rightB x.2.2
/-- The error of limits. -/
def conE (n : Nat) (l : List (Int × Int × Int)) : Int := if l.all (clkB n) = true then (if l.all bdB = true then 0 else 2) else 12
/-- Cells, made stricter by the first p limits. -/
def conUp (M : Mat) (l : List (Int × Int × Int)) : Nat → Mat
  | 0 => M
  | p + 1 => lessM (conUp M l p) (l.getD p (0, 0, 0)).1.toNat (l.getD p (0, 0, 0)).2.1.toNat (l.getD p (0, 0, 0)).2.2
/-- What Constrain answers of a zone. -/
def conP (n : Nat) (M : Mat) (l : List (Int × Int × Int)) : Option Mat × Int := if conE n l = 0 then ofP n (flat n (conUp M l l.length)) else (none, conE n l)

theorem rng_con {n : Nat} {M : Mat} {l : List (Int × Int × Int)} (h : Rng n M) (hc : l.all (clkB n) = true) (hb : l.all bdB = true) : ∀ p, p ≤ l.length → Rng n (conUp M l p)
  | 0, _ => h
  | p + 1, hp => by
    have h1 := rng_con h hc hb p (by omega)
    have a := (all_getD l (clkB n) (0, 0, 0)).1 hc p (by omega)
    have b := (all_getD l bdB (0, 0, 0)).1 hb p (by omega)
    unfold clkB anyB at a
    unfold bdB rightB at b
    simp only [Bool.and_eq_true, decide_eq_true_eq] at a b
    exact rng_less h1 _ _ (by omega) (by omega) _ (by omega) (by omega)

/-- The cells lie in the first new block. -/
def KW (w0 : World) (n : Nat) (M : Mat) (wr : World) : Prop := Below w0.heap.size w0 wr ∧ MatAt wr w0.heap.size 71 .i32 n M
theorem KW.step {w0 wr w' : World} {n : Nat} {M : Mat} (h : KW w0 n M wr) (hb : Below wr.heap.size wr w') : KW w0 n M w' := ⟨h.1.trans (hb.mono h.1.size), h.2.later hb⟩
theorem KW.alloc {w0 wr : World} {n : Nat} {M : Mat} (h : KW w0 n M wr) (o : Obj) : KW w0 n M (wr.alloc o) := h.step ((Below.refl _ _).alloc (Nat.le_refl _) o)
theorem KW.drew {w0 wr : World} {n : Nat} {M : Mat} (h : KW w0 n M wr) : KW w0 n M wr.drew := ⟨Below.drew h.1, h.2.drew⟩
theorem KW.only {w0 wr w' : World} {n : Nat} {M M' : Mat} (h : KW w0 n M wr) (ho : Only w0.heap.size wr w') (hm : MatAt w' w0.heap.size 71 .i32 n M') : KW w0 n M' w' :=
  ⟨h.1.trans (ho.below (Nat.le_refl _) h.1.size), hm⟩
/-- What the region that asks of two numbers reads. -/
def AsksR (w0 : World) (n : Nat) (M : Mat) (b : Nat) (x y : Int) (w : World) : Prop :=
  w.cell? ⟨w0.heap.size, 0, none⟩ = some (.int .i64 n) ∧ w.cell? ⟨b, 0, none⟩ = some (.int .i64 x) ∧ w.cell? ⟨b, 1, none⟩ = some (.int .i64 y) ∧ KW w0 n M w
theorem AsksR.step {w0 w w' : World} {n : Nat} {M : Mat} {b : Nat} {x y : Int} (h : AsksR w0 n M b x y w) (hb : Below w.heap.size w w') : AsksR w0 n M b x y w' := by
  obtain ⟨h1, h2, h3, h4⟩ := h
  exact ⟨(hb.cell (p := ⟨_, 0, none⟩) (World.block_lt_of_cell? w _ h1)).trans h1, (hb.cell (p := ⟨b, 0, none⟩) (World.block_lt_of_cell? w _ h2)).trans h2, (hb.cell (p := ⟨b, 1, none⟩) (World.block_lt_of_cell? w _ h3)).trans h3, h4.step hb⟩

set_option maxHeartbeats 2000000 in
set_option maxRecDepth 100000 in
theorem constrain_zone (v : Value) (n : Nat) (m : Mat) (A : Option Addr) (c : Nat) (l : List (Int × Int × Int)) (w : World) (h : ZoneV 109 w v (some (n, m))) (hI : Lims w A l) (hmax : l.length ≤ 4611686018427387904)
    (hk : ∀ q, q < l.length → -2147483648 ≤ (l.getD q (0, 0, 0)).2.2 ∧ (l.getD q (0, 0, 0)).2.2 ≤ 2147483647) :
    Calls Try.prog 49 #[v, .slice A l.length c] w (MakesZ w n (conP n (openW (some (n, m))) l)) := by
  have HI := Lib.hid hI
  have HK := Lib.hid hk
  have HZ := Lib.hid h
  obtain ⟨b, rfl, hn, hr, hm⟩ := h
  have hl : (cellsP (some (n, m))).length ≤ 81 := cellsP_short _ fun k m' e => by simp at e; omega
  have HO := Lib.hid (fun w h => oopen_any (.pointer (some ⟨b, 0, none⟩)) (some (n, m)) w h hn hl)
  have HRG := Lib.hid (rng_open hr)
  have HSH := Lib.hid (fun c m' w h hk => shut_any c n m' w hn h hk)
  clear hm hl hr hI hk
  go_enter Try.func49, Try.ntmps49
  go_wp2_with fail
  refine (HO.out _ HZ.out).mono ?_
  obtain ⟨M, hM⟩ : ∃ M, M = openW (some (n, m)) := ⟨_, rfl⟩
  rintro e w1 ⟨rfl, hb, hw⟩
  have HK1 := Lib.hid (show KW w n M w1 from ⟨hb, by rw [hM]; exact hw⟩)
  rw [← hM] at HRG
  have HMM := Lib.hid hM
  clear hb hw HO HZ hM
  go_wp2
  go_loopg [19] l.length (fun g v wr => ∃ p : Nat, v = .int .i64 p ∧ Hid (KW w n M wr) ∧ Hid (p ≤ l.length ∧ g + p = l.length ∧ ∀ q, q < p → clkB n (l.getD q (0, 0, 0)) = true))
  case atStart => exact ⟨0, by simp, HK1.out, by omega, by omega, fun q h => by omega⟩
  case round =>
    clear HK1
    obtain ⟨p, rfl, HR, HG⟩ := hrel
    by_cases hp : p < l.length
    · obtain ⟨b, off, rfl, c1, c2, c3⟩ := HI.out.below HR.out.1 p hp
      obtain ⟨x, hx⟩ : ∃ x, x = l.getD p (0, 0, 0) := ⟨_, rfl⟩
      rw [← hx] at c1 c2 c3
      have HX := Lib.hid hx
      clear hx
      obtain ⟨xi, xj, xb⟩ := x
      simp only at c1 c2 c3
      have hne : (l.all (clkB n) = true) → clkB n (xi, xj, xb) = true := fun ha => by rw [HX.out]; exact (all_getD l (clkB n) (0, 0, 0)).1 ha p hp
      have HNE := Lib.hid hne
      have hbw := HR.out.2.lt
      have HA0 := Lib.hid (fun o (ho : o = Obj.cells #[.int .i64 xi, .int .i64 xj, .int .i32 xb] 54 (0, 0)) => show AsksR w n M wr.heap.size xi xj ((wr.alloc o).drew) from by
        have h1 := heap_alloc_new wr o
        subst ho
        exact ⟨((HR.out.alloc _).2.head), show (wr.alloc _).cell? _ = _ by unfold World.cell?; rw [h1]; rfl, show (wr.alloc _).cell? _ = _ by unfold World.cell?; rw [h1]; rfl, (HR.out.alloc _).drew⟩)
      clear hne
      have HAN := Lib.hid (fun x r (hr : anyB n x = r) w => hr ▸ isany_any n x w)
      have hbad : clkB n (xi, xj, xb) = false → conP n M l = (none, 12) := fun hf => by
        have : l.all (clkB n) = false := by
          rw [Bool.eq_false_iff]
          intro ha
          rw [HNE.out ha] at hf
          cases hf
        unfold conP conE
        rw [if_neg (by simp [this]), this]
        rfl
      have HBAD := Lib.hid hbad
      clear hbad
      by_cases r1 : anyB n xi = true
      · by_cases r2 : anyB n xj = true
        · have HOK := Lib.hid (show clkB n (xi, xj, xb) = true by unfold clkB; rw [r1, r2]; rfl)
          have R1 := Lib.hid r1
          have R2 := Lib.hid r2
          clear r1 r2
          go_wp2_with fail
          have k := HA0.out _ rfl
          go_region_held3 (fun w' => w'.cell? ⟨w.heap.size, 0, none⟩ = some (.int .i64 n) ∧ w'.cell? ⟨wr.heap.size, 0, none⟩ = some (.int .i64 xi) ∧ w'.cell? ⟨wr.heap.size, 1, none⟩ = some (.int .i64 xj) ∧ KW w n M w') (first | exact k | go_keep)
            (first | (go_at_call 70; refine (HAN.out _ _ (by first | exact R1.out | exact R2.out) _).mono ?_; rintro e w3 ⟨rfl, hb⟩; have k := AsksR.step (by assumption) hb; clear hb))
          have HF := Lib.hid k.2.2.2
          clear k
          go_wp2
          go_roundg (gk - 1)
          case measure => have h := HG.out; omega
          case rel =>
            refine ⟨p + 1, by go_num, HF.out, by omega, by have h := HG.out; omega, fun q hq => ?_⟩
            by_cases e : q = p
            · subst e; rw [← HX.out]; exact HOK.out
            · exact HG.out.2.2 q (by omega)
        · have hE := HBAD.out (by unfold clkB; rw [Bool.eq_false_iff.2 r2, Bool.and_false])
          have HE := Lib.hid hE
          have R1 := Lib.hid r1
          have R2 := Lib.hid (Bool.eq_false_iff.2 r2)
          clear r1 r2 hE
          go_wp2_with fail
          have k := HA0.out _ rfl
          go_region_held3 (fun w' => w'.cell? ⟨w.heap.size, 0, none⟩ = some (.int .i64 n) ∧ w'.cell? ⟨wr.heap.size, 0, none⟩ = some (.int .i64 xi) ∧ w'.cell? ⟨wr.heap.size, 1, none⟩ = some (.int .i64 xj) ∧ KW w n M w') (first | exact k | go_keep)
            (first | (go_at_call 70; refine (HAN.out _ _ (by first | exact R1.out | exact R2.out) _).mono ?_; rintro e w3 ⟨rfl, hb⟩; have k := AsksR.step (by assumption) hb; clear hb))
          have HF := Lib.hid k.2.2.2
          clear k
          go_wp2
          go_ret2
          rw [← HMM.out, HE.out]
          exact ⟨HF.out.1, .pointer none, rfl, rfl⟩
      · have hE := HBAD.out (by unfold clkB; rw [Bool.eq_false_iff.2 r1, Bool.false_and])
        have HE := Lib.hid hE
        have R1 := Lib.hid (Bool.eq_false_iff.2 r1)
        clear r1 hE
        go_wp2_with fail
        have k := HA0.out _ rfl
        refine wp_region_held_drew (S := fun w' => w'.cell? ⟨w.heap.size, 0, none⟩ = some (.int .i64 n) ∧ w'.cell? ⟨wr.heap.size, 0, none⟩ = some (.int .i64 xi) ∧ w'.cell? ⟨wr.heap.size, 1, none⟩ = some (.int .i64 xj) ∧ KW w n M w') (by kernel_rfl) k (fun hHeld => ?_)
        refine wpAnyH_take (i := 0) (v := ?_) rfl (by kernel_rfl) (by kernel_rfl) (by kernel_rfl) (fun _ _ _ h => h) (Or.inl ⟨by rfl, ?_⟩) (by assumption) ?_
        case refine_2 => intro w hSw; (try dsimp only at hSw); go_simp; with_reducible rfl
        try simp only [Act.put, List.getElem_toArray, List.getElem_cons_succ, List.getElem_cons_zero, List.setIfInBounds_toArray, List.set_cons_zero, List.set_cons_succ]
        refine wpAnyH_take (i := 1) (v := ?_) rfl (by kernel_rfl) (by kernel_rfl) (by kernel_rfl) (fun _ _ _ h => h) (Or.inl ⟨by rfl, ?_⟩) (by assumption) ?_
        case refine_2 => intro w hSw; (try dsimp only at hSw); go_simp; with_reducible rfl
        try simp only [Act.put, List.getElem_toArray, List.getElem_cons_succ, List.getElem_cons_zero, List.setIfInBounds_toArray, List.set_cons_zero, List.set_cons_succ]
        refine wpAnyH_take (i := 2) (v := ?_) rfl (by kernel_rfl) (by kernel_rfl) (by kernel_rfl) (fun _ _ _ h => h) (Or.inl ⟨by rfl, ?_⟩) (by assumption) ?_
        case refine_2 => intro w hSw; (try dsimp only at hSw); go_simp; with_reducible rfl
        try simp only [Act.put, List.getElem_toArray, List.getElem_cons_succ, List.getElem_cons_zero, List.setIfInBounds_toArray, List.set_cons_zero, List.set_cons_succ]
        refine wpAnyH_take (i := 3) (v := ?_) rfl (by kernel_rfl) (by kernel_rfl) (by kernel_rfl) (fun _ _ _ h => h) (Or.inl ⟨by rfl, ?_⟩) (by assumption) ?_
        case refine_2 => intro w hSw; (try dsimp only at hSw); go_simp; with_reducible rfl
        try simp only [Act.put, List.getElem_toArray, List.getElem_cons_succ, List.getElem_cons_zero, List.setIfInBounds_toArray, List.set_cons_zero, List.set_cons_succ]
        refine wpAnyH_take (i := 4) (v := ?_) rfl (by kernel_rfl) (by kernel_rfl) (by kernel_rfl) (fun _ _ _ h => h) (Or.inl ⟨by rfl, ?_⟩) (by assumption) ?_
        case refine_2 => intro w hSw; (try dsimp only at hSw); go_simp; with_reducible rfl
        try simp only [Act.put, List.getElem_toArray, List.getElem_cons_succ, List.getElem_cons_zero, List.setIfInBounds_toArray, List.set_cons_zero, List.set_cons_succ]
        refine wpAnyH_take (i := 5) (v := ?_) rfl (by kernel_rfl) (by kernel_rfl) (by kernel_rfl) (fun _ _ _ h => h) (Or.inl ⟨by rfl, ?_⟩) (by assumption) ?_
        case refine_2 => intro w hSw; (try dsimp only at hSw); go_simp; with_reducible rfl
        try simp only [Act.put, List.getElem_toArray, List.getElem_cons_succ, List.getElem_cons_zero, List.setIfInBounds_toArray, List.set_cons_zero, List.set_cons_succ]
        refine wpAnyH_ready (rs := [6]) (by kernel_rfl) (by simp) ?_
        refine AllReadyH.cons rfl (fun K hK => ?_) AllReadyH.nil
        go_simp
        refine (HAN.out _ _ (by exact R1.out) _).mono ?_
        rintro e w3 ⟨rfl, hb⟩
        have k3 := AsksR.step k hb
        refine hK.out _ _ k3 (fun hHeld3 => ?_)
        clear hK K hHeld hb
        try simp only [Act.put, List.getElem_toArray, List.getElem_cons_succ, List.getElem_cons_zero, List.setIfInBounds_toArray, List.set_cons_zero, List.set_cons_succ]
        refine wpAnyH_take (i := 7) (v := ?_) rfl (by kernel_rfl) (by kernel_rfl) (by kernel_rfl) (fun _ _ _ h => h) (Or.inl ⟨by rfl, ?_⟩) (by assumption) ?_
        case refine_2 => intro w hSw; (try dsimp only at hSw); go_simp; with_reducible rfl
        try simp only [Act.put, List.getElem_toArray, List.getElem_cons_succ, List.getElem_cons_zero, List.setIfInBounds_toArray, List.set_cons_zero, List.set_cons_succ]
        refine wpAnyH_take (i := 8) (v := ?_) rfl (by kernel_rfl) (by kernel_rfl) (by kernel_rfl) (fun _ _ _ h => h) (Or.inl ⟨by rfl, ?_⟩) (by assumption) ?_
        case refine_2 => intro w hSw; (try dsimp only at hSw); go_simp; with_reducible rfl
        try simp only [Act.put, List.getElem_toArray, List.getElem_cons_succ, List.getElem_cons_zero, List.setIfInBounds_toArray, List.set_cons_zero, List.set_cons_succ]
        refine wpAnyH_take (i := 9) (v := undef) rfl (by kernel_rfl) (by kernel_rfl) (by kernel_rfl) (fun _ _ _ h => h) (Or.inr ⟨by rfl, rfl⟩) (by assumption) ?_
        try simp only [Act.put, List.getElem_toArray, List.getElem_cons_succ, List.getElem_cons_zero, List.setIfInBounds_toArray, List.set_cons_zero, List.set_cons_succ]
        refine wpAnyH_take (i := 10) (v := undef) rfl (by kernel_rfl) (by kernel_rfl) (by kernel_rfl) (fun _ _ _ h => h) (Or.inr ⟨by rfl, rfl⟩) (by assumption) ?_
        try simp only [Act.put, List.getElem_toArray, List.getElem_cons_succ, List.getElem_cons_zero, List.setIfInBounds_toArray, List.set_cons_zero, List.set_cons_succ]
        refine wpAnyH_take (i := 11) (v := undef) rfl (by kernel_rfl) (by kernel_rfl) (by kernel_rfl) (fun _ _ _ h => h) (Or.inr ⟨by rfl, rfl⟩) (by assumption) ?_
        try simp only [Act.put, List.getElem_toArray, List.getElem_cons_succ, List.getElem_cons_zero, List.setIfInBounds_toArray, List.set_cons_zero, List.set_cons_succ]
        refine wpAnyH_take (i := 12) (v := undef) rfl (by kernel_rfl) (by kernel_rfl) (by kernel_rfl) (fun _ _ _ h => h) (Or.inr ⟨by rfl, rfl⟩) (by assumption) ?_
        try simp only [Act.put, List.getElem_toArray, List.getElem_cons_succ, List.getElem_cons_zero, List.setIfInBounds_toArray, List.set_cons_zero, List.set_cons_succ]
        refine wpAnyH_take (i := 13) (v := undef) rfl (by kernel_rfl) (by kernel_rfl) (by kernel_rfl) (fun _ _ _ h => h) (Or.inr ⟨by rfl, rfl⟩) (by assumption) ?_
        try simp only [Act.put, List.getElem_toArray, List.getElem_cons_succ, List.getElem_cons_zero, List.setIfInBounds_toArray, List.set_cons_zero, List.set_cons_succ]
        refine wpAnyH_take (i := 14) (v := undef) rfl (by kernel_rfl) (by kernel_rfl) (by kernel_rfl) (fun _ _ _ h => h) (Or.inr ⟨by rfl, rfl⟩) (by assumption) ?_
        try simp only [Act.put, List.getElem_toArray, List.getElem_cons_succ, List.getElem_cons_zero, List.setIfInBounds_toArray, List.set_cons_zero, List.set_cons_succ]
        refine wpAnyH_take (i := 15) (v := undef) rfl (by kernel_rfl) (by kernel_rfl) (by kernel_rfl) (fun _ _ _ h => h) (Or.inr ⟨by rfl, rfl⟩) (by assumption) ?_
        try simp only [Act.put, List.getElem_toArray, List.getElem_cons_succ, List.getElem_cons_zero, List.setIfInBounds_toArray, List.set_cons_zero, List.set_cons_succ]
        refine wpAnyH_take (i := 16) (v := undef) rfl (by kernel_rfl) (by kernel_rfl) (by kernel_rfl) (fun _ _ _ h => h) (Or.inr ⟨by rfl, rfl⟩) (by assumption) ?_
        try simp only [Act.put, List.getElem_toArray, List.getElem_cons_succ, List.getElem_cons_zero, List.setIfInBounds_toArray, List.set_cons_zero, List.set_cons_succ]
        refine wpAnyH_take (i := 17) (v := ?_) rfl (by kernel_rfl) (by kernel_rfl) (by kernel_rfl) (fun _ _ _ h => h) (Or.inl ⟨by rfl, ?_⟩) (by assumption) ?_
        case refine_2 => intro w hSw; (try dsimp only at hSw); go_simp; with_reducible rfl
        try simp only [Act.put, List.getElem_toArray, List.getElem_cons_succ, List.getElem_cons_zero, List.setIfInBounds_toArray, List.set_cons_zero, List.set_cons_succ]
        refine wpAnyH_done (by kernel_rfl) ?_ _
        have HF := Lib.hid k3.2.2.2
        clear k k3 hHeld3
        go_wp2
        go_ret2
        rw [← HMM.out, HE.out]
        exact ⟨HF.out.1, .pointer none, rfl, rfl⟩
    · have e : p = l.length := by have := HG.out.1; omega
      subst e
      have hall : l.all (clkB n) = true := (all_getD l (clkB n) (0, 0, 0)).2 HG.out.2.2
      have HALL := Lib.hid hall
      have HR0 := Lib.hid HR.out
      clear hall HG HR
      go_wp2
      go_loopg [44] l.length (fun g v wr => ∃ p : Nat, v = .int .i64 p ∧ Hid (KW w n M wr) ∧ Hid (p ≤ l.length ∧ g + p = l.length ∧ ∀ q, q < p → bdB (l.getD q (0, 0, 0)) = true))
      case atStart => exact ⟨0, by simp, HR0.out, by omega, by omega, fun q h => by omega⟩
      case round =>
        clear HR0
        obtain ⟨p, rfl, HR, HG⟩ := hrel
        by_cases hp : p < l.length
        · obtain ⟨b, off, rfl, c1, c2, c3⟩ := HI.out.below HR.out.1 p hp
          obtain ⟨x, hx⟩ : ∃ x, x = l.getD p (0, 0, 0) := ⟨_, rfl⟩
          rw [← hx] at c1 c2 c3
          have HX := Lib.hid hx
          clear hx
          obtain ⟨xi, xj, xb⟩ := x
          simp only at c1 c2 c3
          have HRA := Lib.hid (HR.out.alloc (.cells #[.int .i64 xi, .int .i64 xj, .int .i32 xb] 54))
          by_cases r1 : rightB xb = true
          · have R1 := Lib.hid r1
            clear r1
            go_wp2_with fail
            refine (right_yes _ _ R1.out).mono ?_
            rintro e w' ⟨rfl, rfl⟩
            go_wp2
            go_roundg (gk - 1)
            case measure => have h := HG.out; omega
            case rel =>
              refine ⟨p + 1, by go_num, HRA.out, by omega, by have h := HG.out; omega, fun q hq => ?_⟩
              by_cases e : q = p
              · subst e; rw [← HX.out]; exact R1.out
              · exact HG.out.2.2 q (by omega)
          · have R1 := Lib.hid (Bool.eq_false_iff.2 r1)
            have hE : conP n M l = (none, 2) := by
              have h1 : l.all bdB = false := by
                rw [Bool.eq_false_iff]
                intro ha
                have := (all_getD l bdB (0, 0, 0)).1 ha p hp
                rw [← HX.out] at this
                exact r1 this
              unfold conP conE
              rw [HALL.out, h1]
              rfl
            have HE := Lib.hid hE
            clear r1 hE
            go_wp2_with fail
            refine (right_no _ _ R1.out).mono ?_
            rintro e w' ⟨rfl, rfl⟩
            go_wp2
            go_ret2
            rw [← HMM.out, HE.out]
            exact ⟨HRA.out.1, .pointer none, rfl, rfl⟩
        · have e : p = l.length := by have := HG.out.1; omega
          subst e
          have hall : l.all bdB = true := (all_getD l bdB (0, 0, 0)).2 HG.out.2.2
          have HALB := Lib.hid hall
          have HR0 := Lib.hid HR.out
          have HE := Lib.hid (show conP n M l = ofP n (flat n (conUp M l l.length)) by unfold conP conE; rw [HALL.out, hall]; rfl)
          clear hall HG HR
          go_wp2
          go_loopg [55] l.length (fun g v wr => ∃ p : Nat, v = .int .i64 p ∧ Hid (KW w n (conUp M l p) wr) ∧ Hid (p ≤ l.length ∧ g + p = l.length))
          case atStart => exact ⟨0, by simp, HR0.out, by omega, by omega⟩
          case round =>
            clear HR0
            obtain ⟨p, rfl, HR, HG⟩ := hrel
            by_cases hp : p < l.length
            · obtain ⟨b, off, rfl, c1, c2, c3⟩ := HI.out.below HR.out.1 p hp
              have hcl := (all_getD l (clkB n) (0, 0, 0)).1 HALL.out p hp
              have HUP := Lib.hid (show conUp M l (p + 1) = lessM (conUp M l p) (l.getD p (0, 0, 0)).1.toNat (l.getD p (0, 0, 0)).2.1.toNat (l.getD p (0, 0, 0)).2.2 from rfl)
              obtain ⟨x, hx⟩ : ∃ x, x = l.getD p (0, 0, 0) := ⟨_, rfl⟩
              rw [← hx] at c1 c2 c3 hcl HUP
              clear hx
              obtain ⟨xi, xj, xb⟩ := x
              simp only at c1 c2 c3 HUP
              have hcl2 : (0 ≤ xi ∧ xi ≤ n) ∧ (0 ≤ xj ∧ xj ≤ n) := by
                unfold clkB anyB at hcl
                simp only [Bool.and_eq_true, decide_eq_true_eq] at hcl
                exact hcl
              obtain ⟨a, rfl⟩ : ∃ a : Nat, xi = a := ⟨xi.toNat, by omega⟩
              obtain ⟨d, rfl⟩ : ∃ d : Nat, xj = d := ⟨xj.toNat, by omega⟩
              rw [Int.toNat_natCast, Int.toNat_natCast] at HUP
              have HRA := Lib.hid (HR.out.alloc (.cells #[.int .i64 (a : Int), .int .i64 (d : Int), .int .i32 xb] 54))
              have ha9 : a < 9 := by omega
              have hd9 : d < 9 := by omega
              clear hcl hcl2
              go_wp2_with fail
              refine (less_any _ a d n _ xb _ ha9 hd9 (by exact HRA.out.2)).mono ?_
              rintro e w3 ⟨rfl, ho, hm⟩
              have HN := Lib.hid (HRA.out.only ho hm)
              rw [← HUP.out] at HN
              clear ho hm
              go_wp2
              go_roundg (gk - 1)
              case measure => have h := HG.out; omega
              case rel => exact ⟨p + 1, by go_num, HN.out, by omega, by have h := HG.out; omega⟩
            · have e : p = l.length := by have := HG.out.1; omega
              subst e
              go_wp2_with fail
              refine (HSH.out _ _ _ HR.out.2 (rng_con HRG.out HALL.out HALB.out _ (Nat.le_refl _))).mono ?_
              rintro e w2 hz
              have HZ2 := Lib.hid hz
              obtain ⟨hb, v, rfl, hv⟩ := hz
              have HB3 := Lib.hid (HR.out.1.trans (hb.mono HR.out.1.size))
              clear hb hv
              go_wp2
              go_ret2
              rw [← HMM.out, HE.out]
              exact ⟨HB3.out, HZ2.out.2⟩

end Go.Proofs.Ytmelblnflalanaa

/- What of a zone keeps bounds: plain. -/
namespace Go.Proofs.Ytmelblnflalanaa
set_option linter.unusedVariables false
set_option linter.unusedSimpArgs false

theorem zoneP_low {n : Nat} {M : Mat} (h : M 0 0 < 1) : zoneP n M = (some (fun _ _ => 0), 0) := by
  have hc : closed n M = none := by
    unfold closed closeP
    rw [if_neg]
    intro h'
    have h1 := h' 0 (by omega)
    have h2 := fw_le 0 n M 0 0
    omega
  unfold zoneP
  rw [hc]
theorem zero_ok (n : Nat) : OkM n (fun _ _ => 0) := ⟨right_zero n, fun _ _ => by show (0 : Int) ≤ 1; omega, fun _ _ => by show (0 : Int) ≤ 1; omega⟩
theorem clk_parts {n : Nat} {x : Int × Int × Int} (h : clkB n x = true) : (0 ≤ x.1 ∧ x.1 ≤ n) ∧ (0 ≤ x.2.1 ∧ x.2.1 ≤ n) := by
  unfold clkB anyB at h
  simpa only [Bool.and_eq_true, decide_eq_true_eq] using h
theorem OkM.con {n : Nat} {m : Mat} {l : List (Int × Int × Int)} (h : OkM n m) (hc : l.all (clkB n) = true) (hb : l.all bdB = true) : ∀ p, p ≤ l.length → OkM n (conUp m l p)
  | 0, _ => h
  | p + 1, hp => by
    have ih := h.con hc hb p (by omega)
    have a := clk_parts ((all_getD l (clkB n) (0, 0, 0)).1 hc p (by omega))
    have b := (all_getD l bdB (0, 0, 0)).1 hb p (by omega)
    exact ih.less _ _ (by omega) (by omega) _ b
theorem Agree.con {n : Nat} {m o : Mat} {l : List (Int × Int × Int)} (h : Agree n m o) (hc : l.all (clkB n) = true) : ∀ p, p ≤ l.length → Agree n (conUp m l p) (conUp o l p)
  | 0, _ => h
  | p + 1, hp => by
    have ih := h.con hc p (by omega)
    have a := clk_parts ((all_getD l (clkB n) (0, 0, 0)).1 hc p (by omega))
    exact ih.less _ _ (by omega) (by omega) _
theorem con_le (m : Mat) (l : List (Int × Int × Int)) (i j : Nat) : ∀ p, conUp m l p i j ≤ m i j
  | 0 => Int.le_refl _
  | p + 1 => by
    have ih := con_le m l i j p
    unfold conUp lessM upd
    split
    · rename_i e
      rw [e.1, e.2] at ih ⊢
      omega
    · exact ih
theorem conE_parts {n : Nat} {l : List (Int × Int × Int)} (h : conE n l = 0) : l.all (clkB n) = true ∧ l.all bdB = true := by
  unfold conE at h
  by_cases a : l.all (clkB n) = true
  · rw [if_pos a] at h
    by_cases b : l.all bdB = true
    · exact ⟨a, b⟩
    · rw [if_neg b] at h; omega
  · rw [if_neg a] at h; omega
/-- What the document's Constrain answers. -/
def conQ (n : Nat) (m : Mat) (l : List (Int × Int × Int)) : Option Mat × Int :=
  if conE n l = 0 then (if m 0 0 = 1 then zoneP n (widW (conUp m l l.length)) else (some (fun _ _ => 0), 0)) else (none, conE n l)
theorem con_same {n : Nat} {m : Mat} (hn : n ≤ 8) (h : m = (fun _ _ => 0) ∨ FullZ n m) (l : List (Int × Int × Int)) : conP n (openW (some (n, m))) l = conQ n m l := by
  unfold conP conQ
  by_cases he : conE n l = 0
  · rw [if_pos he, if_pos he]
    obtain ⟨hc, hb⟩ := conE_parts he
    have hok : OkM n m := by
      rcases h with rfl | h
      · exact zero_ok n
      · exact h.ok
    rw [flat_congr ((open_agree n m).con hc l.length (Nat.le_refl _)), ofP_wid hn (hok.con hc hb _ (Nat.le_refl _))]
    rcases h with rfl | h
    · rw [if_neg (by decide)]
      refine zoneP_low ?_
      have := con_le (fun _ _ => 0) l 0 0 l.length
      unfold widW wid
      rw [if_neg (by omega)]; omega
    · rw [if_pos (h.one 0 (by omega))]
  · rw [if_neg he, if_neg he]

end Go.Proofs.Ytmelblnflalanaa

/- The operations, asked of nil. -/
namespace Go.Proofs.Ytmelblnflalanaa
open Go Go.RowKit
set_option linter.unusedVariables false
set_option linter.unusedSimpArgs false

/-- No zone, and the error of nil. -/
def NilEnds (w : World) (e : Ending) (w' : World) : Prop := e = .returned (.tuple #[.pointer none, .int .i64 1]) ∧ Below w.heap.size w w'
theorem constrain_nil (l : Value) (w : World) : Calls Try.prog 49 #[.pointer none, l] w (NilEnds w) := by
  go_enter Try.func49, Try.ntmps49
  go_wp2
  go_ret2
  exact ⟨rfl, Below.refl _ _⟩
theorem free_nil (l : Value) (w : World) : Calls Try.prog 47 #[.pointer none, l] w (NilEnds w) := by
  go_enter Try.func47, Try.ntmps47
  go_wp2
  go_ret2
  exact ⟨rfl, Below.refl _ _⟩
theorem guards_nil (l : Value) (w : World) : Calls Try.prog 17 #[.pointer none, l] w (NilEnds w) := by
  go_enter Try.func17, Try.ntmps17
  go_wp2
  go_ret2
  exact ⟨rfl, Below.refl _ _⟩
theorem unset_nil (c k : Int) (w : World) : Calls Try.prog 16 #[.pointer none, .int .i64 c, .int .i64 k] w (NilEnds w) := by
  have hz : ZoneV 109 w (.pointer none) none := rfl
  have HS := Lib.hid (oset_any _ none c k w hz)
  rw [show setE none c k = 1 from rfl] at HS
  clear hz
  go_enter Try.func16, Try.ntmps16
  go_wp2_with fail
  refine HS.out.mono ?_
  rintro e w1 ⟨rfl, hb⟩
  have HB := Lib.hid hb
  clear hb
  go_wp2
  go_ret2
  exact ⟨rfl, HB.out⟩

theorem oalike_nil (l : Value) (w : World) : Calls Try.prog 50 #[.pointer none, l] w fun e w' => e = .returned (.int .i64 1) ∧ w = w' := by
  go_enter Try.func50, Try.ntmps50
  go_wp2
  go_ret
  exact ⟨rfl, rfl⟩
theorem and_nil (l : Value) (w : World) : Calls Try.prog 19 #[.pointer none, l] w (NilEnds w) := by
  go_enter Try.func19, Try.ntmps19
  go_wp2_with fail
  refine (oalike_nil l _).mono ?_
  rintro e w1 ⟨rfl, rfl⟩
  go_wp2
  go_ret2
  exact ⟨rfl, Below.refl _ _⟩
end Go.Proofs.Ytmelblnflalanaa

/- And, Hull: nil among the zones. -/
namespace Go.Proofs.Ytmelblnflalanaa
open Go Go.RowKit
set_option linter.unusedVariables false
set_option linter.unusedSimpArgs false

/-- A list of addresses that can be read. -/
def Ptrs (w : World) (A : Option Addr) (vs : List Value) : Prop := ∀ j, j < vs.length → ∃ b off, A = some ⟨b, off, none⟩ ∧ w.cell? ⟨b, off + j, none⟩ = some (vs.getD j (.pointer none))
theorem Ptrs.below {w w' : World} {A : Option Addr} {vs : List Value} (h : Ptrs w A vs) (hb : Below w.heap.size w w') : Ptrs w' A vs := fun j hj => by
  obtain ⟨b, off, e, hc⟩ := h j hj
  exact ⟨b, off, e, (hb.cell (p := ⟨b, off + j, none⟩) (World.block_lt_of_cell? w _ hc)).trans hc⟩
theorem ptrs_new (w : World) (e : TypeId) (vs : List Value) : Ptrs (w.alloc (.cells vs.toArray e (0, 0))) (some ⟨w.heap.size, 0, none⟩) vs := fun j hj => by
  refine ⟨_, 0, rfl, ?_⟩
  have h1 := heap_alloc_new w (.cells vs.toArray e (0, 0))
  rw [Nat.zero_add]
  unfold World.cell?
  rw [h1]
  show vs.toArray[j]? = _
  rw [List.getElem?_toArray, List.getElem?_eq_getElem hj, List.getD_eq_getElem?_getD, List.getElem?_eq_getElem hj]
  rfl

set_option maxHeartbeats 1000000 in
set_option maxRecDepth 100000 in
theorem oalike_has (b : Addr) (A : Option Addr) (c : Nat) (vs : List Value) (w : World) (hv : Ptrs w A vs) (hl : vs.length ≤ 4611686018427387904) (hf : ∀ j, j < vs.length → ∃ a, vs.getD j (.pointer none) = .pointer a)
    (hn : ∃ p, p < vs.length ∧ vs.getD p (.pointer none) = .pointer none) :
    Calls Try.prog 50 #[.pointer (some b), .slice A vs.length c] w fun e w' => e = .returned (.int .i64 1) ∧ w = w' := by
  have HV := Lib.hid hv
  have HF := Lib.hid hf
  have HN := Lib.hid hn
  clear hv hf hn
  go_enter Try.func50, Try.ntmps50
  go_wp2
  go_loopg [13] vs.length (fun g v wr => ∃ p : Nat, v = .int .i64 p ∧ w = wr ∧ Hid (p ≤ vs.length ∧ g + p = vs.length ∧ ∀ q, q < p → ¬ vs.getD q (.pointer none) = .pointer none))
  case atStart => exact ⟨0, by simp, rfl, by omega, by omega, fun q h => by omega⟩
  case round =>
    obtain ⟨p, rfl, rfl, HG⟩ := hrel
    by_cases hp : p < vs.length
    · obtain ⟨b', off, rfl, c1⟩ := HV.out p hp
      obtain ⟨a, ha⟩ := HF.out p hp
      rw [ha] at c1
      cases a with
      | none =>
        clear ha
        go_wp2
        go_ret
        exact ⟨rfl, rfl⟩
      | some a =>
        have HA := Lib.hid ha
        clear ha
        go_wp2
        go_roundg (gk - 1)
        case measure => have h := HG.out; omega
        case rel =>
          refine ⟨p + 1, by go_num, rfl, by omega, by have h := HG.out.2.1; omega, fun q hq => ?_⟩
          by_cases e : q = p
          · subst e; rw [HA.out]; intro h; cases h
          · exact HG.out.2.2 q (by omega)
    · have e : p = vs.length := by have := HG.out.1; omega
      obtain ⟨q, hq, hz⟩ := HN.out
      exact absurd hz (HG.out.2.2 q (by omega))
set_option maxHeartbeats 1000000 in
theorem and_has (b : Addr) (A : Option Addr) (c : Nat) (vs : List Value) (w : World) (hv : Ptrs w A vs) (hl : vs.length ≤ 4611686018427387904) (hf : ∀ j, j < vs.length → ∃ a, vs.getD j (.pointer none) = .pointer a)
    (hn : ∃ p, p < vs.length ∧ vs.getD p (.pointer none) = .pointer none) : Calls Try.prog 19 #[.pointer (some b), .slice A vs.length c] w (NilEnds w) := by
  have HA := Lib.hid (oalike_has b A c vs w hv hl hf hn)
  clear hv hf hn
  go_enter Try.func19, Try.ntmps19
  go_wp2_with fail
  refine HA.out.mono ?_
  rintro e w1 ⟨rfl, rfl⟩
  go_wp2
  go_ret2
  exact ⟨rfl, Below.refl _ _⟩
theorem reset_nil (c k : Int) (w : World) : Calls Try.prog 13 #[.pointer none, .int .i64 c, .int .i64 k] w (NilEnds w) :=
  reset_wrong (.pointer none) none c k w rfl (by show (1 : Int) ≠ 0; decide)
theorem up_nil' (w : World) : Calls Try.prog 8 #[.pointer none] w (NilEnds w) := (up_nil w).mono fun e w' ⟨he, hw⟩ => ⟨he, hw ▸ Below.refl _ _⟩
theorem down_nil' (w : World) : Calls Try.prog 12 #[.pointer none] w (NilEnds w) := (down_nil w).mono fun e w' ⟨he, hw⟩ => ⟨he, hw ▸ Below.refl _ _⟩

end Go.Proofs.Ytmelblnflalanaa

/- What zones have in common. -/
namespace Go.Proofs.Ytmelblnflalanaa
open Go Go.RowKit
set_option linter.unusedVariables false
set_option linter.unusedSimpArgs false
attribute [local go_sem] min_ints max_ints

/-- Zones of k clocks, one behind the other. -/
def ZonesV (w : World) (A : Option Addr) (vs : List Value) (k : Nat) (ms : List Mat) : Prop :=
  Ptrs w A vs ∧ vs.length = ms.length ∧ ∀ j, j < ms.length → ZoneV 109 w (vs.getD j (.pointer none)) (some (k, ms.getD j fun _ _ => 0))
theorem ZonesV.below {w w' : World} {A : Option Addr} {vs : List Value} {k : Nat} {ms : List Mat} (h : ZonesV w A vs k ms) (hb : Below w.heap.size w w') : ZonesV w' A vs k ms :=
  ⟨h.1.below hb, h.2.1, fun j hj => (h.2.2 j hj).below hb⟩

set_option maxHeartbeats 1000000 in
set_option maxRecDepth 100000 in
theorem oalike_ok (v : Value) (k : Nat) (m : Mat) (A : Option Addr) (c : Nat) (vs : List Value) (ms : List Mat) (w : World) (hz : ZoneV 109 w v (some (k, m))) (hv : ZonesV w A vs k ms) (hl : vs.length ≤ 4611686018427387904) :
    Calls Try.prog 50 #[v, .slice A vs.length c] w fun e w' => e = .returned (.int .i64 0) ∧ w = w' := by
  have HV := Lib.hid hv
  obtain ⟨bz, rfl, _, _, hmz⟩ := hz
  have HMZ := Lib.hid hmz
  clear hv hmz
  go_enter Try.func50, Try.ntmps50
  go_wp2
  go_loopg [13] vs.length (fun g v wr => ∃ p : Nat, v = .int .i64 p ∧ w = wr ∧ Hid (p ≤ vs.length ∧ g + p = vs.length))
  case atStart => exact ⟨0, by simp, rfl, by omega, by omega⟩
  case round =>
    obtain ⟨p, rfl, rfl, HG⟩ := hrel
    by_cases hp : p < vs.length
    · obtain ⟨b', off, rfl, c1⟩ := HV.out.1 p hp
      obtain ⟨b2, e2, _⟩ := HV.out.2.2 p (by have := HV.out.2.1; omega)
      rw [e2] at c1
      clear e2
      go_wp2
      go_roundg (gk - 1)
      case measure => have h := HG.out; omega
      case rel => exact ⟨p + 1, by go_num, rfl, by omega, by have h := HG.out; omega⟩
    · have e : p = vs.length := by have := HG.out.1; omega
      subst e
      clear HG
      go_wp2
      go_loopg [22] vs.length (fun g v wr => ∃ p : Nat, v = .int .i64 p ∧ w = wr ∧ Hid (p ≤ vs.length ∧ g + p = vs.length))
      case atStart => exact ⟨0, by simp, rfl, by omega, by omega⟩
      case round =>
        obtain ⟨p, rfl, rfl, HG⟩ := hrel
        by_cases hp : p < vs.length
        · obtain ⟨b', off, rfl, c1⟩ := HV.out.1 p hp
          obtain ⟨b2, e2, _, _, hm2⟩ := HV.out.2.2 p (by have := HV.out.2.1; omega)
          rw [e2] at c1
          have HM2 := Lib.hid hm2
          clear e2 hm2
          go_wp2_with fail
          refine (dim_zone b2 k _ _ HM2.out).mono ?_
          rintro e w1 ⟨rfl, rfl⟩
          go_wp2_with fail
          refine (dim_zone bz k m _ HMZ.out).mono ?_
          rintro e w1 ⟨rfl, rfl⟩
          go_wp2
          go_roundg (gk - 1)
          case measure => have h := HG.out; omega
          case rel => exact ⟨p + 1, by go_num, rfl, by omega, by have h := HG.out; omega⟩
        · have e : p = vs.length := by have := HG.out.1; omega
          subst e
          go_wp2
          go_ret
          exact ⟨rfl, rfl⟩

/-- The strictest of both cells, in the first n + 1 rows. -/
def minF (M V : Mat) : Mat := fun a c => min (M a c) (V a c)
def minW (n : Nat) (M V : Mat) : Mat := mix (minF M V) M n (n + 1) 0
theorem minW_in {n : Nat} {M V : Mat} {a c : Nat} (ha : a ≤ n) (hc : c ≤ n) : minW n M V a c = min (M a c) (V a c) := by
  unfold minW mix
  rw [if_pos (.inl ⟨by omega, hc⟩)]; rfl
def andUp (n : Nat) (M : Mat) (ms : List Mat) : Nat → Mat
  | 0 => M
  | p + 1 => minW n (andUp n M ms p) (openW (some (n, ms.getD p fun _ _ => 0)))
theorem rng_and {n : Nat} {M : Mat} {ms : List Mat} (h : Rng n M) (hr : ∀ j, j < ms.length → RightM n (ms.getD j fun _ _ => 0)) : ∀ p, p ≤ ms.length → Rng n (andUp n M ms p)
  | 0, _ => h
  | p + 1, hp => fun i j hi hj => by
    have h1 := rng_and h hr p (by omega) i j hi hj
    have h2 := rng_open (hr p (by omega)) i j hi hj
    unfold andUp
    rw [minW_in (by omega) (by omega)]
    omega
theorem less_mix (M V : Mat) (n i j : Nat) (hj : j ≤ n) : lessM (mix (minF M V) M n i j) i j (V i j) = mix (minF M V) M n i (j + 1) := by
  unfold lessM
  rw [mix_here]
  exact mix_step _ _ _ _ _ hj

set_option maxHeartbeats 2000000 in
set_option maxRecDepth 100000 in
theorem and_zones (v : Value) (n : Nat) (m : Mat) (A : Option Addr) (c : Nat) (vs : List Value) (ms : List Mat) (w : World) (hz : ZoneV 109 w v (some (n, m))) (hv : ZonesV w A vs n ms) (hl : vs.length ≤ 4611686018427387904) :
    Calls Try.prog 19 #[v, .slice A vs.length c] w (MakesZ w n (ofP n (flat n (andUp n (openW (some (n, m))) ms ms.length)))) := by
  have HV := Lib.hid hv
  have HZ := Lib.hid hz
  have HAL := Lib.hid (oalike_ok v n m A c vs ms w hz hv hl)
  obtain ⟨b, rfl, hn, hr, hm⟩ := hz
  have hl8 : (cellsP (some (n, m))).length ≤ 81 := cellsP_short _ fun k m' e => by simp at e; omega
  have HO := Lib.hid (fun w h => oopen_any (.pointer (some ⟨b, 0, none⟩)) (some (n, m)) w h hn hl8)
  have HRG := Lib.hid (rng_open hr)
  have HSH := Lib.hid (fun c m' w h hk => shut_any c n m' w hn h hk)
  have HRR := Lib.hid (fun j hj => show RightM n (ms.getD j fun _ _ => 0) by obtain ⟨_, _, _, h, _⟩ := hv.2.2 j hj; exact h)
  clear hm hl8 hr hv
  go_enter Try.func19, Try.ntmps19
  go_wp2_with fail
  refine HAL.out.mono ?_
  rintro e w1 ⟨rfl, rfl⟩
  go_wp2_with fail
  refine (HO.out _ HZ.out).mono ?_
  obtain ⟨M, hM⟩ : ∃ M, M = openW (some (n, m)) := ⟨_, rfl⟩
  rintro e w1 ⟨rfl, hb, hw⟩
  have HK1 := Lib.hid (show KW w n (andUp n M ms 0) w1 from ⟨hb, by rw [hM]; exact hw⟩)
  rw [← hM] at HRG
  have HMM := Lib.hid hM
  clear hb hw HO HZ hM HAL
  go_wp2
  go_loopg [23] vs.length (fun g v wr => ∃ p : Nat, v = .int .i64 p ∧ Hid (KW w n (andUp n M ms p) wr) ∧ Hid (p ≤ vs.length ∧ g + p = vs.length))
  case atStart => exact ⟨0, by simp, HK1.out, by omega, by omega⟩
  case round =>
    clear HK1
    obtain ⟨p, rfl, HR, HG⟩ := hrel
    by_cases hp : p < vs.length
    · obtain ⟨b', off, rfl, c1⟩ := (HV.out.below HR.out.1).1 p hp
      have hzp := (HV.out.below HR.out.1).2.2 p (by have := HV.out.2.1; omega)
      have HZP := Lib.hid hzp
      obtain ⟨b2, e2, _, _, hm2⟩ := hzp
      rw [e2] at c1 HZP
      obtain ⟨my, hmy⟩ : ∃ my, my = ms.getD p fun _ _ => 0 := ⟨_, rfl⟩
      rw [← hmy] at HZP
      have HMY := Lib.hid hmy
      clear e2 hm2 hmy
      have hl8 : (cellsP (some (n, my))).length ≤ 81 := cellsP_short _ fun k m' e => by simp at e; omega
      go_wp2_with fail
      refine (oopen_any _ (some (n, my)) _ HZP.out hn hl8).mono ?_
      obtain ⟨V, hV⟩ : ∃ V, V = openW (some (n, my)) := ⟨_, rfl⟩
      rintro e w2 ⟨rfl, hb, hw⟩
      obtain ⟨gv, hgv⟩ : ∃ gv, gv = wr.heap.size := ⟨_, rfl⟩
      obtain ⟨U, hU⟩ : ∃ U, U = andUp n M ms p := ⟨_, rfl⟩
      rw [← hU] at HR
      have HW2 := Lib.hid (show MatAt w2 gv 71 .i32 n V by rw [hV, hgv]; exact hw)
      have HK2 := Lib.hid (show KW w n (mix (minF U V) U n 0 0) w2 by rw [mix_start]; exact HR.out.step hb)
      have hne : gv ≠ w.heap.size := by have := HR.out.2.lt; omega
      have HUV := Lib.hid (And.intro hU hV)
      have h2 := HK2.out.2.head
      rw [← hgv]
      clear hb hw hgv hU hV hl8 c1
      go_wp2
      go_loopg [35] (n + 1) (fun g v wr => ∃ i : Nat, v = .int .i64 i ∧ Hid (KW w n (mix (minF U V) U n i 0) wr ∧ MatAt wr gv 71 .i32 n V) ∧ Hid (i ≤ n + 1 ∧ g + i = n + 1))
      case atStart => exact ⟨0, by simp, ⟨HK2.out, HW2.out⟩, by omega, by omega⟩
      case round =>
        clear HK2 HW2 h2 HR
        obtain ⟨i, rfl, HI, HGI⟩ := hrel
        have h2 := HI.out.1.2.head
        by_cases hi : i < n + 1
        · have hii : (i : Int) < (n : Int) + 1 := by omega
          go_wp2
          go_loopg [44] (n + 1) (fun g v wr => ∃ j : Nat, v = .int .i64 j ∧ Hid (KW w n (mix (minF U V) U n i j) wr ∧ MatAt wr gv 71 .i32 n V) ∧ Hid (j ≤ n + 1 ∧ g + j = n + 1))
          case atStart => exact ⟨0, by simp, HI.out, by omega, by omega⟩
          case round =>
            clear HI h2
            obtain ⟨j, rfl, HJ, HGJ⟩ := hrel
            have h2 := HJ.out.1.2.head
            by_cases hj : j < n + 1
            · have hjj : (j : Int) < (n : Int) + 1 := by omega
              have i9 : (i : Int) < 9 := by omega
              have j9 : (j : Int) < 9 := by omega
              have c1 := HJ.out.2.cell i j (by omega) (by omega)
              have HL := Lib.hid (less_any w.heap.size i j n (mix (minF U V) U n i j) (V i j) wr (by omega) (by omega) HJ.out.1.2)
              rw [less_mix _ _ _ _ _ (by omega)] at HL
              obtain ⟨x, hx⟩ : ∃ x, x = V i j := ⟨_, rfl⟩
              rw [← hx] at c1 HL
              clear hx
              go_wp2_with fail
              refine HL.out.mono ?_
              rintro e w3 ⟨rfl, ho, hm⟩
              have HN := Lib.hid (And.intro (HJ.out.1.only ho hm) (HJ.out.2.only ho hne))
              clear ho hm
              go_wp2
              go_roundg (gk - 1)
              case measure => have h := HGJ.out; omega
              case rel => exact ⟨j + 1, by go_num, HN.out, by omega, by have h := HGJ.out; omega⟩
            · have e : j = n + 1 := by have := HGJ.out.1; omega
              subst e
              have hjj : ¬ (((n + 1 : Nat) : Int) < (n : Int) + 1) := by omega
              have HN := Lib.hid (show KW w n (mix (minF U V) U n (i + 1) 0) wr ∧ MatAt wr gv 71 .i32 n V by rw [← mix_row]; exact HJ.out)
              go_wp2
              go_roundg (n - i)
              case measure => have h := HGI.out; omega
              case rel => exact ⟨i + 1, by go_num, HN.out, by omega, by omega⟩
        · have e : i = n + 1 := by have := HGI.out.1; omega
          subst e
          have hii : ¬ (((n + 1 : Nat) : Int) < (n : Int) + 1) := by omega
          have HN := Lib.hid (show KW w n (andUp n M ms (p + 1)) wr by rw [andUp, ← HMY.out, ← HUV.out.1, ← HUV.out.2]; exact HI.out.1)
          go_wp2
          go_roundg (vs.length - (p + 1))
          case measure => have h := HG.out; omega
          case rel => exact ⟨p + 1, by go_num, HN.out, by omega, by omega⟩
    · have e : p = vs.length := by have := HG.out.1; omega
      subst e
      have HLE := Lib.hid HV.out.2.1
      have HRN := Lib.hid (rng_and HRG.out HRR.out vs.length (by rw [HV.out.2.1]; exact Nat.le_refl _))
      go_wp2_with fail
      refine (HSH.out _ _ _ HR.out.2 HRN.out).mono ?_
      rintro e w2 hz
      have HZ2 := Lib.hid hz
      obtain ⟨hb, v, rfl, hv⟩ := hz
      have HB3 := Lib.hid (HR.out.1.trans (hb.mono HR.out.1.size))
      clear hb hv
      go_wp2
      go_ret2
      rw [← HMM.out, ← HLE.out]
      exact ⟨HB3.out, HZ2.out.2⟩

end Go.Proofs.Ytmelblnflalanaa

/- Does a zone include another one? -/
namespace Go.Proofs.Ytmelblnflalanaa
open Go.RowKit
set_option linter.unusedVariables false
set_option linter.unusedSimpArgs false

theorem empty_yes (b n : Nat) (m : Mat) (w : World) (h : MatAt w b 109 .i32 n m) (hm : m 0 0 < 1) : Calls Try.prog 32 #[.pointer (some ⟨b, 0, none⟩)] w fun e w' => e = .returned (.bool true) ∧ w' = w :=
  (empty_zone b n m w h).mono fun _ _ k => ⟨by rw [k.1, decide_eq_true hm], k.2.symm⟩
theorem empty_no (b n : Nat) (m : Mat) (w : World) (h : MatAt w b 109 .i32 n m) (hm : ¬ m 0 0 < 1) : Calls Try.prog 32 #[.pointer (some ⟨b, 0, none⟩)] w fun e w' => e = .returned (.bool false) ∧ w' = w :=
  (empty_zone b n m w h).mono fun _ _ k => ⟨by rw [k.1, decide_eq_false hm], k.2.symm⟩

/-- Is o in m? -/
def inclM (n : Nat) (m o : Mat) : Bool := decide (o 0 0 < 1 ∨ ∀ i, i ≤ n → ∀ j, j ≤ n → o i j ≤ m i j)
def inclP (z o : Option (Nat × Mat)) : Bool := match z, o with
  | some (n, m), some (k, o) => decide (n = k) && inclM n m o
  | _, _ => false

/-- What was there is there; so far no cell of o is greater. -/
def InclR (w0 : World) (n : Nat) (m o : Mat) (i j : Nat) (wr : World) : Prop :=
  Below w0.heap.size w0 wr ∧ (∀ a c, a < i ∨ (a = i ∧ c < j) → c ≤ n → o a c ≤ m a c) ∧ i ≤ n + 1 ∧ j ≤ n + 1

end Go.Proofs.Ytmelblnflalanaa

/- Are two zones the same? Their arrays are held against one another as wholes. -/
namespace Go.Proofs.Ytmelblnflalanaa
open Go Go.RowKit
set_option linter.unusedVariables false
set_option linter.unusedSimpArgs false
section
variable {P : Program}
theorem eq_loop (d : Nat) (E n : Nat) (xs ys : Array Value) (f : Nat → Bool) (L : List Nat)
    (hpart : ∀ i, i ∈ L → ∀ w, ∃ a b, (part E xs (i * n)).run P w = .ok a w ∧ (part E ys (i * n)).run P w = .ok b w ∧ (Op.equalIn d E a b).run P w = .ok (f i) w) : ∀ (w : World),
    Sem.run P (forIn L ((none, ()) : Option Bool × Unit) fun i (__s : Option Bool × Unit) => (do
            let __do_lift ← part E xs (i * n)
            let __do_lift_1 ← part E ys (i * n)
            let __do_lift ← Op.equalIn d E __do_lift __do_lift_1
            if (!__do_lift) = true then pure (ForInStep.done ((some false, ()) : Option Bool × Unit)) else pure (ForInStep.yield ((none, ()) : Option Bool × Unit)) : Sem (ForInStep (Option Bool × Unit))))
          w = .ok (if L.all f then (none, ()) else (some false, ())) w := by
  induction L with
  | nil => intro w; simp
  | cons i L ih =>
    intro w
    obtain ⟨a, b, h1, h2, h3⟩ := hpart i (by simp) w
    simp only [List.forIn_cons, Sem.run_bind, h1, h2, h3, Result.andThen_ok]
    cases hf : f i with
    | false => simp [hf]
    | true =>
      simp only [Bool.not_true, Bool.false_eq_true, if_false, Sem.run_pure, Result.andThen_ok]
      rw [ih (fun j hj => hpart j (by simp [hj])) w]
      simp [hf]
/-- Equality of arrays, element by element. -/
theorem run_eq_array (d : Nat) (T len E n : Nat) (hu : P.underlying T = some (.array len E)) (hs : ∀ w, (sizeOf E).run P w = .ok n w) (xs ys : Array Value) (f : Nat → Bool)
    (hpart : ∀ i, i < len → ∀ w, ∃ a b, (part E xs (i * n)).run P w = .ok a w ∧ (part E ys (i * n)).run P w = .ok b w ∧ (Op.equalIn d E a b).run P w = .ok (f i) w) (w : World) :
    (Op.equalIn (d + 1) T (.agg xs) (.agg ys)).run P w = .ok ((List.range len).all f) w := by
  simp only [Op.equalIn, Sem.run_bind, run_underlying hu, Result.andThen_ok, hs]
  rw [Std.Legacy.Range.forIn_eq_forIn_range']
  simp only [Std.Legacy.Range.size, Nat.sub_zero, Nat.add_sub_cancel, Nat.div_one]
  rw [← List.range_eq_range', eq_loop d E n xs ys f (List.range len) (fun i hi => hpart i (by simpa using hi)) w]
  cases h : (List.range len).all f <;> simp
theorem part_cell (E : Nat) (xs : Array Value) (o : Nat) (v : Value) (ha : ∀ w, (isAgg E).run P w = .ok false w) (hv : xs[o]? = some v) (w : World) : (part E xs o).run P w = .ok v w := by
  simp [part, ha, hv]
theorem part_row (E s : Nat) (xs : Array Value) (o : Nat) (ha : ∀ w, (isAgg E).run P w = .ok true w) (hs : ∀ w, (sizeOf E).run P w = .ok s w) (w : World) : (part E xs o).run P w = .ok (.agg (xs.extract o (o + s))) w := by
  simp [part, ha, hs]
end

/-- The 81 cells as a list. -/
def cellsOf (k : IntKind) (m : Mat) : List Value := (List.range 81).map fun p => Value.int k (m (p / 9) (p % 9))
def eqM (m o : Mat) : Bool := (List.range 9).all fun i => (List.range 9).all fun j => m i j == o i j
theorem cellsOf_get (k : IntKind) (m : Mat) (p : Nat) (hp : p < 81) : (cellsOf k m).toArray[p]? = some (.int k (m (p / 9) (p % 9))) := by
  simp [cellsOf, hp]
theorem range_mat {w : World} {b n : Nat} {T : TypeId} {k : IntKind} {m : Mat} (h : MatAt w b T k n m) : w.rangeAt b 1 (cellsOf k m) := by
  intro j v hv
  by_cases hj : j < 81
  · simp [cellsOf, hj] at hv
    subst hv
    have := h.cell (j / 9) (j % 9) (by omega) (by omega)
    have e : 1 + j / 9 * 9 + j % 9 = 1 + j := by omega
    rw [e] at this; exact this
  · simp [cellsOf, hj] at hv

theorem eq_row (d : Nat) (m o : Mat) (i : Nat) (hi : i < 9) (w : World) :
    (Op.equalIn (d + 2) 68 (.agg ((cellsOf .i32 m).toArray.extract (i * 9) (i * 9 + 9))) (.agg ((cellsOf .i32 o).toArray.extract (i * 9) (i * 9 + 9)))).run Try.prog w =
      .ok ((List.range 9).all fun j => m i j == o i j) w := by
  refine run_eq_array (P := Try.prog) (d + 1) 68 9 52 1 Try.underlying68 (fun w => by kernel_rfl) _ _ _ (fun j hj w => ?_) w
  have e1 : (i * 9 + j) / 9 = i := by omega
  have e2 : (i * 9 + j) % 9 = j := by omega
  refine ⟨.int .i32 (m i j), .int .i32 (o i j), ?_, ?_, ?_⟩
  · refine part_cell _ _ _ _ (fun w => by kernel_rfl) ?_ w
    rw [Array.getElem?_extract, if_pos (by simp [cellsOf]; omega), Nat.mul_one, cellsOf_get _ _ _ (by omega), e1, e2]
  · refine part_cell _ _ _ _ (fun w => by kernel_rfl) ?_ w
    rw [Array.getElem?_extract, if_pos (by simp [cellsOf]; omega), Nat.mul_one, cellsOf_get _ _ _ (by omega), e1, e2]
  · exact run_equalIn_int w d _ .i32 .i32 _ _ Try.underlying52
theorem eq_mat (d : Nat) (m o : Mat) (w : World) :
    (Op.equalIn (d + 3) 69 (.agg (cellsOf .i32 m).toArray) (.agg (cellsOf .i32 o).toArray)).run Try.prog w = .ok (eqM m o) w :=
  run_eq_array (P := Try.prog) (d + 2) 69 9 68 9 Try.underlying69 (fun w => by kernel_rfl) _ _ _ (fun i hi w =>
    ⟨_, _, part_row _ 9 _ _ (fun w => by kernel_rfl) (fun w => by kernel_rfl) w, part_row _ 9 _ _ (fun w => by kernel_rfl) (fun w => by kernel_rfl) w, eq_row d m o i hi w⟩) w

theorem load_mat {w : World} {b n : Nat} {m : Mat} (h : MatAt w b 109 .i32 n m) :
    (Instr.loadAt 69 (.pointer (some ⟨b, 1, none⟩))).run Try.prog w = .ok (.agg (cellsOf .i32 m).toArray) w :=
  run_loadAt_mid w b 1 _ _ _ (range_mat h) Try.underlying69 rfl (by simp only [cellsOf, List.length_map, List.length_range]; kernel_rfl)

theorem quiet_value {P : Program} {ops : Array Oper} {w : World} {Q : Act → Prop} {a : Act} {o : Oper} {rest : List Oper} (v : Value) (hw : Region.wanted o (yielded ops a.tmps) = true)
    (hr : ∀ q, (execOp a.eval o).run P (w.drewN q) = .ok (.value v) (w.drewN q)) (h : wpQuiet P ops (fun w' => ∃ n, w' = w.drewN n) Q rest (a.put o.dst v)) :
    wpQuiet P ops (fun w' => ∃ n, w' = w.drewN n) Q (o :: rest) a := by
  unfold wpQuiet
  rw [if_pos hw]
  refine ⟨v, fun w' hw' => ?_, h⟩
  obtain ⟨n, rfl⟩ := hw'
  unfold Oper.quietAt
  rw [hr]
  exact ⟨rfl, rfl⟩
theorem exec_load {P : Program} {a : Act} {o : Oper} {w : World} {v p : Value} (ty : TypeId) (x : Operand) (ho : o.op = .load ty x) (hx : a.eval x = p) (hl : (Instr.loadAt ty p).run P w = .ok v w) :
    (execOp a.eval o).run P w = .ok (.value v) w := by
  simp only [execOp, ho, hx, Sem.run_bind, hl, Result.andThen_ok, Sem.run_pure]

def equalP (z o : Option (Nat × Mat)) : Bool := match z, o with
  | some (n, m), some (k, o) => decide (n = k) && eqM m o
  | _, _ => false
end Go.Proofs.Ytmelblnflalanaa

/- The strictest of bounds. -/
namespace Go.Proofs.Ytmelblnflalanaa
open Go Go.RowKit
set_option linter.unusedVariables false
set_option linter.unusedSimpArgs false

attribute [local go_sem] min_ints max_ints


/-- The least of the first p, and of a number. -/
def minUp (a : Int) (l : List Int) : Nat → Int
  | 0 => a
  | p + 1 => min (minUp a l p) (l.getD p 0)

end Go.Proofs.Ytmelblnflalanaa

/- Have two zones a valuation in common? The strictest of bounds. -/
namespace Go.Proofs.Ytmelblnflalanaa
open Go Go.RowKit
set_option linter.unusedVariables false
set_option linter.unusedSimpArgs false
attribute [local go_sem] min_ints max_ints
theorem least_two {w : World} {b : Nat} {x y : Int} (h0 : w.cell? ⟨b, 0, none⟩ = some (.int .i32 x)) (h1 : w.cell? ⟨b, 1, none⟩ = some (.int .i32 y)) : Ints w .i32 (some ⟨b, 0, none⟩) [x, y] := by
  intro j hj
  refine ⟨b, 0, rfl, ?_⟩
  match j, hj with
  | 0, _ => simpa using h0
  | 1, _ => simpa using h1

/-- The strictest cells of both. -/
def minM (m o : Mat) : Mat := fun i j => min (min 2147483647 (m i j)) (o i j)
theorem minM_right {n : Nat} {m o : Mat} (h : RightM n m) (h' : RightM n o) : RightM n (minM m o) := fun i j hi hj => by
  have h1 := h i j hi hj
  have h2 := h' i j hi hj
  unfold rightB at h1 h2 ⊢
  rw [decide_eq_true_iff] at h1 h2 ⊢
  simp only [minM, Int.min_def]
  split <;> split <;> omega
/-- The wide matrix of what two have in common. -/
def meetM (n : Nat) (m o : Mat) (p : Nat) : Mat := keepUp n (flat n (minM m o)) p
theorem meetM_fit {n : Nat} {m o : Mat} (h : RightM n (minM m o)) (p : Nat) (hp : p ≤ (n + 1) * (n + 1)) : Fit n 1073741824 (meetM n m o p) := by
  refine keepUp_fit _ _ _ fun q hq => ?_
  rw [flat_getD _ _ _ (by omega)]
  have : q / (n + 1) < n + 1 := Nat.div_lt_of_lt_mul (by omega)
  have := Nat.mod_lt q (show 0 < n + 1 by omega)
  exact h _ _ (by omega) (by omega)
theorem meetM_step {n : Nat} {m o : Mat} {i j : Nat} (hi : i < n + 1) (hj : j < n + 1) : meetM n m o (i * (n + 1) + j + 1) = keepM (meetM n m o (i * (n + 1) + j)) i j (min (min 2147483647 (m i j)) (o i j)) := by
  have h := at_row (i := i) hj
  have hlt : i * (n + 1) + j < (n + 1) * (n + 1) := by
    have : i * (n + 1) ≤ n * (n + 1) := Nat.mul_le_mul_right _ (by omega)
    rw [Nat.add_mul, Nat.one_mul]; omega
  show keepM (keepUp n (flat n (minM m o)) (i * (n + 1) + j)) ((i * (n + 1) + j) / (n + 1)) ((i * (n + 1) + j) % (n + 1)) ((flat n (minM m o)).getD (i * (n + 1) + j) 0) = _
  rw [flat_getD _ _ _ hlt, h.1, h.2]; rfl

/-- The wide matrix in the first new block, so far. -/
def MeetR (w0 : World) (n : Nat) (m o : Mat) (i j : Nat) (wr : World) : Prop :=
  Below w0.heap.size w0 wr ∧ MatAt wr w0.heap.size 104 .i64 n (meetM n m o (i * (n + 1) + j)) ∧ i ≤ n + 1 ∧ j ≤ n + 1

def meetsP (z o : Option (Nat × Mat)) : Bool := match z, o with
  | some (n, m), some (k, o) => decide (n = k) && (closed n (meetM n m o ((n + 1) * (n + 1)))).isSome
  | _, _ => false
def meets1 (n : Nat) (m o : Mat) : Bool := (closed n (meetM n m o ((n + 1) * (n + 1)))).isSome

theorem meet_below {w0 wr w3 : World} {o : Obj} (h : Below w0.heap.size w0 wr) (ho : Only w0.heap.size (wr.alloc o).drew w3) : Below w0.heap.size w0 w3 :=
  ((h.alloc h.size o).drew).trans (ho.below (Nat.le_refl _) (by have := h.size; simp; omega))

end Go.Proofs.Ytmelblnflalanaa

/- And is Constrain by all cells: plain. -/
namespace Go.Proofs.Ytmelblnflalanaa
set_option linter.unusedVariables false
set_option linter.unusedSimpArgs false

theorem ofP_min {n : Nat} {m o : Mat} (hn : n ≤ 8) (hr : RightM n (minM m o)) : ofP n (flat n (minM m o)) = zoneP n (meetM n m o ((n + 1) * (n + 1))) := by
  unfold ofP
  rw [if_pos (by omega), if_pos (by rw [flat_length]; simp), if_pos (flat_right hr), flat_length, Int.toNat_natCast]
  rfl
theorem minM_cell {n : Nat} {m o : Mat} (hm : RightM n m) {i j : Nat} (hi : i ≤ n) (hj : j ≤ n) : minM m o i j = min (m i j) (o i j) := by
  have := right_hi (hm i j hi hj)
  unfold minM
  omega
theorem and_one {n : Nat} {m o : Mat} (hm : RightM n m) : Agree n (andUp n (openW (some (n, m))) [o] 1) (minM m o) := fun i j hi hj => by
  show minW n (openW (some (n, m))) (openW (some (n, o))) i j = _
  rw [minW_in hi hj, open_agree n m i j hi hj, open_agree n o i j hi hj, minM_cell hm hi hj]
theorem and_two {n : Nat} {m o : Mat} (hm : RightM n m) : Agree n (andUp n (openW (some (n, o))) [m, o] 2) (minM m o) := fun i j hi hj => by
  show minW n (minW n (openW (some (n, o))) (openW (some (n, m)))) (openW (some (n, o))) i j = _
  rw [minW_in hi hj, minW_in hi hj, open_agree n m i j hi hj, open_agree n o i j hi hj, minM_cell hm hi hj]
  omega

/-- All cells, as limits, from the last row on. -/
def rowL (o : Mat) (i q : Nat) : List (Int × Int × Int) := (List.range q).map fun (j : Nat) => ((i : Int), (j : Int), o i j)
def allL (n : Nat) (o : Mat) : Nat → List (Int × Int × Int)
  | 0 => []
  | p + 1 => allL n o p ++ rowL o (n - p) (n + 1)
theorem rowL_next (o : Mat) (i q : Nat) : rowL o i (q + 1) = rowL o i q ++ [((i : Int), (q : Int), o i q)] := by simp [rowL, List.range_succ]
theorem rowL_length (o : Mat) (i q : Nat) : (rowL o i q).length = q := by simp [rowL]
theorem allL_length (n : Nat) (o : Mat) : ∀ p, (allL n o p).length = p * (n + 1)
  | 0 => by simp [allL]
  | p + 1 => by rw [allL, List.length_append, allL_length n o p, rowL_length, Nat.add_mul, Nat.one_mul]
theorem allL_is (n : Nat) (o : Mat) : ∀ p x, x ∈ allL n o p → ∃ i j : Nat, i ≤ n ∧ j ≤ n ∧ x = ((i : Int), (j : Int), o i j)
  | 0, x, h => by simp [allL] at h
  | p + 1, x, h => by
    rw [allL, List.mem_append] at h
    rcases h with h | h
    · exact allL_is n o p x h
    · simp only [rowL, List.mem_map, List.mem_range] at h
      obtain ⟨j, hj, e⟩ := h
      exact ⟨n - p, j, by omega, by omega, e.symm⟩
theorem allL_mem (n : Nat) (o : Mat) (i j : Nat) (hi : i ≤ n) (hj : j ≤ n) : ∀ p, n - i < p → ((i : Int), (j : Int), o i j) ∈ allL n o p
  | 0, h => by omega
  | p + 1, h => by
    rw [allL, List.mem_append]
    by_cases e : n - i = p
    · right
      have : n - p = i := by omega
      rw [this]
      exact List.mem_map.2 ⟨j, List.mem_range.2 (by omega), rfl⟩
    · left; exact allL_mem n o i j hi hj p (by omega)
theorem allL_conE {n : Nat} {o : Mat} (ho : RightM n o) (p : Nat) : (allL n o p).all (clkB n) = true ∧ (allL n o p).all bdB = true := by
  refine ⟨List.all_eq_true.2 fun x hx => ?_, List.all_eq_true.2 fun x hx => ?_⟩
  · obtain ⟨i, j, hi, hj, rfl⟩ := allL_is n o p x hx
    unfold clkB anyB
    simp only [Bool.and_eq_true, decide_eq_true_eq]
    omega
  · obtain ⟨i, j, hi, hj, rfl⟩ := allL_is n o p x hx
    exact ho i j hi hj
theorem con_hit {M o : Mat} {l : List (Int × Int × Int)} (hx : ∀ q, q < l.length → (l.getD q (0, 0, 0)).2.2 = o (l.getD q (0, 0, 0)).1.toNat (l.getD q (0, 0, 0)).2.1.toNat) (i j : Nat) : ∀ p, p ≤ l.length →
    (conUp M l p i j = M i j ∧ ∀ q, q < p → ¬ (i = (l.getD q (0, 0, 0)).1.toNat ∧ j = (l.getD q (0, 0, 0)).2.1.toNat)) ∨ conUp M l p i j = min (M i j) (o i j)
  | 0, _ => .inl ⟨rfl, fun q hq => by omega⟩
  | p + 1, hp => by
    have ih := con_hit (M := M) hx i j p (by omega)
    unfold conUp lessM upd
    by_cases e : i = (l.getD p (0, 0, 0)).1.toNat ∧ j = (l.getD p (0, 0, 0)).2.1.toNat
    · rw [if_pos e, hx p (by omega), ← e.1, ← e.2]
      right
      rcases ih with ⟨h, _⟩ | h
      · rw [h]
      · rw [h]; omega
    · rw [if_neg e]
      rcases ih with ⟨h, h2⟩ | h
      · refine .inl ⟨h, fun q hq => ?_⟩
        by_cases e2 : q = p
        · subst e2; exact e
        · exact h2 q (by omega)
      · exact .inr h
theorem con_all {n : Nat} {m o : Mat} (hm : RightM n m) : Agree n (conUp (openW (some (n, m))) (allL n o (n + 1)) (allL n o (n + 1)).length) (minM m o) := fun i j hi hj => by
  have hx : ∀ q, q < (allL n o (n + 1)).length → ((allL n o (n + 1)).getD q (0, 0, 0)).2.2 = o ((allL n o (n + 1)).getD q (0, 0, 0)).1.toNat ((allL n o (n + 1)).getD q (0, 0, 0)).2.1.toNat := fun q hq => by
    have hm : (allL n o (n + 1)).getD q (0, 0, 0) ∈ allL n o (n + 1) := by
      rw [List.getD_eq_getElem?_getD, List.getElem?_eq_getElem hq]; exact List.getElem_mem hq
    obtain ⟨a, b, _, _, e⟩ := allL_is n o _ _ hm
    rw [e]; simp
  rcases con_hit (M := openW (some (n, m))) hx i j _ (Nat.le_refl _) with ⟨_, h⟩ | h
  · obtain ⟨q, hq, e⟩ := List.getElem_of_mem (allL_mem n o i j hi hj (n + 1) (by omega))
    refine absurd ?_ (h q hq)
    rw [List.getD_eq_getElem?_getD, List.getElem?_eq_getElem hq, e]
    simp
  · rw [h, open_agree n m i j hi hj, minM_cell hm hi hj]
theorem con_cells {n : Nat} {m o : Mat} (hn : n ≤ 8) (hm : RightM n m) (ho : RightM n o) : conP n (openW (some (n, m))) (allL n o (n + 1)) = zoneP n (meetM n m o ((n + 1) * (n + 1))) := by
  have h := allL_conE ho (n + 1)
  unfold conP conE
  rw [h.1, h.2, if_pos rfl, if_pos rfl, if_pos rfl, flat_congr (con_all hm), ofP_min hn (minM_right hm ho)]

theorem zoneP_cases (n : Nat) (M : Mat) : (∃ a, zoneP n M = (some a, 0)) ∨ zoneP n M = (none, 10) := by
  unfold zoneP
  split
  · exact .inl ⟨_, rfl⟩
  · split
    · exact .inl ⟨_, rfl⟩
    · exact .inr rfl
theorem eqM_self (a : Mat) : eqM a a = true := by unfold eqM; simp
/-- What two have in common is in both; it is empty just if they do not meet. -/
theorem meet_zone {n : Nat} {m o a : Mat} {e : Int} (hn : n ≤ 8) (hm : RightM n m) (ho : RightM n o) (h : zoneP n (meetM n m o ((n + 1) * (n + 1))) = (some a, e)) :
    inclM n m a = true ∧ inclM n o a = true ∧ decide (a 0 0 < 1) = !meets1 n m o := by
  have hr := minM_right hm ho
  have hf := meetM_fit hr ((n + 1) * (n + 1)) (Nat.le_refl _)
  have h1 : (zoneP n (meetM n m o ((n + 1) * (n + 1)))).1 = some a := by rw [h]
  rcases zoneP_is hn hf h1 with ⟨ha, hc⟩ | ⟨m', hc, ha, hz, hcl⟩
  · subst ha
    refine ⟨decide_eq_true (.inl (by decide)), decide_eq_true (.inl (by decide)), ?_⟩
    unfold meets1
    rw [hc]; rfl
  · have h00 : a 0 0 = 1 := by
      rw [hz]
      unfold narM nar
      rw [if_pos ⟨by omega, by omega⟩, hcl.one 0 (by omega), if_neg (by decide)]
    have hcell : ∀ i j, i ≤ n → j ≤ n → a i j ≤ m i j ∧ a i j ≤ o i j := fun i j hi hj => by
      have e1 : a i j = nar (m' i j) := by rw [hz]; unfold narM; rw [if_pos ⟨hi, hj⟩]
      have e2 := hcl.le i j
      have e3 : meetM n m o ((n + 1) * (n + 1)) i j ≤ wid (minM m o i j) := by
        unfold meetM
        rw [keepUp_cell n (flat n (minM m o)) i j hi hj (fun q hq => by
          have := (all_getD _ rightB 0).1 (flat_right hr) q (by rw [flat_length]; exact hq)
          exact this) _ (Nat.le_refl _), if_pos (at_lt (by omega) (by omega)), flat_at _ (by omega) (by omega)]
        split <;> omega
      have e4 := minM_cell (o := o) hm hi hj
      have r1 := right_hi (hm i j hi hj)
      have r2 := right_hi (ho i j hi hj)
      have r3 := ha i hi j hj
      have b1 := hm i j hi hj
      have b2 := ho i j hi hj
      rw [e4] at e3
      unfold rightB at b1 b2
      simp only [decide_eq_true_eq] at b1 b2
      rw [e1]
      unfold inR at r3
      unfold wid at e3
      unfold nar
      unfold none62 at *
      split at e3 <;> split <;> omega
    refine ⟨decide_eq_true (.inr fun i hi j hj => (hcell i j hi hj).1), decide_eq_true (.inr fun i hi j hj => (hcell i j hi hj).2), ?_⟩
    unfold meets1
    rw [hc, decide_eq_false (by omega)]; rfl

end Go.Proofs.Ytmelblnflalanaa

/- The least zone that includes some. -/
namespace Go.Proofs.Ytmelblnflalanaa
open Go Go.RowKit
set_option linter.unusedVariables false
set_option linter.unusedSimpArgs false
attribute [local go_sem] min_ints max_ints

theorem infoPZ : (Try.prog.info? 30).map (fun i => (i.zero, i.size, i.bytes)) = some (some (.pointer none), 1, 8) := by kernel_rfl
/-- What a row of the call's own of addresses holds. -/
theorem own_ptrs {w : World} {base : Nat} {e : TypeId} {v : Value} {vs : List Value} (h : w.ownsRow base e 1 v vs.length vs) : ∃ A cap, v = .slice A vs.length cap ∧ Ptrs w A vs := by
  obtain ⟨hl, h⟩ := h
  rcases h with ⟨rfl, h0⟩ | ⟨g, cap, cur, rfl, _, h1, _, _, _, h2⟩
  · refine ⟨none, 0, by rw [h0], fun j hj => by omega⟩
  · refine ⟨some ⟨g, 0, none⟩, cap, rfl, fun j hj => ⟨g, 0, rfl, ?_⟩⟩
    have e1 : cur.toList[j]? = vs[j]? := by rw [← h2, List.getElem?_take, if_pos (by omega)]
    rw [Nat.zero_add, World.cell?, h1]
    simp only [Option.isSome_none, Bool.false_eq_true, if_false]
    rw [← Array.getElem?_toList, e1, List.getD_eq_getElem?_getD, List.getElem?_eq_getElem hj]
    rfl
/-- A row of one address, and others behind it. -/
theorem append_ptrs (w : World) (v : Value) (A : Option Addr) (c : Nat) (vs : List Value) (base : Nat) (w1 : World) (hw : w1 = w.alloc (.cells #[v] 30)) (hbase : base ≤ w.heap.size) (hP : Ptrs w1 A vs) (h1 : ∀ u ∈ vs, u.oneCell' = true) (hl : vs.length ≤ 17592186044000) (hv1 : v.oneCell' = true) :
    ∃ v' w', (Builtin.append_ #[94, 94] 94 #[.slice (some ⟨w.heap.size, 0, none⟩) 1 1, .slice A vs.length c]).run Try.prog w1 = .ok v' w' ∧ w'.ownsRow base 30 1 v' (v :: vs).length (v :: vs) ∧ Below w.heap.size w w' := by
  obtain ⟨i0, hi, hz0, hz1, hz2⟩ := info_parts infoPZ
  have hblk : w1.heap[w.heap.size]? = some (.cells #[v] 30 (0, 0)) := by rw [hw]; exact heap_alloc_new _ _
  have hsz : w1.heap.size = w.heap.size + 1 := by rw [hw]; simp
  have hB1 : Below w.heap.size w w1 := by rw [hw]; exact (Below.refl _ _).alloc (Nat.le_refl _) _
  have hown : w1.ownsRow base 30 1 (.slice (some ⟨w.heap.size, 0, none⟩) 1 1) 1 [v] := ⟨rfl, .inr ⟨w.heap.size, 1, #[v], rfl, hbase, hblk, Nat.le_refl _, by decide, rfl, rfl⟩⟩
  cases A with
  | some a =>
    have hnews : ∀ j u, vs[j]? = some u → w1.cell? (a.add j) = some u := by
      intro j u hu
      have hj : j < vs.length := (List.getElem?_eq_some_iff.1 hu).1
      obtain ⟨b, off, e, hc⟩ := hP j hj
      simp only [Option.some.injEq] at e
      subst e
      have ea : (⟨b, off, none⟩ : Addr).add j = ⟨b, off + j, none⟩ := by unfold Addr.add; split <;> simp_all
      rw [ea, hc, List.getD_eq_getElem?_getD, hu]; rfl
    obtain ⟨v', w', hr, ho, hg, _⟩ := run_append_own (P := Try.prog) w1 base 94 94 30 i0 (.pointer none) 1 8 Try.underlying94 hi hz0 hz1 hz2 rfl (by decide) _ 1 [v] hown a vs.length c vs (by simp) hnews h1 (by simp only [maxLen]; omega) (by omega) (by omega)
    refine ⟨v', w', hr, ?_, hB1.grown hg (by omega) (fun k hk => by simp [Value.ownBlock] at hk; omega)⟩
    rw [List.length_cons, Nat.add_comm]; exact ho
  | none =>
    have h0 : vs = [] := by
      cases vs with
      | nil => rfl
      | cons x xs => obtain ⟨b, off, e, _⟩ := hP 0 (by simp); cases e
    subst h0
    have hst := run_storeCells_at Try.prog w.heap.size (1 * i0.size) 30 [] 0 #[v] w1 hblk (by rw [hz1]; simp) (by simp)
    refine ⟨.slice (some ⟨w.heap.size, 0, none⟩) 1 1, w1.setRow w.heap.size #[v], ?_, ?_, ?_⟩
    · have hf : (Builtin.firstCells 1 0 (.slice none 0 c)).run Try.prog w1 = .ok #[] w1 := by simp [Builtin.firstCells]
      simp [hz1] at hst
      simp [Builtin.append_, run_underlying Try.underlying94, sizeOf, typeInfo, hi, Builtin.lenOf, hf, Addr.add_lit, hz1, hst]
    · refine ⟨rfl, .inr ⟨w.heap.size, 1, #[v], rfl, hbase, setRow_heap w1 _ #[v] _ _ _ hblk, Nat.le_refl _, by decide, rfl, rfl⟩⟩
    · exact hB1.trans ⟨rfl, rfl, rfl, by simp, fun k hk => setRow_other w1 _ k _ (by omega)⟩

/-- The widest of both cells, in the first n + 1 rows. -/
def maxF (M V : Mat) : Mat := fun a c => max (M a c) (V a c)
def maxW (n : Nat) (M V : Mat) : Mat := mix (maxF M V) M n (n + 1) 0
theorem maxW_in {n : Nat} {M V : Mat} {a c : Nat} (ha : a ≤ n) (hc : c ≤ n) : maxW n M V a c = max (M a c) (V a c) := by
  unfold maxW mix
  rw [if_pos (.inl ⟨by omega, hc⟩)]; rfl
/-- The hull of the first p zones; none: so far all are empty. -/
def hullUp (n : Nat) (ms : List Mat) : Nat → Option Mat
  | 0 => none
  | p + 1 => if (ms.getD p fun _ _ => 0) 0 0 < 1 then hullUp n ms p else match hullUp n ms p with
    | none => some (openW (some (n, ms.getD p fun _ _ => 0)))
    | some H => some (maxW n H (openW (some (n, ms.getD p fun _ _ => 0))))
/-- What Hull answers. -/
def hullA (n : Nat) (m : Mat) (ms : List Mat) : Option Mat × Int := match hullUp n (m :: ms) (m :: ms).length with
  | none => ofP n (flat n (openW (some (n, m))))
  | some H => ofP n (flat n H)
theorem hullUp_skip {n p : Nat} {ms : List Mat} {m : Mat} (hm : (ms.getD p fun _ _ => 0) = m) (h : m 0 0 < 1) : hullUp n ms (p + 1) = hullUp n ms p := by rw [hullUp, hm, if_pos h]
theorem hullUp_first {n p : Nat} {ms : List Mat} {m : Mat} (hm : (ms.getD p fun _ _ => 0) = m) (h : ¬ m 0 0 < 1) (hn : hullUp n ms p = none) : hullUp n ms (p + 1) = some (openW (some (n, m))) := by rw [hullUp, hm, if_neg h, hn]
theorem hullUp_more {n p : Nat} {ms : List Mat} {m H : Mat} (hm : (ms.getD p fun _ _ => 0) = m) (h : ¬ m 0 0 < 1) (hn : hullUp n ms p = some H) : hullUp n ms (p + 1) = some (maxW n H (openW (some (n, m)))) := by rw [hullUp, hm, if_neg h, hn]
theorem rng_hull {n : Nat} {ms : List Mat} (hr : ∀ j, j < ms.length → RightM n (ms.getD j fun _ _ => 0)) : ∀ p, p ≤ ms.length → ∀ H, hullUp n ms p = some H → Rng n H
  | 0, _, H, h => by cases h
  | p + 1, hp, H, h => by
    have h2 := rng_open (hr p (by omega))
    unfold hullUp at h
    split at h
    · exact rng_hull hr p (by omega) H h
    · split at h
      · simp only [Option.some.injEq] at h; subst h; exact h2
      · rename_i H' he
        simp only [Option.some.injEq] at h
        subst h
        intro i j hi hj
        have a1 := rng_hull hr p (by omega) H' he i j hi hj
        have a2 := h2 i j hi hj
        rw [maxW_in (by omega) (by omega)]
        omega
/-- The block that the hull's cells lie in, or nil. -/
def HullR (w1 : World) (n : Nat) (o : Option Mat) (v : Value) (wr : World) : Prop := Below w1.heap.size w1 wr ∧ (match o with
  | none => v = .pointer none
  | some H => ∃ g, v = .pointer (some ⟨g, 0, none⟩) ∧ w1.heap.size ≤ g ∧ MatAt wr g 71 .i32 n H)
theorem HullR.step {w1 wr w' : World} {n : Nat} {o : Option Mat} {v : Value} (h : HullR w1 n o v wr) (hb : Below wr.heap.size wr w') : HullR w1 n o v w' := by
  refine ⟨h.1.trans (hb.mono h.1.size), ?_⟩
  cases o with
  | none => exact h.2
  | some H => obtain ⟨g, e, hg, hm⟩ := h.2; exact ⟨g, e, hg, hm.later hb⟩

end Go.Proofs.Ytmelblnflalanaa

/- The hull of zones: plain. -/
namespace Go.Proofs.Ytmelblnflalanaa
set_option linter.unusedVariables false
set_option linter.unusedSimpArgs false

/-- The zone is not empty, and its cells are the strictest. -/
structure ClosedZ (n : Nat) (m : Mat) : Prop where
  full : FullZ n m
  tri : Tri n (widW m) (n + 1)
theorem closed_of {n : Nat} {M m' : Mat} (h0 : ∀ j, j ≤ n → M 0 j ≤ 1) (ha : allR n m') (hc : Closed n M m') : ClosedZ n (narM n m') := by
  have hcell : ∀ i j, i ≤ n → j ≤ n → widW (narM n m') i j = m' i j := fun i j hi hj => by
    unfold widW narM
    rw [if_pos ⟨hi, hj⟩]
    exact wid_nar (ha i hi j hj)
  refine ⟨full_of h0 ha hc, fun l hl i j hi hj => ?_⟩
  rw [hcell i j hi hj, hcell i l hi (by omega), hcell l j (by omega) hj]
  exact hc.tri l hl i j hi hj
/-- A zone that Of made is empty, or closed. -/
theorem zone_closed {n : Int} {cells : List Int} {k : Nat} {m : Mat} (e : zOf n cells = some (k, m)) : m = (fun _ _ => 0) ∨ ClosedZ k m := by
  unfold zOf at e
  cases hz : (ofP n cells).1 with
  | none => rw [hz] at e; cases e
  | some m0 =>
    rw [hz] at e
    simp only [Option.map_some, Option.some.injEq, Prod.mk.injEq] at e
    obtain ⟨e1, e2⟩ := e
    subst e2
    unfold ofP at hz
    split at hz
    · rename_i hn
      split at hz
      · rename_i hl
        split at hz
        · rename_i hr
          obtain ⟨q, rfl⟩ : ∃ q : Nat, n = q := ⟨n.toNat, by omega⟩
          rw [Int.toNat_natCast] at hz e1
          subst e1
          have hl' : cells.length = (q + 1) * (q + 1) := by exact_mod_cast hl
          have hr' : ∀ p, p < (q + 1) * (q + 1) → rightB (cells.getD p 0) = true := fun p hp => (all_getD cells rightB 0).1 hr p (by omega)
          rw [hl'] at hz
          rcases zoneP_is (by omega) (keepUp_fit q cells _ hr') hz with ⟨h, _⟩ | ⟨m', hm, ha, hzz, hc⟩
          · exact .inl h
          · right; rw [hzz]; exact closed_of (keepUp_top4 hr') ha hc
        · cases hz
      · cases hz
    · cases hz
theorem wid_max {x y : Int} (hx : x ≤ 2147483647) (hy : y ≤ 2147483647) : wid (max x y) = max (wid x) (wid y) := by
  unfold wid none62
  rw [Int.max_def, Int.max_def]
  split <;> split <;> split <;> (try split) <;> omega
theorem right_fb {x : Int} (h : rightB x = true) : FB (wid x) := by
  unfold wid
  split
  · exact .inl rfl
  · rename_i e
    have := rightB_bd h e
    exact .inr (by omega)
theorem right_max {x y : Int} (hx : rightB x = true) (hy : rightB y = true) : rightB (max x y) = true := by
  rw [Int.max_def]; split <;> assumption
theorem ClosedZ.congr {n : Nat} {a b : Mat} (h : ClosedZ n a) (hab : Agree n a b) : ClosedZ n b := by
  refine ⟨⟨fun i j hi hj => ?_, fun i hi => ?_, fun j hj => ?_⟩, fun l hl i j hi hj => ?_⟩
  · rw [← hab i j hi hj]; exact h.full.right i j hi hj
  · rw [← hab i i hi hi]; exact h.full.one i hi
  · rw [← hab 0 j (by omega) hj]; exact h.full.top j hj
  · have := h.tri l hl i j hi hj
    unfold widW at this ⊢
    rw [hab i j hi hj, hab i l hi (by omega), hab l j (by omega) hj] at this
    exact this
theorem ClosedZ.join {n : Nat} {a b : Mat} (h : ClosedZ n a) (h' : ClosedZ n b) : ClosedZ n (maxF a b) := by
  refine ⟨⟨fun i j hi hj => right_max (h.full.right i j hi hj) (h'.full.right i j hi hj), fun i hi => ?_, fun j hj => ?_⟩, fun l hl i j hi hj => ?_⟩
  · show max (a i i) (b i i) = 1
    rw [h.full.one i hi, h'.full.one i hi]; rfl
  · show max (a 0 j) (b 0 j) ≤ 1
    have := h.full.top j hj
    have := h'.full.top j hj
    omega
  · have hcell : ∀ p q, p ≤ n → q ≤ n → widW (maxF a b) p q = max (widW a p q) (widW b p q) := fun p q hp hq =>
      wid_max (right_hi (h.full.right p q hp hq)).2 (right_hi (h'.full.right p q hp hq)).2
    have hl' : l ≤ n := by omega
    rw [hcell i j hi hj, hcell i l hi hl', hcell l j hl' hj]
    have t1 := h.tri l hl i j hi hj
    have t2 := h'.tri l hl i j hi hj
    have f1 : FB (widW a i l) := right_fb (h.full.right i l hi hl')
    have f2 : FB (widW a l j) := right_fb (h.full.right l j hl' hj)
    have f3 : FB (widW b i l) := right_fb (h'.full.right i l hi hl')
    have f4 : FB (widW b l j) := right_fb (h'.full.right l j hl' hj)
    have g1 : FB (Max.max (widW a i l) (widW b i l)) := by rw [Int.max_def]; split <;> assumption
    have g2 : FB (Max.max (widW a l j) (widW b l j)) := by rw [Int.max_def]; split <;> assumption
    have m1 := wsum_le f1 g1 f2 g2 (by omega) (by omega)
    have m2 := wsum_le f3 g1 f4 g2 (by omega) (by omega)
    omega
theorem ofP_closed {n : Nat} {H : Mat} (hn : n ≤ 8) (h : ClosedZ n H) : ofP n (flat n H) = (some (narM n (widW H)), 0) ∧ ∀ i j, i ≤ n → j ≤ n → narM n (widW H) i j = H i j := by
  have hall : allR n (widW H) := fun i hi j hj => by
    have := h.full.right i j hi hj
    unfold rightB at this
    have := of_decide_eq_true this
    unfold widW wid inR none62
    split <;> omega
  constructor
  · rw [ofP_wid hn h.full.ok]
    unfold zoneP
    rw [closed_id h.tri (fun i hi => by unfold widW; rw [h.full.one i hi]; decide)]
    simp only
    rw [if_pos hall]
  · intro i j hi hj
    have := right_hi (h.full.right i j hi hj)
    unfold narM nar widW wid none62
    rw [if_pos ⟨hi, hj⟩]
    split <;> split <;> omega
/-- What is known of the hull of the first p. -/
def HullInv (n : Nat) (ms : List Mat) (p : Nat) : Option Mat → Prop
  | none => ∀ q, q < p → (ms.getD q fun _ _ => 0) 0 0 < 1
  | some H => ClosedZ n H ∧ (∀ q, q < p → (ms.getD q fun _ _ => 0) 0 0 < 1 ∨ ∀ i, i ≤ n → ∀ j, j ≤ n → (ms.getD q fun _ _ => 0) i j ≤ H i j) ∧
    ∀ o : Mat, (∀ q, q < p → (ms.getD q fun _ _ => 0) 0 0 < 1 ∨ ∀ i, i ≤ n → ∀ j, j ≤ n → (ms.getD q fun _ _ => 0) i j ≤ o i j) → ∀ i, i ≤ n → ∀ j, j ≤ n → H i j ≤ o i j
theorem hull_inv {n : Nat} {ms : List Mat} (hk : ∀ j, j < ms.length → (ms.getD j fun _ _ => 0) = (fun _ _ => 0) ∨ ClosedZ n (ms.getD j fun _ _ => 0)) : ∀ p, p ≤ ms.length → HullInv n ms p (hullUp n ms p)
  | 0, _ => fun q hq => by omega
  | p + 1, hp => by
    have ih := hull_inv hk p (by omega)
    have hkp := hk p (by omega)
    obtain ⟨m, hm⟩ : ∃ m, (ms.getD p fun _ _ => 0) = m := ⟨_, rfl⟩
    rw [hm] at hkp
    by_cases he : m 0 0 < 1
    · rw [hullUp_skip hm he]
      cases hu : hullUp n ms p with
      | none =>
        rw [hu] at ih
        intro q hq
        by_cases e : q = p
        · subst e; rw [hm]; exact he
        · exact ih q (by omega)
      | some H =>
        rw [hu] at ih
        obtain ⟨h1, h2, h3⟩ := ih
        refine ⟨h1, fun q hq => ?_, fun o ho => h3 o fun q hq => ho q (by omega)⟩
        by_cases e : q = p
        · subst e; rw [hm]; exact .inl he
        · exact h2 q (by omega)
    · have hcl : ClosedZ n m := by
        rcases hkp with rfl | h
        · exact absurd (by decide) he
        · exact h
      have hag := open_agree n m
      cases hu : hullUp n ms p with
      | none =>
        rw [hullUp_first hm he hu]
        rw [hu] at ih
        refine ⟨hcl.congr fun i j hi hj => (hag i j hi hj).symm, fun q hq => ?_, fun o ho i hi j hj => ?_⟩
        · by_cases e : q = p
          · subst e; rw [hm]; exact .inr fun i hi j hj => by rw [hag i j hi hj]; exact Int.le_refl _
          · exact .inl (ih q (by omega))
        · rw [hag i j hi hj]
          rcases ho p (by omega) with h | h
          · rw [hm] at h; exact absurd h he
          · rw [hm] at h; exact h i hi j hj
      | some H =>
        rw [hullUp_more hm he hu]
        rw [hu] at ih
        obtain ⟨h1, h2, h3⟩ := ih
        have hmx : Agree n (maxF H m) (maxW n H (openW (some (n, m)))) := fun i j hi hj => by
          rw [maxW_in hi hj, hag i j hi hj]; rfl
        refine ⟨(h1.join hcl).congr hmx, fun q hq => ?_, fun o ho i hi j hj => ?_⟩
        · by_cases e : q = p
          · subst e; rw [hm]
            refine .inr fun i hi j hj => ?_
            rw [← hmx i j hi hj]
            show m i j ≤ max (H i j) (m i j)
            omega
          · rcases h2 q (by omega) with h | h
            · exact .inl h
            · refine .inr fun i hi j hj => ?_
              have := h i hi j hj
              rw [← hmx i j hi hj]
              show _ ≤ max (H i j) (m i j)
              omega
        · rw [← hmx i j hi hj]
          show max (H i j) (m i j) ≤ _
          have a1 := h3 o (fun q hq => ho q (by omega)) i hi j hj
          rcases ho p (by omega) with h | h
          · rw [hm] at h; exact absurd h he
          · rw [hm] at h
            have a2 := h i hi j hj
            omega
/-- The hull includes all, and each zone that includes all includes it. -/
theorem hull_law {n : Nat} {m : Mat} {ms : List Mat} (hn : n ≤ 8) (hk : ∀ j, j < (m :: ms).length → ((m :: ms).getD j fun _ _ => 0) = (fun _ _ => 0) ∨ ClosedZ n ((m :: ms).getD j fun _ _ => 0)) :
    ∃ h, hullA n m ms = (some h, 0) ∧ (∀ q, q < (m :: ms).length → inclM n h ((m :: ms).getD q fun _ _ => 0) = true) ∧ ∀ o, (∀ q, q < (m :: ms).length → inclM n o ((m :: ms).getD q fun _ _ => 0) = true) → inclM n o h = true := by
  have hi := hull_inv hk (m :: ms).length (Nat.le_refl _)
  unfold hullA
  cases hu : hullUp n (m :: ms) (m :: ms).length with
  | none =>
    rw [hu] at hi
    have h0 := hi 0 (by simp)
    have hm : m = (fun _ _ => 0) := by
      rcases hk 0 (by simp) with h | h
      · exact h
      · have := h.full.one 0 (by omega); rw [this] at h0; omega
    subst hm
    refine ⟨fun _ _ => 0, ofP_zero n hn, fun q hq => decide_eq_true (.inl (hi q hq)), fun o _ => decide_eq_true (.inl (by decide))⟩
  | some H =>
    rw [hu] at hi
    obtain ⟨h1, h2, h3⟩ := hi
    obtain ⟨e1, e2⟩ := ofP_closed hn h1
    refine ⟨_, e1, fun q hq => decide_eq_true ?_, fun o ho => decide_eq_true (.inr fun i hi j hj => ?_)⟩
    · rcases h2 q hq with h | h
      · exact .inl h
      · exact .inr fun i hi j hj => by rw [e2 i j hi hj]; exact h i hi j hj
    · rw [e2 i j hi hj]
      exact h3 o (fun q hq => of_decide_eq_true (ho q hq)) i hi j hj

end Go.Proofs.Ytmelblnflalanaa
