/- Texts of ours, laid together: Og, Oh, Oi, Oj, Px, On, Oq, Os, Df, Dg, Bl, Dh, Py, Ap, Ot, Ph, Jl. -/
import Derived.Deep.RegionHeld3
import Derived.Deep.MidRow
import Derived.Test.YtkgohhdenfnfpaaProg
import Derived.Lib.Hide
import Derived.Deep.LoopGhost
import Derived.Deep.QuietTactic
import Derived.BigQuiet
import Derived.BigRegion
import Derived.StillTailTactics
import Derived.KernelRfl
import Derived.WalkKit
import Derived.Test.YtkgohhdenfnfpaaMg3
/- A clock set to a number. -/
namespace Go.Proofs.Ytkgohhdenfnfpaa
open Go Go.RowKit
set_option linter.unusedVariables false
set_option linter.unusedSimpArgs false
attribute [local go_sem] min_ints max_ints

/-- Is a number a clock's? -/
def isB (n : Nat) (x : Int) : Bool := decide (1 ≤ x ∧ x ≤ n)
/-- The error of a clock that is to be set. -/
def setE (z : Option (Nat × Mat)) (c k : Int) : Int := match z with
  | none => 1
  | some (n, _) => if isB n c = true then (if 0 ≤ k ∧ k ≤ 1048576 then 0 else 13) else 12
end Go.Proofs.Ytkgohhdenfnfpaa

/- Reset. -/
namespace Go.Proofs.Ytkgohhdenfnfpaa
open Go Go.RowKit
set_option linter.unusedVariables false
set_option linter.unusedSimpArgs false
attribute [local go_sem] min_ints max_ints

theorem rng_forget {n : Nat} {m : Mat} (h : Rng n m) (x : Nat) (hx : x < n + 1) : ∀ p, p ≤ n + 1 → Rng n (forgetUp x m p)
  | 0, _ => h
  | p + 1, hp => by
    have h1 := rng_forget h x hx p (by omega)
    unfold forgetUp
    split
    · exact h1
    · have h2 := rng_upd h1 x p 2147483647 (by decide) (by decide)
      exact rng_upd h2 p x _ (h2 p 0 (by omega) (by omega)).1 (h2 p 0 (by omega) (by omega)).2
/-- The cells when clock c is set to k. -/
def setW (m : Mat) (n c : Nat) (k : Int) : Mat := lessM (lessM (forgetUp c m (n + 1)) c 0 (2 * k + 1)) 0 c (-2 * k + 1)
theorem rng_set {n : Nat} {m : Mat} (h : Rng n m) (c : Nat) (hc : c < n + 1) (k : Int) (k0 : 0 ≤ k) (k1 : k ≤ 1048576) : Rng n (setW m n c k) :=
  rng_less (rng_less (rng_forget h c hc _ (Nat.le_refl _)) c 0 hc (by omega) _ (by omega) (by omega)) 0 c (by omega) hc _ (by omega) (by omega)
def resetW (z : Option (Nat × Mat)) (c : Nat) (k : Int) : Mat := if emptyP z then openW z else setW (openW z) (dimN z) c k

end Go.Proofs.Ytkgohhdenfnfpaa

/- Is a number a clock's, or 0? -/
namespace Go.Proofs.Ytkgohhdenfnfpaa
open Go Go.RowKit
set_option linter.unusedVariables false
set_option linter.unusedSimpArgs false
attribute [local go_sem] min_ints max_ints

def anyB (n : Nat) (x : Int) : Bool := decide (0 ≤ x ∧ x ≤ n)
end Go.Proofs.Ytkgohhdenfnfpaa

/- What of a zone keeps bounds. -/
namespace Go.Proofs.Ytkgohhdenfnfpaa
open Go Go.RowKit
set_option linter.unusedVariables false
set_option linter.unusedSimpArgs false
attribute [local go_sem] min_ints max_ints

/-- Are a limit's numbers clocks', or 0? -/
def clkB (n : Nat) (x : Int × Int × Int) : Bool := anyB n x.1 && anyB n x.2.1
/-- Is its bound right? -/
def bdB (x : Int × Int × Int) : Bool := rightB x.2.2
/-- The error of limits. -/
def conE (n : Nat) (l : List (Int × Int × Int)) : Int := if l.all (clkB n) = true then (if l.all bdB = true then 0 else 2) else 12
/-- Cells, made stricter by the first p limits. -/
def conUp (M : Mat) (l : List (Int × Int × Int)) : Nat → Mat
  | 0 => M
  | p + 1 => lessM (conUp M l p) (l.getD p (0, 0, 0)).1.toNat (l.getD p (0, 0, 0)).2.1.toNat (l.getD p (0, 0, 0)).2.2
/-- What Constrain answers of a zone. -/
def conP (n : Nat) (M : Mat) (l : List (Int × Int × Int)) : Option Mat × Int := if conE n l = 0 then ofP n (flat n (conUp M l l.length)) else (none, conE n l)

theorem rng_con {n : Nat} {M : Mat} {l : List (Int × Int × Int)} (h : Rng n M) (hc : l.all (clkB n) = true) (hb : l.all bdB = true) : ∀ p, p ≤ l.length → Rng n (conUp M l p)
  | 0, _ => h
  | p + 1, hp => by
    have h1 := rng_con h hc hb p (by omega)
    have a := (all_getD l (clkB n) (0, 0, 0)).1 hc p (by omega)
    have b := (all_getD l bdB (0, 0, 0)).1 hb p (by omega)
    unfold clkB anyB at a
    unfold bdB rightB at b
    simp only [Bool.and_eq_true, decide_eq_true_eq] at a b
    exact rng_less h1 _ _ (by omega) (by omega) _ (by omega) (by omega)

/-- The cells lie in the first new block. -/
def KW (w0 : World) (n : Nat) (M : Mat) (wr : World) : Prop := Below w0.heap.size w0 wr ∧ MatAt wr w0.heap.size 72 .i32 n M
theorem KW.step {w0 wr w' : World} {n : Nat} {M : Mat} (h : KW w0 n M wr) (hb : Below wr.heap.size wr w') : KW w0 n M w' := ⟨h.1.trans (hb.mono h.1.size), h.2.later hb⟩
theorem KW.alloc {w0 wr : World} {n : Nat} {M : Mat} (h : KW w0 n M wr) (o : Obj) : KW w0 n M (wr.alloc o) := h.step ((Below.refl _ _).alloc (Nat.le_refl _) o)
theorem KW.drew {w0 wr : World} {n : Nat} {M : Mat} (h : KW w0 n M wr) : KW w0 n M wr.drew := ⟨Below.drew h.1, h.2.drew⟩
theorem KW.only {w0 wr w' : World} {n : Nat} {M M' : Mat} (h : KW w0 n M wr) (ho : Only w0.heap.size wr w') (hm : MatAt w' w0.heap.size 72 .i32 n M') : KW w0 n M' w' :=
  ⟨h.1.trans (ho.below (Nat.le_refl _) h.1.size), hm⟩
/-- What the region that asks of two numbers reads. -/
def AsksR (w0 : World) (n : Nat) (M : Mat) (b : Nat) (x y : Int) (w : World) : Prop :=
  w.cell? ⟨w0.heap.size, 0, none⟩ = some (.int .i64 n) ∧ w.cell? ⟨b, 0, none⟩ = some (.int .i64 x) ∧ w.cell? ⟨b, 1, none⟩ = some (.int .i64 y) ∧ KW w0 n M w
theorem AsksR.step {w0 w w' : World} {n : Nat} {M : Mat} {b : Nat} {x y : Int} (h : AsksR w0 n M b x y w) (hb : Below w.heap.size w w') : AsksR w0 n M b x y w' := by
  obtain ⟨h1, h2, h3, h4⟩ := h
  exact ⟨(hb.cell (p := ⟨_, 0, none⟩) (World.block_lt_of_cell? w _ h1)).trans h1, (hb.cell (p := ⟨b, 0, none⟩) (World.block_lt_of_cell? w _ h2)).trans h2, (hb.cell (p := ⟨b, 1, none⟩) (World.block_lt_of_cell? w _ h3)).trans h3, h4.step hb⟩

end Go.Proofs.Ytkgohhdenfnfpaa

/- What of a zone keeps bounds: plain. -/
namespace Go.Proofs.Ytkgohhdenfnfpaa
set_option linter.unusedVariables false
set_option linter.unusedSimpArgs false

theorem zoneP_low {n : Nat} {M : Mat} (h : M 0 0 < 1) : zoneP n M = (some (fun _ _ => 0), 0) := by
  have hc : closed n M = none := by
    unfold closed closeP
    rw [if_neg]
    intro h'
    have h1 := h' 0 (by omega)
    have h2 := fw_le 0 n M 0 0
    omega
  unfold zoneP
  rw [hc]
theorem zero_ok (n : Nat) : OkM n (fun _ _ => 0) := ⟨right_zero n, fun _ _ => by show (0 : Int) ≤ 1; omega, fun _ _ => by show (0 : Int) ≤ 1; omega⟩
theorem clk_parts {n : Nat} {x : Int × Int × Int} (h : clkB n x = true) : (0 ≤ x.1 ∧ x.1 ≤ n) ∧ (0 ≤ x.2.1 ∧ x.2.1 ≤ n) := by
  unfold clkB anyB at h
  simpa only [Bool.and_eq_true, decide_eq_true_eq] using h
theorem OkM.con {n : Nat} {m : Mat} {l : List (Int × Int × Int)} (h : OkM n m) (hc : l.all (clkB n) = true) (hb : l.all bdB = true) : ∀ p, p ≤ l.length → OkM n (conUp m l p)
  | 0, _ => h
  | p + 1, hp => by
    have ih := h.con hc hb p (by omega)
    have a := clk_parts ((all_getD l (clkB n) (0, 0, 0)).1 hc p (by omega))
    have b := (all_getD l bdB (0, 0, 0)).1 hb p (by omega)
    exact ih.less _ _ (by omega) (by omega) _ b
theorem Agree.con {n : Nat} {m o : Mat} {l : List (Int × Int × Int)} (h : Agree n m o) (hc : l.all (clkB n) = true) : ∀ p, p ≤ l.length → Agree n (conUp m l p) (conUp o l p)
  | 0, _ => h
  | p + 1, hp => by
    have ih := h.con hc p (by omega)
    have a := clk_parts ((all_getD l (clkB n) (0, 0, 0)).1 hc p (by omega))
    exact ih.less _ _ (by omega) (by omega) _
theorem con_le (m : Mat) (l : List (Int × Int × Int)) (i j : Nat) : ∀ p, conUp m l p i j ≤ m i j
  | 0 => Int.le_refl _
  | p + 1 => by
    have ih := con_le m l i j p
    unfold conUp lessM upd
    split
    · rename_i e
      rw [e.1, e.2] at ih ⊢
      omega
    · exact ih
theorem conE_parts {n : Nat} {l : List (Int × Int × Int)} (h : conE n l = 0) : l.all (clkB n) = true ∧ l.all bdB = true := by
  unfold conE at h
  by_cases a : l.all (clkB n) = true
  · rw [if_pos a] at h
    by_cases b : l.all bdB = true
    · exact ⟨a, b⟩
    · rw [if_neg b] at h; omega
  · rw [if_neg a] at h; omega
/-- What the document's Constrain answers. -/
def conQ (n : Nat) (m : Mat) (l : List (Int × Int × Int)) : Option Mat × Int :=
  if conE n l = 0 then (if m 0 0 = 1 then zoneP n (widW (conUp m l l.length)) else (some (fun _ _ => 0), 0)) else (none, conE n l)
theorem con_same {n : Nat} {m : Mat} (hn : n ≤ 8) (h : m = (fun _ _ => 0) ∨ FullZ n m) (l : List (Int × Int × Int)) : conP n (openW (some (n, m))) l = conQ n m l := by
  unfold conP conQ
  by_cases he : conE n l = 0
  · rw [if_pos he, if_pos he]
    obtain ⟨hc, hb⟩ := conE_parts he
    have hok : OkM n m := by
      rcases h with rfl | h
      · exact zero_ok n
      · exact h.ok
    rw [flat_congr ((open_agree n m).con hc l.length (Nat.le_refl _)), ofP_wid hn (hok.con hc hb _ (Nat.le_refl _))]
    rcases h with rfl | h
    · rw [if_neg (by decide)]
      refine zoneP_low ?_
      have := con_le (fun _ _ => 0) l 0 0 l.length
      unfold widW wid
      rw [if_neg (by omega)]; omega
    · rw [if_pos (h.one 0 (by omega))]
  · rw [if_neg he, if_neg he]

end Go.Proofs.Ytkgohhdenfnfpaa

/- The operations, asked of nil. -/
namespace Go.Proofs.Ytkgohhdenfnfpaa
open Go Go.RowKit
set_option linter.unusedVariables false
set_option linter.unusedSimpArgs false

/-- No zone, and the error of nil. -/
def NilEnds (w : World) (e : Ending) (w' : World) : Prop := e = .returned (.tuple #[.pointer none, .int .i64 1]) ∧ Below w.heap.size w w'
end Go.Proofs.Ytkgohhdenfnfpaa

/- And, Hull: nil among the zones. -/
namespace Go.Proofs.Ytkgohhdenfnfpaa
open Go Go.RowKit
set_option linter.unusedVariables false
set_option linter.unusedSimpArgs false

/-- A list of addresses that can be read. -/
def Ptrs (w : World) (A : Option Addr) (vs : List Value) : Prop := ∀ j, j < vs.length → ∃ b off, A = some ⟨b, off, none⟩ ∧ w.cell? ⟨b, off + j, none⟩ = some (vs.getD j (.pointer none))
theorem Ptrs.below {w w' : World} {A : Option Addr} {vs : List Value} (h : Ptrs w A vs) (hb : Below w.heap.size w w') : Ptrs w' A vs := fun j hj => by
  obtain ⟨b, off, e, hc⟩ := h j hj
  exact ⟨b, off, e, (hb.cell (p := ⟨b, off + j, none⟩) (World.block_lt_of_cell? w _ hc)).trans hc⟩
theorem ptrs_new (w : World) (e : TypeId) (vs : List Value) : Ptrs (w.alloc (.cells vs.toArray e (0, 0))) (some ⟨w.heap.size, 0, none⟩) vs := fun j hj => by
  refine ⟨_, 0, rfl, ?_⟩
  have h1 := heap_alloc_new w (.cells vs.toArray e (0, 0))
  rw [Nat.zero_add]
  unfold World.cell?
  rw [h1]
  show vs.toArray[j]? = _
  rw [List.getElem?_toArray, List.getElem?_eq_getElem hj, List.getD_eq_getElem?_getD, List.getElem?_eq_getElem hj]
  rfl

theorem up_nil' (w : World) : Calls Try.prog 9 #[.pointer none] w (NilEnds w) := (up_nil w).mono fun e w' ⟨he, hw⟩ => ⟨he, hw ▸ Below.refl _ _⟩
end Go.Proofs.Ytkgohhdenfnfpaa

/- What zones have in common. -/
namespace Go.Proofs.Ytkgohhdenfnfpaa
open Go Go.RowKit
set_option linter.unusedVariables false
set_option linter.unusedSimpArgs false
attribute [local go_sem] min_ints max_ints

/-- Zones of k clocks, one behind the other. -/
def ZonesV (w : World) (A : Option Addr) (vs : List Value) (k : Nat) (ms : List Mat) : Prop :=
  Ptrs w A vs ∧ vs.length = ms.length ∧ ∀ j, j < ms.length → ZoneV 62 w (vs.getD j (.pointer none)) (some (k, ms.getD j fun _ _ => 0))
theorem ZonesV.below {w w' : World} {A : Option Addr} {vs : List Value} {k : Nat} {ms : List Mat} (h : ZonesV w A vs k ms) (hb : Below w.heap.size w w') : ZonesV w' A vs k ms :=
  ⟨h.1.below hb, h.2.1, fun j hj => (h.2.2 j hj).below hb⟩

/-- The strictest of both cells, in the first n + 1 rows. -/
def minF (M V : Mat) : Mat := fun a c => min (M a c) (V a c)
def minW (n : Nat) (M V : Mat) : Mat := mix (minF M V) M n (n + 1) 0
theorem minW_in {n : Nat} {M V : Mat} {a c : Nat} (ha : a ≤ n) (hc : c ≤ n) : minW n M V a c = min (M a c) (V a c) := by
  unfold minW mix
  rw [if_pos (.inl ⟨by omega, hc⟩)]; rfl
def andUp (n : Nat) (M : Mat) (ms : List Mat) : Nat → Mat
  | 0 => M
  | p + 1 => minW n (andUp n M ms p) (openW (some (n, ms.getD p fun _ _ => 0)))
theorem rng_and {n : Nat} {M : Mat} {ms : List Mat} (h : Rng n M) (hr : ∀ j, j < ms.length → RightM n (ms.getD j fun _ _ => 0)) : ∀ p, p ≤ ms.length → Rng n (andUp n M ms p)
  | 0, _ => h
  | p + 1, hp => fun i j hi hj => by
    have h1 := rng_and h hr p (by omega) i j hi hj
    have h2 := rng_open (hr p (by omega)) i j hi hj
    unfold andUp
    rw [minW_in (by omega) (by omega)]
    omega
theorem less_mix (M V : Mat) (n i j : Nat) (hj : j ≤ n) : lessM (mix (minF M V) M n i j) i j (V i j) = mix (minF M V) M n i (j + 1) := by
  unfold lessM
  rw [mix_here]
  exact mix_step _ _ _ _ _ hj

end Go.Proofs.Ytkgohhdenfnfpaa

/- Does a zone include another one? -/
namespace Go.Proofs.Ytkgohhdenfnfpaa
open Go.RowKit
set_option linter.unusedVariables false
set_option linter.unusedSimpArgs false

theorem empty_yes (b n : Nat) (m : Mat) (w : World) (h : MatAt w b 62 .i32 n m) (hm : m 0 0 < 1) : Calls Try.prog 6 #[.pointer (some ⟨b, 0, none⟩)] w fun e w' => e = .returned (.bool true) ∧ w' = w :=
  (empty_zone b n m w h).mono fun _ _ k => ⟨by rw [k.1, decide_eq_true hm], k.2.symm⟩
theorem empty_no (b n : Nat) (m : Mat) (w : World) (h : MatAt w b 62 .i32 n m) (hm : ¬ m 0 0 < 1) : Calls Try.prog 6 #[.pointer (some ⟨b, 0, none⟩)] w fun e w' => e = .returned (.bool false) ∧ w' = w :=
  (empty_zone b n m w h).mono fun _ _ k => ⟨by rw [k.1, decide_eq_false hm], k.2.symm⟩

/-- Is o in m? -/
def inclM (n : Nat) (m o : Mat) : Bool := decide (o 0 0 < 1 ∨ ∀ i, i ≤ n → ∀ j, j ≤ n → o i j ≤ m i j)
def inclP (z o : Option (Nat × Mat)) : Bool := match z, o with
  | some (n, m), some (k, o) => decide (n = k) && inclM n m o
  | _, _ => false

/-- What was there is there; so far no cell of o is greater. -/
def InclR (w0 : World) (n : Nat) (m o : Mat) (i j : Nat) (wr : World) : Prop :=
  Below w0.heap.size w0 wr ∧ (∀ a c, a < i ∨ (a = i ∧ c < j) → c ≤ n → o a c ≤ m a c) ∧ i ≤ n + 1 ∧ j ≤ n + 1

set_option maxRecDepth 100000 in
set_option maxHeartbeats 2000000 in
theorem incl_full (b c n : Nat) (m o : Mat) (w : World) (hn : n ≤ 8) (h : MatAt w b 62 .i32 n m) (h' : MatAt w c 62 .i32 n o) (he : ¬ o 0 0 < 1) :
    Calls Try.prog 11 #[.pointer (some ⟨b, 0, none⟩), .pointer (some ⟨c, 0, none⟩)] w fun e w' => e = .returned (.bool (inclM n m o)) ∧ Below w.heap.size w w' := by
  have H := Lib.hid h
  have H' := Lib.hid h'
  have HE := Lib.hid he
  clear h h' he
  go_enter Try.func11, Try.ntmps11
  go_wp2_with fail
  refine (alike_two b n c n m o _ H.out H'.out).mono ?_
  rintro e w1 ⟨rfl, q, rfl⟩
  have hd : decide ((n : Int) = n) = true := decide_eq_true rfl
  have h0 := (H.out.drewN q).head
  have HS := Lib.hid (show InclR w n m o 0 0 (w.drewN q) from ⟨belowN (Below.refl _ _) q, fun a c h => by omega, by omega, by omega⟩)
  generalize w.drewN q = wq at *
  go_wp2
  clear hd
  go_loopg [17] (n + 1) (fun g v wr => ∃ i : Nat, v = .int .i64 i ∧ InclR w n m o i 0 wr ∧ Hid (g + i = n + 1))
  case atStart => exact ⟨0, by simp, HS.out, by show _ = _; omega⟩
  case round =>
    clear HS h0
    obtain ⟨i, rfl, HA, HG⟩ := hrel
    have HI := Lib.hid HA
    have h0 := (H.out.later HA.1).head
    clear HA
    by_cases hi : i < n + 1
    · have hii : (i : Int) < (n : Int) + 1 := by omega
      go_wp2
      go_loopg [26] (n + 1) (fun g v wr => ∃ j : Nat, v = .int .i64 j ∧ InclR w n m o i j wr ∧ Hid (g + j = n + 1))
      case atStart => exact ⟨0, by simp, HI.out, by show _ = _; omega⟩
      case round =>
        clear HI h0
        obtain ⟨j, rfl, HA, HG2⟩ := hrel
        have HJ := Lib.hid HA
        by_cases hj : j < n + 1
        · have hjj : (j : Int) < (n : Int) + 1 := by omega
          have c1 := (H.out.later HA.1).cell i j (by omega) (by omega)
          have c2 := (H'.out.later HA.1).cell i j (by omega) (by omega)
          have HO := Lib.hid (H'.out.later HA.1)
          have i9 : (i : Int) < 9 := by omega
          have j9 : (j : Int) < 9 := by omega
          clear HA
          go_wp2_with fail
          go_quiet ((go_at_call 6; exact Calls.quiet_of_same (empty_no c n o _ (by exact HO.out.drewN _) (by have h := HE.out; omega))))
          by_cases hc : m i j < o i j
          · have d1 : decide (m i j < o i j) = true := decide_eq_true hc
            go_wp2
            go_ret
            have hf : inclM n m o = false := by
              unfold inclM
              rw [decide_eq_false_iff_not]
              rintro (h1 | h1)
              · have h2 := HE.out; omega
              · have := h1 i (by omega) j (by omega); omega
            exact ⟨by rw [hf]; rfl, belowN HJ.out.1 _⟩
          · have d1 : decide (m i j < o i j) = false := decide_eq_false hc
            go_wp2
            go_roundg (gk - 1)
            case measure => have h := HG2.out; omega
            case rel =>
              refine ⟨j + 1, by go_num, ⟨belowN HJ.out.1 _, fun a e hae he => ?_, HJ.out.2.2.1, by omega⟩, by have h := HG2.out; show _ = _; omega⟩
              by_cases e2 : a = i ∧ e = j
              · obtain ⟨rfl, rfl⟩ := e2; omega
              · exact HJ.out.2.1 a e (by omega) he
        · have hjj : ¬ (j : Int) < (n : Int) + 1 := by omega
          clear HA
          go_wp2
          go_roundg (n - i)
          case measure => have h := HG.out; omega
          case rel => exact ⟨i + 1, by go_num, ⟨HJ.out.1, fun a e hae he => HJ.out.2.1 a e (by omega) he, by omega, by omega⟩, by show _ = _; omega⟩
    · have hii : ¬ (i : Int) < (n : Int) + 1 := by omega
      go_wp2
      go_ret
      have hf : inclM n m o = true := by
        unfold inclM
        rw [decide_eq_true_iff]
        right
        intro a ha e he
        exact HI.out.2.1 a e (by omega) he
      exact ⟨by rw [hf]; rfl, HI.out.1⟩

set_option maxRecDepth 100000 in
set_option maxHeartbeats 2000000 in
theorem incl_none (b c n : Nat) (m o : Mat) (w : World) (hn : n ≤ 8) (h : MatAt w b 62 .i32 n m) (h' : MatAt w c 62 .i32 n o) (he : o 0 0 < 1) :
    Calls Try.prog 11 #[.pointer (some ⟨b, 0, none⟩), .pointer (some ⟨c, 0, none⟩)] w fun e w' => e = .returned (.bool (inclM n m o)) ∧ Below w.heap.size w w' := by
  have hf : inclM n m o = true := by unfold inclM; rw [decide_eq_true_iff]; exact .inl he
  rw [hf]
  clear hf
  have H := Lib.hid h
  have H' := Lib.hid h'
  have HE := Lib.hid he
  clear h h' he
  go_enter Try.func11, Try.ntmps11
  go_wp2_with fail
  refine (alike_two b n c n m o _ H.out H'.out).mono ?_
  rintro e w1 ⟨rfl, q, rfl⟩
  have hd : decide ((n : Int) = n) = true := decide_eq_true rfl
  have h0 := (H.out.drewN q).head
  have HS := Lib.hid (show Below w.heap.size w (w.drewN q) from belowN (Below.refl _ _) q)
  generalize w.drewN q = wq at *
  go_wp2
  clear hd
  go_loopg [17] (n + 1) (fun g v wr => ∃ i : Nat, v = .int .i64 i ∧ Below w.heap.size w wr ∧ Hid (g + i = n + 1))
  case atStart => exact ⟨0, by simp, HS.out, by show _ = _; omega⟩
  case round =>
    clear HS h0
    obtain ⟨i, rfl, HA, HG⟩ := hrel
    have HI := Lib.hid HA
    have h0 := (H.out.later HA).head
    clear HA
    by_cases hi : i < n + 1
    · have hii : (i : Int) < (n : Int) + 1 := by omega
      go_wp2
      go_loopg [26] (n + 1) (fun g v wr => ∃ j : Nat, v = .int .i64 j ∧ Below w.heap.size w wr ∧ Hid (g + j = n + 1))
      case atStart => exact ⟨0, by simp, HI.out, by show _ = _; omega⟩
      case round =>
        clear HI h0
        obtain ⟨j, rfl, HA, HG2⟩ := hrel
        have HJ := Lib.hid HA
        have HO := Lib.hid (H'.out.later HA)
        clear HA
        by_cases hj : j < n + 1
        · have hjj : (j : Int) < (n : Int) + 1 := by omega
          go_wp2_with fail
          go_quiet ((go_at_call 6; exact Calls.quiet_of_same (empty_yes c n o _ (by exact HO.out.drewN _) (by have h := HE.out; omega))))
          go_wp2
          go_roundg (gk - 1)
          case measure => have h := HG2.out; omega
          case rel => exact ⟨j + 1, by go_num, belowN HJ.out _, by have h := HG2.out; show _ = _; omega⟩
        · have hjj : ¬ (j : Int) < (n : Int) + 1 := by omega
          go_wp2
          go_roundg (n - i)
          case measure => have h := HG.out; omega
          case rel => exact ⟨i + 1, by go_num, HJ.out, by show _ = _; omega⟩
    · have hii : ¬ (i : Int) < (n : Int) + 1 := by omega
      go_wp2
      go_ret
      exact ⟨rfl, HI.out⟩

set_option maxRecDepth 100000 in
set_option maxHeartbeats 1000000 in
theorem incl_unlike (b c n k : Nat) (m o : Mat) (w : World) (h : MatAt w b 62 .i32 n m) (h' : MatAt w c 62 .i32 k o) (hne : n ≠ k) :
    Calls Try.prog 11 #[.pointer (some ⟨b, 0, none⟩), .pointer (some ⟨c, 0, none⟩)] w fun e w' => e = .returned (.bool false) ∧ Below w.heap.size w w' := by
  have hd : decide ((n : Int) = k) = false := decide_eq_false (by omega)
  go_enter Try.func11, Try.ntmps11
  go_wp2_with fail
  refine (alike_two b n c k m o _ h h').mono ?_
  rintro e w1 ⟨rfl, q, rfl⟩
  clear h h'
  go_wp2
  go_ret
  exact ⟨rfl, belowN (Below.refl _ _) q⟩
set_option maxRecDepth 100000 in
set_option maxHeartbeats 1000000 in
theorem incl_nil (v : Value) (w : World) : Calls Try.prog 11 #[.pointer none, v] w fun e w' => e = .returned (.bool false) ∧ Below w.heap.size w w' := by
  go_enter Try.func11, Try.ntmps11
  go_wp2_with fail
  refine (alike_nil v _).mono ?_
  rintro e w1 ⟨rfl, q, rfl⟩
  go_wp2
  go_ret
  exact ⟨rfl, belowN (Below.refl _ _) q⟩
set_option maxRecDepth 100000 in
set_option maxHeartbeats 1000000 in
theorem incl_ofnil (b n : Nat) (m : Mat) (w : World) (h : MatAt w b 62 .i32 n m) : Calls Try.prog 11 #[.pointer (some ⟨b, 0, none⟩), .pointer none] w fun e w' => e = .returned (.bool false) ∧ Below w.heap.size w w' := by
  go_enter Try.func11, Try.ntmps11
  go_wp2_with fail
  refine (alike_none b n m _ h).mono ?_
  rintro e w1 ⟨rfl, q, rfl⟩
  clear h
  go_wp2
  go_ret
  exact ⟨rfl, belowN (Below.refl _ _) q⟩

/-- Includes, of any two. -/
theorem includes_any (v v' : Value) (z o : Option (Nat × Mat)) (w : World) (h : ZoneV 62 w v z) (h' : ZoneV 62 w v' o) :
    Calls Try.prog 11 #[v, v'] w fun e w' => e = .returned (.bool (inclP z o)) ∧ Below w.heap.size w w' := by
  match z, h with
  | none, h =>
    have h : v = .pointer none := h
    subst h
    exact incl_nil v' w
  | some (n, m), ⟨b, e, hn, _, hm⟩ =>
    subst e
    match o, h' with
    | none, h' =>
      have h' : v' = .pointer none := h'
      subst h'
      exact incl_ofnil b n m w hm
    | some (k, o), ⟨c, e, _, _, ho⟩ =>
      subst e
      by_cases hk : n = k
      · subst hk
        have e : inclP (some (n, m)) (some (n, o)) = inclM n m o := by simp [inclP]
        rw [e]
        by_cases he : o 0 0 < 1
        · exact incl_none b c n m o w hn hm ho he
        · exact incl_full b c n m o w hn hm ho he
      · have e : inclP (some (n, m)) (some (k, o)) = false := by simp [inclP, hk]
        rw [e]
        exact incl_unlike b c n k m o w hm ho hk

end Go.Proofs.Ytkgohhdenfnfpaa

/- Are two zones the same? Their arrays are held against one another as wholes. -/
namespace Go.Proofs.Ytkgohhdenfnfpaa
open Go Go.RowKit
set_option linter.unusedVariables false
set_option linter.unusedSimpArgs false
section
variable {P : Program}
theorem eq_loop (d : Nat) (E n : Nat) (xs ys : Array Value) (f : Nat → Bool) (L : List Nat)
    (hpart : ∀ i, i ∈ L → ∀ w, ∃ a b, (part E xs (i * n)).run P w = .ok a w ∧ (part E ys (i * n)).run P w = .ok b w ∧ (Op.equalIn d E a b).run P w = .ok (f i) w) : ∀ (w : World),
    Sem.run P (forIn L ((none, ()) : Option Bool × Unit) fun i (__s : Option Bool × Unit) => (do
            let __do_lift ← part E xs (i * n)
            let __do_lift_1 ← part E ys (i * n)
            let __do_lift ← Op.equalIn d E __do_lift __do_lift_1
            if (!__do_lift) = true then pure (ForInStep.done ((some false, ()) : Option Bool × Unit)) else pure (ForInStep.yield ((none, ()) : Option Bool × Unit)) : Sem (ForInStep (Option Bool × Unit))))
          w = .ok (if L.all f then (none, ()) else (some false, ())) w := by
  induction L with
  | nil => intro w; simp
  | cons i L ih =>
    intro w
    obtain ⟨a, b, h1, h2, h3⟩ := hpart i (by simp) w
    simp only [List.forIn_cons, Sem.run_bind, h1, h2, h3, Result.andThen_ok]
    cases hf : f i with
    | false => simp [hf]
    | true =>
      simp only [Bool.not_true, Bool.false_eq_true, if_false, Sem.run_pure, Result.andThen_ok]
      rw [ih (fun j hj => hpart j (by simp [hj])) w]
      simp [hf]
/-- Equality of arrays, element by element. -/
theorem run_eq_array (d : Nat) (T len E n : Nat) (hu : P.underlying T = some (.array len E)) (hs : ∀ w, (sizeOf E).run P w = .ok n w) (xs ys : Array Value) (f : Nat → Bool)
    (hpart : ∀ i, i < len → ∀ w, ∃ a b, (part E xs (i * n)).run P w = .ok a w ∧ (part E ys (i * n)).run P w = .ok b w ∧ (Op.equalIn d E a b).run P w = .ok (f i) w) (w : World) :
    (Op.equalIn (d + 1) T (.agg xs) (.agg ys)).run P w = .ok ((List.range len).all f) w := by
  simp only [Op.equalIn, Sem.run_bind, run_underlying hu, Result.andThen_ok, hs]
  rw [Std.Legacy.Range.forIn_eq_forIn_range']
  simp only [Std.Legacy.Range.size, Nat.sub_zero, Nat.add_sub_cancel, Nat.div_one]
  rw [← List.range_eq_range', eq_loop d E n xs ys f (List.range len) (fun i hi => hpart i (by simpa using hi)) w]
  cases h : (List.range len).all f <;> simp
theorem part_cell (E : Nat) (xs : Array Value) (o : Nat) (v : Value) (ha : ∀ w, (isAgg E).run P w = .ok false w) (hv : xs[o]? = some v) (w : World) : (part E xs o).run P w = .ok v w := by
  simp [part, ha, hv]
theorem part_row (E s : Nat) (xs : Array Value) (o : Nat) (ha : ∀ w, (isAgg E).run P w = .ok true w) (hs : ∀ w, (sizeOf E).run P w = .ok s w) (w : World) : (part E xs o).run P w = .ok (.agg (xs.extract o (o + s))) w := by
  simp [part, ha, hs]
end

/-- The 81 cells as a list. -/
def cellsOf (k : IntKind) (m : Mat) : List Value := (List.range 81).map fun p => Value.int k (m (p / 9) (p % 9))
def eqM (m o : Mat) : Bool := (List.range 9).all fun i => (List.range 9).all fun j => m i j == o i j
theorem cellsOf_get (k : IntKind) (m : Mat) (p : Nat) (hp : p < 81) : (cellsOf k m).toArray[p]? = some (.int k (m (p / 9) (p % 9))) := by
  simp [cellsOf, hp]
theorem range_mat {w : World} {b n : Nat} {T : TypeId} {k : IntKind} {m : Mat} (h : MatAt w b T k n m) : w.rangeAt b 1 (cellsOf k m) := by
  intro j v hv
  by_cases hj : j < 81
  · simp [cellsOf, hj] at hv
    subst hv
    have := h.cell (j / 9) (j % 9) (by omega) (by omega)
    have e : 1 + j / 9 * 9 + j % 9 = 1 + j := by omega
    rw [e] at this; exact this
  · simp [cellsOf, hj] at hv

theorem eq_row (d : Nat) (m o : Mat) (i : Nat) (hi : i < 9) (w : World) :
    (Op.equalIn (d + 2) 57 (.agg ((cellsOf .i32 m).toArray.extract (i * 9) (i * 9 + 9))) (.agg ((cellsOf .i32 o).toArray.extract (i * 9) (i * 9 + 9)))).run Try.prog w =
      .ok ((List.range 9).all fun j => m i j == o i j) w := by
  refine run_eq_array (P := Try.prog) (d + 1) 57 9 41 1 Try.underlying57 (fun w => by kernel_rfl) _ _ _ (fun j hj w => ?_) w
  have e1 : (i * 9 + j) / 9 = i := by omega
  have e2 : (i * 9 + j) % 9 = j := by omega
  refine ⟨.int .i32 (m i j), .int .i32 (o i j), ?_, ?_, ?_⟩
  · refine part_cell _ _ _ _ (fun w => by kernel_rfl) ?_ w
    rw [Array.getElem?_extract, if_pos (by simp [cellsOf]; omega), Nat.mul_one, cellsOf_get _ _ _ (by omega), e1, e2]
  · refine part_cell _ _ _ _ (fun w => by kernel_rfl) ?_ w
    rw [Array.getElem?_extract, if_pos (by simp [cellsOf]; omega), Nat.mul_one, cellsOf_get _ _ _ (by omega), e1, e2]
  · exact run_equalIn_int w d _ .i32 .i32 _ _ Try.underlying41
theorem eq_mat (d : Nat) (m o : Mat) (w : World) :
    (Op.equalIn (d + 3) 58 (.agg (cellsOf .i32 m).toArray) (.agg (cellsOf .i32 o).toArray)).run Try.prog w = .ok (eqM m o) w :=
  run_eq_array (P := Try.prog) (d + 2) 58 9 57 9 Try.underlying58 (fun w => by kernel_rfl) _ _ _ (fun i hi w =>
    ⟨_, _, part_row _ 9 _ _ (fun w => by kernel_rfl) (fun w => by kernel_rfl) w, part_row _ 9 _ _ (fun w => by kernel_rfl) (fun w => by kernel_rfl) w, eq_row d m o i hi w⟩) w

theorem load_mat {w : World} {b n : Nat} {m : Mat} (h : MatAt w b 62 .i32 n m) :
    (Instr.loadAt 58 (.pointer (some ⟨b, 1, none⟩))).run Try.prog w = .ok (.agg (cellsOf .i32 m).toArray) w :=
  run_loadAt_mid w b 1 _ _ _ (range_mat h) Try.underlying58 rfl (by simp only [cellsOf, List.length_map, List.length_range]; kernel_rfl)

theorem quiet_value {P : Program} {ops : Array Oper} {w : World} {Q : Act → Prop} {a : Act} {o : Oper} {rest : List Oper} (v : Value) (hw : Region.wanted o (yielded ops a.tmps) = true)
    (hr : ∀ q, (execOp a.eval o).run P (w.drewN q) = .ok (.value v) (w.drewN q)) (h : wpQuiet P ops (fun w' => ∃ n, w' = w.drewN n) Q rest (a.put o.dst v)) :
    wpQuiet P ops (fun w' => ∃ n, w' = w.drewN n) Q (o :: rest) a := by
  unfold wpQuiet
  rw [if_pos hw]
  refine ⟨v, fun w' hw' => ?_, h⟩
  obtain ⟨n, rfl⟩ := hw'
  unfold Oper.quietAt
  rw [hr]
  exact ⟨rfl, rfl⟩
theorem exec_load {P : Program} {a : Act} {o : Oper} {w : World} {v p : Value} (ty : TypeId) (x : Operand) (ho : o.op = .load ty x) (hx : a.eval x = p) (hl : (Instr.loadAt ty p).run P w = .ok v w) :
    (execOp a.eval o).run P w = .ok (.value v) w := by
  simp only [execOp, ho, hx, Sem.run_bind, hl, Result.andThen_ok, Sem.run_pure]

def equalP (z o : Option (Nat × Mat)) : Bool := match z, o with
  | some (n, m), some (k, o) => decide (n = k) && eqM m o
  | _, _ => false
end Go.Proofs.Ytkgohhdenfnfpaa

/- The strictest of bounds. -/
namespace Go.Proofs.Ytkgohhdenfnfpaa
open Go Go.RowKit
set_option linter.unusedVariables false
set_option linter.unusedSimpArgs false

attribute [local go_sem] min_ints max_ints


/-- The least of the first p, and of a number. -/
def minUp (a : Int) (l : List Int) : Nat → Int
  | 0 => a
  | p + 1 => min (minUp a l p) (l.getD p 0)

end Go.Proofs.Ytkgohhdenfnfpaa

/- Have two zones a valuation in common? The strictest of bounds. -/
namespace Go.Proofs.Ytkgohhdenfnfpaa
open Go Go.RowKit
set_option linter.unusedVariables false
set_option linter.unusedSimpArgs false
attribute [local go_sem] min_ints max_ints
theorem least_two {w : World} {b : Nat} {x y : Int} (h0 : w.cell? ⟨b, 0, none⟩ = some (.int .i32 x)) (h1 : w.cell? ⟨b, 1, none⟩ = some (.int .i32 y)) : Ints w .i32 (some ⟨b, 0, none⟩) [x, y] := by
  intro j hj
  refine ⟨b, 0, rfl, ?_⟩
  match j, hj with
  | 0, _ => simpa using h0
  | 1, _ => simpa using h1

/-- The strictest cells of both. -/
def minM (m o : Mat) : Mat := fun i j => min (min 2147483647 (m i j)) (o i j)
theorem minM_right {n : Nat} {m o : Mat} (h : RightM n m) (h' : RightM n o) : RightM n (minM m o) := fun i j hi hj => by
  have h1 := h i j hi hj
  have h2 := h' i j hi hj
  unfold rightB at h1 h2 ⊢
  rw [decide_eq_true_iff] at h1 h2 ⊢
  simp only [minM, Int.min_def]
  split <;> split <;> omega
/-- The wide matrix of what two have in common. -/
def meetM (n : Nat) (m o : Mat) (p : Nat) : Mat := keepUp n (flat n (minM m o)) p
theorem meetM_fit {n : Nat} {m o : Mat} (h : RightM n (minM m o)) (p : Nat) (hp : p ≤ (n + 1) * (n + 1)) : Fit n 1073741824 (meetM n m o p) := by
  refine keepUp_fit _ _ _ fun q hq => ?_
  rw [flat_getD _ _ _ (by omega)]
  have : q / (n + 1) < n + 1 := Nat.div_lt_of_lt_mul (by omega)
  have := Nat.mod_lt q (show 0 < n + 1 by omega)
  exact h _ _ (by omega) (by omega)
theorem meetM_step {n : Nat} {m o : Mat} {i j : Nat} (hi : i < n + 1) (hj : j < n + 1) : meetM n m o (i * (n + 1) + j + 1) = keepM (meetM n m o (i * (n + 1) + j)) i j (min (min 2147483647 (m i j)) (o i j)) := by
  have h := at_row (i := i) hj
  have hlt : i * (n + 1) + j < (n + 1) * (n + 1) := by
    have : i * (n + 1) ≤ n * (n + 1) := Nat.mul_le_mul_right _ (by omega)
    rw [Nat.add_mul, Nat.one_mul]; omega
  show keepM (keepUp n (flat n (minM m o)) (i * (n + 1) + j)) ((i * (n + 1) + j) / (n + 1)) ((i * (n + 1) + j) % (n + 1)) ((flat n (minM m o)).getD (i * (n + 1) + j) 0) = _
  rw [flat_getD _ _ _ hlt, h.1, h.2]; rfl

/-- The wide matrix in the first new block, so far. -/
def MeetR (w0 : World) (n : Nat) (m o : Mat) (i j : Nat) (wr : World) : Prop :=
  Below w0.heap.size w0 wr ∧ MatAt wr w0.heap.size 77 .i64 n (meetM n m o (i * (n + 1) + j)) ∧ i ≤ n + 1 ∧ j ≤ n + 1

def meetsP (z o : Option (Nat × Mat)) : Bool := match z, o with
  | some (n, m), some (k, o) => decide (n = k) && (closed n (meetM n m o ((n + 1) * (n + 1)))).isSome
  | _, _ => false
def meets1 (n : Nat) (m o : Mat) : Bool := (closed n (meetM n m o ((n + 1) * (n + 1)))).isSome

theorem meet_below {w0 wr w3 : World} {o : Obj} (h : Below w0.heap.size w0 wr) (ho : Only w0.heap.size (wr.alloc o).drew w3) : Below w0.heap.size w0 w3 :=
  ((h.alloc h.size o).drew).trans (ho.below (Nat.le_refl _) (by have := h.size; simp; omega))

end Go.Proofs.Ytkgohhdenfnfpaa

/- And is Constrain by all cells: plain. -/
namespace Go.Proofs.Ytkgohhdenfnfpaa
set_option linter.unusedVariables false
set_option linter.unusedSimpArgs false

theorem ofP_min {n : Nat} {m o : Mat} (hn : n ≤ 8) (hr : RightM n (minM m o)) : ofP n (flat n (minM m o)) = zoneP n (meetM n m o ((n + 1) * (n + 1))) := by
  unfold ofP
  rw [if_pos (by omega), if_pos (by rw [flat_length]; simp), if_pos (flat_right hr), flat_length, Int.toNat_natCast]
  rfl
theorem minM_cell {n : Nat} {m o : Mat} (hm : RightM n m) {i j : Nat} (hi : i ≤ n) (hj : j ≤ n) : minM m o i j = min (m i j) (o i j) := by
  have := right_hi (hm i j hi hj)
  unfold minM
  omega
theorem and_one {n : Nat} {m o : Mat} (hm : RightM n m) : Agree n (andUp n (openW (some (n, m))) [o] 1) (minM m o) := fun i j hi hj => by
  show minW n (openW (some (n, m))) (openW (some (n, o))) i j = _
  rw [minW_in hi hj, open_agree n m i j hi hj, open_agree n o i j hi hj, minM_cell hm hi hj]
theorem and_two {n : Nat} {m o : Mat} (hm : RightM n m) : Agree n (andUp n (openW (some (n, o))) [m, o] 2) (minM m o) := fun i j hi hj => by
  show minW n (minW n (openW (some (n, o))) (openW (some (n, m)))) (openW (some (n, o))) i j = _
  rw [minW_in hi hj, minW_in hi hj, open_agree n m i j hi hj, open_agree n o i j hi hj, minM_cell hm hi hj]
  omega

/-- All cells, as limits, from the last row on. -/
def rowL (o : Mat) (i q : Nat) : List (Int × Int × Int) := (List.range q).map fun (j : Nat) => ((i : Int), (j : Int), o i j)
def allL (n : Nat) (o : Mat) : Nat → List (Int × Int × Int)
  | 0 => []
  | p + 1 => allL n o p ++ rowL o (n - p) (n + 1)
theorem rowL_next (o : Mat) (i q : Nat) : rowL o i (q + 1) = rowL o i q ++ [((i : Int), (q : Int), o i q)] := by simp [rowL, List.range_succ]
theorem rowL_length (o : Mat) (i q : Nat) : (rowL o i q).length = q := by simp [rowL]
theorem allL_length (n : Nat) (o : Mat) : ∀ p, (allL n o p).length = p * (n + 1)
  | 0 => by simp [allL]
  | p + 1 => by rw [allL, List.length_append, allL_length n o p, rowL_length, Nat.add_mul, Nat.one_mul]
theorem allL_is (n : Nat) (o : Mat) : ∀ p x, x ∈ allL n o p → ∃ i j : Nat, i ≤ n ∧ j ≤ n ∧ x = ((i : Int), (j : Int), o i j)
  | 0, x, h => by simp [allL] at h
  | p + 1, x, h => by
    rw [allL, List.mem_append] at h
    rcases h with h | h
    · exact allL_is n o p x h
    · simp only [rowL, List.mem_map, List.mem_range] at h
      obtain ⟨j, hj, e⟩ := h
      exact ⟨n - p, j, by omega, by omega, e.symm⟩
theorem allL_mem (n : Nat) (o : Mat) (i j : Nat) (hi : i ≤ n) (hj : j ≤ n) : ∀ p, n - i < p → ((i : Int), (j : Int), o i j) ∈ allL n o p
  | 0, h => by omega
  | p + 1, h => by
    rw [allL, List.mem_append]
    by_cases e : n - i = p
    · right
      have : n - p = i := by omega
      rw [this]
      exact List.mem_map.2 ⟨j, List.mem_range.2 (by omega), rfl⟩
    · left; exact allL_mem n o i j hi hj p (by omega)
theorem allL_conE {n : Nat} {o : Mat} (ho : RightM n o) (p : Nat) : (allL n o p).all (clkB n) = true ∧ (allL n o p).all bdB = true := by
  refine ⟨List.all_eq_true.2 fun x hx => ?_, List.all_eq_true.2 fun x hx => ?_⟩
  · obtain ⟨i, j, hi, hj, rfl⟩ := allL_is n o p x hx
    unfold clkB anyB
    simp only [Bool.and_eq_true, decide_eq_true_eq]
    omega
  · obtain ⟨i, j, hi, hj, rfl⟩ := allL_is n o p x hx
    exact ho i j hi hj
theorem con_hit {M o : Mat} {l : List (Int × Int × Int)} (hx : ∀ q, q < l.length → (l.getD q (0, 0, 0)).2.2 = o (l.getD q (0, 0, 0)).1.toNat (l.getD q (0, 0, 0)).2.1.toNat) (i j : Nat) : ∀ p, p ≤ l.length →
    (conUp M l p i j = M i j ∧ ∀ q, q < p → ¬ (i = (l.getD q (0, 0, 0)).1.toNat ∧ j = (l.getD q (0, 0, 0)).2.1.toNat)) ∨ conUp M l p i j = min (M i j) (o i j)
  | 0, _ => .inl ⟨rfl, fun q hq => by omega⟩
  | p + 1, hp => by
    have ih := con_hit (M := M) hx i j p (by omega)
    unfold conUp lessM upd
    by_cases e : i = (l.getD p (0, 0, 0)).1.toNat ∧ j = (l.getD p (0, 0, 0)).2.1.toNat
    · rw [if_pos e, hx p (by omega), ← e.1, ← e.2]
      right
      rcases ih with ⟨h, _⟩ | h
      · rw [h]
      · rw [h]; omega
    · rw [if_neg e]
      rcases ih with ⟨h, h2⟩ | h
      · refine .inl ⟨h, fun q hq => ?_⟩
        by_cases e2 : q = p
        · subst e2; exact e
        · exact h2 q (by omega)
      · exact .inr h
theorem con_all {n : Nat} {m o : Mat} (hm : RightM n m) : Agree n (conUp (openW (some (n, m))) (allL n o (n + 1)) (allL n o (n + 1)).length) (minM m o) := fun i j hi hj => by
  have hx : ∀ q, q < (allL n o (n + 1)).length → ((allL n o (n + 1)).getD q (0, 0, 0)).2.2 = o ((allL n o (n + 1)).getD q (0, 0, 0)).1.toNat ((allL n o (n + 1)).getD q (0, 0, 0)).2.1.toNat := fun q hq => by
    have hm : (allL n o (n + 1)).getD q (0, 0, 0) ∈ allL n o (n + 1) := by
      rw [List.getD_eq_getElem?_getD, List.getElem?_eq_getElem hq]; exact List.getElem_mem hq
    obtain ⟨a, b, _, _, e⟩ := allL_is n o _ _ hm
    rw [e]; simp
  rcases con_hit (M := openW (some (n, m))) hx i j _ (Nat.le_refl _) with ⟨_, h⟩ | h
  · obtain ⟨q, hq, e⟩ := List.getElem_of_mem (allL_mem n o i j hi hj (n + 1) (by omega))
    refine absurd ?_ (h q hq)
    rw [List.getD_eq_getElem?_getD, List.getElem?_eq_getElem hq, e]
    simp
  · rw [h, open_agree n m i j hi hj, minM_cell hm hi hj]
theorem con_cells {n : Nat} {m o : Mat} (hn : n ≤ 8) (hm : RightM n m) (ho : RightM n o) : conP n (openW (some (n, m))) (allL n o (n + 1)) = zoneP n (meetM n m o ((n + 1) * (n + 1))) := by
  have h := allL_conE ho (n + 1)
  unfold conP conE
  rw [h.1, h.2, if_pos rfl, if_pos rfl, if_pos rfl, flat_congr (con_all hm), ofP_min hn (minM_right hm ho)]

theorem zoneP_cases (n : Nat) (M : Mat) : (∃ a, zoneP n M = (some a, 0)) ∨ zoneP n M = (none, 10) := by
  unfold zoneP
  split
  · exact .inl ⟨_, rfl⟩
  · split
    · exact .inl ⟨_, rfl⟩
    · exact .inr rfl
theorem eqM_self (a : Mat) : eqM a a = true := by unfold eqM; simp
/-- What two have in common is in both; it is empty just if they do not meet. -/
theorem meet_zone {n : Nat} {m o a : Mat} {e : Int} (hn : n ≤ 8) (hm : RightM n m) (ho : RightM n o) (h : zoneP n (meetM n m o ((n + 1) * (n + 1))) = (some a, e)) :
    inclM n m a = true ∧ inclM n o a = true ∧ decide (a 0 0 < 1) = !meets1 n m o := by
  have hr := minM_right hm ho
  have hf := meetM_fit hr ((n + 1) * (n + 1)) (Nat.le_refl _)
  have h1 : (zoneP n (meetM n m o ((n + 1) * (n + 1)))).1 = some a := by rw [h]
  rcases zoneP_is hn hf h1 with ⟨ha, hc⟩ | ⟨m', hc, ha, hz, hcl⟩
  · subst ha
    refine ⟨decide_eq_true (.inl (by decide)), decide_eq_true (.inl (by decide)), ?_⟩
    unfold meets1
    rw [hc]; rfl
  · have h00 : a 0 0 = 1 := by
      rw [hz]
      unfold narM nar
      rw [if_pos ⟨by omega, by omega⟩, hcl.one 0 (by omega), if_neg (by decide)]
    have hcell : ∀ i j, i ≤ n → j ≤ n → a i j ≤ m i j ∧ a i j ≤ o i j := fun i j hi hj => by
      have e1 : a i j = nar (m' i j) := by rw [hz]; unfold narM; rw [if_pos ⟨hi, hj⟩]
      have e2 := hcl.le i j
      have e3 : meetM n m o ((n + 1) * (n + 1)) i j ≤ wid (minM m o i j) := by
        unfold meetM
        rw [keepUp_cell n (flat n (minM m o)) i j hi hj (fun q hq => by
          have := (all_getD _ rightB 0).1 (flat_right hr) q (by rw [flat_length]; exact hq)
          exact this) _ (Nat.le_refl _), if_pos (at_lt (by omega) (by omega)), flat_at _ (by omega) (by omega)]
        split <;> omega
      have e4 := minM_cell (o := o) hm hi hj
      have r1 := right_hi (hm i j hi hj)
      have r2 := right_hi (ho i j hi hj)
      have r3 := ha i hi j hj
      have b1 := hm i j hi hj
      have b2 := ho i j hi hj
      rw [e4] at e3
      unfold rightB at b1 b2
      simp only [decide_eq_true_eq] at b1 b2
      rw [e1]
      unfold inR at r3
      unfold wid at e3
      unfold nar
      unfold none62 at *
      split at e3 <;> split <;> omega
    refine ⟨decide_eq_true (.inr fun i hi j hj => (hcell i j hi hj).1), decide_eq_true (.inr fun i hi j hj => (hcell i j hi hj).2), ?_⟩
    unfold meets1
    rw [hc, decide_eq_false (by omega)]; rfl

end Go.Proofs.Ytkgohhdenfnfpaa

/- append onto nil, the source nil or not; rows of bounds of differences of the call's own. -/
namespace Go.Proofs.Ytkgohhdenfnfpaa
open Go Go.RowKit
set_option linter.unusedVariables false
set_option linter.unusedSimpArgs false

theorem run_append_fresh {P : Program} (w : World) (t ty e : TypeId) (i : TypeInfo) (z : Value) (size bytes : Nat) (ht : P.underlying t = some (.slice e)) (hi : P.info? e = some i) (hz : i.zero = some z)
    (hsize : i.size = size) (hby : i.bytes = bytes) (hzs : z.cells.size = size) (hsz : 0 < size) (A : Option Addr) (m c : Nat) (news : List Value) (hl : news.length = m * size) (h0 : A = none → m = 0)
    (hnews : ∀ ad, A = some ad → ∀ j u, news[j]? = some u → w.cell? (ad.add j) = some u) (h1 : ∀ u ∈ news, u.oneCell' = true) (h63 : m ≤ maxLen) (hbytes : m * bytes ≤ 140737488355328) :
    ∃ v' w', (Builtin.append_ #[t, t] ty #[.slice none 0 0, .slice A m c]).run P w = .ok v' w' ∧ w'.ownsRow w.heap.size e size v' m news ∧ w.grownBy w' none := by
  match A, h0, hnews with
  | none, h0, _ =>
    obtain rfl := h0 rfl
    have hn : news = [] := by simpa using hl
    subst hn
    refine ⟨.slice none 0 0, w, ?_, World.ownsRow_nil w _ _ _, ⟨rfl, rfl, rfl, Nat.le_refl _, fun _ _ _ => rfl⟩⟩
    simp [Builtin.append_, run_underlying ht, sizeOf, typeInfo, hi, Builtin.lenOf, Builtin.firstCells]
  | some ad, _, hnews =>
    obtain ⟨v', w', h2, h3, h4, _⟩ := run_append_own w w.heap.size t ty e i z size bytes ht hi hz hsize hby hzs hsz (.slice none 0 0) 0 [] (World.ownsRow_nil w _ _ _) ad m c news hl (hnews ad rfl) h1 (by omega) (by rw [Nat.zero_add]; exact hbytes) (Nat.le_refl _)
    refine ⟨v', w', h2, by simpa using h3, h4⟩

/-- An append whose run is known. -/
theorem wpList_append_run {P : Program} {w : World} {ops : Array Oper} {rest : List Oper} {o : Oper} {a : Act} {Q : Exit → Act → World → Prop} (hgd : o.guard = none) (s x : Operand) (t : TypeId)
    (ho : o.op = .call { callee := .builtin .append, args := #[s, x], argTypes := #[t, t] }) (v0 x0 v' : Value) (w' : World) (hs : a.eval s = v0) (hx : a.eval x = x0)
    (hr : (Builtin.append_ #[t, t] o.type #[v0, x0]).run P w = .ok v' w') (h : wpList P ops Q rest (a.put o.dst v') w') : wpList P ops Q (o :: rest) a w := by
  refine wpList_plain hgd fun _ hK => ?_
  unfold Oper.wp execOp
  simp only [ho, resolve, invoke, builtin, Sem.run_bind, Sem.run_pure, Result.andThen_ok, List.map_toArray, List.map_cons, List.map_nil, hs, hx, hr]
  exact hK _ _ h

/-- The cells of bounds of differences. -/
def lcells (l : List (Int × Int × Int)) : List Value := l.flatMap fun x => [.int .i64 x.1, .int .i64 x.2.1, .int .i32 x.2.2]
theorem lcells_length (l : List (Int × Int × Int)) : (lcells l).length = l.length * 3 := by
  induction l with
  | nil => rfl
  | cons x l ih => simp only [lcells, List.flatMap_cons, List.length_append, List.length_cons, List.length_nil] at ih ⊢; omega
theorem lcells_at : ∀ (l : List (Int × Int × Int)) (j : Nat), j < l.length → (lcells l)[j * 3]? = some (.int .i64 (l.getD j (0, 0, 0)).1) ∧ (lcells l)[j * 3 + 1]? = some (.int .i64 (l.getD j (0, 0, 0)).2.1) ∧ (lcells l)[j * 3 + 2]? = some (.int .i32 (l.getD j (0, 0, 0)).2.2)
  | [], j, h => by simp at h
  | x :: l, 0, _ => by simp [lcells]
  | x :: l, j + 1, h => by
    have ih := lcells_at l j (by simpa using h)
    have e : ∀ q, (lcells (x :: l))[(j + 1) * 3 + q]? = (lcells l)[j * 3 + q]? := fun q => by
      rw [show lcells (x :: l) = [.int .i64 x.1, .int .i64 x.2.1, .int .i32 x.2.2] ++ lcells l from rfl, List.getElem?_append_right (by simp; omega)]
      congr 1
      simp; omega
    have e0 := e 0
    rw [Nat.add_zero, Nat.add_zero] at e0
    rw [e0, e 1, e 2, List.getD_cons_succ]
    exact ih
theorem lcells_one (l : List (Int × Int × Int)) : ∀ u ∈ lcells l, u.oneCell' = true := by
  intro u hu
  obtain ⟨x, _, h⟩ := List.mem_flatMap.1 hu
  simp only [List.mem_cons, List.mem_nil_iff, or_false] at h
  rcases h with rfl | rfl | rfl <;> rfl
theorem lcells_index (l : List (Int × Int × Int)) (j : Nat) (u : Value) (h : (lcells l)[j]? = some u) : ∃ p, p < l.length ∧ ((j = p * 3 ∧ u = .int .i64 (l.getD p (0, 0, 0)).1) ∨ (j = p * 3 + 1 ∧ u = .int .i64 (l.getD p (0, 0, 0)).2.1) ∨ (j = p * 3 + 2 ∧ u = .int .i32 (l.getD p (0, 0, 0)).2.2)) := by
  have hj : j < l.length * 3 := by
    rw [← lcells_length]
    exact (List.getElem?_eq_some_iff.1 h).1
  have hp : j / 3 < l.length := by omega
  obtain ⟨h0, h1, h2⟩ := lcells_at l (j / 3) hp
  refine ⟨j / 3, hp, ?_⟩
  rcases (show j % 3 = 0 ∨ j % 3 = 1 ∨ j % 3 = 2 by omega) with e | e | e
  · left
    have e' : j = j / 3 * 3 := by omega
    rw [← e'] at h0
    rw [h0] at h
    exact ⟨e', (Option.some.inj h).symm⟩
  · right; left
    have e' : j = j / 3 * 3 + 1 := by omega
    rw [← e'] at h1
    rw [h1] at h
    exact ⟨e', (Option.some.inj h).symm⟩
  · right; right
    have e' : j = j / 3 * 3 + 2 := by omega
    rw [← e'] at h2
    rw [h2] at h
    exact ⟨e', (Option.some.inj h).symm⟩
theorem lims_news {w : World} {A : Option Addr} {l : List (Int × Int × Int)} (h : Lims w A l) : ∀ ad, A = some ad → ∀ j u, (lcells l)[j]? = some u → w.cell? (ad.add j) = some u := by
  intro ad e j u hu
  obtain ⟨p, hp, hc⟩ := lcells_index l j u hu
  obtain ⟨b, off, e', c0, c1, c2⟩ := h p hp
  subst e
  simp only [Option.some.injEq] at e'
  subst e'
  have ea : ∀ k, (⟨b, off, none⟩ : Addr).add k = ⟨b, off + k, none⟩ := fun k => by unfold Addr.add; split <;> simp_all
  rw [ea]
  rcases hc with ⟨rfl, rfl⟩ | ⟨rfl, rfl⟩ | ⟨rfl, rfl⟩
  · exact c0
  · rw [← Nat.add_assoc]; exact c1
  · rw [← Nat.add_assoc]; exact c2
theorem ints_news {w : World} {k : IntKind} {A : Option Addr} {xs : List Int} (h : Ints w k A xs) : ∀ ad, A = some ad → ∀ j u, (vals k xs)[j]? = some u → w.cell? (ad.add j) = some u := by
  intro ad e j u hu
  have hj : j < xs.length := by
    have := (List.getElem?_eq_some_iff.1 hu).1
    simpa [vals] using this
  obtain ⟨b, off, e', c0⟩ := h j hj
  subst e
  simp only [Option.some.injEq] at e'
  subst e'
  have ea : ∀ k, (⟨b, off, none⟩ : Addr).add k = ⟨b, off + k, none⟩ := fun k => by unfold Addr.add; split <;> simp_all
  rw [ea, c0]
  simp [vals, List.getElem?_map, List.getElem?_eq_getElem hj] at hu
  rw [← hu, List.getD_eq_getElem?_getD, List.getElem?_eq_getElem hj]
  rfl
/-- A row of the call's own of bounds of differences. -/
def OwnL (w : World) (base : Nat) (e : TypeId) (v : Value) (l : List (Int × Int × Int)) : Prop := w.ownsRow base e 3 v l.length (lcells l)
theorem OwnL.lims {w : World} {base : Nat} {e : TypeId} {v : Value} {l : List (Int × Int × Int)} (h : OwnL w base e v l) : ∃ A cap, v = .slice A l.length cap ∧ Lims w A l := by
  obtain ⟨hl, h⟩ := h
  rcases h with ⟨rfl, h0⟩ | ⟨g, cap, cur, rfl, _, h1, _, _, _, h2⟩
  · refine ⟨none, 0, by rw [h0], fun j hj => by omega⟩
  · refine ⟨some ⟨g, 0, none⟩, cap, rfl, fun j hj => ?_⟩
    have hc : ∀ q u, (lcells l)[q]? = some u → w.cell? ⟨g, q, none⟩ = some u := fun q u hu => by
      have hq : q < l.length * 3 := by rw [← lcells_length]; exact (List.getElem?_eq_some_iff.1 hu).1
      rw [← h2, List.getElem?_take, if_pos hq] at hu
      simp only [World.cell?, h1]
      simpa using hu
    obtain ⟨a0, a1, a2⟩ := lcells_at l j hj
    exact ⟨g, 0, rfl, by rw [Nat.zero_add]; exact hc _ _ a0, by rw [Nat.zero_add]; exact hc _ _ a1, by rw [Nat.zero_add]; exact hc _ _ a2⟩
theorem OwnL.later {w w' : World} {base : Nat} {e : TypeId} {v : Value} {l : List (Int × Int × Int)} (h : OwnL w base e v l) (hb : Below w.heap.size w w') : OwnL w' base e v l := by
  obtain ⟨hl, h⟩ := h
  refine ⟨hl, ?_⟩
  rcases h with h | ⟨g, cap, cur, e1, e2, h1, h2⟩
  · exact .inl h
  · exact .inr ⟨g, cap, cur, e1, e2, (hb.block g (Array.getElem?_eq_some_iff.1 h1).1).trans h1, h2⟩

end Go.Proofs.Ytkgohhdenfnfpaa

/- The least zone that includes some. -/
namespace Go.Proofs.Ytkgohhdenfnfpaa
open Go Go.RowKit
set_option linter.unusedVariables false
set_option linter.unusedSimpArgs false
attribute [local go_sem] min_ints max_ints

theorem infoPZ : (Try.prog.info? 24).map (fun i => (i.zero, i.size, i.bytes)) = some (some (.pointer none), 1, 8) := by kernel_rfl
/-- What a row of the call's own of addresses holds. -/
theorem own_ptrs {w : World} {base : Nat} {e : TypeId} {v : Value} {vs : List Value} (h : w.ownsRow base e 1 v vs.length vs) : ∃ A cap, v = .slice A vs.length cap ∧ Ptrs w A vs := by
  obtain ⟨hl, h⟩ := h
  rcases h with ⟨rfl, h0⟩ | ⟨g, cap, cur, rfl, _, h1, _, _, _, h2⟩
  · refine ⟨none, 0, by rw [h0], fun j hj => by omega⟩
  · refine ⟨some ⟨g, 0, none⟩, cap, rfl, fun j hj => ⟨g, 0, rfl, ?_⟩⟩
    have e1 : cur.toList[j]? = vs[j]? := by rw [← h2, List.getElem?_take, if_pos (by omega)]
    rw [Nat.zero_add, World.cell?, h1]
    simp only [Option.isSome_none, Bool.false_eq_true, if_false]
    rw [← Array.getElem?_toList, e1, List.getD_eq_getElem?_getD, List.getElem?_eq_getElem hj]
    rfl
/-- The widest of both cells, in the first n + 1 rows. -/
def maxF (M V : Mat) : Mat := fun a c => max (M a c) (V a c)
def maxW (n : Nat) (M V : Mat) : Mat := mix (maxF M V) M n (n + 1) 0
theorem maxW_in {n : Nat} {M V : Mat} {a c : Nat} (ha : a ≤ n) (hc : c ≤ n) : maxW n M V a c = max (M a c) (V a c) := by
  unfold maxW mix
  rw [if_pos (.inl ⟨by omega, hc⟩)]; rfl
/-- The hull of the first p zones; none: so far all are empty. -/
def hullUp (n : Nat) (ms : List Mat) : Nat → Option Mat
  | 0 => none
  | p + 1 => if (ms.getD p fun _ _ => 0) 0 0 < 1 then hullUp n ms p else match hullUp n ms p with
    | none => some (openW (some (n, ms.getD p fun _ _ => 0)))
    | some H => some (maxW n H (openW (some (n, ms.getD p fun _ _ => 0))))
/-- What Hull answers. -/
def hullA (n : Nat) (m : Mat) (ms : List Mat) : Option Mat × Int := match hullUp n (m :: ms) (m :: ms).length with
  | none => ofP n (flat n (openW (some (n, m))))
  | some H => ofP n (flat n H)
theorem hullUp_skip {n p : Nat} {ms : List Mat} {m : Mat} (hm : (ms.getD p fun _ _ => 0) = m) (h : m 0 0 < 1) : hullUp n ms (p + 1) = hullUp n ms p := by rw [hullUp, hm, if_pos h]
theorem hullUp_first {n p : Nat} {ms : List Mat} {m : Mat} (hm : (ms.getD p fun _ _ => 0) = m) (h : ¬ m 0 0 < 1) (hn : hullUp n ms p = none) : hullUp n ms (p + 1) = some (openW (some (n, m))) := by rw [hullUp, hm, if_neg h, hn]
theorem hullUp_more {n p : Nat} {ms : List Mat} {m H : Mat} (hm : (ms.getD p fun _ _ => 0) = m) (h : ¬ m 0 0 < 1) (hn : hullUp n ms p = some H) : hullUp n ms (p + 1) = some (maxW n H (openW (some (n, m)))) := by rw [hullUp, hm, if_neg h, hn]
theorem rng_hull {n : Nat} {ms : List Mat} (hr : ∀ j, j < ms.length → RightM n (ms.getD j fun _ _ => 0)) : ∀ p, p ≤ ms.length → ∀ H, hullUp n ms p = some H → Rng n H
  | 0, _, H, h => by cases h
  | p + 1, hp, H, h => by
    have h2 := rng_open (hr p (by omega))
    unfold hullUp at h
    split at h
    · exact rng_hull hr p (by omega) H h
    · split at h
      · simp only [Option.some.injEq] at h; subst h; exact h2
      · rename_i H' he
        simp only [Option.some.injEq] at h
        subst h
        intro i j hi hj
        have a1 := rng_hull hr p (by omega) H' he i j hi hj
        have a2 := h2 i j hi hj
        rw [maxW_in (by omega) (by omega)]
        omega
/-- The block that the hull's cells lie in, or nil. -/
def HullR (w1 : World) (n : Nat) (o : Option Mat) (v : Value) (wr : World) : Prop := Below w1.heap.size w1 wr ∧ (match o with
  | none => v = .pointer none
  | some H => ∃ g, v = .pointer (some ⟨g, 0, none⟩) ∧ w1.heap.size ≤ g ∧ MatAt wr g 72 .i32 n H)
theorem HullR.step {w1 wr w' : World} {n : Nat} {o : Option Mat} {v : Value} (h : HullR w1 n o v wr) (hb : Below wr.heap.size wr w') : HullR w1 n o v w' := by
  refine ⟨h.1.trans (hb.mono h.1.size), ?_⟩
  cases o with
  | none => exact h.2
  | some H => obtain ⟨g, e, hg, hm⟩ := h.2; exact ⟨g, e, hg, hm.later hb⟩

end Go.Proofs.Ytkgohhdenfnfpaa

/- The hull of zones: plain. -/
namespace Go.Proofs.Ytkgohhdenfnfpaa
set_option linter.unusedVariables false
set_option linter.unusedSimpArgs false

/-- The zone is not empty, and its cells are the strictest. -/
structure ClosedZ (n : Nat) (m : Mat) : Prop where
  full : FullZ n m
  tri : Tri n (widW m) (n + 1)
theorem closed_of {n : Nat} {M m' : Mat} (h0 : ∀ j, j ≤ n → M 0 j ≤ 1) (ha : allR n m') (hc : Closed n M m') : ClosedZ n (narM n m') := by
  have hcell : ∀ i j, i ≤ n → j ≤ n → widW (narM n m') i j = m' i j := fun i j hi hj => by
    unfold widW narM
    rw [if_pos ⟨hi, hj⟩]
    exact wid_nar (ha i hi j hj)
  refine ⟨full_of h0 ha hc, fun l hl i j hi hj => ?_⟩
  rw [hcell i j hi hj, hcell i l hi (by omega), hcell l j (by omega) hj]
  exact hc.tri l hl i j hi hj
/-- A zone that Of made is empty, or closed. -/
theorem zone_closed {n : Int} {cells : List Int} {k : Nat} {m : Mat} (e : zOf n cells = some (k, m)) : m = (fun _ _ => 0) ∨ ClosedZ k m := by
  unfold zOf at e
  cases hz : (ofP n cells).1 with
  | none => rw [hz] at e; cases e
  | some m0 =>
    rw [hz] at e
    simp only [Option.map_some, Option.some.injEq, Prod.mk.injEq] at e
    obtain ⟨e1, e2⟩ := e
    subst e2
    unfold ofP at hz
    split at hz
    · rename_i hn
      split at hz
      · rename_i hl
        split at hz
        · rename_i hr
          obtain ⟨q, rfl⟩ : ∃ q : Nat, n = q := ⟨n.toNat, by omega⟩
          rw [Int.toNat_natCast] at hz e1
          subst e1
          have hl' : cells.length = (q + 1) * (q + 1) := by exact_mod_cast hl
          have hr' : ∀ p, p < (q + 1) * (q + 1) → rightB (cells.getD p 0) = true := fun p hp => (all_getD cells rightB 0).1 hr p (by omega)
          rw [hl'] at hz
          rcases zoneP_is (by omega) (keepUp_fit q cells _ hr') hz with ⟨h, _⟩ | ⟨m', hm, ha, hzz, hc⟩
          · exact .inl h
          · right; rw [hzz]; exact closed_of (keepUp_top4 hr') ha hc
        · cases hz
      · cases hz
    · cases hz
theorem wid_max {x y : Int} (hx : x ≤ 2147483647) (hy : y ≤ 2147483647) : wid (max x y) = max (wid x) (wid y) := by
  unfold wid none62
  rw [Int.max_def, Int.max_def]
  split <;> split <;> split <;> (try split) <;> omega
theorem right_fb {x : Int} (h : rightB x = true) : FB (wid x) := by
  unfold wid
  split
  · exact .inl rfl
  · rename_i e
    have := rightB_bd h e
    exact .inr (by omega)
theorem right_max {x y : Int} (hx : rightB x = true) (hy : rightB y = true) : rightB (max x y) = true := by
  rw [Int.max_def]; split <;> assumption
theorem ClosedZ.congr {n : Nat} {a b : Mat} (h : ClosedZ n a) (hab : Agree n a b) : ClosedZ n b := by
  refine ⟨⟨fun i j hi hj => ?_, fun i hi => ?_, fun j hj => ?_⟩, fun l hl i j hi hj => ?_⟩
  · rw [← hab i j hi hj]; exact h.full.right i j hi hj
  · rw [← hab i i hi hi]; exact h.full.one i hi
  · rw [← hab 0 j (by omega) hj]; exact h.full.top j hj
  · have := h.tri l hl i j hi hj
    unfold widW at this ⊢
    rw [hab i j hi hj, hab i l hi (by omega), hab l j (by omega) hj] at this
    exact this
theorem ClosedZ.join {n : Nat} {a b : Mat} (h : ClosedZ n a) (h' : ClosedZ n b) : ClosedZ n (maxF a b) := by
  refine ⟨⟨fun i j hi hj => right_max (h.full.right i j hi hj) (h'.full.right i j hi hj), fun i hi => ?_, fun j hj => ?_⟩, fun l hl i j hi hj => ?_⟩
  · show max (a i i) (b i i) = 1
    rw [h.full.one i hi, h'.full.one i hi]; rfl
  · show max (a 0 j) (b 0 j) ≤ 1
    have := h.full.top j hj
    have := h'.full.top j hj
    omega
  · have hcell : ∀ p q, p ≤ n → q ≤ n → widW (maxF a b) p q = max (widW a p q) (widW b p q) := fun p q hp hq =>
      wid_max (right_hi (h.full.right p q hp hq)).2 (right_hi (h'.full.right p q hp hq)).2
    have hl' : l ≤ n := by omega
    rw [hcell i j hi hj, hcell i l hi hl', hcell l j hl' hj]
    have t1 := h.tri l hl i j hi hj
    have t2 := h'.tri l hl i j hi hj
    have f1 : FB (widW a i l) := right_fb (h.full.right i l hi hl')
    have f2 : FB (widW a l j) := right_fb (h.full.right l j hl' hj)
    have f3 : FB (widW b i l) := right_fb (h'.full.right i l hi hl')
    have f4 : FB (widW b l j) := right_fb (h'.full.right l j hl' hj)
    have g1 : FB (Max.max (widW a i l) (widW b i l)) := by rw [Int.max_def]; split <;> assumption
    have g2 : FB (Max.max (widW a l j) (widW b l j)) := by rw [Int.max_def]; split <;> assumption
    have m1 := wsum_le f1 g1 f2 g2 (by omega) (by omega)
    have m2 := wsum_le f3 g1 f4 g2 (by omega) (by omega)
    omega
theorem ofP_closed {n : Nat} {H : Mat} (hn : n ≤ 8) (h : ClosedZ n H) : ofP n (flat n H) = (some (narM n (widW H)), 0) ∧ ∀ i j, i ≤ n → j ≤ n → narM n (widW H) i j = H i j := by
  have hall : allR n (widW H) := fun i hi j hj => by
    have := h.full.right i j hi hj
    unfold rightB at this
    have := of_decide_eq_true this
    unfold widW wid inR none62
    split <;> omega
  constructor
  · rw [ofP_wid hn h.full.ok]
    unfold zoneP
    rw [closed_id h.tri (fun i hi => by unfold widW; rw [h.full.one i hi]; decide)]
    simp only
    rw [if_pos hall]
  · intro i j hi hj
    have := right_hi (h.full.right i j hi hj)
    unfold narM nar widW wid none62
    rw [if_pos ⟨hi, hj⟩]
    split <;> split <;> omega
/-- What is known of the hull of the first p. -/
def HullInv (n : Nat) (ms : List Mat) (p : Nat) : Option Mat → Prop
  | none => ∀ q, q < p → (ms.getD q fun _ _ => 0) 0 0 < 1
  | some H => ClosedZ n H ∧ (∀ q, q < p → (ms.getD q fun _ _ => 0) 0 0 < 1 ∨ ∀ i, i ≤ n → ∀ j, j ≤ n → (ms.getD q fun _ _ => 0) i j ≤ H i j) ∧
    ∀ o : Mat, (∀ q, q < p → (ms.getD q fun _ _ => 0) 0 0 < 1 ∨ ∀ i, i ≤ n → ∀ j, j ≤ n → (ms.getD q fun _ _ => 0) i j ≤ o i j) → ∀ i, i ≤ n → ∀ j, j ≤ n → H i j ≤ o i j
theorem hull_inv {n : Nat} {ms : List Mat} (hk : ∀ j, j < ms.length → (ms.getD j fun _ _ => 0) = (fun _ _ => 0) ∨ ClosedZ n (ms.getD j fun _ _ => 0)) : ∀ p, p ≤ ms.length → HullInv n ms p (hullUp n ms p)
  | 0, _ => fun q hq => by omega
  | p + 1, hp => by
    have ih := hull_inv hk p (by omega)
    have hkp := hk p (by omega)
    obtain ⟨m, hm⟩ : ∃ m, (ms.getD p fun _ _ => 0) = m := ⟨_, rfl⟩
    rw [hm] at hkp
    by_cases he : m 0 0 < 1
    · rw [hullUp_skip hm he]
      cases hu : hullUp n ms p with
      | none =>
        rw [hu] at ih
        intro q hq
        by_cases e : q = p
        · subst e; rw [hm]; exact he
        · exact ih q (by omega)
      | some H =>
        rw [hu] at ih
        obtain ⟨h1, h2, h3⟩ := ih
        refine ⟨h1, fun q hq => ?_, fun o ho => h3 o fun q hq => ho q (by omega)⟩
        by_cases e : q = p
        · subst e; rw [hm]; exact .inl he
        · exact h2 q (by omega)
    · have hcl : ClosedZ n m := by
        rcases hkp with rfl | h
        · exact absurd (by decide) he
        · exact h
      have hag := open_agree n m
      cases hu : hullUp n ms p with
      | none =>
        rw [hullUp_first hm he hu]
        rw [hu] at ih
        refine ⟨hcl.congr fun i j hi hj => (hag i j hi hj).symm, fun q hq => ?_, fun o ho i hi j hj => ?_⟩
        · by_cases e : q = p
          · subst e; rw [hm]; exact .inr fun i hi j hj => by rw [hag i j hi hj]; exact Int.le_refl _
          · exact .inl (ih q (by omega))
        · rw [hag i j hi hj]
          rcases ho p (by omega) with h | h
          · rw [hm] at h; exact absurd h he
          · rw [hm] at h; exact h i hi j hj
      | some H =>
        rw [hullUp_more hm he hu]
        rw [hu] at ih
        obtain ⟨h1, h2, h3⟩ := ih
        have hmx : Agree n (maxF H m) (maxW n H (openW (some (n, m)))) := fun i j hi hj => by
          rw [maxW_in hi hj, hag i j hi hj]; rfl
        refine ⟨(h1.join hcl).congr hmx, fun q hq => ?_, fun o ho i hi j hj => ?_⟩
        · by_cases e : q = p
          · subst e; rw [hm]
            refine .inr fun i hi j hj => ?_
            rw [← hmx i j hi hj]
            show m i j ≤ max (H i j) (m i j)
            omega
          · rcases h2 q (by omega) with h | h
            · exact .inl h
            · refine .inr fun i hi j hj => ?_
              have := h i hi j hj
              rw [← hmx i j hi hj]
              show _ ≤ max (H i j) (m i j)
              omega
        · rw [← hmx i j hi hj]
          show max (H i j) (m i j) ≤ _
          have a1 := h3 o (fun q hq => ho q (by omega)) i hi j hj
          rcases ho p (by omega) with h | h
          · rw [hm] at h; exact absurd h he
          · rw [hm] at h
            have a2 := h i hi j hj
            omega
/-- The hull includes all, and each zone that includes all includes it. -/
theorem hull_law {n : Nat} {m : Mat} {ms : List Mat} (hn : n ≤ 8) (hk : ∀ j, j < (m :: ms).length → ((m :: ms).getD j fun _ _ => 0) = (fun _ _ => 0) ∨ ClosedZ n ((m :: ms).getD j fun _ _ => 0)) :
    ∃ h, hullA n m ms = (some h, 0) ∧ (∀ q, q < (m :: ms).length → inclM n h ((m :: ms).getD q fun _ _ => 0) = true) ∧ ∀ o, (∀ q, q < (m :: ms).length → inclM n o ((m :: ms).getD q fun _ _ => 0) = true) → inclM n o h = true := by
  have hi := hull_inv hk (m :: ms).length (Nat.le_refl _)
  unfold hullA
  cases hu : hullUp n (m :: ms) (m :: ms).length with
  | none =>
    rw [hu] at hi
    have h0 := hi 0 (by simp)
    have hm : m = (fun _ _ => 0) := by
      rcases hk 0 (by simp) with h | h
      · exact h
      · have := h.full.one 0 (by omega); rw [this] at h0; omega
    subst hm
    refine ⟨fun _ _ => 0, ofP_zero n hn, fun q hq => decide_eq_true (.inl (hi q hq)), fun o _ => decide_eq_true (.inl (by decide))⟩
  | some H =>
    rw [hu] at hi
    obtain ⟨h1, h2, h3⟩ := hi
    obtain ⟨e1, e2⟩ := ofP_closed hn h1
    refine ⟨_, e1, fun q hq => decide_eq_true ?_, fun o ho => decide_eq_true (.inr fun i hi j hj => ?_)⟩
    · rcases h2 q hq with h | h
      · exact .inl h
      · exact .inr fun i hi j hj => by rw [e2 i j hi hj]; exact h i hi j hj
    · rw [e2 i j hi hj]
      exact h3 o (fun q hq => of_decide_eq_true (ho q hq)) i hi j hj

end Go.Proofs.Ytkgohhdenfnfpaa

/- The least valuation of a zone that is not empty is in it, on its grid; none of it on this grid is anywhere smaller: plain. -/
namespace Go.Proofs.Ytkgohhdenfnfpaa
set_option linter.unusedVariables false
set_option linter.unusedSimpArgs false

theorem zone_solid {n : Nat} {m : Mat} (h : ClosedZ n m) : Solid n (widW m) := by
  refine ⟨h.tri, fun i j hi hj => (h.full.ok.fit.bd i j hi hj).mono (by omega), fun i hi => ?_, h.full.ok.wtop⟩
  unfold widW wid
  rw [h.full.one i hi, if_neg (by decide)]
/-- The places of the least valuation on the grid. -/
def placeU (n : Nat) (m : Mat) (a : Nat) : Int := insR n ((n : Int) + 1) (widW m) (n + 2) a
theorem solU_zero {n : Nat} {m : Mat} (h : Solid n m) : solU n m 0 = 0 := by
  have e : ∀ N, N ≤ n + 1 → cnt (fun k => tightR m k 0) N = 0 := fun N => by
    induction N with
    | zero => intro _; rfl
    | succ N ih =>
      intro hN
      have ht : tightR m N 0 = false := by
        unfold tightR
        refine decide_eq_false ?_
        rintro ⟨a, b, c⟩
        obtain ⟨_, t⟩ := h.step (Nat.zero_le n) (show N ≤ n by omega) (Nat.zero_le n) (h.fin (by omega)) a
        have o := h.one 0 (Nat.zero_le n)
        omega
      unfold cnt
      rw [ih (by omega), ht]; rfl
  unfold solU
  rw [e (n + 1) (Nat.le_refl _), h.one 0 (Nat.zero_le n)]
  simp
theorem place_bd {n : Nat} {m : Mat} (hn : n ≤ 8) (h : ClosedZ n m) : Sol n ((n : Int) + 1) (widW m) (placeU n m) ∧ placeU n m 0 = 0 ∧ ∀ a, a ≤ n → 0 ≤ placeU n m a ∧ placeU n m a ≤ 137438953472 := by
  have hs := zone_solid h
  obtain ⟨h3, h4⟩ := inside_sol (solid_sol hs)
  have h0 : placeU n m 0 = 0 := by
    have a := h4 (n + 2) 0 (Nat.zero_le n)
    rw [solU_zero hs] at a
    have b := h3.1 0 (Nat.zero_le n)
    unfold placeU; omega
  refine ⟨h3, h0, fun a ha => ⟨h3.1 a ha, Int.le_trans (h4 (n + 2) a ha) ?_⟩⟩
  have := solU_le (n := n) (m := widW m) (X := 536870912) (fun j hj => by
    have h4 := h.full.ok.fit.bd 0 j (Nat.zero_le n) hj
    have h5 := hs.top j hj
    unfold Bd at h4
    unfold none62 at h4
    omega) a ha
  have h5 : ((n : Int) + 1) * 536870912 ≤ 9 * 536870912 := Int.mul_le_mul (by omega) (by omega) (by omega) (by omega)
  omega
theorem new_ok {x d : Int} (hx0 : 0 ≤ x) (hx : x ≤ 9223372036854775807) (hd0 : 0 < d) (hd : d ≤ 9223372036854775807) : newP x d = fracP x d ∧ (fracP x d).2 = 0 := by
  refine ⟨by unfold newP; rw [if_neg (by omega)], ?_⟩
  unfold fracP
  have e1 : (decide (x < 0) != decide (d < 0)) = false := by rw [decide_eq_false (by omega), decide_eq_false (by omega)]; rfl
  have b1 := Nat.div_le_self x.natAbs (Nat.gcd x.natAbs d.natAbs)
  have b2 := Nat.div_le_self d.natAbs (Nat.gcd x.natAbs d.natAbs)
  rw [if_pos]
  rw [e1]
  refine ⟨decide_eq_true ?_, by omega⟩
  show _ ≤ ((x.natAbs / Nat.gcd x.natAbs d.natAbs : Nat) : Int) ∧ ((x.natAbs / Nat.gcd x.natAbs d.natAbs : Nat) : Int) ≤ _
  generalize x.natAbs / Nat.gcd x.natAbs d.natAbs = q at *
  omega
/-- A place on the grid as a fraction. -/
theorem grid_val {x : Int} {n : Nat} (hx0 : 0 ≤ x) (hx : x ≤ 9223372036854775807) (hn : n ≤ 8) : rightR (newP x ((n : Int) + 1)).1 = true ∧ 0 ≤ (newP x ((n : Int) + 1)).1.1 ∧ qv (newP x ((n : Int) + 1)).1 = (x : Rat) / (((n : Int) + 1 : Int) : Rat) ∧ ∃ k, (newP x ((n : Int) + 1)).1.2 * k = (n : Int) + 1 := by
  obtain ⟨e, h⟩ := new_ok hx0 hx (show 0 < (n : Int) + 1 by omega) (by omega)
  rw [e]
  have hr := (frac_right (by omega) h).1
  have hv := frac_value (by omega) h
  have hp := rq_pos hr
  refine ⟨hr, ?_, qv_grid hp (by omega) hv.symm, ?_⟩
  · apply Classical.byContradiction
    intro hneg
    have h1 : (fracP x ((n : Int) + 1)).1.1 * ((n : Int) + 1) < 0 := Int.mul_neg_of_neg_of_pos (by omega) (by omega)
    have h2 : 0 ≤ x * (fracP x ((n : Int) + 1)).1.2 := Int.mul_nonneg hx0 (by omega)
    omega
  · have hg : Nat.gcd (fracP x ((n : Int) + 1)).1.2.natAbs (fracP x ((n : Int) + 1)).1.1.natAbs = 1 := by
      rw [Nat.gcd_comm]; exact (of_decide_eq_true hr).2
    have hd : (fracP x ((n : Int) + 1)).1.2.natAbs ∣ (fracP x ((n : Int) + 1)).1.1.natAbs * (n + 1) := by
      refine ⟨x.natAbs, ?_⟩
      have e1 : (((n : Int) + 1).natAbs) = n + 1 := by omega
      have e2 := congrArg Int.natAbs hv
      rw [Int.natAbs_mul, Int.natAbs_mul, e1] at e2
      rw [e2, Nat.mul_comm]
    obtain ⟨k, hk⟩ := Nat.Coprime.dvd_of_dvd_mul_left hg hd
    refine ⟨(k : Int), ?_⟩
    have e3 : ((fracP x ((n : Int) + 1)).1.2.natAbs : Int) = (fracP x ((n : Int) + 1)).1.2 := by omega
    rw [← e3]
    exact_mod_cast hk.symm
/-- A bound on a grid. -/
theorem kq_sat {g b x : Int} (hg : 0 < g) (hb : b ≤ 2147483647) : kq b ((x : Rat) / (g : Rat)) ↔ sat g (wid b) x := by
  have hG := cast_pos hg
  have e0 : (x : Rat) / (g : Rat) * (g : Rat) = (x : Rat) := Rat.div_mul_cancel (by grind)
  obtain ⟨c, hc⟩ : ∃ c, c = b / 2 := ⟨_, rfl⟩
  have l1 : (x : Rat) / (g : Rat) < (c : Rat) ↔ x < c * g := by
    rw [lt_iff_mul hG, e0, ← Rat.intCast_mul]; exact_mod_cast Iff.rfl
  have l2 : (x : Rat) / (g : Rat) = (c : Rat) ↔ x = c * g := by
    constructor
    · intro h; rw [h, ← Rat.intCast_mul] at e0; exact_mod_cast e0.symm
    · intro h; refine eq_of_mul hG (e0.trans ?_); rw [← Rat.intCast_mul, h]
  unfold kq sat
  rw [← hc, l1, l2]
  unfold wid
  by_cases e : b = 2147483647
  · rw [if_pos e]; simp [e]
  · rw [if_neg e, ← hc]
    have : b ≠ none62 := by unfold none62; omega
    have : b % 2 = 0 ∨ b % 2 = 1 := by omega
    omega
/-- What is in a zone, on any grid. -/
theorem in_sat {n : Nat} {m : Mat} {v : List (Int × Int)} {u : Nat → Int} {g : Int} (hg : 0 < g) (hr : RightM n m) (hv : rightV v = true) (hl : v.length = n) (hu : ∀ i, i ≤ n → cq v i = (u i : Rat) / (g : Rat)) : inP n m v = true ↔ satM n g (widW m) u := by
  rw [in_iff]
  have step : ∀ i j, i ≤ n → j ≤ n → (kq (m i j) (cq v i - cq v j) ↔ sat g (widW m i j) (u i - u j)) := fun i j hi hj => by
    have hb : m i j ≤ 2147483647 := by have := hr i j hi hj; unfold rightB at this; have := of_decide_eq_true this; omega
    show _ ↔ sat g (wid (m i j)) (u i - u j)
    rw [← kq_sat hg hb (x := u i - u j), hu i hi, hu j hj]
    have e : (u i : Rat) / (g : Rat) - (u j : Rat) / (g : Rat) = ((u i - u j : Int) : Rat) / (g : Rat) := by
      rw [Rat.intCast_sub, Rat.div_def, Rat.div_def, Rat.div_def]; grind
    rw [e]
  constructor
  · rintro ⟨_, _, h⟩ i j hi hj; exact (step i j hi hj).1 (h i j hi hj)
  · intro h; exact ⟨hv, hl, fun i j hi hj => (step i j hi hj).2 (h i j hi hj)⟩
/-- A valuation on the grid: by places. -/
def gridV (n : Nat) (u : Nat → Int) : List (Int × Int) := (List.range n).map fun i => (newP (u (i + 1)) ((n : Int) + 1)).1
theorem gridV_length (n : Nat) (u : Nat → Int) : (gridV n u).length = n := by simp [gridV]
theorem gridV_getD {n : Nat} {u : Nat → Int} {i : Nat} (hi : i < n) (d : Int × Int) : (gridV n u).getD i d = (newP (u (i + 1)) ((n : Int) + 1)).1 := by
  rw [List.getD_eq_getElem?_getD]
  unfold gridV
  simp [hi]
theorem least_grid (n : Nat) (m : Mat) : leastV n m = gridV n (placeU n m) := rfl
theorem gridV_right {n : Nat} {u : Nat → Int} (hn : n ≤ 8) (hu : ∀ a, a ≤ n → 0 ≤ u a ∧ u a ≤ 9223372036854775807) : rightV (gridV n u) = true := by
  unfold rightV
  rw [gridV_length, decide_eq_true hn, Bool.true_and, List.all_eq_true]
  intro r hr
  unfold gridV at hr
  obtain ⟨i, hi, rfl⟩ := List.mem_map.1 hr
  have hi := List.mem_range.1 hi
  obtain ⟨a, b, _⟩ := grid_val (hu (i + 1) (by omega)).1 (hu (i + 1) (by omega)).2 hn
  rw [a, decide_eq_true b]; rfl
theorem cq_grid {n : Nat} {u : Nat → Int} (hn : n ≤ 8) (h0 : u 0 = 0) (hu : ∀ a, a ≤ n → 0 ≤ u a ∧ u a ≤ 9223372036854775807) {i : Nat} (hi : i ≤ n) : cq (gridV n u) i = (u i : Rat) / (((n : Int) + 1 : Int) : Rat) := by
  by_cases e : i = 0
  · subst e
    rw [cq_zero, h0, Rat.intCast_zero, Rat.div_def, Rat.zero_mul]
  · unfold cq clockV
    rw [if_neg e, gridV_getD (by omega), show i - 1 + 1 = i by omega]
    exact (grid_val (hu i hi).1 (hu i hi).2 hn).2.2.1
theorem grid_in {n : Nat} {m : Mat} {u : Nat → Int} (hn : n ≤ 8) (hr : RightM n m) (h0 : u 0 = 0) (hu : ∀ a, a ≤ n → 0 ≤ u a ∧ u a ≤ 9223372036854775807) : inP n m (gridV n u) = true ↔ satM n ((n : Int) + 1) (widW m) u :=
  in_sat (by omega) hr (gridV_right hn hu) (gridV_length n u) fun i hi => cq_grid hn h0 hu hi
/-- The least valuation is in the zone. -/
theorem least_in {n : Nat} {m : Mat} (hn : n ≤ 8) (h : ClosedZ n m) : inP n m (leastV n m) = true := by
  obtain ⟨h1, h2, h3⟩ := place_bd hn h
  rw [least_grid, grid_in hn h.full.right h2 (fun a ha => ⟨(h3 a ha).1, by have := (h3 a ha).2; omega⟩)]
  exact sol_sat h1
/-- None on the grid is anywhere smaller. -/
theorem least_least {n : Nat} {m : Mat} {x : Nat → Int} (hn : n ≤ 8) (h : ClosedZ n m) (h0 : x 0 = 0) (hx : ∀ a, a ≤ n → 0 ≤ x a ∧ x a ≤ 65535) (hin : inP n m (gridV n x) = true) {i : Nat} (hi : i < n) : ¬ cmpP ((gridV n x).getD i (0, 0)) ((leastV n m).getD i (0, 0)) < 0 := by
  obtain ⟨h1, h2, h3⟩ := place_bd hn h
  have hx' : ∀ a, a ≤ n → 0 ≤ x a ∧ x a ≤ 9223372036854775807 := fun a ha => ⟨(hx a ha).1, by have := (hx a ha).2; omega⟩
  rw [grid_in hn h.full.right h0 hx'] at hin
  have hsol : Sol n ((n : Int) + 1) (widW m) x := ⟨fun j hj => (hx j hj).1, fun i j hi hj hf => by have := le_of_sat (hin i j hi hj) hf; omega⟩
  have hle := (inside_sol hsol).2 (n + 2) (i + 1) (by omega)
  have hle : placeU n m (i + 1) ≤ x (i + 1) := hle
  rw [least_grid, gridV_getD hi, gridV_getD hi]
  obtain ⟨a1, a2, a3, _⟩ := grid_val (hx' (i + 1) (by omega)).1 (hx' (i + 1) (by omega)).2 hn
  obtain ⟨b1, b2, b3, _⟩ := grid_val (h3 (i + 1) (by omega)).1 (show placeU n m (i + 1) ≤ 9223372036854775807 by have := (h3 (i + 1) (by omega)).2; omega) hn
  rw [(cmp_qv a1 b1).1, a3, b3]
  have hG := cast_pos (show (0 : Int) < (n : Int) + 1 by omega)
  rw [lt_iff_mul hG, Rat.div_mul_cancel (by grind), Rat.div_mul_cancel (by grind)]
  intro hh
  have : x (i + 1) < placeU n m (i + 1) := by exact_mod_cast hh
  omega
/-- The grid's number is a multiple of each denominator. -/
theorem least_den {n : Nat} {m : Mat} (hn : n ≤ 8) (h : ClosedZ n m) {i : Nat} (hi : i < n) : 0 < ((leastV n m).getD i (0, 0)).2 ∧ Int.tmod ((n : Int) + 1) ((leastV n m).getD i (0, 0)).2 = 0 := by
  obtain ⟨h1, h2, h3⟩ := place_bd hn h
  rw [least_grid, gridV_getD hi]
  obtain ⟨b1, b2, b3, k, hk⟩ := grid_val (h3 (i + 1) (by omega)).1 (show placeU n m (i + 1) ≤ 9223372036854775807 by have := (h3 (i + 1) (by omega)).2; omega) hn
  refine ⟨rq_pos b1, ?_⟩
  have := Int.mul_tmod_right (newP (placeU n m (i + 1)) ((n : Int) + 1)).1.2 k
  rw [hk] at this
  exact this

end Go.Proofs.Ytkgohhdenfnfpaa
