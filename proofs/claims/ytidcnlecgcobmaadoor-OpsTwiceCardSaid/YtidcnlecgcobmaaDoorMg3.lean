/- Texts of ours, laid together: Rl, De, Dy, Db, Br, Dc, Dd, Do, Oa. -/
import Derived.Deep.RegionWith
import Derived.Test.YtidcnlecgcobmaaDoorProg
import Derived.Lib.Hide
import Derived.Deep.LoopGhost
import Derived.Deep.QuietTactic
import Derived.BigQuiet
import Derived.BigRegion
import Derived.StillTailTactics
import Derived.KernelRfl
import Derived.Test.YtidcnlecgcobmaaDoorMg2
/- The document's Infs, Limits, Universe and Zero. -/
namespace Go.Proofs.YtidcnlecgcobmaaDoor
open Go Go.RowKit
set_option linter.unusedVariables false
set_option linter.unusedSimpArgs false

/-- So many cells without a bound. -/
def InfR (w0 : World) (p : Nat) (v : Value) (wr : World) : Prop :=
  Below w0.heap.size w0 wr ∧ wr.ownsRow w0.heap.size 64 1 v p (vals .i32 (List.replicate p 2147483647))
theorem InfR.next {w0 wr w1 : World} {p : Nat} {v v' : Value} {o : Obj} (h : InfR w0 p v wr)
    (hown : w1.ownsRow w0.heap.size 64 1 v' (p + 1) (vals .i32 (List.replicate p 2147483647) ++ [.int .i32 2147483647])) (hg : (wr.alloc o).grownBy w1 v.ownBlock) : InfR w0 (p + 1) v' w1 := by
  refine ⟨(h.1.alloc h.1.size o).grown hg (by have := h.1.size; simp; omega) (fun k hk => (h.2.lt k hk).1), ?_⟩
  have e : vals .i32 (List.replicate (p + 1) 2147483647) = vals .i32 (List.replicate p 2147483647) ++ [.int .i32 2147483647] := by
    rw [List.replicate_succ']; simp [vals]
  rw [e]; exact hown

set_option maxRecDepth 100000 in
set_option maxHeartbeats 1000000 in
theorem infs_any (n : Nat) (w : World) (hn : n ≤ 8) :
    Calls Tryd.prog 119 #[.int .i64 n] w fun e w' => ∃ v, e = .returned v ∧ InfR w ((n + 1) * (n + 1)) v w' := by
  obtain ⟨N, hN⟩ : ∃ N : Nat, N = (n + 1) * (n + 1) := ⟨_, rfl⟩
  have hNi : ((n : Int) + 1) * ((n : Int) + 1) = (N : Int) := by rw [hN]; simp
  have hN81 : N ≤ 81 := by
    have := Nat.mul_le_mul (show n + 1 ≤ 9 by omega) (show n + 1 ≤ 9 by omega)
    omega
  rw [← hN]
  clear hN
  obtain ⟨i0, hi, hz0, hz1, hz2⟩ := info_parts infoRB
  have HInf := Lib.hid (And.intro hi (And.intro hz0 (And.intro hz1 hz2)))
  clear hi hz0 hz1 hz2
  have HS := Lib.hid (show InfR w 0 (.slice none 0 0) w from ⟨Below.refl _ _, by simpa [vals] using World.ownsRow_nil w _ _ _⟩)
  go_enter Tryd.func119, Tryd.ntmps119
  go_wp2
  go_loopg [3, 4] N (fun g v x wr => ∃ p : Nat, x = .int .i64 p ∧ InfR w p v wr ∧ Hid (p ≤ N ∧ g + p = N))
  case atStart => exact ⟨0, by simp, HS.out, by omega, by omega⟩
  case round =>
    clear HS
    obtain ⟨p, rfl, H, HG⟩ := hrel
    have HW := Lib.hid H
    clear H
    by_cases hp : p < N
    · have hpi : (p : Int) < (N : Int) := by omega
      have hp81 : p < 81 := by omega
      go_wp2_with (at_builtin; refine wpList_append_own _ rfl _ _ 22 rfl w.heap.size 64 i0 (.int .i32 0) 1 4 Tryd.underlying22 HInf.out.1 HInf.out.2.1 HInf.out.2.2.1 HInf.out.2.2.2 rfl (by decide) _ _ _ rfl (HW.out.2.alloc _) ⟨wr.heap.size, 0, none⟩ 1 1 [.int .i32 2147483647] rfl rfl (cell_one_new _ _ _) (by intro u hu; simp at hu; subst hu; rfl) ?c3 ?c4 ?c5 ?_)
      case c3 => unfold maxLen; omega
      case c4 => omega
      case c5 => have := HW.out.1.size; simp; omega
      intro v' w1 hown hgrow _
      have HN := Lib.hid (HW.out.next hown hgrow)
      clear hown hgrow
      go_wp2
      go_roundg (gk - 1)
      case measure => have h := HG.out; omega
      case rel => exact ⟨p + 1, by go_num, HN.out, by omega, by have h := HG.out; omega⟩
    · have hpi : ¬ (p : Int) < (N : Int) := by omega
      have e : p = N := by have := HG.out; omega
      subst e
      go_wp2
      go_ret
      exact ⟨_, rfl, HW.out⟩

/-- The row of bounds, with the first p limits. -/
def lowUp (n : Nat) (l : List (Int × Int × Int)) : Nat → List Int
  | 0 => List.replicate ((n + 1) * (n + 1)) 2147483647
  | p + 1 => if (l.getD p (0, 0, 0)).2.2 < (lowUp n l p).getD ((l.getD p (0, 0, 0)).1.toNat * (n + 1) + (l.getD p (0, 0, 0)).2.1.toNat) 0
      then (lowUp n l p).set ((l.getD p (0, 0, 0)).1.toNat * (n + 1) + (l.getD p (0, 0, 0)).2.1.toNat) (l.getD p (0, 0, 0)).2.2 else lowUp n l p
theorem lowUp_length (n : Nat) (l : List (Int × Int × Int)) : ∀ p, (lowUp n l p).length = (n + 1) * (n + 1)
  | 0 => by simp [lowUp]
  | p + 1 => by
    unfold lowUp; split
    · rw [List.length_set, lowUp_length n l p]
    · exact lowUp_length n l p
theorem lowUp_right (n : Nat) (l : List (Int × Int × Int)) : ∀ p, (∀ q, q < p → rightB (l.getD q (0, 0, 0)).2.2 = true) → ∀ q, q < (n + 1) * (n + 1) → rightB ((lowUp n l p).getD q 0) = true
  | 0, _, q, hq => by
    simp only [lowUp, List.getD_eq_getElem?_getD, List.getElem?_replicate]
    rw [if_pos hq]; decide
  | p + 1, h, q, hq => by
    have ih := lowUp_right n l p (fun q hq => h q (by omega)) q hq
    unfold lowUp; split
    · rw [List.getD_eq_getElem?_getD, List.getElem?_set]
      split
      · split
        · exact h p (by omega)
        · rename_i h1 h2; rw [lowUp_length] at h2; omega
      · rwa [List.getD_eq_getElem?_getD] at ih
    · exact ih
theorem low_agree (n : Nat) (l : List (Int × Int × Int)) : ∀ p, (∀ q, q < p → limOk n (l.getD q (0, 0, 0)) = true) → ∀ i j, i ≤ n → j ≤ n →
    limUp n l p i j = if i = j ∨ i = 0 then min 1 (wid ((lowUp n l p).getD (i * (n + 1) + j) 0)) else wid ((lowUp n l p).getD (i * (n + 1) + j) 0)
  | 0, _, i, j, hi, hj => by
    have e : (lowUp n l 0).getD (i * (n + 1) + j) 0 = 2147483647 := by
      simp only [lowUp, List.getD_eq_getElem?_getD, List.getElem?_replicate]
      rw [if_pos (at_lt (by omega) (by omega))]; rfl
    rw [e]
    show openM n i j = _
    unfold openM wid none62
    rw [if_pos ⟨hi, hj⟩]
    simp only [if_true]
    split <;> omega
  | p + 1, h, i, j, hi, hj => by
    have ih := low_agree n l p (fun q hq => h q (by omega)) i j hi hj
    obtain ⟨⟨a0, a1, b0, b1⟩, hr⟩ := (show (0 ≤ (l.getD p (0, 0, 0)).1 ∧ (l.getD p (0, 0, 0)).1 ≤ n ∧ 0 ≤ (l.getD p (0, 0, 0)).2.1 ∧ (l.getD p (0, 0, 0)).2.1 ≤ n) ∧ rightB (l.getD p (0, 0, 0)).2.2 = true by
      have := h p (by omega)
      simpa [limOk] using this)
    have hrc := lowUp_right n l p (fun q hq => by have := h q (by omega); simp only [limOk, Bool.and_eq_true] at this; exact this.2)
    show keepM (limUp n l p) (l.getD p (0, 0, 0)).1.toNat (l.getD p (0, 0, 0)).2.1.toNat (l.getD p (0, 0, 0)).2.2 i j = _
    rw [show lowUp n l (p + 1) = if (l.getD p (0, 0, 0)).2.2 < (lowUp n l p).getD ((l.getD p (0, 0, 0)).1.toNat * (n + 1) + (l.getD p (0, 0, 0)).2.1.toNat) 0
      then (lowUp n l p).set ((l.getD p (0, 0, 0)).1.toNat * (n + 1) + (l.getD p (0, 0, 0)).2.1.toNat) (l.getD p (0, 0, 0)).2.2 else lowUp n l p from rfl]
    obtain ⟨a, ha⟩ : ∃ a : Nat, a = (l.getD p (0, 0, 0)).1.toNat := ⟨_, rfl⟩
    obtain ⟨b, hb⟩ : ∃ b : Nat, b = (l.getD p (0, 0, 0)).2.1.toNat := ⟨_, rfl⟩
    obtain ⟨x, hx⟩ : ∃ x : Int, x = (l.getD p (0, 0, 0)).2.2 := ⟨_, rfl⟩
    rw [← ha, ← hb, ← hx]
    rw [← hx] at hr
    have han : a ≤ n := by omega
    have hbn : b ≤ n := by omega
    clear ha hb hx
    by_cases e : i = a ∧ j = b
    · obtain ⟨rfl, rfl⟩ := e
      have hrij := hrc (i * (n + 1) + j) (at_lt (by omega) (by omega))
      have hset : ∀ y, ((lowUp n l p).set (i * (n + 1) + j) y).getD (i * (n + 1) + j) 0 = y := fun y => by
        rw [List.getD_eq_getElem?_getD, List.getElem?_set, if_pos rfl, if_pos (by rw [lowUp_length]; exact at_lt (by omega) (by omega))]; rfl
      obtain ⟨c, hc⟩ : ∃ c, c = (lowUp n l p).getD (i * (n + 1) + j) 0 := ⟨_, rfl⟩
      rw [← hc] at ih hrij ⊢
      unfold keepM
      unfold rightB at hr hrij
      have hr := of_decide_eq_true hr
      have hrij := of_decide_eq_true hrij
      by_cases hinf : x = 2147483647
      · have e1 : ¬ x < c := by omega
        rw [if_pos hinf, if_neg e1, ← hc, ih]
      · rw [if_neg hinf]
        have hwx : wid x = x := by unfold wid; rw [if_neg hinf]
        have hu : upd (limUp n l p) i j (min (limUp n l p i j) x) i j = min (limUp n l p i j) x := by unfold upd; rw [if_pos ⟨rfl, rfl⟩]
        rw [hu, ih]
        by_cases hlt : x < c
        · rw [if_pos hlt, hset, hwx]
          have hxc : min (wid c) x = x := by
            unfold wid none62; split <;> omega
          split <;> omega
        · rw [if_neg hlt, ← hc]
          have hwc : wid c = c := by unfold wid; rw [if_neg (by omega)]
          rw [hwc]
          split <;> omega
    · have hne : i * (n + 1) + j ≠ a * (n + 1) + b := fun h' => e (by
        have h1 := (at_row (i := i) (show j < n + 1 by omega))
        have h2 := (at_row (i := a) (show b < n + 1 by omega))
        rw [h'] at h1
        exact ⟨h1.1.symm.trans h2.1, h1.2.symm.trans h2.2⟩)
      have hk : keepM (limUp n l p) a b x i j = limUp n l p i j := by
        unfold keepM; split
        · rfl
        · unfold upd; rw [if_neg e]
      rw [hk, ih]
      have hs : (if x < (lowUp n l p).getD (a * (n + 1) + b) 0 then (lowUp n l p).set (a * (n + 1) + b) x else lowUp n l p).getD (i * (n + 1) + j) 0 = (lowUp n l p).getD (i * (n + 1) + j) 0 := by
        split
        · rw [List.getD_eq_getElem?_getD, List.getElem?_set, if_neg (fun h => hne h.symm), ← List.getD_eq_getElem?_getD]
        · rfl
      rw [hs]
/-- Of the row with all limits: what Limits tells. -/
theorem of_low {n : Nat} {l : List (Int × Int × Int)} (hn : n ≤ 8) (h : l.all (limOk n) = true) : ofP n (lowUp n l l.length) = limP n l := by
  have hk : ∀ q, q < l.length → limOk n (l.getD q (0, 0, 0)) = true := (all_getD l (limOk n) (0, 0, 0)).1 h
  have hr := lowUp_right n l l.length (fun q hq => by have := hk q hq; simp only [limOk, Bool.and_eq_true] at this; exact this.2)
  have hall : (lowUp n l l.length).all rightB = true := (all_getD _ _ 0).2 fun q hq => hr q (by rw [lowUp_length] at hq; exact hq)
  unfold ofP limP
  rw [if_pos (by omega), if_pos (by rw [lowUp_length]; simp), if_pos hall, if_pos (by omega), lowUp_length]
  simp only [Int.toNat_natCast]
  rw [if_pos h]
  refine zoneP_agree fun i j hi hj => ?_
  rw [keepUp_cell n _ i j hi hj hr _ (Nat.le_refl _), if_pos (at_lt (by omega) (by omega)), low_agree n l l.length hk i j hi hj]

/-- The row, so far, in a block of the call's own. -/
def LowR (w0 : World) (g n : Nat) (l : List (Int × Int × Int)) (p : Nat) (wr : World) : Prop :=
  Below w0.heap.size w0 wr ∧ w0.heap.size ≤ g ∧ RowAt wr g 64 .i32 (lowUp n l p)
theorem LowR.next {w0 wr : World} {g n : Nat} {l : List (Int × Int × Int)} {p : Nat} (h : LowR w0 g n l p wr) (q a b : Nat) (x : Int) (hx : l.getD p (0, 0, 0) = (↑a, ↑b, x)) (hlt : x < (lowUp n l p).getD (a * (n + 1) + b) 0) (k : Nat) (hk : k = a * (n + 1) + b) :
    LowR w0 g n l (p + 1) ((wr.drewN q).setCell ⟨g, k, none⟩ (.int .i32 x)) := by
  refine ⟨(belowN h.1 q).setCell h.2.1 _, h.2.1, ?_⟩
  have := (h.2.2.drewN q).set k x
  rw [hk] at this ⊢
  have e : lowUp n l (p + 1) = (lowUp n l p).set (a * (n + 1) + b) x := by
    rw [show lowUp n l (p + 1) = if (l.getD p (0, 0, 0)).2.2 < (lowUp n l p).getD ((l.getD p (0, 0, 0)).1.toNat * (n + 1) + (l.getD p (0, 0, 0)).2.1.toNat) 0
      then (lowUp n l p).set ((l.getD p (0, 0, 0)).1.toNat * (n + 1) + (l.getD p (0, 0, 0)).2.1.toNat) (l.getD p (0, 0, 0)).2.2 else lowUp n l p from rfl, hx]
    exact if_pos hlt
  rw [e]; exact this
theorem LowR.keep {w0 wr : World} {g n : Nat} {l : List (Int × Int × Int)} {p : Nat} (h : LowR w0 g n l p wr) (q a b : Nat) (x : Int) (hx : l.getD p (0, 0, 0) = (↑a, ↑b, x)) (hlt : ¬ x < (lowUp n l p).getD (a * (n + 1) + b) 0) : LowR w0 g n l (p + 1) (wr.drewN q) := by
  refine ⟨belowN h.1 q, h.2.1, ?_⟩
  have e : lowUp n l (p + 1) = lowUp n l p := by
    rw [show lowUp n l (p + 1) = if (l.getD p (0, 0, 0)).2.2 < (lowUp n l p).getD ((l.getD p (0, 0, 0)).1.toNat * (n + 1) + (l.getD p (0, 0, 0)).2.1.toNat) 0
      then (lowUp n l p).set ((l.getD p (0, 0, 0)).1.toNat * (n + 1) + (l.getD p (0, 0, 0)).2.1.toNat) (l.getD p (0, 0, 0)).2.2 else lowUp n l p from rfl, hx]
    exact if_neg hlt
  rw [e]; exact h.2.2.drewN q
theorem LowR.alloc {w0 wr : World} {g n : Nat} {l : List (Int × Int × Int)} {p : Nat} (h : LowR w0 g n l p wr) (o : Obj) : LowR w0 g n l p (wr.alloc o) :=
  ⟨h.1.alloc h.1.size o, h.2.1, h.2.2.later ((Below.refl _ _).alloc (Nat.le_refl _) o)⟩

theorem rof_len (n : Int) (A : Option Addr) (c N : Nat) (cells : List Int) (w : World) (hN : cells.length = N) (hI : Ints w .i32 A cells) (hmax : N ≤ 4611686018427387904)
    (hk : ∀ q, q < cells.length → -2147483648 ≤ cells.getD q 0 ∧ cells.getD q 0 ≤ 2147483647) :
    Calls Tryd.prog 58 #[.int .i64 n, .slice A N c] w (MakesR w n.toNat (ofP n cells)) := by
  subst hN
  exact rof_any n A c cells w hI hmax hk
theorem right_bd32 {x : Int} (h : rightB x = true) : -2147483648 ≤ x ∧ x ≤ 2147483647 := by
  unfold rightB at h
  have := of_decide_eq_true h
  omega

set_option maxRecDepth 100000 in
set_option maxHeartbeats 4000000 in
theorem rlimits_yes (n : Nat) (A : Option Addr) (c : Nat) (l : List (Int × Int × Int)) (w : World) (hn : n ≤ 8) (hI : Lims w A l) (hmax : l.length ≤ 4611686018427387904)
    (hk : ∀ q, q < l.length → -2147483648 ≤ (l.getD q (0, 0, 0)).2.2 ∧ (l.getD q (0, 0, 0)).2.2 ≤ 2147483647) :
    Calls Tryd.prog 106 #[.int .i64 n, .slice A l.length c] w (MakesR w n (limP n l)) := by
  have HI := Lib.hid hI
  have HK := Lib.hid hk
  clear hI hk
  have d0 : decide ((n : Int) < 0) = false := decide_eq_false (by omega)
  obtain ⟨N, hN⟩ : ∃ N : Nat, N = (n + 1) * (n + 1) := ⟨_, rfl⟩
  have hN81 : N ≤ 81 := by
    have := Nat.mul_le_mul (show n + 1 ≤ 9 by omega) (show n + 1 ≤ 9 by omega)
    omega
  have hN0 : 0 < N := by rw [hN]; exact Nat.mul_pos (by omega) (by omega)
  have HN := Lib.hid hN
  go_enter Tryd.func106, Tryd.ntmps106
  go_wp2_with fail
  refine (infs_any n _ hn).mono ?_
  rw [← hN]
  rintro e w1 ⟨v, rfl, hb1, ho1⟩
  have ho1' : OwnI w1 w.heap.size 64 .i32 v (List.replicate N 2147483647) := by
    unfold OwnI; rw [List.length_replicate]; exact ho1
  obtain ⟨g, cap, hv, hg, hr⟩ := ho1'.row (by simpa using hN0)
  rw [List.length_replicate] at hv
  subst hv
  have HS := Lib.hid (show LowR w g n l 0 w1 from ⟨hb1, hg, by show RowAt w1 g _ _ (List.replicate ((n + 1) * (n + 1)) 2147483647); rw [← HN.out]; exact hr⟩)
  clear hb1 ho1 ho1' hr hg hN hN0
  go_wp2
  go_loopg [7] l.length (fun gg x wr => ∃ p : Nat, x = .int .i64 p ∧ LowR w g n l p wr ∧ Hid (p ≤ l.length ∧ gg + p = l.length ∧ ∀ q, q < p → limOk n (l.getD q (0, 0, 0)) = true))
  case atStart => exact ⟨0, by simp, HS.out, by omega, by omega, fun q h => by omega⟩
  case round =>
    clear HS
    obtain ⟨p, rfl, H, HG⟩ := hrel
    have HR := Lib.hid H
    clear H
    by_cases hp : p < l.length
    · obtain ⟨b, off, rfl, c1, c2, c3⟩ := HI.out.below HR.out.1 p hp
      have hb := HK.out p hp
      obtain ⟨x, hx⟩ : ∃ x, x = l.getD p (0, 0, 0) := ⟨_, rfl⟩
      rw [← hx] at c1 c2 c3 hb
      have HX := Lib.hid hx
      clear hx
      obtain ⟨xi, xj, xb⟩ := x
      obtain ⟨hb0, hb1⟩ := hb
      simp only at c1 c2 c3 hb0 hb1
      by_cases hr : limOk n (xi, xj, xb) = true
      · obtain ⟨⟨i0, i1, j0, j1⟩, hrr⟩ := (show (0 ≤ xi ∧ xi ≤ n ∧ 0 ≤ xj ∧ xj ≤ n) ∧ rightB xb = true by simpa [limOk] using hr)
        obtain ⟨a, rfl⟩ : ∃ a : Nat, xi = a := ⟨xi.toNat, by omega⟩
        obtain ⟨bb, rfl⟩ : ∃ bb : Nat, xj = bb := ⟨xj.toNat, by omega⟩
        have HRR := Lib.hid hrr
        have HOK := Lib.hid hr
        have HRA := Lib.hid (HR.out.alloc (.cells #[.int .i64 (a : Int), .int .i64 (bb : Int), .int .i32 xb] 68))
        clear hr hrr
        obtain ⟨P, hP, hP1, hP2, hP3⟩ := prod_facts a n (by omega) hn
        have hPN : P + n < N := by have := HN.out; omega
        have hc := HRA.out.2.2.cell (P + bb) (by rw [lowUp_length, ← HN.out]; omega)
        have hfz := HRA.out.2.2.frozen (P + bb)
        obtain ⟨y, hy⟩ : ∃ y, y = (lowUp n l p).getD (P + bb) 0 := ⟨_, rfl⟩
        rw [← hy] at hc
        have HY := Lib.hid hy
        have HP2 := Lib.hid hP2
        have HXE := Lib.hid (show l.getD p (0, 0, 0) = ((a : Int), (bb : Int), xb) from HX.out.symm)
        clear hP2 hP3 hy HX
        go_wp2_with fail
        refine (rright_yes _ _ HRR.out hb0 hb1).mono ?_
        rintro e w' ⟨rfl, rfl⟩
        have g1 : IntKind.i64.wrap ((n : Int) + 1) = (n : Int) + 1 := IntWalk.i64_in _ (by omega)
        have g2 : IntKind.i64.wrap (P : Int) = (P : Int) := IntWalk.i64_in _ (by omega)
        have g3 : IntKind.i64.wrap ((P : Int) + (bb : Int)) = (P : Int) + (bb : Int) := IntWalk.i64_in _ (by omega)
        have l1 : (P : Int) + (bb : Int) < (N : Int) := by omega
        have l3 : 0 ≤ (P : Int) + (bb : Int) := by omega
        have n1 : ((P : Int) + (bb : Int)).toNat = P + bb := by omega
        have hp2 : p + 1 ≤ l.length := by omega
        by_cases hlt : xb < y
        · have t1 : decide (xb < y) = true := decide_eq_true hlt
          have HLT := Lib.hid hlt
          clear hlt
          go_wp2_with fail
          go_quiet (fail)
          have HNX := Lib.hid (HRA.out.next nq a bb xb HXE.out (by rw [← HP2.out, ← HY.out]; exact HLT.out) (P + bb) (by rw [HP2.out]))
          clear g1 g2 g3 n1
          go_wp2
          go_roundg (gk - 1)
          case measure => have := HG.out; omega
          case rel =>
            refine ⟨p + 1, by go_num, HNX.out, by omega, by have := HG.out.2.1; omega, fun q hq => ?_⟩
            by_cases e : q = p
            · subst e; rw [HXE.out]; exact HOK.out
            · exact HG.out.2.2 q (by omega)
        · have t1 : decide (xb < y) = false := decide_eq_false hlt
          have HLT := Lib.hid hlt
          clear hlt
          go_wp2_with fail
          go_quiet (fail)
          have HNX := Lib.hid (HRA.out.keep nq a bb xb HXE.out (by rw [← HP2.out, ← HY.out]; have := HLT.out; omega))
          clear g1 g2 g3 n1
          go_wp2
          go_roundg (gk - 1)
          case measure => have := HG.out; omega
          case rel =>
            refine ⟨p + 1, by go_num, HNX.out, by omega, by have := HG.out.2.1; omega, fun q hq => ?_⟩
            by_cases e : q = p
            · subst e; rw [HXE.out]; exact HOK.out
            · exact HG.out.2.2 q (by omega)
      · have hall : l.all (limOk n) = false := by
          rw [Bool.eq_false_iff]
          intro ha
          have := (all_getD l (limOk n) (0, 0, 0)).1 ha p hp
          rw [← HX.out] at this
          exact hr this
        have hz : limP n l = (none, 7) := by
          unfold limP; rw [if_pos (by omega)]; simp only [Int.toNat_natCast]; rw [hall]; rfl
        have HZ := Lib.hid hz
        have HR2 := Lib.hid hr
        clear hr hz hall
        have hend : ∀ w2, Below wr.heap.size wr w2 → MakesR w n (limP n l) (.returned (.tuple #[.pointer none, .int .i64 7])) w2 := fun w2 h2 => by
          rw [HZ.out]; exact ⟨HR.out.1.trans (h2.mono HR.out.1.size), .pointer none, rfl, rfl⟩
        have HE := Lib.hid hend
        clear hend
        by_cases a1 : xi < 0
        · have d1 : decide (xi < 0) = true := decide_eq_true a1
          go_wp2
          go_ret2
          exact HE.out _ ((Below.refl _ _).alloc (Nat.le_refl _) _)
        · have d1 : decide (xi < 0) = false := decide_eq_false a1
          by_cases a2 : (n : Int) < xi
          · have d2 : decide ((n : Int) < xi) = true := decide_eq_true a2
            go_wp2
            go_ret2
            exact HE.out _ ((Below.refl _ _).alloc (Nat.le_refl _) _)
          · have d2 : decide ((n : Int) < xi) = false := decide_eq_false a2
            by_cases a3 : xj < 0
            · have d3 : decide (xj < 0) = true := decide_eq_true a3
              go_wp2
              go_ret2
              exact HE.out _ ((Below.refl _ _).alloc (Nat.le_refl _) _)
            · have d3 : decide (xj < 0) = false := decide_eq_false a3
              by_cases a4 : (n : Int) < xj
              · have d4 : decide ((n : Int) < xj) = true := decide_eq_true a4
                go_wp2
                go_ret2
                exact HE.out _ ((Below.refl _ _).alloc (Nat.le_refl _) _)
              · have d4 : decide ((n : Int) < xj) = false := decide_eq_false a4
                have hrf : rightB xb = false := by
                  rw [Bool.eq_false_iff]
                  intro h
                  exact HR2.out (by simp only [limOk, h, Bool.and_true, decide_eq_true_eq]; omega)
                have HRR := Lib.hid hrf
                clear hrf
                go_wp2_with fail
                refine (rright_no _ _ HRR.out hb0 hb1).mono ?_
                rintro e w' ⟨rfl, rfl⟩
                go_wp2
                go_ret2
                exact HE.out _ ((Below.refl _ _).alloc (Nat.le_refl _) _)
    · have e : p = l.length := by have := HG.out.1; omega
      have hall : l.all (limOk n) = true := (all_getD l (limOk n) (0, 0, 0)).2 (by rw [← e]; exact HG.out.2.2)
      have hrt := lowUp_right n l l.length (fun q hq => by have := HG.out.2.2 q (by omega); simp only [limOk, Bool.and_eq_true] at this; exact this.2)
      have HRT := Lib.hid hrt
      have HOL := Lib.hid (of_low hn hall)
      subst e
      clear hall hrt
      go_wp2_with fail
      refine (rof_len n (some ⟨g, 0, none⟩) cap N (lowUp n l l.length) _ (by rw [lowUp_length, HN.out]) HR.out.2.2.ints (by omega) (fun q hq => right_bd32 (HRT.out q (by rw [lowUp_length] at hq; exact hq)))).mono ?_
      rintro e w2 hz
      have hz' : MakesR wr n (limP n l) e w2 := by rw [← HOL.out]; exact hz
      obtain ⟨hb2, v2, rfl, hv2⟩ := hz'
      have HB2 := Lib.hid (HR.out.1.trans (hb2.mono HR.out.1.size))
      have HV2 := Lib.hid hv2
      clear hb2 hv2 hz HRT HOL
      go_wp2
      go_ret2
      exact ⟨HB2.out, v2, rfl, HV2.out⟩

set_option maxRecDepth 100000 in
set_option maxHeartbeats 1000000 in
theorem rlimits_clock (n : Int) (v : Value) (l : List (Int × Int × Int)) (w : World) (hn : ¬ (0 ≤ n ∧ n ≤ 8)) :
    Calls Tryd.prog 106 #[.int .i64 n, v] w (MakesR w n.toNat (limP n l)) := by
  have hz : limP n l = (none, 12) := by unfold limP; rw [if_neg hn]
  rw [hz]
  clear hz
  by_cases h0 : n < 0
  · have d0 : decide (n < 0) = true := decide_eq_true h0
    go_enter Tryd.func106, Tryd.ntmps106
    go_wp2
    go_ret2
    exact ⟨Below.refl _ _, .pointer none, rfl, rfl⟩
  · have d0 : decide (n < 0) = false := decide_eq_false h0
    have h8 : 8 < n := by omega
    clear hn
    go_enter Tryd.func106, Tryd.ntmps106
    go_wp2
    go_ret2
    exact ⟨Below.refl _ _, .pointer none, rfl, rfl⟩

/-- The document's Limits, whatever it is given. -/
theorem rlimits_any (n : Int) (A : Option Addr) (c : Nat) (l : List (Int × Int × Int)) (w : World) (hI : Lims w A l) (hmax : l.length ≤ 4611686018427387904)
    (hk : ∀ q, q < l.length → -2147483648 ≤ (l.getD q (0, 0, 0)).2.2 ∧ (l.getD q (0, 0, 0)).2.2 ≤ 2147483647) :
    Calls Tryd.prog 106 #[.int .i64 n, .slice A l.length c] w (MakesR w n.toNat (limP n l)) := by
  by_cases hn : 0 ≤ n ∧ n ≤ 8
  · obtain ⟨k, rfl⟩ : ∃ k : Nat, n = k := ⟨n.toNat, by omega⟩
    exact rlimits_yes k A c l w (by omega) hI hmax hk
  · exact rlimits_clock n _ l w hn

end Go.Proofs.YtidcnlecgcobmaaDoor

/- What is asked of zones: Dim, Empty, Cell, Cells, Includes. -/
namespace Go.Proofs.YtidcnlecgcobmaaDoor
open Go.RowKit
set_option linter.unusedVariables false
set_option linter.unusedSimpArgs false
attribute [local go_sem] min_ints max_ints

set_option maxHeartbeats 400000 in
theorem dim_nil (w : World) : Calls Tryd.prog 73 #[.pointer none] w fun e w' => e = .returned (.int .i64 0) ∧ w = w' := by
  go_enter Tryd.func73, Tryd.ntmps73
  go_wp2
  go_ret
  exact ⟨rfl, rfl⟩
set_option maxHeartbeats 400000 in
theorem dim_zone (b n : Nat) (m : Mat) (w : World) (h : MatAt w b 126 .i32 n m) : Calls Tryd.prog 73 #[.pointer (some ⟨b, 0, none⟩)] w fun e w' => e = .returned (.int .i64 n) ∧ w = w' := by
  have h0 := h.head
  clear h
  go_enter Tryd.func73, Tryd.ntmps73
  go_wp2
  go_ret
  exact ⟨rfl, rfl⟩
set_option maxHeartbeats 400000 in
theorem empty_nil (w : World) : Calls Tryd.prog 39 #[.pointer none] w fun e w' => e = .returned (.bool false) ∧ w = w' := by
  go_enter Tryd.func39, Tryd.ntmps39
  go_wp2
  go_ret
  exact ⟨rfl, rfl⟩
set_option maxHeartbeats 400000 in
theorem empty_zone (b n : Nat) (m : Mat) (w : World) (h : MatAt w b 126 .i32 n m) : Calls Tryd.prog 39 #[.pointer (some ⟨b, 0, none⟩)] w fun e w' => e = .returned (.bool (decide (m 0 0 < 1))) ∧ w = w' := by
  have h0 := h.cell 0 0 (by omega) (by omega)
  simp only [Nat.zero_mul, Nat.add_zero] at h0
  clear h
  go_enter Tryd.func39, Tryd.ntmps39
  go_wp2
  go_ret
  exact ⟨rfl, rfl⟩

/-- What Cell answers. -/
def cellP (n : Nat) (m : Mat) (i j : Int) : Int × Int := if 0 ≤ i ∧ i ≤ n ∧ 0 ≤ j ∧ j ≤ n then (m i.toNat j.toNat, 0) else (0, 12)
set_option maxHeartbeats 400000 in
theorem cell_nil (i j : Int) (w : World) : Calls Tryd.prog 37 #[.pointer none, .int .i64 i, .int .i64 j] w fun e w' => e = .returned (.tuple #[.int .i32 0, .int .i64 1]) ∧ w = w' := by
  go_enter Tryd.func37, Tryd.ntmps37
  go_wp2
  go_ret2
  exact ⟨rfl, rfl⟩
set_option maxRecDepth 100000 in
set_option maxHeartbeats 1000000 in
theorem cell_zone (b n : Nat) (m : Mat) (i j : Int) (w : World) (hn : n ≤ 8) (h : MatAt w b 126 .i32 n m) :
    Calls Tryd.prog 37 #[.pointer (some ⟨b, 0, none⟩), .int .i64 i, .int .i64 j] w fun e w' => e = .returned (.tuple #[.int .i32 (cellP n m i j).1, .int .i64 (cellP n m i j).2]) ∧ w = w' := by
  have h0 := h.head
  have H := Lib.hid h
  clear h
  by_cases a1 : i < 0
  · have hz : cellP n m i j = (0, 12) := by unfold cellP; rw [if_neg (by omega)]
    rw [hz]
    clear hz
    have d1 : decide (i < 0) = true := decide_eq_true a1
    go_enter Tryd.func37, Tryd.ntmps37
    go_wp2
    go_ret2
    exact ⟨rfl, rfl⟩
  · have d1 : decide (i < 0) = false := decide_eq_false a1
    by_cases a2 : (n : Int) < i
    · have hz : cellP n m i j = (0, 12) := by unfold cellP; rw [if_neg (by omega)]
      rw [hz]
      clear hz
      have d2 : decide ((n : Int) < i) = true := decide_eq_true a2
      go_enter Tryd.func37, Tryd.ntmps37
      go_wp2
      go_ret2
      exact ⟨rfl, rfl⟩
    · have d2 : decide ((n : Int) < i) = false := decide_eq_false a2
      by_cases a3 : j < 0
      · have hz : cellP n m i j = (0, 12) := by unfold cellP; rw [if_neg (by omega)]
        rw [hz]
        clear hz
        have d3 : decide (j < 0) = true := decide_eq_true a3
        go_enter Tryd.func37, Tryd.ntmps37
        go_wp2
        go_ret2
        exact ⟨rfl, rfl⟩
      · have d3 : decide (j < 0) = false := decide_eq_false a3
        by_cases a4 : (n : Int) < j
        · have hz : cellP n m i j = (0, 12) := by unfold cellP; rw [if_neg (by omega)]
          rw [hz]
          clear hz
          have d4 : decide ((n : Int) < j) = true := decide_eq_true a4
          go_enter Tryd.func37, Tryd.ntmps37
          go_wp2
          go_ret2
          exact ⟨rfl, rfl⟩
        · have d4 : decide ((n : Int) < j) = false := decide_eq_false a4
          obtain ⟨p, rfl⟩ : ∃ p : Nat, i = p := ⟨i.toNat, by omega⟩
          obtain ⟨q, rfl⟩ : ∃ q : Nat, j = q := ⟨j.toNat, by omega⟩
          have hz : cellP n m p q = (m p q, 0) := by unfold cellP; rw [if_pos (by omega)]; rfl
          rw [hz]
          clear hz
          have hc := H.out.cell p q (by omega) (by omega)
          go_enter Tryd.func37, Tryd.ntmps37
          go_wp2
          go_ret2
          exact ⟨rfl, rfl⟩

theorem infoB : (Tryd.prog.info? 64).map (fun i => (i.zero, i.size, i.bytes)) = some (some (.int .i32 0), 1, 4) := by kernel_rfl
theorem addr_add (g o j : Nat) : (⟨g, o, none⟩ : Addr).add j = ⟨g, o + j, none⟩ := by unfold Addr.add; split <;> simp_all

theorem slice_row (g o n : Nat) (hn : n ≤ 8) (w : World) :
    (Instr.sliceAt 100 (.pointer (some ⟨g, o, none⟩)) none (some (.int .i64 ((n : Int) + 1))) none).run Tryd.prog w = .ok (.slice (some ⟨g, o, none⟩) (n + 1) 9) w := by
  have hl : Tryd.prog.arrayLen 100 = 9 := by kernel_rfl
  have hu : Tryd.prog.underlying 100 = some (.array (Tryd.prog.arrayLen 100) (Tryd.prog.elem 100)) := by kernel_rfl
  have hs : (sizeOf (Tryd.prog.elem 100)).run Tryd.prog w = .ok 1 w := by kernel_rfl
  rw [run_sliceAt_array_h w _ _ hu .i64 _ (by omega) (by rw [hl]; omega), hs, hl]
  have e : ((n : Int) + 1).toNat = n + 1 := by omega
  simp [slicedAt, e, Addr.add]

theorem own_drew {w : World} {base : Nat} {e : TypeId} {size n : Nat} {v : Value} {xs : List Value} (h : w.ownsRow base e size v n xs) : w.drew.ownsRow base e size v n xs := h
theorem row_cells {w : World} {b n N : Nat} {T : TypeId} {k : IntKind} {m : Mat} (h : MatAt w b T k N m) {i : Nat} (hi : i < 9) (hn : n ≤ 8) :
    ∀ j u, ((List.range (n + 1)).map (fun c => Value.int k (m i c)))[j]? = some u → w.cell? ((⟨b, 1 + i * 9, none⟩ : Addr).add j) = some u := by
  intro j u hu
  rw [addr_add]
  rw [List.getElem?_map] at hu
  by_cases hj : j < n + 1
  · simp [hj] at hu
    subst hu
    exact h.cell i j hi (by omega)
  · simp [hj] at hu

/-- The rows that all has gathered. -/
def AllR (w0 : World) (b n : Nat) (m : Mat) (i : Nat) (v : Value) (wr : World) : Prop :=
  Below w0.heap.size w0 wr ∧ wr.ownsRow w0.heap.size 64 1 v (i * (n + 1)) (vals .i32 (rowsL n m i)) ∧ i ≤ n + 1

set_option maxRecDepth 100000 in
set_option maxHeartbeats 1000000 in
theorem all_any (b n : Nat) (m : Mat) (w : World) (hn : n ≤ 8) (h : MatAt w b 126 .i32 n m) :
    Calls Tryd.prog 110 #[.pointer (some ⟨b, 0, none⟩)] w fun e w' => ∃ v, e = .returned v ∧ AllR w b n m (n + 1) v w' := by
  have h0 := h.head
  have H := Lib.hid h
  clear h
  obtain ⟨i0, hi, hz0, hz1, hz2⟩ := info_parts infoB
  have HI := Lib.hid (And.intro hi (And.intro hz0 (And.intro hz1 hz2)))
  clear hi hz0 hz1 hz2
  have HS := Lib.hid (show AllR w b n m 0 (.slice none 0 0) w from ⟨Below.refl _ _, by simpa [rowsL, vals] using World.ownsRow_nil w _ _ _, by omega⟩)
  go_enter Tryd.func110, Tryd.ntmps110
  go_wp2
  go_loopg [3, 10] (n + 1) (fun g v x wr => ∃ i : Nat, x = .int .i64 i ∧ AllR w b n m i v wr ∧ Hid (g + i = n + 1))
  case atStart => exact ⟨0, by simp, HS.out, by show _ = _; omega⟩
  case round =>
    clear HS h0
    obtain ⟨i, rfl, HA, HG⟩ := hrel
    have HR := Lib.hid HA
    have hm := H.out.later HA.1
    have h0 := hm.head
    have HM := Lib.hid hm
    clear HA hm
    by_cases hi : i < n + 1
    · have hii : (i : Int) < (n : Int) + 1 := by omega
      have i9 : (i : Int) < 9 := by omega
      have n9 : (n : Int) + 1 ≤ 9 := by omega
      have g1 : IntKind.i64.wrap ((n : Int) + 1) = (n : Int) + 1 := IntWalk.i64_in _ (by omega)
      have D0 := Lib.hid (show wr.drew.cell? _ = _ from h0)
      have hin : i * (n + 1) ≤ 8 * 9 := Nat.mul_le_mul (by omega) (by omega)
      have hsl := slice_row b (1 + i * 9) n hn
      go_wp2_with fail
      refine wp_region_still_tail 12 (by kernel_rfl) (by kernel_rfl) ?_
      simp only [List.take_succ_cons, List.take_zero, List.drop_succ_cons, List.drop_zero]
      change wpStill _ _ wr.drew _ _ _
      generalize wr.drew = w2 at *
      have d0 := D0.out
      clear D0
      repeat still_step
      refine wpStill_nil ?_
      go_wp2_with (at_builtin; refine wpList_append_own _ rfl _ _ 22 rfl w.heap.size 64 i0 (.int .i32 0) 1 4 Tryd.underlying22 HI.out.1 HI.out.2.1 HI.out.2.2.1 HI.out.2.2.2 rfl (by decide) _ _ _ rfl (own_drew HR.out.2.1) ⟨b, 1 + i * 9, none⟩ (n + 1) 9 ((List.range (n + 1)).map (fun c => Value.int .i32 (m i c))) rfl (by simp) (row_cells HM.out.drew (by omega) hn) (by intro u hu; obtain ⟨c, _, rfl⟩ := List.mem_map.1 hu; rfl) ?c3 ?c4 ?c5 ?_)
      case c3 => unfold maxLen; omega
      case c4 => omega
      case c5 => exact HR.out.1.size
      intro v' w3 hown hgrow _
      have HN := Lib.hid (show AllR w b n m (i + 1) v' w3 from by
        refine ⟨(Below.drew HR.out.1).grown hgrow HR.out.1.size (fun k hk => ?_), ?_, by omega⟩
        · exact (HR.out.2.1.lt k hk).1
        · have e : (i + 1) * (n + 1) = i * (n + 1) + (n + 1) := by rw [Nat.add_mul]; omega
          rw [e]
          have e2 : vals .i32 (rowsL n m (i + 1)) = vals .i32 (rowsL n m i) ++ (List.range (n + 1)).map (fun c => Value.int .i32 (m i c)) := by
            simp [vals, rowsL]
          rw [e2, List.range_succ, List.map_append]; exact hown)
      clear hown hgrow
      go_wp2
      go_roundg (gk - 1)
      case measure => have h := HG.out; omega
      case rel => exact ⟨i + 1, by go_num, HN.out, by have h := HG.out; show _ = _; omega⟩
    · have hii : ¬ (i : Int) < (n : Int) + 1 := by omega
      have e : i = n + 1 := by have := HR.out.2.2; omega
      subst e
      go_wp2
      go_ret
      exact ⟨_, rfl, HR.out⟩

/-- A slice that cells tells: all of them, in new memory. -/
theorem AllR.own {w0 wr : World} {b n : Nat} {m : Mat} {v : Value} (h : AllR w0 b n m (n + 1) v wr) : OwnI wr w0.heap.size 64 .i32 v (flat n m) := by
  unfold OwnI
  rw [flat_length]; exact h.2.1

theorem cells_nil (w : World) : Calls Tryd.prog 75 #[.pointer none] w fun e w' => e = .returned (.slice none 0 0) ∧ w = w' := by
  go_enter Tryd.func75, Tryd.ntmps75
  go_wp2
  go_ret
  exact ⟨rfl, rfl⟩
set_option maxRecDepth 100000 in
set_option maxHeartbeats 1000000 in
theorem cells_zone (b n : Nat) (m : Mat) (w : World) (hn : n ≤ 8) (h : MatAt w b 126 .i32 n m) :
    Calls Tryd.prog 75 #[.pointer (some ⟨b, 0, none⟩)] w fun e w' => ∃ v, e = .returned v ∧ Below w.heap.size w w' ∧ OwnI w' w.heap.size 64 .i32 v (flat n m) := by
  go_enter Tryd.func75, Tryd.ntmps75
  go_wp2_with fail
  refine (all_any b n m _ hn h).mono ?_
  rintro e w1 ⟨v, rfl, hA⟩
  have HA := Lib.hid hA
  clear hA h
  go_wp2
  go_ret
  exact ⟨v, rfl, HA.out.1, HA.out.own⟩

/-! ### are two of as many clocks? -/
def alikeP (z o : Option (Nat × Mat)) : Bool := match z, o with
  | some (n, _), some (k, _) => decide (n = k)
  | _, _ => false
theorem alike_nil (v : Value) (w : World) : Calls Tryd.prog 86 #[.pointer none, v] w fun e w' => e = .returned (.bool false) ∧ ∃ q, w' = w.drewN q := by
  go_enter Tryd.func86, Tryd.ntmps86
  go_wp2
  go_quiet (fail)
  go_wp2
  go_ret
  exact ⟨rfl, _, rfl⟩

set_option maxRecDepth 100000 in
theorem alike_none (b n : Nat) (m : Mat) (w : World) (h : MatAt w b 126 .i32 n m) : Calls Tryd.prog 86 #[.pointer (some ⟨b, 0, none⟩), .pointer none] w fun e w' => e = .returned (.bool false) ∧ ∃ q, w' = w.drewN q := by
  have h0 := h.head
  clear h
  go_enter Tryd.func86, Tryd.ntmps86
  go_wp2
  go_quiet (fail)
  go_wp2
  go_ret
  exact ⟨rfl, _, rfl⟩
set_option maxRecDepth 100000 in
theorem alike_two (b n c k : Nat) (m o : Mat) (w : World) (h : MatAt w b 126 .i32 n m) (h' : MatAt w c 126 .i32 k o) :
    Calls Tryd.prog 86 #[.pointer (some ⟨b, 0, none⟩), .pointer (some ⟨c, 0, none⟩)] w fun e w' => e = .returned (.bool (decide ((n : Int) = k))) ∧ ∃ q, w' = w.drewN q := by
  have h0 := h.head
  have h1 := h'.head
  clear h h'
  go_enter Tryd.func86, Tryd.ntmps86
  go_wp2
  go_quiet (fail)
  go_wp2
  go_ret
  exact ⟨by congr, _, rfl⟩

theorem alike_same (b c n : Nat) (m o : Mat) (w : World) (h : MatAt w b 126 .i32 n m) (h' : MatAt w c 126 .i32 n o) :
    Calls Tryd.prog 86 #[.pointer (some ⟨b, 0, none⟩), .pointer (some ⟨c, 0, none⟩)] w fun e w' => e = .returned (.bool true) ∧ ∃ q, w' = w.drewN q :=
  (alike_two b n c n m o w h h').mono fun _ _ k => ⟨by rw [k.1, decide_eq_true rfl], k.2⟩
theorem alike_other (b c n k : Nat) (m o : Mat) (w : World) (h : MatAt w b 126 .i32 n m) (h' : MatAt w c 126 .i32 k o) (hne : n ≠ k) :
    Calls Tryd.prog 86 #[.pointer (some ⟨b, 0, none⟩), .pointer (some ⟨c, 0, none⟩)] w fun e w' => e = .returned (.bool false) ∧ ∃ q, w' = w.drewN q :=
  (alike_two b n c k m o w h h').mono fun _ _ j => ⟨by rw [j.1, decide_eq_false (by omega)], j.2⟩

end Go.Proofs.YtidcnlecgcobmaaDoor

/- What is asked of the program's zones, or of nil. -/
namespace Go.Proofs.YtidcnlecgcobmaaDoor
open Go Go.RowKit
set_option linter.unusedVariables false
set_option linter.unusedSimpArgs false

/-- The number of a zone's clocks. -/
def dimP (z : Option (Nat × Mat)) : Int := match z with | some (n, _) => n | none => 0
/-- All cells of a zone. -/
def cellsP (z : Option (Nat × Mat)) : List Int := match z with | some (n, m) => flat n m | none => []

/-- Has a zone no valuation? -/
def emptyP (z : Option (Nat × Mat)) : Bool := match z with | some (_, m) => decide (m 0 0 < 1) | none => false
/-- What Cell answers of a zone, or of nil. -/
def cellZ (z : Option (Nat × Mat)) (i j : Int) : Int × Int := match z with | some (n, m) => cellP n m i j | none => (0, 1)
theorem cell_any (v : Value) (z : Option (Nat × Mat)) (i j : Int) (w : World) (h : ZoneV 126 w v z) :
    Calls Tryd.prog 37 #[v, .int .i64 i, .int .i64 j] w fun e w' => e = .returned (.tuple #[.int .i32 (cellZ z i j).1, .int .i64 (cellZ z i j).2]) ∧ w = w' := by
  match z, h with
  | none, h =>
    have h : v = .pointer none := h
    subst h
    exact cell_nil i j w
  | some (n, m), ⟨b, e, hn, _, hm⟩ =>
    subst e
    exact cell_zone b n m i j w hn hm

/-- A slice in new memory, or nil: what Cells tells. -/
def TellsL (w0 : World) (xs : List Int) (e : Ending) (w' : World) : Prop := ∃ v, e = .returned v ∧ Below w0.heap.size w0 w' ∧ OwnI w' w0.heap.size 64 .i32 v xs
theorem tells_nil (w0 w' : World) (h : w0 = w') : TellsL w0 [] (.returned (.slice none 0 0)) w' := by
  subst h
  exact ⟨_, rfl, Below.refl _ _, by unfold OwnI; simpa [vals] using World.ownsRow_nil _ _ _ _⟩
theorem cells_any (v : Value) (z : Option (Nat × Mat)) (w : World) (h : ZoneV 126 w v z) : Calls Tryd.prog 75 #[v] w (TellsL w (cellsP z)) := by
  match z, h with
  | none, h =>
    have h : v = .pointer none := h
    subst h
    refine (cells_nil w).mono ?_
    rintro e w' ⟨rfl, hw⟩
    exact tells_nil w w' hw
  | some (n, m), ⟨b, e, hn, _, hm⟩ =>
    subst e
    exact cells_zone b n m w hn hm

/-- The zone that Of tells of. -/
def zOf (n : Int) (cells : List Int) : Option (Nat × Mat) := (ofP n cells).1.map fun m => (n.toNat, m)
theorem cellsP_short (z : Option (Nat × Mat)) (h : ∀ n m, z = some (n, m) → n ≤ 8) : (cellsP z).length ≤ 81 := by
  match z with
  | none => simp [cellsP]
  | some (n, m) =>
    have hn := h n m rfl
    show (flat n m).length ≤ 81
    rw [flat_length]
    have := Nat.mul_le_mul (show n + 1 ≤ 9 by omega) (show n + 1 ≤ 9 by omega)
    omega


end Go.Proofs.YtidcnlecgcobmaaDoor

/- How the program adds wide bounds and closes a wide matrix. -/
namespace Go.Proofs.YtidcnlecgcobmaaDoor
open Go.RowKit
set_option linter.unusedVariables false
set_option linter.unusedSimpArgs false
attribute [local go_sem] min_ints max_ints

theorem mul_bits (a b : Int) : 0 ≤ (a % 2) * (b % 2) ∧ (a % 2) * (b % 2) ≤ 1 := by
  rcases two_cases a b with ⟨h, _⟩ | ⟨h, _⟩ <;> rw [h] <;> omega

set_option maxRecDepth 100000 in
set_option maxHeartbeats 1000000 in
theorem sum_fin (a b : Int) (w : World) (ha1 : -1152921504606846976 ≤ a) (ha2 : a ≤ 1152921504606846976) (hb1 : -1152921504606846976 ≤ b) (hb2 : b ≤ 1152921504606846976) :
    Calls Tryd.prog 113 #[.int .i64 a, .int .i64 b] w fun e w' => e = .returned (.int .i64 (wsum a b)) ∧ w = w' := by
  have t1 : (a == 4611686018427387904) = false := by simp; omega
  have t2 : (b == 4611686018427387904) = false := by simp; omega
  obtain ⟨p, hp, hp0, hp1, hp2⟩ : ∃ p, Go.bits .and .i64 (Go.bits .and .i64 a b) 1 = p ∧ 0 ≤ p ∧ p ≤ 1 ∧ p = (a % 2) * (b % 2) := ⟨_, i64_and_and1 a b, (mul_bits a b).1, (mul_bits a b).2, rfl⟩
  have HP := Lib.hid hp2
  clear hp2
  obtain ⟨x, hx, hx0, hx1, hx2⟩ : ∃ x, Go.bits .andNot .i64 a 1 = x ∧ a - 1 ≤ x ∧ x ≤ a ∧ x = a - a % 2 := ⟨_, i64_andNot1 a (by omega) (by omega), by omega, by omega, rfl⟩
  have HX := Lib.hid hx2
  clear hx2
  obtain ⟨y, hy, hy0, hy1, hy2⟩ : ∃ y, Go.bits .andNot .i64 b 1 = y ∧ b - 1 ≤ y ∧ y ≤ b ∧ y = b - b % 2 := ⟨_, i64_andNot1 b (by omega) (by omega), by omega, by omega, rfl⟩
  have HY := Lib.hid hy2
  clear hy2
  have HR : wsum a b = x + y + p := by
    unfold wsum none62
    rw [if_neg (by omega), HP.out, HX.out, HY.out]
  rw [HR]
  clear HR
  go_enter Tryd.func113, Tryd.ntmps113
  go_wp2
  go_ret
  exact ⟨rfl, rfl⟩

set_option maxRecDepth 100000 in
set_option maxHeartbeats 1000000 in
theorem sum_none_left (b : Int) (w : World) :
    Calls Tryd.prog 113 #[.int .i64 4611686018427387904, .int .i64 b] w fun e w' => e = .returned (.int .i64 4611686018427387904) ∧ w = w' := by
  go_enter Tryd.func113, Tryd.ntmps113
  go_wp2
  go_ret
  exact ⟨rfl, rfl⟩

set_option maxRecDepth 100000 in
set_option maxHeartbeats 1000000 in
theorem sum_none_right (a : Int) (w : World) :
    Calls Tryd.prog 113 #[.int .i64 a, .int .i64 4611686018427387904] w fun e w' => e = .returned (.int .i64 4611686018427387904) ∧ w = w' := by
  by_cases h : a = 4611686018427387904
  · subst h; exact sum_none_left _ _
  · have t1 : (a == 4611686018427387904) = false := by simp; omega
    clear h
    go_enter Tryd.func113, Tryd.ntmps113
    go_wp2
    go_ret
    exact ⟨rfl, rfl⟩

theorem dsum_any (a b : Int) (w : World) (ha : Bd 1152921504606846976 a) (hb : Bd 1152921504606846976 b) :
    Calls Tryd.prog 113 #[.int .i64 a, .int .i64 b] w fun e w' => e = .returned (.int .i64 (wsum a b)) ∧ w = w' := by
  rcases ha with rfl | ha
  · have : wsum none62 b = 4611686018427387904 := by simp [wsum, none62]
    rw [this]; exact sum_none_left _ _
  · rcases hb with rfl | hb
    · have : wsum a none62 = 4611686018427387904 := by simp [wsum, none62]
      rw [this]; exact sum_none_right _ _
    · exact sum_fin a b w ha.1 ha.2 hb.1 hb.2

theorem sum_still (a b : Int) (w : World) (ha : Bd 1152921504606846976 a) (hb : Bd 1152921504606846976 b) :
    Calls Tryd.prog 113 #[.int .i64 a, .int .i64 b] w fun e w' => e = .returned (.int .i64 (wsum a b)) ∧ w' = w :=
  (dsum_any a b w ha hb).mono fun _ _ h => ⟨h.1, h.2.symm⟩

/-- The machine's matrix is cur; nothing else was touched. -/
def CloseAt (w0 : World) (b n : Nat) (cur : Mat) (wr : World) : Prop := Only b w0 wr ∧ MatAt wr b 148 .i64 n cur

def OuterR (w0 : World) (b n : Nat) (m0 : Mat) (g k : Nat) (m : Mat) (wr : World) : Prop := CloseAt w0 b n m wr ∧ RoundOk n m0 k m ∧ g + k = n + 1
def MidR (w0 : World) (b n : Nat) (m : Mat) (k g i : Nat) (cur : Mat) (wr : World) : Prop :=
  CloseAt w0 b n cur wr ∧ InnerOk n (1073741824 * 4 ^ k) m k i 0 cur ∧ (∀ a, a < i → 1 ≤ fw k n m a a) ∧ i ≤ n + 1 ∧ g + i = n + 1
def InnR (w0 : World) (b n : Nat) (m : Mat) (k i g j : Nat) (cur : Mat) (wr : World) : Prop :=
  CloseAt w0 b n cur wr ∧ InnerOk n (1073741824 * 4 ^ k) m k i j cur ∧ j ≤ n + 1 ∧ g + j = n + 1

theorem CloseAt.step {w0 wr : World} {b n : Nat} {cur : Mat} (h : CloseAt w0 b n cur wr) {i j : Nat} (hi : i < 9) (hj : j < 9) (v : Int) :
    CloseAt w0 b n (upd cur i j v) (wr.setCell ⟨b, 1 + i * 9 + j, none⟩ (.int .i64 v)).drew :=
  ⟨(h.1.setCell _ _).drew, h.2.set i j hi hj v⟩

theorem InnR.bounds {w0 wr : World} {b n : Nat} {m m0 cur : Mat} {k i g j : Nat} (h : InnR w0 b n m k i g j cur wr) (hr : RoundOk n m0 k m) (hn : n ≤ 8) (hk : k ≤ n) (hi : i ≤ n) (hj : j ≤ n) :
    Bd 1152921504606846976 (cur i j) ∧ Bd 1152921504606846976 (cur i k) ∧ Bd 1152921504606846976 (cur k j) := by
  have h4 := pow2_le (show k ≤ 9 by omega)
  have h1 := one_le_pow2 k
  have := h.2.1.bounds hr.fit (by omega) hk hi hj
  exact ⟨this.1.mono (by omega), this.2.1.mono (by omega), this.2.2.mono (by omega)⟩

theorem InnR.step {w0 wr : World} {b n : Nat} {m m0 cur : Mat} {k i g j : Nat} (h : InnR w0 b n m k i g j cur wr) (hr : RoundOk n m0 k m) (hn : n ≤ 8) (hk : k ≤ n) (hi : i ≤ n) (hj : j ≤ n) :
    InnR w0 b n m k i (g - 1) (j + 1) (upd cur i j (min (cur i j) (wsum (cur i k) (cur k j)))) (wr.setCell ⟨b, 1 + i * 9 + j, none⟩ (.int .i64 (min (cur i j) (wsum (cur i k) (cur k j))))).drew := by
  have h1 := one_le_pow2 k
  have := h.2.2.2
  exact ⟨h.1.step (by omega) (by omega) _, h.2.1.step hr.fit (by omega) hk hi hj, by omega, by omega⟩

theorem InnR.next {w0 wr : World} {b n : Nat} {m cur : Mat} {k i g j : Nat} (h : InnR w0 b n m k i g j cur wr) (hj : ¬ j < n + 1) (hd : 1 ≤ cur i i) (hi : i ≤ n) (hall : ∀ a, a < i → 1 ≤ fw k n m a a) :
    MidR w0 b n m k (n - i) (i + 1) cur wr := by
  have e : j = n + 1 := by have := h.2.2.1; omega
  subst e
  obtain ⟨h1, h2, h3⟩ := (h.2.1.row hi).2 hd
  refine ⟨h.1, h3, fun a ha => ?_, by omega, by omega⟩
  by_cases e : a = i
  · subst e; exact h2
  · exact hall a (by omega)

theorem InnR.fail {w0 wr : World} {b n : Nat} {m m0 cur : Mat} {k i g j : Nat} (h : InnR w0 b n m k i g j cur wr) (hr : RoundOk n m0 k m) (hj : ¬ j < n + 1) (hd : cur i i < 1) (hk : k ≤ n) (hi : i ≤ n) : closed n m0 = none := by
  have e : j = n + 1 := by have := h.2.2.1; omega
  subst e
  exact hr.fail hk hi ((h.2.1.row hi).1 hd)

theorem MidR.next {w0 wr : World} {b n : Nat} {m m0 cur : Mat} {k i g : Nat} (h : MidR w0 b n m k g i cur wr) (hr : RoundOk n m0 k m) (hi : ¬ i < n + 1) (hk : k ≤ n) :
    OuterR w0 b n m0 (n - k) (k + 1) cur wr := by
  have e : i = n + 1 := by have := h.2.2.2.1; omega
  subst e
  exact ⟨h.1, hr.next hk h.2.1 (fun a ha => h.2.2.1 a (by omega)), by omega⟩

/-- What close answers. -/
def CloseEnds (w0 : World) (b n : Nat) (m0 : Mat) (e : Ending) (w' : World) : Prop :=
  Only b w0 w' ∧ ((closed n m0 = none ∧ e = .returned (.bool false)) ∨ ∃ m', closed n m0 = some m' ∧ e = .returned (.bool true) ∧ MatAt w' b 148 .i64 n m')

set_option maxRecDepth 100000 in
set_option maxHeartbeats 2000000 in
theorem close_any (b n : Nat) (m0 : Mat) (w : World) (hn : n ≤ 8) (h : MatAt w b 148 .i64 n m0) (hf : Fit n 1073741824 m0) :
    Calls Tryd.prog 89 #[.pointer (some ⟨b, 0, none⟩)] w (CloseEnds w b n m0) := by
  have H0 := Lib.hid (show OuterR w b n m0 (n + 1) 0 m0 w from ⟨⟨Only.refl _ _, h⟩, RoundOk.start hf, by omega⟩)
  have h0 := h.head
  clear h hf
  go_enter Tryd.func89, Tryd.ntmps89
  go_wp2
  go_loopg [11] (n + 1) (fun g v wr => ∃ k : Nat, ∃ m, v = .int .i64 k ∧ OuterR w b n m0 g k m wr)
  case atStart => exact ⟨0, m0, by simp, H0.out⟩
  case round =>
    clear H0 h0
    obtain ⟨k, m, rfl, H⟩ := hrel
    have HK := Lib.hid H
    have h0 := H.1.2.head
    clear H
    by_cases hk : k < n + 1
    · have hkk : (k : Int) < (n : Int) + 1 := by omega
      have H1 := Lib.hid (show MidR w b n m k (n + 1) 0 m wr from ⟨HK.out.1, HK.out.2.1.inner (by omega), fun a ha => by omega, by omega, by omega⟩)
      go_wp2
      go_loopg [19] (n + 1) (fun g v wr => ∃ i : Nat, ∃ cur, v = .int .i64 i ∧ MidR w b n m k g i cur wr)
      case atStart => exact ⟨0, m, by simp, H1.out⟩
      case round =>
        clear H1 h0
        obtain ⟨i, cur, rfl, H⟩ := hrel
        have HI := Lib.hid H
        have h0 := H.1.2.head
        clear H
        by_cases hi : i < n + 1
        · have hii : (i : Int) < (n : Int) + 1 := by omega
          have H1 := Lib.hid (show InnR w b n m k i (n + 1) 0 cur wr from ⟨HI.out.1, HI.out.2.1, by omega, by omega⟩)
          go_wp2
          go_loopg [27] (n + 1) (fun g v wr => ∃ j : Nat, ∃ cur, v = .int .i64 j ∧ InnR w b n m k i g j cur wr)
          case atStart => exact ⟨0, cur, by simp, H1.out⟩
          case round =>
            clear H1 h0
            obtain ⟨j, cur, rfl, H⟩ := hrel
            have HJ := Lib.hid H
            by_cases hj : j < n + 1
            · have hjj : (j : Int) < (n : Int) + 1 := by omega
              have c1 := H.1.2.cell i j (by omega) (by omega)
              have c2 := H.1.2.cell i k (by omega) (by omega)
              have c3 := H.1.2.cell k j (by omega) (by omega)
              have f1 := H.1.2.frozen (1 + i * 9 + j)
              clear H
              have HB := Lib.hid (HJ.out.bounds HK.out.2.1 hn (by omega) (by omega) (by omega))
              have HS := Lib.hid (HJ.out.step HK.out.2.1 hn (by omega) (by omega) (by omega))
              have i9 : (i : Int) < 9 := by omega
              have j9 : (j : Int) < 9 := by omega
              have k9 : (k : Int) < 9 := by omega
              have C1 := Lib.hid (show wr.drew.cell? _ = _ from c1)
              have C2 := Lib.hid (show wr.drew.cell? _ = _ from c2)
              have C3 := Lib.hid (show wr.drew.cell? _ = _ from c3)
              go_wp2
              refine wp_region_still_tail 33 (by kernel_rfl) (by kernel_rfl) ?_
              simp only [List.take_succ_cons, List.take_zero, List.drop_succ_cons, List.drop_zero]
              change wpStill _ _ wr.drew _ _ _
              generalize wr.drew = w2 at *
              have d1 := C1.out
              have d2 := C2.out
              have d3 := C3.out
              clear C1 C2 C3
              repeat still_step
              still_call (sum_still _ _ _ HB.out.2.1 HB.out.2.2)
              repeat still_step
              refine wpStill_nil ?_
              go_wp2
              go_roundg (gk - 1)
              case measure => have := HJ.out.2.2.2; omega
              case rel => exact ⟨j + 1, _, by go_num, HS.out⟩
            · have hjj : ¬ (j : Int) < (n : Int) + 1 := by omega
              have c1 := H.1.2.cell i i (by omega) (by omega)
              have h0 := H.1.2.head
              clear H
              by_cases hd : cur i i < 1
              · go_wp2
                go_ret
                exact ⟨HJ.out.1.1, .inl ⟨HJ.out.fail HK.out.2.1 hj hd (by omega) (by omega), rfl⟩⟩
              · go_wp2
                go_roundg (n - i)
                case measure => have := HI.out.2.2.2.2; omega
                case rel =>
                  exact ⟨i + 1, _, by go_num, HJ.out.next hj (by omega) (by omega) HI.out.2.2.1⟩
        · have hii : ¬ (i : Int) < (n : Int) + 1 := by omega
          go_wp2
          go_roundg (n - k)
          case measure => have := HK.out.2.2; omega
          case rel =>
            exact ⟨k + 1, _, by go_num, HI.out.next HK.out.2.1 hi (by omega)⟩
    · have hkk : ¬ (k : Int) < (n : Int) + 1 := by omega
      go_wp2
      go_ret
      have e : k = n + 1 := by have := HK.out.2.1.le; omega
      subst e
      exact ⟨HK.out.1.1, .inr ⟨m, HK.out.2.1.done, rfl, HK.out.1.2⟩⟩

end Go.Proofs.YtidcnlecgcobmaaDoor

/- Is a bound right? -/
namespace Go.Proofs.YtidcnlecgcobmaaDoor
open Go Go.RowKit
set_option linter.unusedVariables false
set_option linter.unusedSimpArgs false

set_option maxHeartbeats 400000 in
theorem right_any (b : Int) (w : World) : Calls Tryd.prog 61 #[.int .i32 b] w fun e w' => e = .returned (.bool (rightB b)) ∧ w = w' := by
  unfold rightB
  by_cases h0 : b = 2147483647
  · subst h0
    go_enter Tryd.func61, Tryd.ntmps61
    go_wp2
    go_ret
    exact ⟨by simp, rfl⟩
  · have t0 : (b == 2147483647) = false := by simp [h0]
    by_cases h1 : -536870912 ≤ b
    · have d1 : decide ((-536870912 : Int) ≤ b) = true := decide_eq_true h1
      by_cases h2 : b ≤ 536870913
      all_goals
        go_enter Tryd.func61, Tryd.ntmps61
        go_wp2
        go_ret
        exact ⟨by simp [*], rfl⟩
    · have d1 : decide ((-536870912 : Int) ≤ b) = false := decide_eq_false h1
      go_enter Tryd.func61, Tryd.ntmps61
      go_wp2
      go_ret
      exact ⟨by simp [*], rfl⟩


theorem right_yes (b : Int) (w : World) (h : rightB b = true) : Calls Tryd.prog 61 #[.int .i32 b] w fun e w' => e = .returned (.bool true) ∧ w = w' :=
  (right_any b w).mono fun _ _ k => ⟨by rw [k.1, h], k.2⟩
theorem right_no (b : Int) (w : World) (h : rightB b = false) : Calls Tryd.prog 61 #[.int .i32 b] w fun e w' => e = .returned (.bool false) ∧ w = w' :=
  (right_any b w).mono fun _ _ k => ⟨by rw [k.1, h], k.2⟩

end Go.Proofs.YtidcnlecgcobmaaDoor

/- What zone makes of a wide matrix: the zone, or the error. -/
namespace Go.Proofs.YtidcnlecgcobmaaDoor
open Go.RowKit
set_option linter.unusedVariables false
set_option linter.unusedSimpArgs false
attribute [local go_sem] min_ints max_ints


theorem zero_matrix (n : Nat) : (Tryd.zeroCells124).setIfInBounds 0 (Value.int .i64 n) = matCells .i32 n (fun _ _ => 0) := rfl

theorem size_matrix : (Tryd.prog.info? 124).map (·.size) = some 82 := by kernel_rfl

theorem zone_lay (n : Nat) (m : Mat) : Array.foldl (fun (cs : Array Value) (x : Value × Nat) => cs.setIfInBounds x.snd x.fst) Tryd.zeroCells126 (matCells .i32 n m).zipIdx 0 82 = matCells .i32 n m := by
  have h := lay_whole (matCells .i32 n m) Tryd.zeroCells126 (by rw [matCells_size]; rfl)
  rw [matCells_size] at h
  exact h

/-- The narrow matrix while it is filled. -/
def FillR (w1 : World) (b b2 n : Nat) (m : Mat) (g i j : Nat) (wr : World) : Prop :=
  Only b2 w1 wr ∧ MatAt wr b 148 .i64 n m ∧ MatAt wr b2 124 .i32 n (filled (narM n m) i j) ∧ (∀ a c, a < i ∨ (a = i ∧ c < j) → c ≤ n → inR (m a c)) ∧ i ≤ n + 1 ∧ j ≤ n + 1

theorem FillR.step {w1 wr : World} {b b2 n : Nat} {m : Mat} {g g' i j : Nat} (h : FillR w1 b b2 n m g i j wr) (hn : n ≤ 8) (hb : b ≠ b2) (hi : i < n + 1) (hj : j < n + 1) (hr : inR (m i j)) (v : Int) (hv : v = nar (m i j)) :
    FillR w1 b b2 n m g' i (j + 1) (wr.setCell ⟨b2, 1 + i * 9 + j, none⟩ (.int .i32 v)) := by
  have e : nar (m i j) = narM n m i j := by unfold narM; rw [if_pos (by omega)]
  have h3 := h.2.2.1.set i j (by omega) (by omega) v
  rw [hv, e, upd_filled] at h3
  rw [hv, e]
  refine ⟨h.1.setCell _ _, h.2.1.only ((Only.refl _ _).setCell _ _) hb, h3, fun a c hac hc => ?_, h.2.2.2.2.1, by omega⟩
  by_cases e : a = i ∧ c = j
  · obtain ⟨rfl, rfl⟩ := e; exact hr
  · exact h.2.2.2.1 a c (by omega) hc
theorem FillR.row {w1 wr : World} {b b2 n : Nat} {m : Mat} {g g' i j : Nat} (h : FillR w1 b b2 n m g i j wr) (hi : i < n + 1) (hj : ¬ j < n + 1) : FillR w1 b b2 n m g' (i + 1) 0 wr := by
  have e : j = n + 1 := by have := h.2.2.2.2.2; omega
  subst e
  refine ⟨h.1, h.2.1, by rw [filled_row (narM_inside n m)]; exact h.2.2.1, fun a c hac hc => h.2.2.2.1 a c (by omega) hc, by omega, by omega⟩
theorem FillR.done {w1 wr : World} {b b2 n : Nat} {m : Mat} {g i : Nat} (h : FillR w1 b b2 n m g i 0 wr) (hi : ¬ i < n + 1) :
    Only b2 w1 wr ∧ MatAt wr b2 124 .i32 n (narM n m) ∧ allR n m := by
  have e : i = n + 1 := by have := h.2.2.2.2.1; omega
  subst e
  refine ⟨h.1, ?_, fun a ha c hc => h.2.2.2.1 a c (by omega) hc⟩
  have := h.2.2.1
  rw [filled_done (narM_inside n m)] at this
  exact this

/-- What zone answers: v and the number of the error. -/
def ZoneEnds (w0 : World) (b n : Nat) (m0 : Mat) (e : Ending) (w' : World) : Prop :=
  Only b w0 w' ∧ ∃ v, e = .returned (.tuple #[v, .int .i64 (zoneP n m0).2]) ∧ ZoneV 126 w' v ((zoneP n m0).1.map fun m => (n, m))

theorem zone_made {w1 : World} {c n : Nat} {m : Mat} (h : MatAt w1 c 124 .i32 n m) : MatAt (w1.alloc (.cells (matCells .i32 n m) 126)) w1.heap.size 126 .i32 n m := by
  unfold MatAt; exact heap_alloc_new _ _

set_option maxRecDepth 100000 in
set_option maxHeartbeats 2000000 in
theorem zone_any (b n : Nat) (m0 : Mat) (w : World) (hn : n ≤ 8) (h : MatAt w b 148 .i64 n m0) (hf : Fit n 1073741824 m0) :
    Calls Tryd.prog 83 #[.pointer (some ⟨b, 0, none⟩)] w (ZoneEnds w b n m0) := by
  have h0 := h.head
  have hlt := h.lt
  have HF := Lib.hid hf
  have HM := Lib.hid (show MatAt (w.alloc (.cells (matCells .i32 n (fun _ _ => 0)) 124)) w.heap.size 124 .i32 n (fun _ _ => 0) from by unfold MatAt; exact heap_alloc_new _ _)
  have HB := Lib.hid (h.alloc (.cells (matCells .i32 n (fun _ _ => 0)) 124))
  clear h hf
  have hz0 := zero_matrix n
  go_enter Tryd.func83, Tryd.ntmps83
  go_wp2_with fail
  refine (close_any b n m0 _ hn HB.out HF.out).mono ?_
  rintro e w1 ⟨ho, hcl⟩
  have HO := Lib.hid ho
  have hsz : w.heap.size < w1.heap.size := by have := ho.size; simp at this; omega
  have hM1 : MatAt w1 w.heap.size 124 .i32 n (fun _ _ => 0) := HM.out.only ho (by omega)
  have HM1 := Lib.hid hM1
  clear ho hz0
  rcases hcl with ⟨hc, rfl⟩ | ⟨m', hc, rfl, hm⟩
  · have HC := Lib.hid hc
    have hb := zone_lay n (fun _ _ => 0)
    have hs := matCells_size .i32 n (fun _ _ => 0)
    clear hc hM1
    go_wp2_with (refine wpList_load_row rfl 124 _ rfl w.heap.size rfl 124 _ (0, 0) _ HM1.out Tryd.underlying124 rfl (by rw [matCells_size]; exact size_matrix) ?_)
    go_ret2
    have hz : zoneP n m0 = (some (fun _ _ => 0), 0) := by unfold zoneP; rw [HC.out]
    exact ⟨(((Only.refl _ _).alloc _).trans HO.out).alloc _, .pointer (some ⟨w1.heap.size, 0, none⟩), by rw [hz]; rfl, by rw [hz]; exact ⟨_, rfl, hn, right_zero n, zone_made HM1.out⟩⟩
  · have HC := Lib.hid hc
    have h0 := hm.head
    have HS := Lib.hid (show FillR w1 b w.heap.size n m' (n + 1) 0 0 w1 from ⟨Only.refl _ _, hm, by rw [filled_zero]; exact HM1.out, fun a c h => by omega, by omega, by omega⟩)
    clear hc hm hM1
    go_wp2
    go_loopg [27] (n + 1) (fun g v wr => ∃ i : Nat, v = .int .i64 i ∧ FillR w1 b w.heap.size n m' g i 0 wr ∧ g + i = n + 1)
    case atStart => exact ⟨0, by simp, HS.out, by omega⟩
    case round =>
      clear HS h0
      obtain ⟨i, rfl, H, hg⟩ := hrel
      have HG := Lib.hid hg
      have HI := Lib.hid H
      have h0 := H.2.1.head
      clear H hg
      by_cases hi : i < n + 1
      · have hii : (i : Int) < (n : Int) + 1 := by omega
        go_wp2
        go_loopg [35] (n + 1) (fun g v wr => ∃ j : Nat, v = .int .i64 j ∧ FillR w1 b w.heap.size n m' g i j wr ∧ g + j = n + 1)
        case atStart => exact ⟨0, by simp, HI.out, by omega⟩
        case round =>
          clear HI h0
          obtain ⟨j, rfl, H, hg⟩ := hrel
          have HG2 := Lib.hid hg
          have HJ := Lib.hid H
          clear hg
          by_cases hj : j < n + 1
          · have hjj : (j : Int) < (n : Int) + 1 := by omega
            have c1 := H.2.1.cell i j (by omega) (by omega)
            have f1 := H.2.2.1.frozen (1 + i * 9 + j)
            have hb2 : w.heap.size < wr.heap.size := H.2.2.1.lt
            obtain ⟨old, ho⟩ : ∃ old, wr.cell? ⟨w.heap.size, 1 + i * 9 + j, none⟩ = some (.int .i32 old) := ⟨_, H.2.2.1.cell i j (by omega) (by omega)⟩
            clear H
            obtain ⟨x, hx⟩ : ∃ x, x = m' i j := ⟨_, rfl⟩
            rw [← hx] at c1
            have HX := Lib.hid hx
            clear hx
            by_cases h1 : x = none62
            · have hx : x = 4611686018427387904 := h1
              have HX1 := Lib.hid h1
              clear h1
              subst hx
              go_wp2
              go_roundg (gk - 1)
              case measure => have := HG2.out; omega
              case rel => exact ⟨j + 1, by go_num, HJ.out.step hn (by omega) hi hj (.inl (by rw [← HX.out]; rfl)) _ (by rw [← HX.out]; rfl), by have := HG2.out; omega⟩
            · have t1 : (x == 4611686018427387904) = false := by simpa [none62] using h1
              have H1 := Lib.hid h1
              clear h1
              by_cases h2 : x < -536870912
              · have d2 : decide (x < -536870912) = true := decide_eq_true h2
                go_wp2
                go_ret2
                have hall : ¬ allR n m' := fun ha => by have := ha i (by omega) j (by omega); rw [← HX.out] at this; rcases this with h | h; exact H1.out h; omega
                have hz : zoneP n m0 = (none, 10) := by unfold zoneP; rw [HC.out]; simp only; rw [if_neg hall]
                exact ⟨(((Only.refl _ _).alloc _).trans HO.out).andThen HJ.out.1 (Nat.le_refl _), .pointer none, by rw [hz]; rfl, by rw [hz]; rfl⟩
              · have d2 : decide (x < -536870912) = false := decide_eq_false h2
                by_cases h3 : 536870913 < x
                · go_wp2
                  go_ret2
                  have hall : ¬ allR n m' := fun ha => by have := ha i (by omega) j (by omega); rw [← HX.out] at this; rcases this with h | h; exact H1.out h; omega
                  have hz : zoneP n m0 = (none, 10) := by unfold zoneP; rw [HC.out]; simp only; rw [if_neg hall]
                  exact ⟨(((Only.refl _ _).alloc _).trans HO.out).andThen HJ.out.1 (Nat.le_refl _), .pointer none, by rw [hz]; rfl, by rw [hz]; rfl⟩
                · go_wp2
                  go_roundg (gk - 1)
                  case measure => have := HG2.out; omega
                  case rel => exact ⟨j + 1, by go_num, HJ.out.step hn (by omega) hi hj (by rw [← HX.out]; exact .inr (by omega)) _ (by rw [← HX.out]; unfold nar; rw [if_neg H1.out]), by have := HG2.out; omega⟩
          · have hjj : ¬ (j : Int) < (n : Int) + 1 := by omega
            go_wp2
            go_roundg (n - i)
            case measure => have := HG.out; omega
            case rel => exact ⟨i + 1, by go_num, HJ.out.row hi hj, by omega⟩
      · have hii : ¬ (i : Int) < (n : Int) + 1 := by omega
        obtain ⟨hO2, hM2, hall⟩ := HI.out.done hi
        have HO2 := Lib.hid hO2
        have HM2 := Lib.hid hM2
        have HA := Lib.hid hall
        have hb := zone_lay n (narM n m')
        have hs := matCells_size .i32 n (narM n m')
        clear hO2 hM2 hall h0
        go_wp2_with (refine wpList_load_row rfl 124 _ rfl w.heap.size rfl 124 _ (0, 0) _ HM2.out Tryd.underlying124 rfl (by rw [matCells_size]; exact size_matrix) ?_)
        go_ret2
        have hz : zoneP n m0 = (some (narM n m'), 0) := by unfold zoneP; rw [HC.out]; simp only; rw [if_pos HA.out]
        exact ⟨((((Only.refl _ _).alloc _).trans HO.out).andThen HO2.out (Nat.le_refl _)).alloc _, .pointer (some ⟨wr.heap.size, 0, none⟩), by rw [hz]; rfl, by rw [hz]; exact ⟨_, rfl, hn, narM_right HA.out, zone_made HM2.out⟩⟩

end Go.Proofs.YtidcnlecgcobmaaDoor

/- Of, Limits, Universe, Zero: the zone of bounds, or the error. -/
namespace Go.Proofs.YtidcnlecgcobmaaDoor
open Go.RowKit
set_option linter.unusedVariables false
set_option linter.unusedSimpArgs false
attribute [local go_sem] min_ints max_ints

theorem few_yes (n : Int) (w : World) (h : 0 ≤ n ∧ n ≤ 8) : Calls Tryd.prog 80 #[.int .i64 n] w fun e w' => e = .returned (.bool true) ∧ w = w' :=
  (few_any n w).mono fun _ _ k => ⟨by rw [k.1, decide_eq_true h], k.2⟩
theorem few_no (n : Int) (w : World) (h : ¬ (0 ≤ n ∧ n ≤ 8)) : Calls Tryd.prog 80 #[.int .i64 n] w fun e w' => e = .returned (.bool false) ∧ w = w' :=
  (few_any n w).mono fun _ _ k => ⟨by rw [k.1, decide_eq_false h], k.2⟩

/-- A function that makes a zone ends with this answer. -/
def MakesZ (w0 : World) (n : Nat) (r : Option Mat × Int) (e : Ending) (w' : World) : Prop :=
  Below w0.heap.size w0 w' ∧ ∃ v, e = .returned (.tuple #[v, .int .i64 r.2]) ∧ ZoneV 126 w' v (r.1.map fun m => (n, m))

/-- The wide matrix while it is filled: it lies in the first new block. -/
def KeepR (w0 : World) (n : Nat) (m : Mat) (wr : World) : Prop :=
  Below w0.heap.size w0 wr ∧ MatAt wr w0.heap.size 148 .i64 n m ∧ Fit n 1073741824 m

theorem KeepR.step {w0 wr w' : World} {n : Nat} {m : Mat} (h : KeepR w0 n m wr) {i j : Nat} {b : Int} (ho : Only w0.heap.size wr w') (hm : MatAt w' w0.heap.size 148 .i64 n (keepM m i j b)) (hb : rightB b = true) :
    KeepR w0 n (keepM m i j b) w' :=
  ⟨h.1.trans (ho.below (Nat.le_refl _) h.1.size), hm, keepM_fit h.2.2 _ _ hb⟩
theorem KeepR.alloc {w0 wr : World} {n : Nat} {m : Mat} (h : KeepR w0 n m wr) (o : Obj) : KeepR w0 n m (wr.alloc o) := ⟨h.1.alloc h.1.size o, h.2.1.alloc o, h.2.2⟩

theorem of_makes {w0 wr w1 : World} {n : Nat} {m : Mat} {e : Ending} (h : KeepR w0 n m wr) (hz : ZoneEnds wr w0.heap.size n m e w1) : MakesZ w0 n (zoneP n m) e w1 :=
  ⟨h.1.trans (hz.1.below (Nat.le_refl _) h.1.size), hz.2⟩


theorem limOk_parts {n : Nat} {x : Int × Int × Int} (h : limOk n x = true) : (0 ≤ x.1 ∧ x.1 ≤ n ∧ 0 ≤ x.2.1 ∧ x.2.1 ≤ n) ∧ rightB x.2.2 = true := by
  simpa [limOk] using h

set_option maxRecDepth 100000 in
set_option maxHeartbeats 2000000 in
theorem limits_yes (n : Nat) (A : Option Addr) (c : Nat) (l : List (Int × Int × Int)) (w : World) (hn : n ≤ 8) (hI : Lims w A l) (hmax : l.length ≤ 4611686018427387904)
    (hk : ∀ q, q < l.length → -2147483648 ≤ (l.getD q (0, 0, 0)).2.2 ∧ (l.getD q (0, 0, 0)).2.2 ≤ 2147483647) :
    Calls Tryd.prog 102 #[.int .i64 n, .slice A l.length c] w (MakesZ w n (limP n l)) := by
  have HI := Lib.hid hI
  have HK := Lib.hid hk
  clear hI hk
  go_enter Tryd.func102, Tryd.ntmps102
  go_wp2_with fail
  refine (few_yes _ _ (by omega)).mono ?_
  rintro e w' ⟨rfl, rfl⟩
  go_wp2_with fail
  refine (open_any n _ hn).mono ?_
  rintro e w1 ⟨rfl, hb1, hm1⟩
  have HS := Lib.hid (show KeepR w n (limUp n l 0) w1 from ⟨hb1, hm1, openM_fit n⟩)
  clear hb1 hm1
  go_wp2
  go_loopg [16] l.length (fun g v wr => ∃ p : Nat, v = .int .i64 p ∧ KeepR w n (limUp n l p) wr ∧ Hid (p ≤ l.length ∧ g + p = l.length ∧ ∀ q, q < p → limOk n (l.getD q (0, 0, 0)) = true))
  case atStart => exact ⟨0, by simp, HS.out, by omega, by omega, fun q h => by omega⟩
  case round =>
    clear HS
    obtain ⟨p, rfl, H, HG⟩ := hrel
    have HR := Lib.hid H
    clear H
    by_cases hp : p < l.length
    · obtain ⟨b, off, rfl, c1, c2, c3⟩ := HI.out.below HR.out.1 p hp
      have hb := HK.out p hp
      obtain ⟨x, hx⟩ : ∃ x, x = l.getD p (0, 0, 0) := ⟨_, rfl⟩
      rw [← hx] at c1 c2 c3 hb
      have HX := Lib.hid hx
      clear hx
      obtain ⟨xi, xj, xb⟩ := x
      obtain ⟨hb0, hb1⟩ := hb
      simp only at c1 c2 c3 hb0 hb1
      by_cases hr : limOk n (xi, xj, xb) = true
      · obtain ⟨⟨i0, i1, j0, j1⟩, hrr⟩ := limOk_parts hr
        simp only at i0 i1 j0 j1 hrr
        have HRR := Lib.hid hrr
        have HOK := Lib.hid hr
        clear hr hrr
        go_wp2_with fail
        refine (right_yes _ _ HRR.out).mono ?_
        rintro e w' ⟨rfl, rfl⟩
        go_wp2_with fail
        refine (keep_any _ _ _ xi.toNat xj.toNat n _ _ _ (by omega) (by omega) (by exact HR.out.2.1.alloc _) (by omega) (by omega) hb0 hb1).mono ?_
        rintro e w2 ⟨rfl, ho, hm2⟩
        have HN := Lib.hid (show KeepR w n (limUp n l (p + 1)) w2 from by
          have hx : l.getD p (0, 0, 0) = (xi, xj, xb) := HX.out.symm
          have e : limUp n l (p + 1) = keepM (limUp n l p) xi.toNat xj.toNat xb := by
            show keepM (limUp n l p) (l.getD p (0, 0, 0)).1.toNat (l.getD p (0, 0, 0)).2.1.toNat (l.getD p (0, 0, 0)).2.2 = _
            rw [hx]
          rw [e]
          exact (HR.out.alloc _).step ho hm2 HRR.out)
        clear ho hm2
        go_wp2
        go_roundg (gk - 1)
        case measure => have := HG.out; omega
        case rel =>
          refine ⟨p + 1, by go_num, HN.out, by omega, by have := HG.out.2.1; omega, fun q hq => ?_⟩
          by_cases e : q = p
          · subst e; rw [← HX.out]; exact HOK.out
          · exact HG.out.2.2 q (by omega)
      · have hall : l.all (limOk n) = false := by
          rw [Bool.eq_false_iff]
          intro ha
          have := (all_getD l (limOk n) (0, 0, 0)).1 ha p hp
          rw [← HX.out] at this
          exact hr this
        have hz : limP n l = (none, 7) := by
          unfold limP; rw [if_pos (by omega)]; simp only [Int.toNat_natCast]; rw [hall]; rfl
        have HZ := Lib.hid hz
        have HR2 := Lib.hid hr
        clear hr hz hall
        have hend : ∀ w2, Below wr.heap.size wr w2 → MakesZ w n (limP n l) (.returned (.tuple #[.pointer none, .int .i64 7])) w2 := fun w2 h2 => by
          rw [HZ.out]; exact ⟨HR.out.1.trans (h2.mono HR.out.1.size), .pointer none, rfl, rfl⟩
        have HE := Lib.hid hend
        clear hend
        by_cases a1 : xi < 0
        · have d1 : decide (xi < 0) = true := decide_eq_true a1
          go_wp2
          go_ret2
          exact HE.out _ ((Below.refl _ _).alloc (Nat.le_refl _) _)
        · have d1 : decide (xi < 0) = false := decide_eq_false a1
          by_cases a2 : (n : Int) < xi
          · have d2 : decide ((n : Int) < xi) = true := decide_eq_true a2
            go_wp2
            go_ret2
            exact HE.out _ ((Below.refl _ _).alloc (Nat.le_refl _) _)
          · have d2 : decide ((n : Int) < xi) = false := decide_eq_false a2
            by_cases a3 : xj < 0
            · have d3 : decide (xj < 0) = true := decide_eq_true a3
              go_wp2
              go_ret2
              exact HE.out _ ((Below.refl _ _).alloc (Nat.le_refl _) _)
            · have d3 : decide (xj < 0) = false := decide_eq_false a3
              by_cases a4 : (n : Int) < xj
              · have d4 : decide ((n : Int) < xj) = true := decide_eq_true a4
                go_wp2
                go_ret2
                exact HE.out _ ((Below.refl _ _).alloc (Nat.le_refl _) _)
              · have d4 : decide ((n : Int) < xj) = false := decide_eq_false a4
                have hrf : rightB xb = false := by
                  rw [Bool.eq_false_iff]
                  intro h
                  exact HR2.out (by simp only [limOk, h, Bool.and_true, decide_eq_true_eq]; omega)
                have HRR := Lib.hid hrf
                clear hrf
                go_wp2_with fail
                refine (right_no _ _ HRR.out).mono ?_
                rintro e w' ⟨rfl, rfl⟩
                go_wp2
                go_ret2
                exact HE.out _ ((Below.refl _ _).alloc (Nat.le_refl _) _)
    · have e : p = l.length := by have := HG.out.1; omega
      go_wp2_with fail
      refine (zone_any _ n _ _ hn HR.out.2.1 HR.out.2.2).mono ?_
      rintro e w2 hz
      have HZ := Lib.hid hz
      obtain ⟨ho, v, rfl, hv⟩ := hz
      clear ho hv
      subst e
      go_wp2
      go_ret2
      have hall : l.all (limOk n) = true := (all_getD l (limOk n) (0, 0, 0)).2 HG.out.2.2
      have hz : limP n l = zoneP n (limUp n l l.length) := by
        unfold limP; rw [if_pos (by omega)]; simp only [Int.toNat_natCast]; rw [if_pos hall]
      rw [hz]
      exact of_makes HR.out HZ.out

set_option maxRecDepth 100000 in
set_option maxHeartbeats 1000000 in
theorem limits_clock (n : Int) (v : Value) (l : List (Int × Int × Int)) (w : World) (hn : ¬ (0 ≤ n ∧ n ≤ 8)) :
    Calls Tryd.prog 102 #[.int .i64 n, v] w (MakesZ w n.toNat (limP n l)) := by
  have hz : limP n l = (none, 12) := by unfold limP; rw [if_neg hn]
  rw [hz]
  clear hz
  have HN := Lib.hid hn
  clear hn
  go_enter Tryd.func102, Tryd.ntmps102
  go_wp2_with fail
  refine (few_no _ _ HN.out).mono ?_
  rintro e w' ⟨rfl, rfl⟩
  go_wp2
  go_ret2
  exact ⟨Below.refl _ _, .pointer none, rfl, rfl⟩

/-- Limits, whatever it is given. -/
theorem limits_any (n : Int) (A : Option Addr) (c : Nat) (l : List (Int × Int × Int)) (w : World) (hI : Lims w A l) (hmax : l.length ≤ 4611686018427387904)
    (hk : ∀ q, q < l.length → -2147483648 ≤ (l.getD q (0, 0, 0)).2.2 ∧ (l.getD q (0, 0, 0)).2.2 ≤ 2147483647) :
    Calls Tryd.prog 102 #[.int .i64 n, .slice A l.length c] w (MakesZ w n.toNat (limP n l)) := by
  by_cases hn : 0 ≤ n ∧ n ≤ 8
  · obtain ⟨k, rfl⟩ : ∃ k : Nat, n = k := ⟨n.toNat, by omega⟩
    exact limits_yes k A c l w (by omega) hI hmax hk
  · exact limits_clock n _ l w hn

set_option maxRecDepth 100000 in
set_option maxHeartbeats 1000000 in
theorem universe_any (n : Int) (w : World) : Calls Tryd.prog 57 #[.int .i64 n] w (MakesZ w n.toNat (limP n [])) := by
  go_enter Tryd.func57, Tryd.ntmps57
  go_wp2_with fail
  refine (limits_any n none 0 [] w (fun j hj => by simp at hj) (by simp) (fun q hq => by simp at hq)).mono ?_
  rintro e w2 hz
  have HZ := Lib.hid hz
  obtain ⟨ho, v, rfl, hv⟩ := hz
  clear ho hv
  go_wp2
  go_ret2
  exact HZ.out

/-- The limits of Zero. -/
def zeroUp (n : Nat) : Nat → Mat
  | 0 => openM n
  | p + 1 => keepM (zeroUp n p) p 0 1
theorem zeroUp_fit (n : Nat) : ∀ p, Fit n 1073741824 (zeroUp n p)
  | 0 => openM_fit n
  | p + 1 => keepM_fit (zeroUp_fit n p) _ _ (by decide)
/-- What Zero answers. -/
def zerP (n : Int) : Option Mat × Int := if 0 ≤ n ∧ n ≤ 8 then zoneP n.toNat (zeroUp n.toNat (n.toNat + 1)) else (none, 12)

set_option maxRecDepth 100000 in
set_option maxHeartbeats 1000000 in
theorem zero_yes (n : Nat) (w : World) (hn : n ≤ 8) : Calls Tryd.prog 71 #[.int .i64 n] w (MakesZ w n (zerP n)) := by
  go_enter Tryd.func71, Tryd.ntmps71
  go_wp2_with fail
  refine (few_yes _ _ (by omega)).mono ?_
  rintro e w' ⟨rfl, rfl⟩
  go_wp2_with fail
  refine (open_any n _ hn).mono ?_
  rintro e w1 ⟨rfl, hb1, hm1⟩
  have HS := Lib.hid (show KeepR w n (zeroUp n 0) w1 from ⟨hb1, hm1, openM_fit n⟩)
  clear hb1 hm1
  go_wp2
  go_loopg [13] (n + 1) (fun g v wr => ∃ p : Nat, v = .int .i64 p ∧ KeepR w n (zeroUp n p) wr ∧ Hid (p ≤ n + 1 ∧ g + p = n + 1))
  case atStart => exact ⟨0, by simp, HS.out, by omega, by omega⟩
  case round =>
    clear HS
    obtain ⟨p, rfl, H, HG⟩ := hrel
    have HR := Lib.hid H
    clear H
    by_cases hp : p < n + 1
    · have hpp : (p : Int) < (n : Int) + 1 := by omega
      go_wp2_with fail
      refine (keep_any _ _ _ p 0 n _ _ _ (by omega) (by omega) (by exact HR.out.2.1) (by rfl) (by rfl) (by omega) (by omega)).mono ?_
      rintro e w2 ⟨rfl, ho, hm2⟩
      have HN := Lib.hid (show KeepR w n (zeroUp n (p + 1)) w2 from HR.out.step ho hm2 (by decide))
      clear ho hm2
      go_wp2
      go_roundg (gk - 1)
      case measure => have := HG.out; omega
      case rel => exact ⟨p + 1, by go_num, HN.out, by omega, by have := HG.out.2; omega⟩
    · have hpp : ¬ (p : Int) < (n : Int) + 1 := by omega
      have e : p = n + 1 := by have := HG.out.1; omega
      go_wp2_with fail
      refine (zone_any _ n _ _ hn HR.out.2.1 HR.out.2.2).mono ?_
      rintro e w2 hz
      have HZ := Lib.hid hz
      obtain ⟨ho, v, rfl, hv⟩ := hz
      clear ho hv
      subst e
      go_wp2
      go_ret2
      have hz : zerP n = zoneP n (zeroUp n (n + 1)) := by
        unfold zerP; rw [if_pos (by omega)]; rfl
      rw [hz]
      exact of_makes HR.out HZ.out

set_option maxRecDepth 100000 in
set_option maxHeartbeats 1000000 in
theorem zero_any (n : Int) (w : World) : Calls Tryd.prog 71 #[.int .i64 n] w (MakesZ w n.toNat (zerP n)) := by
  by_cases hn : 0 ≤ n ∧ n ≤ 8
  · obtain ⟨k, rfl⟩ : ∃ k : Nat, n = k := ⟨n.toNat, by omega⟩
    exact zero_yes k w (by omega)
  · have hz : zerP n = (none, 12) := by unfold zerP; rw [if_neg hn]
    rw [hz]
    clear hz
    have HN := Lib.hid hn
    clear hn
    go_enter Tryd.func71, Tryd.ntmps71
    go_wp2_with fail
    refine (few_no _ _ HN.out).mono ?_
    rintro e w' ⟨rfl, rfl⟩
    go_wp2
    go_ret2
    exact ⟨Below.refl _ _, .pointer none, rfl, rfl⟩

end Go.Proofs.YtidcnlecgcobmaaDoor

/- Of: the zone of bounds, or the error. -/
namespace Go.Proofs.YtidcnlecgcobmaaDoor
open Go Go.RowKit
set_option linter.unusedVariables false
set_option linter.unusedSimpArgs false


theorem w64_div (p n : Nat) (hp : p ≤ 1000000) : wrap64 ((p : Int) / ((n : Int) + 1)) = ((p / (n + 1) : Nat) : Int) := by
  rw [idx_div]
  have : p / (n + 1) ≤ p := Nat.div_le_self _ _
  generalize p / (n + 1) = q at this ⊢
  exact IntWalk.wrap64_in _ ⟨by omega, by omega⟩
theorem w64_mod (p n : Nat) (hp : p ≤ 1000000) : wrap64 ((p : Int) % ((n : Int) + 1)) = ((p % (n + 1) : Nat) : Int) := by
  rw [idx_mod]
  have : p % (n + 1) ≤ p := Nat.mod_le _ _
  generalize p % (n + 1) = q at this ⊢
  exact IntWalk.wrap64_in _ ⟨by omega, by omega⟩

set_option maxRecDepth 100000 in
set_option maxHeartbeats 2000000 in
theorem of_yes (n : Nat) (A : Option Addr) (c : Nat) (cells : List Int) (w : World) (hn : n ≤ 8) (hI : Ints w .i32 A cells) (hlen : (cells.length : Int) = ((n : Int) + 1) * ((n : Int) + 1))
    (hk : ∀ q, q < cells.length → -2147483648 ≤ cells.getD q 0 ∧ cells.getD q 0 ≤ 2147483647) :
    Calls Tryd.prog 31 #[.int .i64 n, .slice A cells.length c] w (MakesZ w n (ofP n cells)) := by
  have hl81 : cells.length ≤ 81 := by
    have : ((n : Int) + 1) * ((n : Int) + 1) ≤ 9 * 9 := Int.mul_le_mul (by omega) (by omega) (by omega) (by omega)
    omega
  have hm : ((n : Int) + 1) * ((n : Int) + 1) ≤ 81 := by omega
  have hm0 : 0 ≤ ((n : Int) + 1) * ((n : Int) + 1) := by omega
  have HL := Lib.hid hlen
  have HI := Lib.hid hI
  have HK := Lib.hid hk
  have t1 : ((cells.length : Int) != ((n : Int) + 1) * ((n : Int) + 1)) = false := by simp [hlen]
  clear hlen hI hk
  go_enter Tryd.func31, Tryd.ntmps31
  go_wp2_with fail
  refine (few_yes _ _ (by omega)).mono ?_
  rintro e w' ⟨rfl, rfl⟩
  go_wp2_with fail
  refine (open_any n _ hn).mono ?_
  rintro e w1 ⟨rfl, hb1, hm1⟩
  have HS := Lib.hid (show KeepR w n (keepUp n cells 0) w1 from ⟨hb1, hm1, openM_fit n⟩)
  clear hb1 hm1
  go_wp2
  go_loopg [26] cells.length (fun g v wr => ∃ p : Nat, v = .int .i64 p ∧ KeepR w n (keepUp n cells p) wr ∧ Hid (p ≤ cells.length ∧ g + p = cells.length ∧ ∀ q, q < p → rightB (cells.getD q 0) = true))
  case atStart => exact ⟨0, by simp, HS.out, by omega, by omega, fun q h => by omega⟩
  case round =>
    clear HS
    obtain ⟨p, rfl, H, HG⟩ := hrel
    have HR := Lib.hid H
    clear H
    by_cases hp : p < cells.length
    · obtain ⟨b, off, rfl, hc⟩ := HI.out.below HR.out.1 p hp
      have hb := HK.out p hp
      obtain ⟨x, hx⟩ : ∃ x, x = cells.getD p 0 := ⟨_, rfl⟩
      rw [← hx] at hc hb
      have HX := Lib.hid hx
      clear hx
      obtain ⟨hb0, hb1⟩ := hb
      by_cases hr : rightB x = true
      · have HRR := Lib.hid hr
        clear hr
        go_wp2_with fail
        refine (right_yes _ _ HRR.out).mono ?_
        rintro e w' ⟨rfl, rfl⟩
        have hd := idx_div p n
        have hmo := idx_mod p n
        have hdlt : p / (n + 1) < 9 := by
          have h1 := HL.out
          have h2 : p < (n + 1) * (n + 1) := by
            have : ((p : Nat) : Int) < (((n + 1) * (n + 1) : Nat) : Int) := by push_cast; omega
            omega
          have := Nat.div_lt_of_lt_mul h2
          omega
        have hmlt : p % (n + 1) < 9 := by have := Nat.mod_lt p (show 0 < n + 1 by omega); omega
        have HD := Lib.hid hd
        have HM := Lib.hid hmo
        clear hd hmo
        go_wp2_with fail
        have g1 : IntKind.i64.wrap ((n : Int) + 1) = (n : Int) + 1 := IntWalk.i64_in _ (by omega)
        have g2 := wrap_tdiv p n (by omega)
        have g3 := wrap_tmod p n (by omega)
        have g4 : ((n : Int) + 1 == 0) = false := by simp; omega
        have g5 : ¬ ((n : Int) + 1 = 0) := by omega

        refine wp_region_still_tail 10 (by kernel_rfl) (by kernel_rfl) ?_
        simp only [List.take_succ_cons, List.take_zero, List.drop_succ_cons, List.drop_zero]
        change wpStill _ _ wr.drew _ _ _
        generalize wr.drew = w2
        repeat still_step
        refine wpStill_nil ?_
        go_wp2_with fail
        refine (keep_any _ _ _ (p / (n + 1)) (p % (n + 1)) n _ _ _ hdlt hmlt (by exact HR.out.2.1.drew) (by first | rfl | exact idx_div p n | exact w64_div p n (by omega)) (by first | rfl | exact idx_mod p n | exact w64_mod p n (by omega)) hb0 hb1).mono ?_
        rintro e w2 ⟨rfl, ho, hm2⟩
        have HN := Lib.hid (show KeepR w n (keepUp n cells (p + 1)) w2 from by
          have hx : cells.getD p 0 = x := HX.out.symm
          have e : keepUp n cells (p + 1) = keepM (keepUp n cells p) (p / (n + 1)) (p % (n + 1)) x := by rw [← hx]; rfl
          rw [e]
          exact HR.out.step ((Only.drew (Only.refl _ _)).trans ho) hm2 HRR.out)
        clear ho hm2
        go_wp2
        go_roundg (gk - 1)
        case measure => have := HG.out; omega
        case rel =>
          refine ⟨p + 1, by go_num, HN.out, by omega, by have := HG.out.2.1; omega, fun q hq => ?_⟩
          by_cases e : q = p
          · subst e; rw [← HX.out]; exact HRR.out
          · exact HG.out.2.2 q (by omega)
      · have hrf : rightB x = false := by simpa using hr
        have HRR := Lib.hid hrf
        clear hr hrf
        go_wp2_with fail
        refine (right_no _ _ HRR.out).mono ?_
        rintro e w' ⟨rfl, rfl⟩
        go_wp2
        go_ret2
        have hall : cells.all rightB = false := by
          rw [Bool.eq_false_iff]
          intro ha
          have := (all_getD cells rightB 0).1 ha p hp
          rw [← HX.out, HRR.out] at this
          cases this
        have hz : ofP n cells = (none, 7) := by
          unfold ofP; rw [if_pos (by omega), if_pos HL.out, hall]; rfl
        exact ⟨HR.out.1, .pointer none, by rw [hz]; rfl, by rw [hz]; rfl⟩
    · have e : p = cells.length := by have := HG.out.1; omega
      go_wp2_with fail
      refine (zone_any _ n _ _ hn HR.out.2.1 HR.out.2.2).mono ?_
      rintro e w2 hz
      have HZ := Lib.hid hz
      obtain ⟨ho, v, rfl, hv⟩ := hz
      clear ho hv
      subst e
      go_wp2
      go_ret2
      have hall : cells.all rightB = true := (all_getD cells rightB 0).2 HG.out.2.2
      have hz : ofP n cells = zoneP n (keepUp n cells cells.length) := by
        unfold ofP; rw [if_pos (by omega), if_pos HL.out, if_pos hall]; rfl
      rw [hz]
      exact of_makes HR.out HZ.out

set_option maxRecDepth 100000 in
set_option maxHeartbeats 1000000 in
theorem of_clock (n : Int) (A : Option Addr) (c : Nat) (cells : List Int) (w : World) (hn : ¬ (0 ≤ n ∧ n ≤ 8)) :
    Calls Tryd.prog 31 #[.int .i64 n, .slice A cells.length c] w (MakesZ w n.toNat (ofP n cells)) := by
  have hz : ofP n cells = (none, 12) := by unfold ofP; rw [if_neg hn]
  rw [hz]
  clear hz
  have HN := Lib.hid hn
  clear hn
  go_enter Tryd.func31, Tryd.ntmps31
  go_wp2_with fail
  refine (few_no _ _ HN.out).mono ?_
  rintro e w' ⟨rfl, rfl⟩
  go_wp2
  go_ret2
  exact ⟨Below.refl _ _, .pointer none, rfl, rfl⟩

set_option maxRecDepth 100000 in
set_option maxHeartbeats 1000000 in
theorem of_long (n : Nat) (A : Option Addr) (c : Nat) (cells : List Int) (w : World) (hn : n ≤ 8) (hlen : ¬ (cells.length : Int) = ((n : Int) + 1) * ((n : Int) + 1)) (hmax : cells.length ≤ 4611686018427387904) :
    Calls Tryd.prog 31 #[.int .i64 n, .slice A cells.length c] w (MakesZ w n (ofP n cells)) := by
  have hz : ofP n cells = (none, 6) := by unfold ofP; rw [if_pos (by omega), if_neg hlen]
  rw [hz]
  clear hz
  have hm : ((n : Int) + 1) * ((n : Int) + 1) ≤ 9 * 9 := Int.mul_le_mul (by omega) (by omega) (by omega) (by omega)
  have hm0 : 0 ≤ ((n : Int) + 1) * ((n : Int) + 1) := Int.mul_nonneg (by omega) (by omega)
  have t1 : ((cells.length : Int) != ((n : Int) + 1) * ((n : Int) + 1)) = true := by simpa using hlen
  clear hlen
  go_enter Tryd.func31, Tryd.ntmps31
  go_wp2_with fail
  refine (few_yes _ _ (by omega)).mono ?_
  rintro e w' ⟨rfl, rfl⟩
  go_wp2
  go_ret2
  exact ⟨Below.refl _ _, .pointer none, rfl, rfl⟩

/-- Of, whatever it is given. -/
theorem of_any (n : Int) (A : Option Addr) (c : Nat) (cells : List Int) (w : World) (hI : Ints w .i32 A cells) (hmax : cells.length ≤ 4611686018427387904)
    (hk : ∀ q, q < cells.length → -2147483648 ≤ cells.getD q 0 ∧ cells.getD q 0 ≤ 2147483647) :
    Calls Tryd.prog 31 #[.int .i64 n, .slice A cells.length c] w (MakesZ w n.toNat (ofP n cells)) := by
  by_cases hn : 0 ≤ n ∧ n ≤ 8
  · obtain ⟨k, rfl⟩ : ∃ k : Nat, n = k := ⟨n.toNat, by omega⟩
    by_cases hl : (cells.length : Int) = ((k : Int) + 1) * ((k : Int) + 1)
    · exact of_yes k A c cells w (by omega) hI hl hk
    · exact of_long k A c cells w (by omega) hl hmax
  · exact of_clock n A c cells w hn

end Go.Proofs.YtidcnlecgcobmaaDoor

/- Cells of a zone under way: less, forget; is it a clock? -/
namespace Go.Proofs.YtidcnlecgcobmaaDoor
open Go Go.RowKit
set_option linter.unusedVariables false
set_option linter.unusedSimpArgs false
attribute [local go_sem] min_ints max_ints

/-- A cell made stricter. -/
def lessM (m : Mat) (i j : Nat) (x : Int) : Mat := upd m i j (min (m i j) x)

set_option maxHeartbeats 400000 in
set_option maxRecDepth 100000 in
theorem less_any (b i j n : Nat) (m : Mat) (x : Int) (w : World) (hi : i < 9) (hj : j < 9) (h : MatAt w b 103 .i32 n m) :
    Calls Tryd.prog 62 #[.pointer (some ⟨b, 0, none⟩), .int .i64 i, .int .i64 j, .int .i32 x] w fun e w' => e = .returned (.tuple #[]) ∧ Only b w w' ∧ MatAt w' b 103 .i32 n (lessM m i j x) := by
  have hc := h.cell i j hi hj
  have hf := h.frozen (1 + i * 9 + j)
  have HM := Lib.hid h
  clear h
  go_enter Tryd.func62, Tryd.ntmps62
  go_wp2
  go_region
  go_wp2
  go_end0
  exact ⟨rfl, ((Only.refl _ _).setCell _ _).drew, HM.out.set i j hi hj _⟩

/-- A clock that nothing is said of, behind the first p cells. -/
def forgetUp (x : Nat) (m : Mat) : Nat → Mat
  | 0 => m
  | p + 1 => if p = x then forgetUp x m p else upd (upd (forgetUp x m p) x p 2147483647) p x (upd (forgetUp x m p) x p 2147483647 p 0)
def ForgetR (w0 : World) (b n x : Nat) (m : Mat) (p : Nat) (wr : World) : Prop := Only b w0 wr ∧ MatAt wr b 103 .i32 n (forgetUp x m p)
theorem ForgetR.skip {w0 wr : World} {b n x : Nat} {m : Mat} (h : ForgetR w0 b n x m x wr) : ForgetR w0 b n x m (x + 1) wr :=
  ⟨h.1, by have := h.2; unfold forgetUp; rw [if_pos rfl]; exact this⟩

set_option maxHeartbeats 1000000 in
set_option maxRecDepth 100000 in
theorem forget_any (b n x : Nat) (m : Mat) (w : World) (hn : n ≤ 8) (hx : x ≤ n) (h : MatAt w b 103 .i32 n m) :
    Calls Tryd.prog 91 #[.pointer (some ⟨b, 0, none⟩), .int .i64 x] w fun e w' => e = .returned (.tuple #[]) ∧ Only b w w' ∧ MatAt w' b 103 .i32 n (forgetUp x m (n + 1)) := by
  have h0 := h.head
  have H0 := Lib.hid (show ForgetR w b n x m 0 w from ⟨Only.refl _ _, h⟩)
  have g1 : IntKind.i64.wrap ((n : Int) + 1) = (n : Int) + 1 := IntWalk.i64_in _ (by omega)
  clear h
  go_enter Tryd.func91, Tryd.ntmps91
  go_wp2
  go_loopg [11] (n + 1) (fun g v wr => ∃ p : Nat, v = .int .i64 p ∧ ForgetR w b n x m p wr ∧ Hid (p ≤ n + 1 ∧ g + p = n + 1))
  case atStart => exact ⟨0, by simp, H0.out, by omega, by omega⟩
  case round =>
    clear H0
    obtain ⟨p, rfl, H, HG⟩ := hrel
    have HR := Lib.hid H
    clear H
    by_cases hp : p < n + 1
    · have hpi : (p : Int) < (n : Int) + 1 := by omega
      by_cases e : p = x
      · subst e
        have t1 : ((p : Int) != (p : Int)) = false := by simp
        go_wp2
        go_roundg (gk - 1)
        case measure => have h := HG.out; omega
        case rel => exact ⟨p + 1, by go_num, HR.out.skip, by omega, by have h := HG.out; omega⟩
      · have t1 : ((p : Int) != (x : Int)) = true := by simp; omega
        have E := Lib.hid e
        clear e
        have c1 := HR.out.2.cell x p (by omega) (by omega)
        have f1 := HR.out.2.frozen (1 + x * 9 + p)
        have hlt := HR.out.2.lt
        go_wp2_with fail
        have HM2 := Lib.hid (HR.out.2.set x p (by omega) (by omega) 2147483647)
        have HO2 := Lib.hid (HR.out.1.setCell (1 + x * 9 + p) (.int .i32 2147483647))
        generalize wr.setCell ⟨b, 1 + x * 9 + p, none⟩ (.int .i32 2147483647) = w2 at *
        obtain ⟨m1, hm1⟩ : ∃ m1, m1 = upd (forgetUp x m p) x p 2147483647 := ⟨_, rfl⟩
        rw [← hm1] at HM2
        have HM1 := Lib.hid hm1
        have c2 := HM2.out.cell p 0 (by omega) (by omega)
        have f2 := HM2.out.frozen (1 + p * 9 + x)
        have c3 := HM2.out.cell p x (by omega) (by omega)
        have hp9 : (p : Int) < 9 := by omega
        have hx9 : (x : Int) < 9 := by omega
        simp only [Nat.add_zero] at c2
        clear c1 f1 hm1
        go_region
        go_wp2
        go_roundg (gk - 1)
        case measure => have h := HG.out; omega
        case rel =>
          refine ⟨p + 1, by go_num, ⟨(HO2.out.setCell _ _).drew, ?_⟩, by omega, by have h := HG.out; omega⟩
          have e : forgetUp x m (p + 1) = upd m1 p x (m1 p 0) := by rw [HM1.out, forgetUp, if_neg E.out]
          rw [e]
          exact HM2.out.set p x (by omega) (by omega) _
    · have e : p = n + 1 := by have := HG.out.1; omega
      subst e
      have hpi : ¬ (((n + 1 : Nat) : Int) < (n : Int) + 1) := by omega
      go_wp2
      go_end0
      exact ⟨rfl, HR.out.1, HR.out.2⟩

end Go.Proofs.YtidcnlecgcobmaaDoor
