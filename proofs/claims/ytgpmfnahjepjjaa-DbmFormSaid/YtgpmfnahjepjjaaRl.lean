/- The document's Infs, Limits, Universe and Zero. -/
import Derived.Test.YtgpmfnahjepjjaaRf
import Derived.Test.YtgpmfnahjepjjaaAp
import Derived.Test.YtgpmfnahjepjjaaMsm
namespace Go.Proofs.Ytgpmfnahjepjjaa
open Go Go.RowKit
set_option linter.unusedVariables false
set_option linter.unusedSimpArgs false

/-- So many cells without a bound. -/
def InfR (w0 : World) (p : Nat) (v : Value) (wr : World) : Prop :=
  Below w0.heap.size w0 wr ∧ wr.ownsRow w0.heap.size 37 1 v p (vals .i32 (List.replicate p 2147483647))
theorem InfR.next {w0 wr w1 : World} {p : Nat} {v v' : Value} {o : Obj} (h : InfR w0 p v wr)
    (hown : w1.ownsRow w0.heap.size 37 1 v' (p + 1) (vals .i32 (List.replicate p 2147483647) ++ [.int .i32 2147483647])) (hg : (wr.alloc o).grownBy w1 v.ownBlock) : InfR w0 (p + 1) v' w1 := by
  refine ⟨(h.1.alloc h.1.size o).grown hg (by have := h.1.size; simp; omega) (fun k hk => (h.2.lt k hk).1), ?_⟩
  have e : vals .i32 (List.replicate (p + 1) 2147483647) = vals .i32 (List.replicate p 2147483647) ++ [.int .i32 2147483647] := by
    rw [List.replicate_succ']; simp [vals]
  rw [e]; exact hown

set_option maxRecDepth 100000 in
set_option maxHeartbeats 1000000 in
theorem infs_any (n : Nat) (w : World) (hn : n ≤ 8) :
    Calls Try.prog 47 #[.int .i64 n] w fun e w' => ∃ v, e = .returned v ∧ InfR w ((n + 1) * (n + 1)) v w' := by
  obtain ⟨N, hN⟩ : ∃ N : Nat, N = (n + 1) * (n + 1) := ⟨_, rfl⟩
  have hNi : ((n : Int) + 1) * ((n : Int) + 1) = (N : Int) := by rw [hN]; simp
  have hN81 : N ≤ 81 := by
    have := Nat.mul_le_mul (show n + 1 ≤ 9 by omega) (show n + 1 ≤ 9 by omega)
    omega
  rw [← hN]
  clear hN
  obtain ⟨i0, hi, hz0, hz1, hz2⟩ := info_parts infoRB
  have HInf := Lib.hid (And.intro hi (And.intro hz0 (And.intro hz1 hz2)))
  clear hi hz0 hz1 hz2
  have HS := Lib.hid (show InfR w 0 (.slice none 0 0) w from ⟨Below.refl _ _, by simpa [vals] using World.ownsRow_nil w _ _ _⟩)
  go_enter Try.func47, Try.ntmps47
  go_wp2
  go_loopg [3, 4] N (fun g v x wr => ∃ p : Nat, x = .int .i64 p ∧ InfR w p v wr ∧ Hid (p ≤ N ∧ g + p = N))
  case atStart => exact ⟨0, by simp, HS.out, by omega, by omega⟩
  case round =>
    clear HS
    obtain ⟨p, rfl, H, HG⟩ := hrel
    have HW := Lib.hid H
    clear H
    by_cases hp : p < N
    · have hpi : (p : Int) < (N : Int) := by omega
      have hp81 : p < 81 := by omega
      go_wp2_with (at_builtin; refine wpList_append_own _ rfl _ _ 22 rfl w.heap.size 37 i0 (.int .i32 0) 1 4 Try.underlying22 HInf.out.1 HInf.out.2.1 HInf.out.2.2.1 HInf.out.2.2.2 rfl (by decide) _ _ _ rfl (HW.out.2.alloc _) ⟨wr.heap.size, 0, none⟩ 1 1 [.int .i32 2147483647] rfl rfl (cell_one_new _ _ _) (by intro u hu; simp at hu; subst hu; rfl) ?c3 ?c4 ?c5 ?_)
      case c3 => unfold maxLen; omega
      case c4 => omega
      case c5 => have := HW.out.1.size; simp; omega
      intro v' w1 hown hgrow _
      have HN := Lib.hid (HW.out.next hown hgrow)
      clear hown hgrow
      go_wp2
      go_roundg (gk - 1)
      case measure => have h := HG.out; omega
      case rel => exact ⟨p + 1, by go_num, HN.out, by omega, by have h := HG.out; omega⟩
    · have hpi : ¬ (p : Int) < (N : Int) := by omega
      have e : p = N := by have := HG.out; omega
      subst e
      go_wp2
      go_ret
      exact ⟨_, rfl, HW.out⟩

/-- The row of bounds, with the first p limits. -/
def lowUp (n : Nat) (l : List (Int × Int × Int)) : Nat → List Int
  | 0 => List.replicate ((n + 1) * (n + 1)) 2147483647
  | p + 1 => if (l.getD p (0, 0, 0)).2.2 < (lowUp n l p).getD ((l.getD p (0, 0, 0)).1.toNat * (n + 1) + (l.getD p (0, 0, 0)).2.1.toNat) 0
      then (lowUp n l p).set ((l.getD p (0, 0, 0)).1.toNat * (n + 1) + (l.getD p (0, 0, 0)).2.1.toNat) (l.getD p (0, 0, 0)).2.2 else lowUp n l p
theorem lowUp_length (n : Nat) (l : List (Int × Int × Int)) : ∀ p, (lowUp n l p).length = (n + 1) * (n + 1)
  | 0 => by simp [lowUp]
  | p + 1 => by
    unfold lowUp; split
    · rw [List.length_set, lowUp_length n l p]
    · exact lowUp_length n l p
theorem lowUp_right (n : Nat) (l : List (Int × Int × Int)) : ∀ p, (∀ q, q < p → rightB (l.getD q (0, 0, 0)).2.2 = true) → ∀ q, q < (n + 1) * (n + 1) → rightB ((lowUp n l p).getD q 0) = true
  | 0, _, q, hq => by
    simp only [lowUp, List.getD_eq_getElem?_getD, List.getElem?_replicate]
    rw [if_pos hq]; decide
  | p + 1, h, q, hq => by
    have ih := lowUp_right n l p (fun q hq => h q (by omega)) q hq
    unfold lowUp; split
    · rw [List.getD_eq_getElem?_getD, List.getElem?_set]
      split
      · split
        · exact h p (by omega)
        · rename_i h1 h2; rw [lowUp_length] at h2; omega
      · rwa [List.getD_eq_getElem?_getD] at ih
    · exact ih
theorem low_agree (n : Nat) (l : List (Int × Int × Int)) : ∀ p, (∀ q, q < p → limOk n (l.getD q (0, 0, 0)) = true) → ∀ i j, i ≤ n → j ≤ n →
    limUp n l p i j = if i = j ∨ i = 0 then min 1 (wid ((lowUp n l p).getD (i * (n + 1) + j) 0)) else wid ((lowUp n l p).getD (i * (n + 1) + j) 0)
  | 0, _, i, j, hi, hj => by
    have e : (lowUp n l 0).getD (i * (n + 1) + j) 0 = 2147483647 := by
      simp only [lowUp, List.getD_eq_getElem?_getD, List.getElem?_replicate]
      rw [if_pos (at_lt (by omega) (by omega))]; rfl
    rw [e]
    show openM n i j = _
    unfold openM wid none62
    rw [if_pos ⟨hi, hj⟩]
    simp only [if_true]
    split <;> omega
  | p + 1, h, i, j, hi, hj => by
    have ih := low_agree n l p (fun q hq => h q (by omega)) i j hi hj
    obtain ⟨⟨a0, a1, b0, b1⟩, hr⟩ := (show (0 ≤ (l.getD p (0, 0, 0)).1 ∧ (l.getD p (0, 0, 0)).1 ≤ n ∧ 0 ≤ (l.getD p (0, 0, 0)).2.1 ∧ (l.getD p (0, 0, 0)).2.1 ≤ n) ∧ rightB (l.getD p (0, 0, 0)).2.2 = true by
      have := h p (by omega)
      simpa [limOk] using this)
    have hrc := lowUp_right n l p (fun q hq => by have := h q (by omega); simp only [limOk, Bool.and_eq_true] at this; exact this.2)
    show keepM (limUp n l p) (l.getD p (0, 0, 0)).1.toNat (l.getD p (0, 0, 0)).2.1.toNat (l.getD p (0, 0, 0)).2.2 i j = _
    rw [show lowUp n l (p + 1) = if (l.getD p (0, 0, 0)).2.2 < (lowUp n l p).getD ((l.getD p (0, 0, 0)).1.toNat * (n + 1) + (l.getD p (0, 0, 0)).2.1.toNat) 0
      then (lowUp n l p).set ((l.getD p (0, 0, 0)).1.toNat * (n + 1) + (l.getD p (0, 0, 0)).2.1.toNat) (l.getD p (0, 0, 0)).2.2 else lowUp n l p from rfl]
    obtain ⟨a, ha⟩ : ∃ a : Nat, a = (l.getD p (0, 0, 0)).1.toNat := ⟨_, rfl⟩
    obtain ⟨b, hb⟩ : ∃ b : Nat, b = (l.getD p (0, 0, 0)).2.1.toNat := ⟨_, rfl⟩
    obtain ⟨x, hx⟩ : ∃ x : Int, x = (l.getD p (0, 0, 0)).2.2 := ⟨_, rfl⟩
    rw [← ha, ← hb, ← hx]
    rw [← hx] at hr
    have han : a ≤ n := by omega
    have hbn : b ≤ n := by omega
    clear ha hb hx
    by_cases e : i = a ∧ j = b
    · obtain ⟨rfl, rfl⟩ := e
      have hrij := hrc (i * (n + 1) + j) (at_lt (by omega) (by omega))
      have hset : ∀ y, ((lowUp n l p).set (i * (n + 1) + j) y).getD (i * (n + 1) + j) 0 = y := fun y => by
        rw [List.getD_eq_getElem?_getD, List.getElem?_set, if_pos rfl, if_pos (by rw [lowUp_length]; exact at_lt (by omega) (by omega))]; rfl
      obtain ⟨c, hc⟩ : ∃ c, c = (lowUp n l p).getD (i * (n + 1) + j) 0 := ⟨_, rfl⟩
      rw [← hc] at ih hrij ⊢
      unfold keepM
      unfold rightB at hr hrij
      have hr := of_decide_eq_true hr
      have hrij := of_decide_eq_true hrij
      by_cases hinf : x = 2147483647
      · have e1 : ¬ x < c := by omega
        rw [if_pos hinf, if_neg e1, ← hc, ih]
      · rw [if_neg hinf]
        have hwx : wid x = x := by unfold wid; rw [if_neg hinf]
        have hu : upd (limUp n l p) i j (min (limUp n l p i j) x) i j = min (limUp n l p i j) x := by unfold upd; rw [if_pos ⟨rfl, rfl⟩]
        rw [hu, ih]
        by_cases hlt : x < c
        · rw [if_pos hlt, hset, hwx]
          have hxc : min (wid c) x = x := by
            unfold wid none62; split <;> omega
          split <;> omega
        · rw [if_neg hlt, ← hc]
          have hwc : wid c = c := by unfold wid; rw [if_neg (by omega)]
          rw [hwc]
          split <;> omega
    · have hne : i * (n + 1) + j ≠ a * (n + 1) + b := fun h' => e (by
        have h1 := (at_row (i := i) (show j < n + 1 by omega))
        have h2 := (at_row (i := a) (show b < n + 1 by omega))
        rw [h'] at h1
        exact ⟨h1.1.symm.trans h2.1, h1.2.symm.trans h2.2⟩)
      have hk : keepM (limUp n l p) a b x i j = limUp n l p i j := by
        unfold keepM; split
        · rfl
        · unfold upd; rw [if_neg e]
      rw [hk, ih]
      have hs : (if x < (lowUp n l p).getD (a * (n + 1) + b) 0 then (lowUp n l p).set (a * (n + 1) + b) x else lowUp n l p).getD (i * (n + 1) + j) 0 = (lowUp n l p).getD (i * (n + 1) + j) 0 := by
        split
        · rw [List.getD_eq_getElem?_getD, List.getElem?_set, if_neg (fun h => hne h.symm), ← List.getD_eq_getElem?_getD]
        · rfl
      rw [hs]
/-- Of the row with all limits: what Limits tells. -/
theorem of_low {n : Nat} {l : List (Int × Int × Int)} (hn : n ≤ 8) (h : l.all (limOk n) = true) : ofP n (lowUp n l l.length) = limP n l := by
  have hk : ∀ q, q < l.length → limOk n (l.getD q (0, 0, 0)) = true := (all_getD l (limOk n) (0, 0, 0)).1 h
  have hr := lowUp_right n l l.length (fun q hq => by have := hk q hq; simp only [limOk, Bool.and_eq_true] at this; exact this.2)
  have hall : (lowUp n l l.length).all rightB = true := (all_getD _ _ 0).2 fun q hq => hr q (by rw [lowUp_length] at hq; exact hq)
  unfold ofP limP
  rw [if_pos (by omega), if_pos (by rw [lowUp_length]; simp), if_pos hall, if_pos (by omega), lowUp_length]
  simp only [Int.toNat_natCast]
  rw [if_pos h]
  refine zoneP_agree fun i j hi hj => ?_
  rw [keepUp_cell n _ i j hi hj hr _ (Nat.le_refl _), if_pos (at_lt (by omega) (by omega)), low_agree n l l.length hk i j hi hj]

/-- The row, so far, in a block of the call's own. -/
def LowR (w0 : World) (g n : Nat) (l : List (Int × Int × Int)) (p : Nat) (wr : World) : Prop :=
  Below w0.heap.size w0 wr ∧ w0.heap.size ≤ g ∧ RowAt wr g 37 .i32 (lowUp n l p)
theorem LowR.next {w0 wr : World} {g n : Nat} {l : List (Int × Int × Int)} {p : Nat} (h : LowR w0 g n l p wr) (q a b : Nat) (x : Int) (hx : l.getD p (0, 0, 0) = (↑a, ↑b, x)) (hlt : x < (lowUp n l p).getD (a * (n + 1) + b) 0) (k : Nat) (hk : k = a * (n + 1) + b) :
    LowR w0 g n l (p + 1) ((wr.drewN q).setCell ⟨g, k, none⟩ (.int .i32 x)) := by
  refine ⟨(belowN h.1 q).setCell h.2.1 _, h.2.1, ?_⟩
  have := (h.2.2.drewN q).set k x
  rw [hk] at this ⊢
  have e : lowUp n l (p + 1) = (lowUp n l p).set (a * (n + 1) + b) x := by
    rw [show lowUp n l (p + 1) = if (l.getD p (0, 0, 0)).2.2 < (lowUp n l p).getD ((l.getD p (0, 0, 0)).1.toNat * (n + 1) + (l.getD p (0, 0, 0)).2.1.toNat) 0
      then (lowUp n l p).set ((l.getD p (0, 0, 0)).1.toNat * (n + 1) + (l.getD p (0, 0, 0)).2.1.toNat) (l.getD p (0, 0, 0)).2.2 else lowUp n l p from rfl, hx]
    exact if_pos hlt
  rw [e]; exact this
theorem LowR.keep {w0 wr : World} {g n : Nat} {l : List (Int × Int × Int)} {p : Nat} (h : LowR w0 g n l p wr) (q a b : Nat) (x : Int) (hx : l.getD p (0, 0, 0) = (↑a, ↑b, x)) (hlt : ¬ x < (lowUp n l p).getD (a * (n + 1) + b) 0) : LowR w0 g n l (p + 1) (wr.drewN q) := by
  refine ⟨belowN h.1 q, h.2.1, ?_⟩
  have e : lowUp n l (p + 1) = lowUp n l p := by
    rw [show lowUp n l (p + 1) = if (l.getD p (0, 0, 0)).2.2 < (lowUp n l p).getD ((l.getD p (0, 0, 0)).1.toNat * (n + 1) + (l.getD p (0, 0, 0)).2.1.toNat) 0
      then (lowUp n l p).set ((l.getD p (0, 0, 0)).1.toNat * (n + 1) + (l.getD p (0, 0, 0)).2.1.toNat) (l.getD p (0, 0, 0)).2.2 else lowUp n l p from rfl, hx]
    exact if_neg hlt
  rw [e]; exact h.2.2.drewN q
theorem LowR.alloc {w0 wr : World} {g n : Nat} {l : List (Int × Int × Int)} {p : Nat} (h : LowR w0 g n l p wr) (o : Obj) : LowR w0 g n l p (wr.alloc o) :=
  ⟨h.1.alloc h.1.size o, h.2.1, h.2.2.later ((Below.refl _ _).alloc (Nat.le_refl _) o)⟩

theorem rof_len (n : Int) (A : Option Addr) (c N : Nat) (cells : List Int) (w : World) (hN : cells.length = N) (hI : Ints w .i32 A cells) (hmax : N ≤ 4611686018427387904)
    (hk : ∀ q, q < cells.length → -2147483648 ≤ cells.getD q 0 ∧ cells.getD q 0 ≤ 2147483647) :
    Calls Try.prog 30 #[.int .i64 n, .slice A N c] w (MakesR w n.toNat (ofP n cells)) := by
  subst hN
  exact rof_any n A c cells w hI hmax hk
theorem right_bd32 {x : Int} (h : rightB x = true) : -2147483648 ≤ x ∧ x ≤ 2147483647 := by
  unfold rightB at h
  have := of_decide_eq_true h
  omega

set_option maxRecDepth 100000 in
set_option maxHeartbeats 4000000 in
theorem rlimits_yes (n : Nat) (A : Option Addr) (c : Nat) (l : List (Int × Int × Int)) (w : World) (hn : n ≤ 8) (hI : Lims w A l) (hmax : l.length ≤ 4611686018427387904)
    (hk : ∀ q, q < l.length → -2147483648 ≤ (l.getD q (0, 0, 0)).2.2 ∧ (l.getD q (0, 0, 0)).2.2 ≤ 2147483647) :
    Calls Try.prog 14 #[.int .i64 n, .slice A l.length c] w (MakesR w n (limP n l)) := by
  have HI := Lib.hid hI
  have HK := Lib.hid hk
  clear hI hk
  have d0 : decide ((n : Int) < 0) = false := decide_eq_false (by omega)
  obtain ⟨N, hN⟩ : ∃ N : Nat, N = (n + 1) * (n + 1) := ⟨_, rfl⟩
  have hN81 : N ≤ 81 := by
    have := Nat.mul_le_mul (show n + 1 ≤ 9 by omega) (show n + 1 ≤ 9 by omega)
    omega
  have hN0 : 0 < N := by rw [hN]; exact Nat.mul_pos (by omega) (by omega)
  have HN := Lib.hid hN
  go_enter Try.func14, Try.ntmps14
  go_wp2_with fail
  refine (infs_any n _ hn).mono ?_
  rw [← hN]
  rintro e w1 ⟨v, rfl, hb1, ho1⟩
  have ho1' : OwnI w1 w.heap.size 37 .i32 v (List.replicate N 2147483647) := by
    unfold OwnI; rw [List.length_replicate]; exact ho1
  obtain ⟨g, cap, hv, hg, hr⟩ := ho1'.row (by simpa using hN0)
  rw [List.length_replicate] at hv
  subst hv
  have HS := Lib.hid (show LowR w g n l 0 w1 from ⟨hb1, hg, by show RowAt w1 g _ _ (List.replicate ((n + 1) * (n + 1)) 2147483647); rw [← HN.out]; exact hr⟩)
  clear hb1 ho1 ho1' hr hg hN hN0
  go_wp2
  go_loopg [7] l.length (fun gg x wr => ∃ p : Nat, x = .int .i64 p ∧ LowR w g n l p wr ∧ Hid (p ≤ l.length ∧ gg + p = l.length ∧ ∀ q, q < p → limOk n (l.getD q (0, 0, 0)) = true))
  case atStart => exact ⟨0, by simp, HS.out, by omega, by omega, fun q h => by omega⟩
  case round =>
    clear HS
    obtain ⟨p, rfl, H, HG⟩ := hrel
    have HR := Lib.hid H
    clear H
    by_cases hp : p < l.length
    · obtain ⟨b, off, rfl, c1, c2, c3⟩ := HI.out.below HR.out.1 p hp
      have hb := HK.out p hp
      obtain ⟨x, hx⟩ : ∃ x, x = l.getD p (0, 0, 0) := ⟨_, rfl⟩
      rw [← hx] at c1 c2 c3 hb
      have HX := Lib.hid hx
      clear hx
      obtain ⟨xi, xj, xb⟩ := x
      obtain ⟨hb0, hb1⟩ := hb
      simp only at c1 c2 c3 hb0 hb1
      by_cases hr : limOk n (xi, xj, xb) = true
      · obtain ⟨⟨i0, i1, j0, j1⟩, hrr⟩ := (show (0 ≤ xi ∧ xi ≤ n ∧ 0 ≤ xj ∧ xj ≤ n) ∧ rightB xb = true by simpa [limOk] using hr)
        obtain ⟨a, rfl⟩ : ∃ a : Nat, xi = a := ⟨xi.toNat, by omega⟩
        obtain ⟨bb, rfl⟩ : ∃ bb : Nat, xj = bb := ⟨xj.toNat, by omega⟩
        have HRR := Lib.hid hrr
        have HOK := Lib.hid hr
        have HRA := Lib.hid (HR.out.alloc (.cells #[.int .i64 (a : Int), .int .i64 (bb : Int), .int .i32 xb] 39))
        clear hr hrr
        obtain ⟨P, hP, hP1, hP2, hP3⟩ := prod_facts a n (by omega) hn
        have hPN : P + n < N := by have := HN.out; omega
        have hc := HRA.out.2.2.cell (P + bb) (by rw [lowUp_length, ← HN.out]; omega)
        have hfz := HRA.out.2.2.frozen (P + bb)
        obtain ⟨y, hy⟩ : ∃ y, y = (lowUp n l p).getD (P + bb) 0 := ⟨_, rfl⟩
        rw [← hy] at hc
        have HY := Lib.hid hy
        have HP2 := Lib.hid hP2
        have HXE := Lib.hid (show l.getD p (0, 0, 0) = ((a : Int), (bb : Int), xb) from HX.out.symm)
        clear hP2 hP3 hy HX
        go_wp2_with fail
        refine (rright_yes _ _ HRR.out hb0 hb1).mono ?_
        rintro e w' ⟨rfl, rfl⟩
        have g1 : IntKind.i64.wrap ((n : Int) + 1) = (n : Int) + 1 := IntWalk.i64_in _ (by omega)
        have g2 : IntKind.i64.wrap (P : Int) = (P : Int) := IntWalk.i64_in _ (by omega)
        have g3 : IntKind.i64.wrap ((P : Int) + (bb : Int)) = (P : Int) + (bb : Int) := IntWalk.i64_in _ (by omega)
        have l1 : (P : Int) + (bb : Int) < (N : Int) := by omega
        have l3 : 0 ≤ (P : Int) + (bb : Int) := by omega
        have n1 : ((P : Int) + (bb : Int)).toNat = P + bb := by omega
        have hp2 : p + 1 ≤ l.length := by omega
        by_cases hlt : xb < y
        · have t1 : decide (xb < y) = true := decide_eq_true hlt
          have HLT := Lib.hid hlt
          clear hlt
          go_wp2_with fail
          go_quiet (fail)
          have HNX := Lib.hid (HRA.out.next nq a bb xb HXE.out (by rw [← HP2.out, ← HY.out]; exact HLT.out) (P + bb) (by rw [HP2.out]))
          clear g1 g2 g3 n1
          go_wp2
          go_roundg (gk - 1)
          case measure => have := HG.out; omega
          case rel =>
            refine ⟨p + 1, by go_num, HNX.out, by omega, by have := HG.out.2.1; omega, fun q hq => ?_⟩
            by_cases e : q = p
            · subst e; rw [HXE.out]; exact HOK.out
            · exact HG.out.2.2 q (by omega)
        · have t1 : decide (xb < y) = false := decide_eq_false hlt
          have HLT := Lib.hid hlt
          clear hlt
          go_wp2_with fail
          go_quiet (fail)
          have HNX := Lib.hid (HRA.out.keep nq a bb xb HXE.out (by rw [← HP2.out, ← HY.out]; have := HLT.out; omega))
          clear g1 g2 g3 n1
          go_wp2
          go_roundg (gk - 1)
          case measure => have := HG.out; omega
          case rel =>
            refine ⟨p + 1, by go_num, HNX.out, by omega, by have := HG.out.2.1; omega, fun q hq => ?_⟩
            by_cases e : q = p
            · subst e; rw [HXE.out]; exact HOK.out
            · exact HG.out.2.2 q (by omega)
      · have hall : l.all (limOk n) = false := by
          rw [Bool.eq_false_iff]
          intro ha
          have := (all_getD l (limOk n) (0, 0, 0)).1 ha p hp
          rw [← HX.out] at this
          exact hr this
        have hz : limP n l = (none, 7) := by
          unfold limP; rw [if_pos (by omega)]; simp only [Int.toNat_natCast]; rw [hall]; rfl
        have HZ := Lib.hid hz
        have HR2 := Lib.hid hr
        clear hr hz hall
        have hend : ∀ w2, Below wr.heap.size wr w2 → MakesR w n (limP n l) (.returned (.tuple #[.pointer none, .int .i64 7])) w2 := fun w2 h2 => by
          rw [HZ.out]; exact ⟨HR.out.1.trans (h2.mono HR.out.1.size), .pointer none, rfl, rfl⟩
        have HE := Lib.hid hend
        clear hend
        by_cases a1 : xi < 0
        · have d1 : decide (xi < 0) = true := decide_eq_true a1
          go_wp2
          go_ret2
          exact HE.out _ ((Below.refl _ _).alloc (Nat.le_refl _) _)
        · have d1 : decide (xi < 0) = false := decide_eq_false a1
          by_cases a2 : (n : Int) < xi
          · have d2 : decide ((n : Int) < xi) = true := decide_eq_true a2
            go_wp2
            go_ret2
            exact HE.out _ ((Below.refl _ _).alloc (Nat.le_refl _) _)
          · have d2 : decide ((n : Int) < xi) = false := decide_eq_false a2
            by_cases a3 : xj < 0
            · have d3 : decide (xj < 0) = true := decide_eq_true a3
              go_wp2
              go_ret2
              exact HE.out _ ((Below.refl _ _).alloc (Nat.le_refl _) _)
            · have d3 : decide (xj < 0) = false := decide_eq_false a3
              by_cases a4 : (n : Int) < xj
              · have d4 : decide ((n : Int) < xj) = true := decide_eq_true a4
                go_wp2
                go_ret2
                exact HE.out _ ((Below.refl _ _).alloc (Nat.le_refl _) _)
              · have d4 : decide ((n : Int) < xj) = false := decide_eq_false a4
                have hrf : rightB xb = false := by
                  rw [Bool.eq_false_iff]
                  intro h
                  exact HR2.out (by simp only [limOk, h, Bool.and_true, decide_eq_true_eq]; omega)
                have HRR := Lib.hid hrf
                clear hrf
                go_wp2_with fail
                refine (rright_no _ _ HRR.out hb0 hb1).mono ?_
                rintro e w' ⟨rfl, rfl⟩
                go_wp2
                go_ret2
                exact HE.out _ ((Below.refl _ _).alloc (Nat.le_refl _) _)
    · have e : p = l.length := by have := HG.out.1; omega
      have hall : l.all (limOk n) = true := (all_getD l (limOk n) (0, 0, 0)).2 (by rw [← e]; exact HG.out.2.2)
      have hrt := lowUp_right n l l.length (fun q hq => by have := HG.out.2.2 q (by omega); simp only [limOk, Bool.and_eq_true] at this; exact this.2)
      have HRT := Lib.hid hrt
      have HOL := Lib.hid (of_low hn hall)
      subst e
      clear hall hrt
      go_wp2_with fail
      refine (rof_len n (some ⟨g, 0, none⟩) cap N (lowUp n l l.length) _ (by rw [lowUp_length, HN.out]) HR.out.2.2.ints (by omega) (fun q hq => right_bd32 (HRT.out q (by rw [lowUp_length] at hq; exact hq)))).mono ?_
      rintro e w2 hz
      have hz' : MakesR wr n (limP n l) e w2 := by rw [← HOL.out]; exact hz
      obtain ⟨hb2, v2, rfl, hv2⟩ := hz'
      have HB2 := Lib.hid (HR.out.1.trans (hb2.mono HR.out.1.size))
      have HV2 := Lib.hid hv2
      clear hb2 hv2 hz HRT HOL
      go_wp2
      go_ret2
      exact ⟨HB2.out, v2, rfl, HV2.out⟩

set_option maxRecDepth 100000 in
set_option maxHeartbeats 1000000 in
theorem rlimits_clock (n : Int) (v : Value) (l : List (Int × Int × Int)) (w : World) (hn : ¬ (0 ≤ n ∧ n ≤ 8)) :
    Calls Try.prog 14 #[.int .i64 n, v] w (MakesR w n.toNat (limP n l)) := by
  have hz : limP n l = (none, 12) := by unfold limP; rw [if_neg hn]
  rw [hz]
  clear hz
  by_cases h0 : n < 0
  · have d0 : decide (n < 0) = true := decide_eq_true h0
    go_enter Try.func14, Try.ntmps14
    go_wp2
    go_ret2
    exact ⟨Below.refl _ _, .pointer none, rfl, rfl⟩
  · have d0 : decide (n < 0) = false := decide_eq_false h0
    have h8 : 8 < n := by omega
    clear hn
    go_enter Try.func14, Try.ntmps14
    go_wp2
    go_ret2
    exact ⟨Below.refl _ _, .pointer none, rfl, rfl⟩

/-- The document's Limits, whatever it is given. -/
theorem rlimits_any (n : Int) (A : Option Addr) (c : Nat) (l : List (Int × Int × Int)) (w : World) (hI : Lims w A l) (hmax : l.length ≤ 4611686018427387904)
    (hk : ∀ q, q < l.length → -2147483648 ≤ (l.getD q (0, 0, 0)).2.2 ∧ (l.getD q (0, 0, 0)).2.2 ≤ 2147483647) :
    Calls Try.prog 14 #[.int .i64 n, .slice A l.length c] w (MakesR w n.toNat (limP n l)) := by
  by_cases hn : 0 ≤ n ∧ n ≤ 8
  · obtain ⟨k, rfl⟩ : ∃ k : Nat, n = k := ⟨n.toNat, by omega⟩
    exact rlimits_yes k A c l w (by omega) hI hmax hk
  · exact rlimits_clock n _ l w hn

set_option maxRecDepth 100000 in
set_option maxHeartbeats 1000000 in
theorem runiverse_any (n : Int) (w : World) : Calls Try.prog 16 #[.int .i64 n] w (MakesR w n.toNat (limP n [])) := by
  go_enter Try.func16, Try.ntmps16
  go_wp2_with fail
  refine (rlimits_any n none 0 [] w (fun j hj => by simp at hj) (by simp) (fun q hq => by simp at hq)).mono ?_
  rintro e w2 hz
  have HZ := Lib.hid hz
  obtain ⟨ho, v, rfl, hv⟩ := hz
  clear ho hv
  go_wp2
  go_ret2
  exact HZ.out

end Go.Proofs.Ytgpmfnahjepjjaa
