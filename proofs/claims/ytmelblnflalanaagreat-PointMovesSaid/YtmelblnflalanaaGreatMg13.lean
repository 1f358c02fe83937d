/- Texts of ours, laid together: Af, Sa, Sb, Ra, Rb, Rc, Rd, Re, Rf, Rl, Rg, Rh, Qa, Rp, Rq, Ro, Ru, Rv, Rw, Pt, Pz, Bp, Pk, Bq, Ok, Op, Ol, Qt, Rx, Ml, Ql, Gg, Ou. -/
import Derived.StillTailTactics
import Derived.Test.YtmelblnflalanaaGreatProg
import Derived.Lib.Hide
import Derived.Deep.LoopGhost
import Derived.Deep.QuietTactic
import Derived.BigQuiet
import Derived.BigRegion
import Derived.KernelRfl
import Derived.Deep.AppendLies
import Derived.Deep.RegionLaw
import Derived.Deep.OwnRows
import Derived.Deep.RegionHeld3
import Derived.Lib.ItoaNum
import Derived.Lib.ItoaLen
import Derived.Lib.AtoiTie
import Derived.Lib.Strings
import Derived.Test.YtmelblnflalanaaGreatShelf
import Derived.Lib.AppendIntMem
import Derived.Lib.LaidTab
import Derived.Test.YtmelblnflalanaaGreatMg12
/- append onto a long row of limits of the call's own. -/
namespace Go.Proofs.YtmelblnflalanaaGreat
open Go Go.RowKit
set_option linter.unusedVariables false
set_option linter.unusedSimpArgs false

/-- What the runtime takes for a greater row is within its bound. -/
theorem far_fits {need old : Nat} (h : old < need) (hb : need * 24 ≤ 215000000000000) : Builtin.nextslicecap need old * 24 ≤ 281474976710656 := by
  unfold Builtin.nextslicecap
  split
  · omega
  · split
    · omega
    · rw [growBy_four]
      split
      · omega
      · split
        · omega
        · split
          · omega
          · split
            · omega
            · omega

theorem append_far {P : Program} (w : World) (base : Nat) (t ty e : TypeId) (i : TypeInfo) (z : Value) (ht : P.underlying t = some (.slice e)) (hi : P.info? e = some i) (hz : i.zero = some z)
    (hsize : i.size = 3) (hby : i.bytes = 24) (hzs : z.cells.size = 3) (v : Value) (n : Nat) (xs : List Value) (hown : w.ownsRow base e 3 v n xs)
    (a : Addr) (m c : Nat) (news : List Value) (hl : news.length = m * 3) (hnews : ∀ j u, news[j]? = some u → w.cell? (a.add j) = some u) (h1 : ∀ u ∈ news, u.oneCell' = true)
    (hm : m ≤ 1000) (hb : (n + m) * 24 ≤ 215000000000000) (hbase : base ≤ w.heap.size) :
    ∃ v' w', (Builtin.append_ #[t, t] ty #[v, .slice (some a) m c]).run P w = .ok v' w' ∧ w'.ownsRow base e 3 v' (n + m) (xs ++ news) ∧ w.grownBy w' v.ownBlock := by
  by_cases hs : (n + m) * 24 ≤ 140737488355328
  · obtain ⟨v', w', h1, h2, h3, _⟩ := run_append_own (P := P) w base t ty e i z 3 24 ht hi hz hsize hby hzs (by decide) v n xs hown a m c news hl hnews h1 (by simp only [maxLen]; omega) hs hbase
    exact ⟨v', w', h1, h2, h3⟩
  · obtain ⟨hxl, hform⟩ := hown
    have htot : (xs ++ news).length = (n + m) * 3 := by rw [List.length_append, hxl, hl]; omega
    rcases hform with ⟨_, h0⟩ | ⟨g, cap, cur, rfl, hbg, hg, hnc, hcm, hcs, htake⟩
    · omega
    · by_cases hroom : n + m ≤ cap
      · have hfit : n * i.size + news.length ≤ cur.size := by rw [hl, hcs, hsize]; omega
        have hr := run_append_room (P := P) w t ty e i ht hi g n cap cur hg a m c news (by rw [hsize]; exact hl) hnews h1 hroom hfit
        have hblk := setRow_heap w g cur (cur.toList.take (n * i.size) ++ news ++ cur.toList.drop (n * i.size + news.length)).toArray e _ hg
        have hoth := fun k (hk : k ≠ g) => setRow_other w g k (cur.toList.take (n * i.size) ++ news ++ cur.toList.drop (n * i.size + news.length)).toArray hk
        rw [hsize] at hr hblk hoth
        refine ⟨_, _, hr, ⟨htot, .inr ⟨g, cap, _, rfl, hbg, hblk, hroom, hcm, ?_, ?_⟩⟩, ?_⟩
        · have e1 : cur.toList.length = cap * 3 := by rw [Array.length_toList, hcs]
          simp only [List.size_toArray, List.length_append, List.length_take, List.length_drop, e1, hl]
          omega
        · have e2 : (cur.toList.take (n * 3) ++ news ++ cur.toList.drop (n * 3 + news.length)).toArray.toList = (xs ++ news) ++ cur.toList.drop (n * 3 + news.length) := by rw [htake]
          rw [e2, ← htot]
          exact List.take_left
        · exact ⟨rfl, rfl, rfl, by simp, fun k _ hk => hoth k (fun e => hk (by simp [Value.ownBlock, e]))⟩
      · have hcells : ∀ j u, xs[j]? = some u → w.cell? ((⟨g, 0, none⟩ : Addr).add j) = some u := World.ownsRow.cells (w := w) (base := base) (e := e) (size := 3) (v := .slice (some ⟨g, 0, none⟩) n cap) ⟨hxl, .inr ⟨g, cap, cur, rfl, hbg, hg, hnc, hcm, hcs, htake⟩⟩ rfl
        have hr := run_append_grow (P := P) w t ty e i z ht hi hz ⟨g, 0, none⟩ n cap xs (by rw [hsize]; exact hxl) hcells a m c news (by rw [hsize]; exact hl) hnews (by omega) (by omega) (by rw [hby]; exact far_fits (by omega) hb)
        have hge := grownCap_ge w (n + m) cap e
        have hle := grownCap_le_maxLen w (n + m) cap e (by simp only [maxLen]; omega)
        refine ⟨_, _, hr, ⟨htot, .inr ⟨w.heap.size, _, _, rfl, hbase, heap_alloc_new w.drew _, hge, hle, ?_, ?_⟩⟩, ?_⟩
        · rw [Array.size_append, Array.size_append, size_zeroCells, hzs, List.size_toArray, List.size_toArray, hxl, hl]
          omega
        · rw [Array.toList_append, Array.toList_append]
          show (xs ++ news ++ _).take _ = _
          rw [← htot]
          exact List.take_left
        · exact ⟨rfl, rfl, rfl, by simp, fun k hk _ => heap_alloc_old w.drew _ hk⟩

end Go.Proofs.YtmelblnflalanaaGreat

/- Rows held against one another. -/
namespace Go.Proofs.YtmelblnflalanaaGreat
open Go Go.RowKit
set_option linter.unusedVariables false
set_option linter.unusedSimpArgs false

/-- Are two rows the same? -/
def sameL (xs ys : List Int) : Bool := decide (xs = ys)
theorem sameL_len {xs ys : List Int} (h : ¬ xs.length = ys.length) : sameL xs ys = false := decide_eq_false fun e => h (by rw [e])
theorem sameL_no {xs ys : List Int} {p : Nat} (h : ¬ xs.getD p 0 = ys.getD p 0) : sameL xs ys = false := decide_eq_false fun e => h (by rw [e])
theorem sameL_yes {xs ys : List Int} (hl : xs.length = ys.length) (h : ∀ p, p < xs.length → xs.getD p 0 = ys.getD p 0) : sameL xs ys = true := decide_eq_true (list_ext0 hl h)

theorem sameL_self (xs : List Int) : sameL xs xs = true := decide_eq_true rfl

end Go.Proofs.YtmelblnflalanaaGreat

/- Rows of bounds held against one another, by the package that looks after memory. -/
namespace Go.Proofs.YtmelblnflalanaaGreat
open Go Go.RowKit
set_option linter.unusedVariables false
set_option linter.unusedSimpArgs false

end Go.Proofs.YtmelblnflalanaaGreat

/- The document's answers for bounds: the number of a bound, whether it is right, the sum of two wide ones. -/
namespace Go.Proofs.YtmelblnflalanaaGreat
open Go Go.RowKit
set_option linter.unusedVariables false
set_option linter.unusedSimpArgs false

theorem wsum_plain {a b : Int} (ha : a ≠ none62) (hb : b ≠ none62) : wsum a b = if a % 2 = 0 ∧ b % 2 = 0 then a + b else a + b - 1 := by
  unfold wsum
  rw [if_neg (by simp [ha, hb])]
  rcases two_cases a b with ⟨h, h1⟩ | ⟨h, h1, h2⟩ <;> rw [h]
  · by_cases c : a % 2 = 0 ∧ b % 2 = 0
    · rw [if_pos c]; omega
    · rw [if_neg c]; omega
  · rw [if_neg (by omega)]; omega

end Go.Proofs.YtmelblnflalanaaGreat

/- The document's close over a row of wide bounds: the same closed form. -/
namespace Go.Proofs.YtmelblnflalanaaGreat
open Go Go.RowKit
set_option linter.unusedVariables false
set_option linter.unusedSimpArgs false

/-- The row is cur; nothing else was touched. -/
def RAt (w0 : World) (g n : Nat) (cur : Mat) (wr : World) : Prop := Only g w0 wr ∧ RowAt wr g 2 .i64 (flat n cur)
theorem RAt.step {w0 wr : World} {g n : Nat} {cur : Mat} (h : RAt w0 g n cur wr) {i j : Nat} (hi : i < n + 1) (hj : j < n + 1) (v : Int) (p : Nat) (hp : p = i * (n + 1) + j) :
    RAt w0 g n (upd cur i j v) (wr.setCell ⟨g, p, none⟩ (.int .i64 v)) := by
  subst hp
  refine ⟨h.1.setCell _ _, ?_⟩
  rw [← flat_upd cur hi hj v]
  exact h.2.set _ _
theorem RAt.cell {w0 wr : World} {g n : Nat} {cur : Mat} (h : RAt w0 g n cur wr) {i j : Nat} (hi : i < n + 1) (hj : j < n + 1) (p : Nat) (hp : p = i * (n + 1) + j) :
    wr.cell? ⟨g, p, none⟩ = some (.int .i64 (cur i j)) := by
  subst hp
  have := h.2.cell (i * (n + 1) + j) (by rw [flat_length]; exact at_lt hi hj)
  rwa [flat_at cur hi hj] at this
theorem RAt.drewN {w0 wr : World} {g n : Nat} {cur : Mat} (h : RAt w0 g n cur wr) (q : Nat) : RAt w0 g n cur (wr.drewN q) := ⟨h.1.drewN q, h.2⟩

def ROuter (w0 : World) (b n : Nat) (m0 : Mat) (g k : Nat) (m : Mat) (wr : World) : Prop := RAt w0 b n m wr ∧ RoundOk n m0 k m ∧ g + k = n + 1
def RMid (w0 : World) (b n : Nat) (m : Mat) (k g i : Nat) (cur : Mat) (wr : World) : Prop :=
  RAt w0 b n cur wr ∧ RefOk n (1073741824 * 4 ^ k) m k i 0 cur ∧ i ≤ n + 1 ∧ g + i = n + 1
def RInn (w0 : World) (b n : Nat) (m : Mat) (k i g j : Nat) (cur : Mat) (wr : World) : Prop :=
  RAt w0 b n cur wr ∧ RefOk n (1073741824 * 4 ^ k) m k i j cur ∧ j ≤ n + 1 ∧ g + j = n + 1
def RTest (w0 : World) (b n : Nat) (m : Mat) (k g i : Nat) (cur : Mat) (wr : World) : Prop :=
  RAt w0 b n cur wr ∧ RefOk n (1073741824 * 4 ^ k) m k (n + 1) 0 cur ∧ (∀ a, a < i → 1 ≤ cur a a) ∧ i ≤ n + 1 ∧ g + i = n + 1

theorem RInn.bounds {w0 wr : World} {b n : Nat} {m m0 cur : Mat} {k i g j : Nat} (h : RInn w0 b n m k i g j cur wr) (hr : RoundOk n m0 k m) (hn : n ≤ 8) (hk : k ≤ n) {a c : Nat} (ha : a ≤ n) (hc : c ≤ n) :
    Bd 1152921504606846976 (cur a c) := by
  have h4 := pow2_le (show k ≤ 9 by omega)
  have h1 := one_le_pow2 k
  exact (h.2.1.bounds hr.fit (by omega) hk ha hc).mono (by omega)
theorem RInn.stepTo {w0 wr : World} {b n : Nat} {m m0 cur : Mat} {k i g j : Nat} (h : RInn w0 b n m k i g j cur wr) (hr : RoundOk n m0 k m) (hk : k ≤ n) (hi : i ≤ n) (hj : j ≤ n) (hlt : wsum (cur i k) (cur k j) < cur i j) (p : Nat) (hp : p = i * (n + 1) + j) :
    RInn w0 b n m k i (g - 1) (j + 1) (upd cur i j (wsum (cur i k) (cur k j))) (wr.setCell ⟨b, p, none⟩ (.int .i64 (wsum (cur i k) (cur k j)))) := by
  have h1 := one_le_pow2 k
  have hs := h.2.1.step hr.fit (by omega) hk hi hj
  rw [show min (cur i j) (wsum (cur i k) (cur k j)) = wsum (cur i k) (cur k j) by rw [Int.min_def, if_neg (by omega)]] at hs
  have := h.2.2.2
  exact ⟨h.1.step (by omega) (by omega) _ p hp, hs, by omega, by omega⟩
theorem RInn.stepSame {w0 wr : World} {b n : Nat} {m m0 cur : Mat} {k i g j : Nat} (h : RInn w0 b n m k i g j cur wr) (hr : RoundOk n m0 k m) (hk : k ≤ n) (hi : i ≤ n) (hj : j ≤ n) (hlt : ¬ wsum (cur i k) (cur k j) < cur i j) :
    RInn w0 b n m k i (g - 1) (j + 1) cur wr := by
  have h1 := one_le_pow2 k
  have hs := h.2.1.step hr.fit (by omega) hk hi hj
  have e : upd cur i j (min (cur i j) (wsum (cur i k) (cur k j))) = cur := by
    rw [show min (cur i j) (wsum (cur i k) (cur k j)) = cur i j by rw [Int.min_def, if_pos (by omega)]]
    funext a c; simp only [upd]; split
    · rename_i h; rw [h.1, h.2]
    · rfl
  rw [e] at hs
  have := h.2.2.2
  exact ⟨h.1, hs, by omega, by omega⟩
theorem RInn.drewN {w0 wr : World} {b n : Nat} {m cur : Mat} {k i g j : Nat} (h : RInn w0 b n m k i g j cur wr) (q : Nat) : RInn w0 b n m k i g j cur (wr.drewN q) := ⟨h.1.drewN q, h.2⟩

def RCloseEnds (w0 : World) (g n : Nat) (m0 : Mat) (e : Ending) (w' : World) : Prop :=
  Only g w0 w' ∧ ((closed n m0 = none ∧ e = .returned (.bool false)) ∨ ∃ m', closed n m0 = some m' ∧ e = .returned (.bool true) ∧ RowAt w' g 2 .i64 (flat n m'))

theorem prod_facts (i n : Nat) (hi : i ≤ n) (hn : n ≤ 8) : ∃ P : Nat, (i : Int) * ((n : Int) + 1) = (P : Int) ∧ P ≤ 72 ∧ P = i * (n + 1) ∧ P + n < (n + 1) * (n + 1) := by
  refine ⟨i * (n + 1), by simp, ?_, rfl, at_lt (by omega) (by omega)⟩
  have := Nat.mul_le_mul (show i ≤ 8 by omega) (show n + 1 ≤ 9 by omega)
  omega

end Go.Proofs.YtmelblnflalanaaGreat

/- The document's zones, made of bounds. -/
namespace Go.Proofs.YtmelblnflalanaaGreat
open Go Go.RowKit
set_option linter.unusedVariables false
set_option linter.unusedSimpArgs false

theorem infoI : (Tryz.prog.info? 2).map (fun i => (i.zero, i.size, i.bytes)) = some (some (.int .i64 0), 1, 8) := by kernel_rfl
theorem infoRB : (Tryz.prog.info? 70).map (fun i => (i.zero, i.size, i.bytes)) = some (some (.int .i32 0), 1, 4) := by kernel_rfl

/-- The wide row, so far. -/
def WideR (w0 : World) (l : List Int) (p : Nat) (v : Value) (wr : World) : Prop :=
  Below w0.heap.size w0 wr ∧ wr.ownsRow w0.heap.size 2 1 v p (vals .i64 (widUp l p)) ∧ p ≤ l.length
theorem WideR.next {w0 wr w1 : World} {l : List Int} {p : Nat} {v v' : Value} {o : Obj} (h : WideR w0 l p v wr) (hp : p < l.length) (x : Int) (hx : x = wid (l.getD p 0))
    (hown : w1.ownsRow w0.heap.size 2 1 v' (p + 1) (vals .i64 (widUp l p) ++ [.int .i64 x])) (hg : (wr.alloc o).grownBy w1 v.ownBlock) : WideR w0 l (p + 1) v' w1 := by
  refine ⟨(h.1.alloc h.1.size o).grown hg (by have := h.1.size; simp; omega) (fun k hk => (h.2.1.lt k hk).1), ?_, by omega⟩
  have e : vals .i64 (widUp l (p + 1)) = vals .i64 (widUp l p) ++ [.int .i64 x] := by rw [hx]; simp [vals, widUp]
  rw [e]; exact hown

end Go.Proofs.YtmelblnflalanaaGreat

/- The document's zone: the empty one; the one of wide cells, or the error. -/
namespace Go.Proofs.YtmelblnflalanaaGreat
open Go Go.RowKit
set_option linter.unusedVariables false
set_option linter.unusedSimpArgs false

theorem zeros_row (w : World) (N : Nat) (xs : List Int) (hl : xs.length = N) (hx : ∀ p, p < N → xs.getD p 0 = 0) : RowAt (w.alloc (.cells (madeCells #[.int .i32 0] N) 70)) w.heap.size 70 .i32 xs := by
  refine ⟨_, heap_alloc_new _ _, ?_⟩
  subst hl
  apply List.ext_getElem?
  intro p
  by_cases hp : p < xs.length
  · have := hx p hp
    rw [List.getD_eq_getElem?_getD, List.getElem?_eq_getElem hp] at this
    have e : xs[p] = 0 := this
    simp [madeCells, vals, hp, e, Nat.mod_one]
  · simp [madeCells, vals, hp]

/-! ### made -/
def ClR (w0 : World) (g n : Nat) (m : Mat) (q i : Nat) (wr : World) : Prop := RAt w0 g n (clUp m i) wr ∧ i ≤ n + 1 ∧ q + i = n + 1
def store1 (c : Bool) (w : World) (a : Addr) : World := if c then w.setCell a (.int .i64 1) else w
theorem RAt.store1 {w0 wr : World} {g n : Nat} {cur : Mat} (h : RAt w0 g n cur wr) {i j : Nat} (hi : i < n + 1) (hj : j < n + 1) (p : Nat) (hp : p = i * (n + 1) + j) (c : Bool) (hc : c = decide (1 < cur i j)) :
    RAt w0 g n (upd cur i j (min (cur i j) 1)) (store1 c wr ⟨g, p, none⟩) := by
  subst hc
  by_cases hlt : 1 < cur i j
  · rw [decide_eq_true hlt]
    have e : min (cur i j) 1 = 1 := by rw [Int.min_def, if_neg (by omega)]
    rw [e]
    exact h.step hi hj 1 p hp
  · rw [decide_eq_false hlt]
    have e : upd cur i j (min (cur i j) 1) = cur := by
      have : min (cur i j) 1 = cur i j := by rw [Int.min_def, if_pos (by omega)]
      rw [this]
      funext a c; simp only [upd]; split
      · rename_i h; rw [h.1, h.2]
      · rfl
    rw [e]
    exact h
theorem ClR.next {w0 wr : World} {g n : Nat} {m : Mat} {q i : Nat} (h : ClR w0 g n m q i wr) (hi : i < n + 1) (p : Nat) (hp : p = i * (n + 1) + i) (c1 c2 : Bool) (h1 : c1 = decide (1 < m i i)) (h2 : c2 = decide (1 < upd (clUp m i) i i (min (clUp m i i i) 1) 0 i)) :
    ClR w0 g n m (q - 1) (i + 1) (store1 c2 (store1 c1 wr ⟨g, p, none⟩) ⟨g, i, none⟩) := by
  have ha := h.1.store1 hi hi p hp c1 (by rw [clUp_at]; exact h1)
  have hb := ha.store1 (i := 0) (j := i) (by omega) hi i (by omega) c2 h2
  rw [clUp_step] at hb
  have := h.2.2
  exact ⟨hb, by omega, by omega⟩

end Go.Proofs.YtmelblnflalanaaGreat

/- The document's zone of wide cells. -/
namespace Go.Proofs.YtmelblnflalanaaGreat
open Go Go.RowKit
set_option linter.unusedVariables false
set_option linter.unusedSimpArgs false

end Go.Proofs.YtmelblnflalanaaGreat

/- The document's Of. -/
namespace Go.Proofs.YtmelblnflalanaaGreat
open Go Go.RowKit
set_option linter.unusedVariables false
set_option linter.unusedSimpArgs false

end Go.Proofs.YtmelblnflalanaaGreat

/- The document's Infs, Limits, Universe and Zero. -/
namespace Go.Proofs.YtmelblnflalanaaGreat
open Go Go.RowKit
set_option linter.unusedVariables false
set_option linter.unusedSimpArgs false

/-- So many cells without a bound. -/
def InfR (w0 : World) (p : Nat) (v : Value) (wr : World) : Prop :=
  Below w0.heap.size w0 wr ∧ wr.ownsRow w0.heap.size 70 1 v p (vals .i32 (List.replicate p 2147483647))
theorem InfR.next {w0 wr w1 : World} {p : Nat} {v v' : Value} {o : Obj} (h : InfR w0 p v wr)
    (hown : w1.ownsRow w0.heap.size 70 1 v' (p + 1) (vals .i32 (List.replicate p 2147483647) ++ [.int .i32 2147483647])) (hg : (wr.alloc o).grownBy w1 v.ownBlock) : InfR w0 (p + 1) v' w1 := by
  refine ⟨(h.1.alloc h.1.size o).grown hg (by have := h.1.size; simp; omega) (fun k hk => (h.2.lt k hk).1), ?_⟩
  have e : vals .i32 (List.replicate (p + 1) 2147483647) = vals .i32 (List.replicate p 2147483647) ++ [.int .i32 2147483647] := by
    rw [List.replicate_succ']; simp [vals]
  rw [e]; exact hown

/-- The row of bounds, with the first p limits. -/
def lowUp (n : Nat) (l : List (Int × Int × Int)) : Nat → List Int
  | 0 => List.replicate ((n + 1) * (n + 1)) 2147483647
  | p + 1 => if (l.getD p (0, 0, 0)).2.2 < (lowUp n l p).getD ((l.getD p (0, 0, 0)).1.toNat * (n + 1) + (l.getD p (0, 0, 0)).2.1.toNat) 0
      then (lowUp n l p).set ((l.getD p (0, 0, 0)).1.toNat * (n + 1) + (l.getD p (0, 0, 0)).2.1.toNat) (l.getD p (0, 0, 0)).2.2 else lowUp n l p
theorem lowUp_length (n : Nat) (l : List (Int × Int × Int)) : ∀ p, (lowUp n l p).length = (n + 1) * (n + 1)
  | 0 => by simp [lowUp]
  | p + 1 => by
    unfold lowUp; split
    · rw [List.length_set, lowUp_length n l p]
    · exact lowUp_length n l p
theorem lowUp_right (n : Nat) (l : List (Int × Int × Int)) : ∀ p, (∀ q, q < p → rightB (l.getD q (0, 0, 0)).2.2 = true) → ∀ q, q < (n + 1) * (n + 1) → rightB ((lowUp n l p).getD q 0) = true
  | 0, _, q, hq => by
    simp only [lowUp, List.getD_eq_getElem?_getD, List.getElem?_replicate]
    rw [if_pos hq]; decide
  | p + 1, h, q, hq => by
    have ih := lowUp_right n l p (fun q hq => h q (by omega)) q hq
    unfold lowUp; split
    · rw [List.getD_eq_getElem?_getD, List.getElem?_set]
      split
      · split
        · exact h p (by omega)
        · rename_i h1 h2; rw [lowUp_length] at h2; omega
      · rwa [List.getD_eq_getElem?_getD] at ih
    · exact ih
theorem low_agree (n : Nat) (l : List (Int × Int × Int)) : ∀ p, (∀ q, q < p → limOk n (l.getD q (0, 0, 0)) = true) → ∀ i j, i ≤ n → j ≤ n →
    limUp n l p i j = if i = j ∨ i = 0 then min 1 (wid ((lowUp n l p).getD (i * (n + 1) + j) 0)) else wid ((lowUp n l p).getD (i * (n + 1) + j) 0)
  | 0, _, i, j, hi, hj => by
    have e : (lowUp n l 0).getD (i * (n + 1) + j) 0 = 2147483647 := by
      simp only [lowUp, List.getD_eq_getElem?_getD, List.getElem?_replicate]
      rw [if_pos (at_lt (by omega) (by omega))]; rfl
    rw [e]
    show openM n i j = _
    unfold openM wid none62
    rw [if_pos ⟨hi, hj⟩]
    simp only [if_true]
    split <;> omega
  | p + 1, h, i, j, hi, hj => by
    have ih := low_agree n l p (fun q hq => h q (by omega)) i j hi hj
    obtain ⟨⟨a0, a1, b0, b1⟩, hr⟩ := (show (0 ≤ (l.getD p (0, 0, 0)).1 ∧ (l.getD p (0, 0, 0)).1 ≤ n ∧ 0 ≤ (l.getD p (0, 0, 0)).2.1 ∧ (l.getD p (0, 0, 0)).2.1 ≤ n) ∧ rightB (l.getD p (0, 0, 0)).2.2 = true by
      have := h p (by omega)
      simpa [limOk] using this)
    have hrc := lowUp_right n l p (fun q hq => by have := h q (by omega); simp only [limOk, Bool.and_eq_true] at this; exact this.2)
    show keepM (limUp n l p) (l.getD p (0, 0, 0)).1.toNat (l.getD p (0, 0, 0)).2.1.toNat (l.getD p (0, 0, 0)).2.2 i j = _
    rw [show lowUp n l (p + 1) = if (l.getD p (0, 0, 0)).2.2 < (lowUp n l p).getD ((l.getD p (0, 0, 0)).1.toNat * (n + 1) + (l.getD p (0, 0, 0)).2.1.toNat) 0
      then (lowUp n l p).set ((l.getD p (0, 0, 0)).1.toNat * (n + 1) + (l.getD p (0, 0, 0)).2.1.toNat) (l.getD p (0, 0, 0)).2.2 else lowUp n l p from rfl]
    obtain ⟨a, ha⟩ : ∃ a : Nat, a = (l.getD p (0, 0, 0)).1.toNat := ⟨_, rfl⟩
    obtain ⟨b, hb⟩ : ∃ b : Nat, b = (l.getD p (0, 0, 0)).2.1.toNat := ⟨_, rfl⟩
    obtain ⟨x, hx⟩ : ∃ x : Int, x = (l.getD p (0, 0, 0)).2.2 := ⟨_, rfl⟩
    rw [← ha, ← hb, ← hx]
    rw [← hx] at hr
    have han : a ≤ n := by omega
    have hbn : b ≤ n := by omega
    clear ha hb hx
    by_cases e : i = a ∧ j = b
    · obtain ⟨rfl, rfl⟩ := e
      have hrij := hrc (i * (n + 1) + j) (at_lt (by omega) (by omega))
      have hset : ∀ y, ((lowUp n l p).set (i * (n + 1) + j) y).getD (i * (n + 1) + j) 0 = y := fun y => by
        rw [List.getD_eq_getElem?_getD, List.getElem?_set, if_pos rfl, if_pos (by rw [lowUp_length]; exact at_lt (by omega) (by omega))]; rfl
      obtain ⟨c, hc⟩ : ∃ c, c = (lowUp n l p).getD (i * (n + 1) + j) 0 := ⟨_, rfl⟩
      rw [← hc] at ih hrij ⊢
      unfold keepM
      unfold rightB at hr hrij
      have hr := of_decide_eq_true hr
      have hrij := of_decide_eq_true hrij
      by_cases hinf : x = 2147483647
      · have e1 : ¬ x < c := by omega
        rw [if_pos hinf, if_neg e1, ← hc, ih]
      · rw [if_neg hinf]
        have hwx : wid x = x := by unfold wid; rw [if_neg hinf]
        have hu : upd (limUp n l p) i j (min (limUp n l p i j) x) i j = min (limUp n l p i j) x := by unfold upd; rw [if_pos ⟨rfl, rfl⟩]
        rw [hu, ih]
        by_cases hlt : x < c
        · rw [if_pos hlt, hset, hwx]
          have hxc : min (wid c) x = x := by
            unfold wid none62; split <;> omega
          split <;> omega
        · rw [if_neg hlt, ← hc]
          have hwc : wid c = c := by unfold wid; rw [if_neg (by omega)]
          rw [hwc]
          split <;> omega
    · have hne : i * (n + 1) + j ≠ a * (n + 1) + b := fun h' => e (by
        have h1 := (at_row (i := i) (show j < n + 1 by omega))
        have h2 := (at_row (i := a) (show b < n + 1 by omega))
        rw [h'] at h1
        exact ⟨h1.1.symm.trans h2.1, h1.2.symm.trans h2.2⟩)
      have hk : keepM (limUp n l p) a b x i j = limUp n l p i j := by
        unfold keepM; split
        · rfl
        · unfold upd; rw [if_neg e]
      rw [hk, ih]
      have hs : (if x < (lowUp n l p).getD (a * (n + 1) + b) 0 then (lowUp n l p).set (a * (n + 1) + b) x else lowUp n l p).getD (i * (n + 1) + j) 0 = (lowUp n l p).getD (i * (n + 1) + j) 0 := by
        split
        · rw [List.getD_eq_getElem?_getD, List.getElem?_set, if_neg (fun h => hne h.symm), ← List.getD_eq_getElem?_getD]
        · rfl
      rw [hs]
/-- Of the row with all limits: what Limits tells. -/
theorem of_low {n : Nat} {l : List (Int × Int × Int)} (hn : n ≤ 8) (h : l.all (limOk n) = true) : ofP n (lowUp n l l.length) = limP n l := by
  have hk : ∀ q, q < l.length → limOk n (l.getD q (0, 0, 0)) = true := (all_getD l (limOk n) (0, 0, 0)).1 h
  have hr := lowUp_right n l l.length (fun q hq => by have := hk q hq; simp only [limOk, Bool.and_eq_true] at this; exact this.2)
  have hall : (lowUp n l l.length).all rightB = true := (all_getD _ _ 0).2 fun q hq => hr q (by rw [lowUp_length] at hq; exact hq)
  unfold ofP limP
  rw [if_pos (by omega), if_pos (by rw [lowUp_length]; simp), if_pos hall, if_pos (by omega), lowUp_length]
  simp only [Int.toNat_natCast]
  rw [if_pos h]
  refine zoneP_agree fun i j hi hj => ?_
  rw [keepUp_cell n _ i j hi hj hr _ (Nat.le_refl _), if_pos (at_lt (by omega) (by omega)), low_agree n l l.length hk i j hi hj]

/-- The row, so far, in a block of the call's own. -/
def LowR (w0 : World) (g n : Nat) (l : List (Int × Int × Int)) (p : Nat) (wr : World) : Prop :=
  Below w0.heap.size w0 wr ∧ w0.heap.size ≤ g ∧ RowAt wr g 70 .i32 (lowUp n l p)
theorem LowR.next {w0 wr : World} {g n : Nat} {l : List (Int × Int × Int)} {p : Nat} (h : LowR w0 g n l p wr) (q a b : Nat) (x : Int) (hx : l.getD p (0, 0, 0) = (↑a, ↑b, x)) (hlt : x < (lowUp n l p).getD (a * (n + 1) + b) 0) (k : Nat) (hk : k = a * (n + 1) + b) :
    LowR w0 g n l (p + 1) ((wr.drewN q).setCell ⟨g, k, none⟩ (.int .i32 x)) := by
  refine ⟨(belowN h.1 q).setCell h.2.1 _, h.2.1, ?_⟩
  have := (h.2.2.drewN q).set k x
  rw [hk] at this ⊢
  have e : lowUp n l (p + 1) = (lowUp n l p).set (a * (n + 1) + b) x := by
    rw [show lowUp n l (p + 1) = if (l.getD p (0, 0, 0)).2.2 < (lowUp n l p).getD ((l.getD p (0, 0, 0)).1.toNat * (n + 1) + (l.getD p (0, 0, 0)).2.1.toNat) 0
      then (lowUp n l p).set ((l.getD p (0, 0, 0)).1.toNat * (n + 1) + (l.getD p (0, 0, 0)).2.1.toNat) (l.getD p (0, 0, 0)).2.2 else lowUp n l p from rfl, hx]
    exact if_pos hlt
  rw [e]; exact this
theorem LowR.keep {w0 wr : World} {g n : Nat} {l : List (Int × Int × Int)} {p : Nat} (h : LowR w0 g n l p wr) (q a b : Nat) (x : Int) (hx : l.getD p (0, 0, 0) = (↑a, ↑b, x)) (hlt : ¬ x < (lowUp n l p).getD (a * (n + 1) + b) 0) : LowR w0 g n l (p + 1) (wr.drewN q) := by
  refine ⟨belowN h.1 q, h.2.1, ?_⟩
  have e : lowUp n l (p + 1) = lowUp n l p := by
    rw [show lowUp n l (p + 1) = if (l.getD p (0, 0, 0)).2.2 < (lowUp n l p).getD ((l.getD p (0, 0, 0)).1.toNat * (n + 1) + (l.getD p (0, 0, 0)).2.1.toNat) 0
      then (lowUp n l p).set ((l.getD p (0, 0, 0)).1.toNat * (n + 1) + (l.getD p (0, 0, 0)).2.1.toNat) (l.getD p (0, 0, 0)).2.2 else lowUp n l p from rfl, hx]
    exact if_neg hlt
  rw [e]; exact h.2.2.drewN q
theorem LowR.alloc {w0 wr : World} {g n : Nat} {l : List (Int × Int × Int)} {p : Nat} (h : LowR w0 g n l p wr) (o : Obj) : LowR w0 g n l p (wr.alloc o) :=
  ⟨h.1.alloc h.1.size o, h.2.1, h.2.2.later ((Below.refl _ _).alloc (Nat.le_refl _) o)⟩

theorem right_bd32 {x : Int} (h : rightB x = true) : -2147483648 ≤ x ∧ x ≤ 2147483647 := by
  unfold rightB at h
  have := of_decide_eq_true h
  omega

end Go.Proofs.YtmelblnflalanaaGreat

/- What is asked of the document's zones; rows held against one another. -/
namespace Go.Proofs.YtmelblnflalanaaGreat
open Go Go.RowKit
set_option linter.unusedVariables false
set_option linter.unusedSimpArgs false

/-! ### the document's zones -/
/-- The document asks it so. -/
def emptyR (z : Option (Nat × Mat)) : Bool := match z with | some (_, m) => decide (m 0 0 ≠ 1) | none => false

end Go.Proofs.YtmelblnflalanaaGreat

/- Cell and Cells of the document's zones. -/
namespace Go.Proofs.YtmelblnflalanaaGreat
open Go Go.RowKit
set_option linter.unusedVariables false
set_option linter.unusedSimpArgs false

end Go.Proofs.YtmelblnflalanaaGreat

/- The laws of the operations: a zone by both; are two zones the same? -/
namespace Go.Proofs.YtmelblnflalanaaGreat
open Go Go.RowKit
set_option linter.unusedVariables false
set_option linter.unusedSimpArgs false

theorem zOf_short {T : TypeId} {w : World} {v : Value} {z : Option (Nat × Mat)} (h : ZoneV T w v z) : (cellsP z).length ≤ 81 :=
  cellsP_short _ fun k m e => by subst e; obtain ⟨_, _, hn, _⟩ := h; exact hn

end Go.Proofs.YtmelblnflalanaaGreat

/- The sum of two wide bounds, in the document's chapter of operations. -/
namespace Go.Proofs.YtmelblnflalanaaGreat
open Go Go.RowKit
set_option linter.unusedVariables false
set_option linter.unusedSimpArgs false

end Go.Proofs.YtmelblnflalanaaGreat

/- The document's cells under way: at, put, less. -/
namespace Go.Proofs.YtmelblnflalanaaGreat
open Go Go.RowKit
set_option linter.unusedVariables false
set_option linter.unusedSimpArgs false

/-- Cells under way: the number of clocks, and a row of wide bounds. -/
def CellsAt (w : World) (b g cap n : Nat) (m : Mat) : Prop :=
  w.cell? ⟨b, 0, none⟩ = some (.int .i64 n) ∧ w.cell? ⟨b, 1, none⟩ = some (.slice (some ⟨g, 0, none⟩) ((n + 1) * (n + 1)) cap) ∧ RowAt w g 2 .i64 (flat n m)

theorem CellsAt.only {w w' : World} {b g cap n : Nat} {m m' : Mat} (h : CellsAt w b g cap n m) (ho : Only g w w') (hbg : b ≠ g) (hr : RowAt w' g 2 .i64 (flat n m')) : CellsAt w' b g cap n m' := by
  obtain ⟨h0, h1, _⟩ := h
  have hlt := World.block_lt_of_cell? w _ h0
  have hb : w'.heap[b]? = w.heap[b]? := ho.block b hlt (by simpa using hbg)
  have hc : ∀ o, w'.cell? ⟨b, o, none⟩ = w.cell? ⟨b, o, none⟩ := fun o => by simp only [World.cell?, hb]
  exact ⟨(hc 0).trans h0, (hc 1).trans h1, hr⟩

theorem CellsAt.drewN {w : World} {b g cap n : Nat} {m : Mat} (h : CellsAt w b g cap n m) (k : Nat) : CellsAt (w.drewN k) b g cap n m := ⟨h.1, h.2.1, h.2.2.drewN k⟩
theorem upd_self (m : Mat) (i j : Nat) : upd m i j (m i j) = m := by
  funext a b
  unfold upd
  by_cases e : a = i ∧ b = j
  · rw [if_pos e, e.1, e.2]
  · rw [if_neg e]

end Go.Proofs.YtmelblnflalanaaGreat

/- The document's cells under way: opened. -/
namespace Go.Proofs.YtmelblnflalanaaGreat
open Go Go.RowKit
set_option linter.unusedVariables false
set_option linter.unusedSimpArgs false

theorem Only.grown {b : Nat} {w w1 w2 : World} {o : Option Nat} (h : Only b w w1) (k : w1.grownBy w2 o) (ho : ∀ c, o = some c → w.heap.size ≤ c) : Only b w w2 :=
  ⟨k.os.trans h.os, k.tape.trans h.tape, k.output.trans h.output, Nat.le_trans h.size k.size, fun i hi hne => (k.block i (Nat.lt_of_lt_of_le hi h.size) (fun e => by have := ho i e.symm; omega)).trans (h.block i hi hne)⟩

/-- A block of a number and of a row of the call's own, which grows from world w1 on. -/
structure GrowR (T e : TypeId) (k : IntKind) (w1 : World) (zb n : Nat) (xs : List Int) (sv : Value) (wr : World) : Prop where
  only : Only zb w1 wr
  lt : zb < w1.heap.size
  block : wr.heap[zb]? = some (.cells #[.int .i64 n, sv] T (0, 0))
  own : wr.ownsRow w1.heap.size e 1 sv xs.length (vals k xs)
/-- The same, behind an append, ahead of the store. -/
structure GrownR (T e : TypeId) (k : IntKind) (w1 : World) (zb n : Nat) (xs : List Int) (sv sv' : Value) (wr : World) : Prop where
  only : Only zb w1 wr
  lt : zb < w1.heap.size
  block : wr.heap[zb]? = some (.cells #[.int .i64 n, sv] T (0, 0))
  own : wr.ownsRow w1.heap.size e 1 sv' xs.length (vals k xs)
section
variable {T e : TypeId} {k : IntKind} {w1 wr w2 : World} {zb n : Nat} {xs : List Int} {sv sv' : Value}
theorem GrowR.cell0 (h : GrowR T e k w1 zb n xs sv wr) : wr.cell? ⟨zb, 0, none⟩ = some (.int .i64 n) := by simp [World.cell?, h.block]
theorem GrowR.cell1 (h : GrowR T e k w1 zb n xs sv wr) : wr.cell? ⟨zb, 1, none⟩ = some sv := by simp [World.cell?, h.block]
theorem GrowR.frozen (h : GrowR T e k w1 zb n xs sv wr) : wr.frozen? ⟨zb, 1, none⟩ = false := by simp [World.frozen?, h.block]
theorem GrownR.cell1 (h : GrownR T e k w1 zb n xs sv sv' wr) : wr.cell? ⟨zb, 1, none⟩ = some sv := by simp [World.cell?, h.block]
theorem GrownR.frozen (h : GrownR T e k w1 zb n xs sv sv' wr) : wr.frozen? ⟨zb, 1, none⟩ = false := by simp [World.frozen?, h.block]
theorem GrownR.ltb (h : GrownR T e k w1 zb n xs sv sv' wr) : zb < wr.heap.size := Nat.lt_of_lt_of_le h.lt h.only.size
theorem GrowR.append {o : Obj} (h : GrowR T e k w1 zb n xs sv wr) (x : Int) (q : Nat)
    (hown : w2.ownsRow w1.heap.size e 1 sv' (xs.length + 1) (vals k xs ++ [.int k x])) (hg : ((wr.alloc o).drewN q).grownBy w2 sv.ownBlock) : GrownR T e k w1 zb n (xs ++ [x]) sv sv' w2 := by
  have hne : ∀ k, sv.ownBlock = some k → w1.heap.size ≤ k := fun k hk => (h.own.lt k hk).1
  have hlt := h.lt
  have hsz := h.only.size
  refine ⟨((h.only.alloc o).drewN q).grown hg hne, hlt, ?_, ?_⟩
  · rw [hg.block zb (by simp; omega) (fun e => by have := hne zb e.symm; omega)]
    show (wr.alloc o).heap[zb]? = _
    exact (heap_alloc_old wr o (show zb < wr.heap.size by omega)).trans h.block
  · have e1 : vals k (xs ++ [x]) = vals k xs ++ [.int k x] := by simp [vals]
    rw [e1, List.length_append]; exact hown
theorem GrownR.store (h : GrownR T e k w1 zb n xs sv sv' wr) : GrowR T e k w1 zb n xs sv' (wr.setCell ⟨zb, 1, none⟩ sv') := by
  refine ⟨h.only.setCell _ _, h.lt, ?_, ownsRow_setCell_below h.own h.lt _⟩
  simp only [World.setCell, Array.getElem?_modify, if_true, h.block, Option.map_some]
  simp
end

/-- The wide cells of a zone of bounds. -/
theorem widUp_wide {n : Nat} {m : Mat} : widUp (flat n m) ((n + 1) * (n + 1)) = flat n (fun i j => wid (m i j)) := by
  apply list_ext0 (by rw [widUp_length, flat_length])
  intro p hp
  rw [widUp_length] at hp
  rw [widUp_getD _ _ _ hp, flat_getD _ _ _ hp, flat_getD _ _ _ hp]

end Go.Proofs.YtmelblnflalanaaGreat

/- The document's closed form of cells under way. -/
namespace Go.Proofs.YtmelblnflalanaaGreat
open Go Go.RowKit
set_option linter.unusedVariables false
set_option linter.unusedSimpArgs false

/-- The cells are cur; nothing else was touched. -/
def Q4 (w0 : World) (b g cap n : Nat) (cur : Mat) (wr : World) : Prop := Only g w0 wr ∧ CellsAt wr b g cap n cur
theorem Q4.drewN {w0 wr : World} {b g cap n : Nat} {cur : Mat} (h : Q4 w0 b g cap n cur wr) (q : Nat) : Q4 w0 b g cap n cur (wr.drewN q) := ⟨h.1.drewN q, h.2.drewN q⟩
def Q4Outer (w0 : World) (b g cap n : Nat) (m0 : Mat) (q k : Nat) (m : Mat) (wr : World) : Prop := Q4 w0 b g cap n m wr ∧ RoundOk n m0 k m ∧ q + k = n + 1
def Q4Mid (w0 : World) (b g cap n : Nat) (m : Mat) (k q i : Nat) (cur : Mat) (wr : World) : Prop :=
  Q4 w0 b g cap n cur wr ∧ RefOk n (1073741824 * 4 ^ k) m k i 0 cur ∧ i ≤ n + 1 ∧ q + i = n + 1
def Q4Inn (w0 : World) (b g cap n : Nat) (m : Mat) (k i q j : Nat) (cur : Mat) (wr : World) : Prop :=
  Q4 w0 b g cap n cur wr ∧ RefOk n (1073741824 * 4 ^ k) m k i j cur ∧ j ≤ n + 1 ∧ q + j = n + 1
def Q4Test (w0 : World) (b g cap n : Nat) (m : Mat) (k q i : Nat) (cur : Mat) (wr : World) : Prop :=
  Q4 w0 b g cap n cur wr ∧ RefOk n (1073741824 * 4 ^ k) m k (n + 1) 0 cur ∧ (∀ a, a < i → 1 ≤ cur a a) ∧ i ≤ n + 1 ∧ q + i = n + 1
theorem Q4Inn.bounds {w0 wr : World} {b g cap n : Nat} {m m0 cur : Mat} {k i q j : Nat} (h : Q4Inn w0 b g cap n m k i q j cur wr) (hr : RoundOk n m0 k m) (hn : n ≤ 8) (hk : k ≤ n) {a c : Nat} (ha : a ≤ n) (hc : c ≤ n) :
    Bd 1152921504606846976 (cur a c) := by
  have h4 := pow2_le (show k ≤ 9 by omega)
  have h1 := one_le_pow2 k
  exact (h.2.1.bounds hr.fit (by omega) hk ha hc).mono (by omega)
theorem Q4Inn.step {w0 wr w' : World} {b g cap n : Nat} {m m0 cur : Mat} {k i q j : Nat} (h : Q4Inn w0 b g cap n m k i q j cur wr) (hr : RoundOk n m0 k m) (hk : k ≤ n) (hi : i ≤ n) (hj : j ≤ n)
    (ho : Only g wr w') (hc : CellsAt w' b g cap n (lessM cur i j (wsum (cur i k) (cur k j)))) : Q4Inn w0 b g cap n m k i (q - 1) (j + 1) (lessM cur i j (wsum (cur i k) (cur k j))) w' := by
  have h1 := one_le_pow2 k
  have hs := h.2.1.step hr.fit (by omega) hk hi hj
  have := h.2.2.2
  exact ⟨⟨h.1.1.trans ho, hc⟩, hs, by omega, by omega⟩

/-- How it ends. -/
def Closes4 (w0 : World) (b g cap n : Nat) (m0 : Mat) (e : Ending) (w' : World) : Prop :=
  Only g w0 w' ∧ ((closed n m0 = none ∧ e = .returned (.bool false) ∧ w'.cell? ⟨b, 0, none⟩ = some (.int .i64 n)) ∨ ∃ m', closed n m0 = some m' ∧ e = .returned (.bool true) ∧ CellsAt w' b g cap n m')

end Go.Proofs.YtmelblnflalanaaGreat

/- The document's zone of cells under way. -/
namespace Go.Proofs.YtmelblnflalanaaGreat
open Go Go.RowKit
set_option linter.unusedVariables false
set_option linter.unusedSimpArgs false

theorem limP_nothing (n : Nat) (hn : n ≤ 8) : limP n [(0, 0, 0)] = (some (fun _ _ => 0), 0) := by
  have h1 : [((0 : Int), (0 : Int), (0 : Int))].all (limOk n) = true := by simp [limOk, rightB]
  have h : closed n (limUp n [(0, 0, 0)] 1) = none := by
    unfold closed closeP
    rw [if_neg]
    intro h
    have h1 := h 0 (by omega)
    have h2 := fw_le 0 n (limUp n [(0, 0, 0)] 1) 0 0
    have h3 : limUp n [(0, 0, 0)] 1 0 0 = 0 := by simp [limUp, keepM, upd, openM]; decide
    omega
  unfold limP
  rw [if_pos (by omega), Int.toNat_natCast, if_pos h1]
  unfold zoneP
  rw [show [((0 : Int), (0 : Int), (0 : Int))].length = 1 from rfl, h]
theorem lims_one (w : World) (e : TypeId) (a b c : Int) : Lims (w.alloc (.cells #[.int .i64 a, .int .i64 b, .int .i32 c] e (0, 0))) (some ⟨w.heap.size, 0, none⟩) [(a, b, c)] := by
  have h1 := heap_alloc_new w (.cells #[.int .i64 a, .int .i64 b, .int .i32 c] e (0, 0))
  intro j hj
  have e0 : j = 0 := by simp at hj; omega
  subst e0
  refine ⟨w.heap.size, 0, rfl, ?_, ?_, ?_⟩ <;> (unfold World.cell?; rw [h1]; rfl)

/-- The narrow row, so far. -/
def NarR (w1 : World) (l : List Int) (p : Nat) (v : Value) (wr : World) : Prop :=
  Below w1.heap.size w1 wr ∧ wr.ownsRow w1.heap.size 70 1 v p (vals .i32 (narUp l p)) ∧ (∀ q, q < p → inR (l.getD q 0)) ∧ p ≤ l.length
theorem NarR.next {w1 wr w2 : World} {l : List Int} {p : Nat} {v v' : Value} {o : Obj} (h : NarR w1 l p v wr) (hp : p < l.length) (x : Int) (hx : x = nar (l.getD p 0)) (hin : inR (l.getD p 0))
    (hown : w2.ownsRow w1.heap.size 70 1 v' (p + 1) (vals .i32 (narUp l p) ++ [.int .i32 x])) (hg : (wr.alloc o).grownBy w2 v.ownBlock) : NarR w1 l (p + 1) v' w2 := by
  refine ⟨(h.1.alloc h.1.size o).grown hg (by have := h.1.size; simp; omega) (fun k hk => (h.2.1.lt k hk).1), ?_, fun q hq => ?_, by omega⟩
  · have e : vals .i32 (narUp l (p + 1)) = vals .i32 (narUp l p) ++ [.int .i32 x] := by rw [hx]; simp [vals, narUp]
    rw [e]; exact hown
  · by_cases e : q = p
    · subst e; exact hin
    · exact h.2.2.1 q (by omega)
theorem NarR.own {w1 wr : World} {l : List Int} {p : Nat} {v : Value} (h : NarR w1 l p v wr) : OwnI wr w1.heap.size 70 .i32 v (narUp l p) := by
  unfold OwnI; rw [narUp_length]; exact h.2.1
theorem CellsAt.below {w w' : World} {b g cap n : Nat} {m : Mat} (h : CellsAt w b g cap n m) (hb : Below w.heap.size w w') : CellsAt w' b g cap n m := by
  obtain ⟨h0, h1, h2⟩ := h
  exact ⟨(hb.cell (p := ⟨b, 0, none⟩) (World.block_lt_of_cell? w _ h0)).trans h0, (hb.cell (p := ⟨b, 1, none⟩) (World.block_lt_of_cell? w _ h1)).trans h1, h2.later hb⟩

end Go.Proofs.YtmelblnflalanaaGreat

/- The document's Up and Down. -/
namespace Go.Proofs.YtmelblnflalanaaGreat
open Go Go.RowKit
set_option linter.unusedVariables false
set_option linter.unusedSimpArgs false

/-- The cells under way lie in the first new block. -/
def D4 (w0 : World) (g cap n : Nat) (cur : Mat) (wr : World) : Prop := Below w0.heap.size w0 wr ∧ w0.heap.size < g ∧ CellsAt wr w0.heap.size g cap n cur
theorem D4.only {w0 wr w' : World} {g cap n : Nat} {cur cur' : Mat} (h : D4 w0 g cap n cur wr) (ho : Only g wr w') (hc : CellsAt w' w0.heap.size g cap n cur') : D4 w0 g cap n cur' w' :=
  ⟨h.1.trans (ho.below (by have := h.2.1; omega) h.1.size), h.2.1, hc⟩
theorem D4.ne {w0 wr : World} {g cap n : Nat} {cur : Mat} (h : D4 w0 g cap n cur wr) : w0.heap.size ≠ g := by have := h.2.1; omega
theorem D4.drewN {w0 wr : World} {g cap n : Nat} {cur : Mat} (h : D4 w0 g cap n cur wr) (q : Nat) : D4 w0 g cap n cur (wr.drewN q) := ⟨belowN h.1 q, h.2.1, h.2.2.drewN q⟩
theorem full_notR {n : Nat} {m : Mat} (h : FullZ n m) : emptyR (some (n, m)) = false := decide_eq_false fun e => e (h.one 0 (by omega))

end Go.Proofs.YtmelblnflalanaaGreat

/- Bounds as texts: plain. -/
namespace Go.Proofs.YtmelblnflalanaaGreat
open Go Go.RowKit
set_option linter.unusedVariables false
set_option linter.unusedSimpArgs false

theorem decFrom_app (l m : List UInt8) : ∀ acc, Lib.decFrom acc (l ++ m) = (Lib.decFrom acc l).bind fun n => Lib.decFrom n m := by
  induction l with
  | nil => intro acc; rfl
  | cons a t ih =>
    intro acc
    simp only [List.cons_append, Lib.decFrom]
    cases Lib.digitVal a with
    | none => rfl
    | some d => exact ih _
theorem digit_of (k : Nat) (h : k < 10) : Lib.digitVal (UInt8.ofNat (48 + k)) = some k := by
  have e : (UInt8.ofNat (48 + k)).toNat = 48 + k := by simp; omega
  unfold Lib.digitVal
  rw [if_pos (by omega), e]
  congr 1
  omega
/-- The digits of a number spell it. -/
theorem decFrom_digits (u : Nat) : Lib.decFrom 0 (Lib.decDigits u) = some u := by
  induction u using Nat.strongRecOn with
  | _ u ih =>
    by_cases h : u < 10
    · rw [Lib.decDigits, dif_pos h, Lib.decFrom, digit_of u h]
      show Lib.decFrom (0 * 10 + u) [] = _
      simp [Lib.decFrom]
    · rw [Lib.decDigits, dif_neg h, decFrom_app, ih (u / 10) (by omega)]
      show Lib.decFrom (u / 10) [UInt8.ofNat (48 + u % 10)] = _
      rw [Lib.decFrom, digit_of (u % 10) (by omega)]
      show Lib.decFrom (u / 10 * 10 + u % 10) [] = _
      simp only [Lib.decFrom]
      congr 1
      omega
theorem digits_some (u : Nat) : Lib.decDigits u ≠ [] := by
  intro e
  have := Lib.decDigits_length u
  rw [e] at this
  have := Lib.nDigits_pos u
  simp at *
  omega
/-- A digit stands first. -/
theorem digits_head (u : Nat) : ∃ d r, d < 10 ∧ Lib.decDigits u = UInt8.ofNat (48 + d) :: r := by
  induction u using Nat.strongRecOn with
  | _ u ih =>
    by_cases h : u < 10
    · exact ⟨u, [], h, by rw [Lib.decDigits, dif_pos h]⟩
    · obtain ⟨d, r, hd, e⟩ := ih (u / 10) (by omega)
      exact ⟨d, r ++ [UInt8.ofNat (48 + u % 10)], hd, by rw [Lib.decDigits, dif_neg h, e]; rfl⟩
theorem head_ne (d k : Nat) (h : d < 10) (hk : k < 48) : UInt8.ofNat (48 + d) ≠ UInt8.ofNat k := by
  intro e
  have := congrArg UInt8.toNat e
  simp at this
  omega
theorem atoi_itoa (n : Int) : Lib.atoi (Lib.itoa n) = some n := by
  unfold Lib.itoa
  by_cases h : n < 0
  · rw [if_pos h]
    have hn : Lib.decNat (Lib.decDigits n.natAbs) = some n.natAbs := by
      unfold Lib.decNat
      rw [if_neg (by simpa using digits_some n.natAbs), decFrom_digits]
    have h1 : ((45 : UInt8) == 45) = true := rfl
    simp only [Lib.atoi, h1, hn]
    simp
    omega
  · rw [if_neg h]
    obtain ⟨d, r, hd, e⟩ := digits_head n.toNat
    have hn : Lib.decNat (Lib.decDigits n.toNat) = some n.toNat := by
      unfold Lib.decNat
      rw [if_neg (by simpa using digits_some n.toNat), decFrom_digits]
    rw [e] at hn ⊢
    have h1 : (UInt8.ofNat (48 + d) == 45) = false := beq_eq_false_iff_ne.2 (head_ne d 45 hd (by omega))
    have h2 : (UInt8.ofNat (48 + d) == 43) = false := beq_eq_false_iff_ne.2 (head_ne d 43 hd (by omega))
    simp only [Lib.atoi, h1, h2, hn]
    simp
    omega
theorem itoa_short (n : Int) (h0 : -268435456 ≤ n) (h1 : n ≤ 268435456) : (Lib.itoa n).length ≤ 18 := by
  have hd : ∀ u : Nat, u ≤ 268435456 → (Lib.decDigits u).length ≤ 9 := fun u hu => by
    rw [Lib.decDigits_length]
    by_cases c : Lib.nDigits u ≤ 9
    · exact c
    · exfalso
      have := Lib.nDigits_pos u
      have hp : ∀ k u, k + 1 ≤ Lib.nDigits u → 0 < k → 10 ^ k ≤ u := fun k => by
        induction k with
        | zero => intro u _ h; omega
        | succ k ih =>
          intro u h _
          by_cases c : u < 10
          · rw [Lib.nDigits_small c] at h; omega
          · rw [Lib.nDigits_big c] at h
            by_cases hk : 0 < k
            · have := ih (u / 10) (by omega) hk
              rw [Nat.pow_succ]; omega
            · have : k = 0 := by omega
              subst this
              simpa using (show 10 ≤ u by omega)
      have := hp 9 u (by omega) (by omega)
      omega
  unfold Lib.itoa
  split
  · rw [List.length_cons]; have := hd n.natAbs (by omega); omega
  · have := hd n.toNat (by omega); omega
theorem atoiAll_itoa (n : Int) (h0 : -268435456 ≤ n) (h1 : n ≤ 268435456) : Lib.atoiAll (Lib.itoa n) = .ok n := by
  rw [Lib.atoiAll_short _ (itoa_short n h0 h1), atoi_itoa]
  rfl
/-- What stands first in a numeral: a digit, or '-'. -/
theorem itoa_head (n : Int) : ∃ c r, Lib.itoa n = c :: r ∧ c ≠ 61 ∧ c ≠ 60 := by
  unfold Lib.itoa
  split
  · exact ⟨45, _, rfl, by decide, by decide⟩
  · obtain ⟨d, r, hd, e⟩ := digits_head n.toNat
    refine ⟨_, r, e, ?_, ?_⟩
    · intro e
      have := congrArg UInt8.toNat e
      simp at this
      omega
    · intro e
      have := congrArg UInt8.toNat e
      simp at this
      omega

/-- A bound as a row of bytes. -/
def printL (b : Int) : List UInt8 := if b = 2147483647 then [105, 110, 102] else if someB b then (if b % 2 = 1 then [60, 61] else [60]) ++ Lib.itoa (b / 2) else []
theorem printL_some {b : Int} (h : someB b = true) : printL b = (if b % 2 = 1 then [60, 61] else [60]) ++ Lib.itoa (b / 2) := by
  have hn : b ≠ 2147483647 := by rintro rfl; exact absurd h (by decide +kernel)
  unfold printL
  rw [if_neg hn, if_pos h]
theorem printL_not_inf {b : Int} (h : someB b = true) : printL b ≠ [105, 110, 102] := by
  rw [printL_some h]
  split <;> intro e <;> cases e
/-- Texts of two bounds are two. -/
theorem printL_inj {a b : Int} (ha : someB a = true) (hb : someB b = true) (h : printL a = printL b) : a = b := by
  rw [printL_some ha, printL_some hb] at h
  have key : ∀ x y : Int, Lib.itoa x = Lib.itoa y → x = y := fun x y e => by
    have := atoi_itoa x
    rw [e, atoi_itoa] at this
    exact (Option.some.inj this).symm
  obtain ⟨c1, r1, e1, n1, _⟩ := itoa_head (a / 2)
  obtain ⟨c2, r2, e2, n2, _⟩ := itoa_head (b / 2)
  by_cases x : a % 2 = 1
  · by_cases y : b % 2 = 1
    · rw [if_pos x, if_pos y] at h
      have := key _ _ (by simpa using h)
      omega
    · rw [if_pos x, if_neg y, e2] at h
      simp at h
      exact absurd h.1.symm n2
  · by_cases y : b % 2 = 1
    · rw [if_neg x, if_pos y, e1] at h
      simp at h
      exact absurd h.1 n1
    · rw [if_neg x, if_neg y] at h
      have := key _ _ (by simpa using h)
      omega

/-- What a text tells of: no bound, a bound, or an error. -/
def ParsesTo (s : List UInt8) (r : Int × Int) : Prop :=
  (s = [105, 110, 102] ∧ r = (2147483647, 0)) ∨ (∃ b, someB b = true ∧ printL b = s ∧ r = (b, 0)) ∨ (s ≠ [105, 110, 102] ∧ (∀ b, someB b = true → printL b ≠ s) ∧ r = (0, 7))
theorem parses_one {s : List UInt8} {r r' : Int × Int} (h : ParsesTo s r) (h' : ParsesTo s r') : r = r' := by
  rcases h with ⟨h1, h2⟩ | ⟨b, h1, h2, h3⟩ | ⟨h1, h2, h3⟩ <;> rcases h' with ⟨k1, k2⟩ | ⟨c, k1, k2, k3⟩ | ⟨k1, k2, k3⟩
  · rw [h2, k2]
  · exact absurd (k2.trans h1) (printL_not_inf k1)
  · exact absurd h1 k1
  · exact absurd (h2.trans k1) (printL_not_inf h1)
  · rw [h3, k3, printL_inj h1 k1 (h2.trans k2.symm)]
  · exact absurd h2 (k2 b h1)
  · exact absurd k1 h1
  · exact absurd k2 (h2 c k1)
  · rw [h3, k3]

/-- A bound that was made is the one that is printed so. -/
theorem made_some {v : Int} {r : Bool} (h : (ofB v r).2 = 0) : someB (ofB v r).1 = true := by
  obtain ⟨_, _, _, _, h3, h4⟩ := ofB_ok h
  exact fin_some h3 h4
theorem made_back {b : Int} (h : someB b = true) : ofB (b / 2) (decide (b % 2 = 1)) = (b, 0) := by
  obtain ⟨hr, hn⟩ : rightB b = true ∧ b ≠ 2147483647 := by simpa [someB] using h
  have := rightB_bd hr hn
  unfold ofB
  rw [if_neg (by omega)]
  by_cases e : b % 2 = 1
  · simp [e]; omega
  · simp [e]; omega

end Go.Proofs.YtmelblnflalanaaGreat

/- Zones as texts: plain. -/
namespace Go.Proofs.YtmelblnflalanaaGreat
open Go Go.RowKit
set_option linter.unusedVariables false
set_option linter.unusedSimpArgs false

/-- What Print says of one difference. -/
def cellL (m : Mat) (i j : Nat) : List UInt8 :=
  if i ≠ j ∧ m i j ≠ 2147483647 ∧ (i ≠ 0 ∨ m i j < 1) then [32, 120] ++ Lib.itoa i ++ [45, 120] ++ Lib.itoa j ++ printL (m i j) else []
def rowT (m : Mat) (i : Nat) : Nat → List UInt8
  | 0 => []
  | j + 1 => rowT m i j ++ cellL m i j
def zoneT (n : Nat) (m : Mat) : Nat → List UInt8
  | 0 => Lib.itoa n ++ [58]
  | i + 1 => zoneT n m i ++ rowT m i (n + 1)
/-- A zone, or nil, as a text. -/
def printZ : Option (Nat × Mat) → List UInt8
  | none => []
  | some (n, m) => if m 0 0 < 1 then Lib.itoa n ++ [58] ++ [32, 101, 109, 112, 116, 121] else zoneT n m (n + 1)

theorem itoa_len (n : Nat) (h : n ≤ 8) : (Lib.itoa n).length ≤ 21 := Lib.itoa_length_le n (by omega) (by omega)
theorem printL_short (b : Int) (h0 : -2147483648 ≤ b) (h1 : b ≤ 2147483647) : (printL b).length ≤ 30 := by
  have hl := Lib.itoa_length_le (b / 2) (by omega) (by omega)
  unfold printL
  split
  · simp
  · split
    · rw [List.length_append]
      split <;> simp <;> omega
    · simp
theorem cellL_len (m : Mat) (i j : Nat) (hi : i ≤ 8) (hj : j ≤ 8) (h0 : -2147483648 ≤ m i j) (h1 : m i j ≤ 2147483647) : (cellL m i j).length ≤ 76 := by
  have a := itoa_len i hi
  have b := itoa_len j hj
  have c := printL_short (m i j) h0 h1
  unfold cellL
  split
  · simp only [List.length_append, List.length_cons, List.length_nil]; omega
  · simp

end Go.Proofs.YtmelblnflalanaaGreat

/- What Print tells of a bound; live. -/
namespace Go.Proofs.YtmelblnflalanaaGreat
open Go Go.RowKit
set_option linter.unusedVariables false
set_option linter.unusedSimpArgs false

/-- The library's table of powers of ten lies as its package laid it. -/
def Tab (w : World) : Prop := Lib.TabIs Tryz.prog w "internal/strconv.uint64pow10" .u64 Lib.pow10Tab
theorem Tab.below {w w' : World} (h : Tab w) (hb : Below w.heap.size w w') : Tab w' := Lib.tabBelow_of_tabIs h w' hb

/-- A bound as a text. -/
def printB (b : Int) : ByteArray :=
  if b = 2147483647 then ⟨#[105, 110, 102]⟩ else if someB b then (if b % 2 = 1 then ⟨#[60, 61]⟩ else ⟨#[60]⟩) ++ ⟨(Lib.itoa (b / 2)).toArray⟩ else ⟨#[]⟩
/-- A text, in a world with new blocks. -/
def Says (w : World) (s : ByteArray) (e : Ending) (w' : World) : Prop := e = .returned (.string s) ∧ Below w.heap.size w w'

/-- What live tells, whatever is asked. -/
theorem printB_five : printB (-5) = ⟨#[60, 61, 45, 51]⟩ := by decide +kernel
end Go.Proofs.YtmelblnflalanaaGreat

/- What keeps bounds, and sums and opposites: plain. -/
namespace Go.Proofs.YtmelblnflalanaaGreat
open Go Go.RowKit
set_option linter.unusedVariables false
set_option linter.unusedSimpArgs false

theorem keeps_inf {x d : Int} (hd : 1 ≤ d) : keepsB 2147483647 x d = true := decide_eq_true ⟨hd, .inl rfl⟩
theorem keeps_fin {b x d : Int} (h : someB b = true) (hd : 1 ≤ d) : keepsB b x d = decide (x < b / 2 * d + b % 2) := by
  have hn : b ≠ 2147483647 := by rintro rfl; exact absurd h (by decide +kernel)
  unfold keepsB
  congr 1
  simp [h, hn, hd]
theorem some_parts {b : Int} (h : someB b = true) : rightB b = true ∧ b ≠ 2147483647 := by simpa [someB] using h

/-- Two differences that keep both have a sum that keeps the sum's bound. -/
theorem plus_keeps {a b x y d : Int} (hd : 1 ≤ d) (h : (sumP [a, b]).2 = 0) (h1 : keepsB a x d = true) (h2 : keepsB b y d = true) : keepsB (sumP [a, b]).1 (x + y) d = true := by
  obtain ⟨ha, hb⟩ := sum_ok h
  by_cases i : a = 2147483647 ∨ b = 2147483647
  · rw [sum_two_inf ha hb i]; exact keeps_inf hd
  · have ia : a ≠ 2147483647 := fun e => i (.inl e)
    have ib : b ≠ 2147483647 := fun e => i (.inr e)
    rw [sum_two ha hb ia ib] at h ⊢
    obtain ⟨_, _, e1, e2, e3, e4⟩ := ofB_ok h
    rw [keeps_fin (fin_some ha ia) hd] at h1
    rw [keeps_fin (fin_some hb ib) hd] at h2
    rw [keeps_fin (fin_some e3 e4) hd, e1]
    have h1 := of_decide_eq_true h1
    have h2 := of_decide_eq_true h2
    rw [Int.add_mul]
    generalize a / 2 * d = P at *
    generalize b / 2 * d = Q at *
    generalize (ofB (a / 2 + b / 2) (decide (a % 2 = 1) && decide (b % 2 = 1))).1 = c at *
    apply decide_eq_true
    by_cases ra : a % 2 = 1
    · by_cases rb : b % 2 = 1
      · have : c % 2 = 1 := of_decide_eq_true (by rw [e2]; simp [ra, rb])
        omega
      · omega
    · omega

/-- The smaller bound is the stricter one. -/
theorem stricter_keeps {a b x d : Int} (ha : rightB a = true) (hb : rightB b = true) (hd : 1 ≤ d) (hab : a ≤ b) (h : keepsB a x d = true) : keepsB b x d = true := by
  by_cases ib : b = 2147483647
  · rw [ib]; exact keeps_inf hd
  · have h2 := rightB_bd hb ib
    have ia : a ≠ 2147483647 := by omega
    rw [keeps_fin (fin_some ha ia) hd] at h
    rw [keeps_fin (fin_some hb ib) hd]
    have h := of_decide_eq_true h
    apply decide_eq_true
    by_cases e : a / 2 = b / 2
    · rw [e] at h; omega
    · have hm := Int.mul_le_mul_of_nonneg_right (show a / 2 + 1 ≤ b / 2 by omega) (show (0 : Int) ≤ d by omega)
      rw [Int.add_mul, Int.one_mul] at hm
      generalize a / 2 * d = P at *
      generalize b / 2 * d = Q at *
      omega

theorem not_fin {a : Int} (h : someB a = true) : notP a = (1 - a, 0) := by
  obtain ⟨hr, hn⟩ := some_parts h
  have hb := rightB_bd hr hn
  unfold notP
  rw [if_pos h]
  unfold ofB
  rw [if_neg (by omega)]
  by_cases e : a % 2 = 1
  · simp [e]; omega
  · simp [e]; omega
theorem not_keeps {a x d : Int} (h : someB a = true) (hd : 1 ≤ d) : keepsB (1 - a) (-x) d = !keepsB a x d := by
  obtain ⟨hr, hn⟩ := some_parts h
  have hb := rightB_bd hr hn
  have hs : someB (1 - a) = true := fin_some (decide_eq_true (.inr (by omega))) (by omega)
  rw [keeps_fin h hd, keeps_fin hs hd]
  have e : (1 - a) / 2 = -(a / 2) := by omega
  rw [e, Int.neg_mul]
  generalize a / 2 * d = P
  by_cases c : x < P + a % 2
  · rw [decide_eq_true c, decide_eq_false (by omega)]; rfl
  · rw [decide_eq_false c, decide_eq_true (by omega)]; rfl

end Go.Proofs.YtmelblnflalanaaGreat

/- Parse of the program: what a text tells of. -/
namespace Go.Proofs.YtmelblnflalanaaGreat
open Go Go.RowKit
set_option linter.unusedVariables false
set_option linter.unusedSimpArgs false

theorem bytes_app (a b : List UInt8) : (⟨a.toArray⟩ : ByteArray) ++ ⟨b.toArray⟩ = ⟨(a ++ b).toArray⟩ := by
  have h : ((⟨a.toArray⟩ : ByteArray) ++ ⟨b.toArray⟩).data = (a ++ b).toArray := by simp
  cases hx : (⟨a.toArray⟩ : ByteArray) ++ ⟨b.toArray⟩ with
  | mk d => rw [hx] at h; exact congrArg ByteArray.mk h
theorem printB_L (b : Int) : printB b = ⟨(printL b).toArray⟩ := by
  unfold printB printL
  by_cases hn : b = 2147483647
  · rw [if_pos hn, if_pos hn]
  · rw [if_neg hn, if_neg hn]
    by_cases h : someB b = true
    · rw [if_pos h, if_pos h]
      by_cases e : b % 2 = 1
      · rw [if_pos e, if_pos e]; exact bytes_app [60, 61] _
      · rw [if_neg e, if_neg e]; exact bytes_app [60] _
    · rw [if_neg h, if_neg h]

/-- A package's variable holds an interface's value. -/
def Sent (name : String) (w : World) : Prop := ∃ tp p, w.var? Tryz.prog name = some #[.iface tp p]
theorem Sent.below {name : String} {w w' : World} (h : Sent name w) (hb : Below w.heap.size w w') : Sent name w' := by
  obtain ⟨tp, p, h⟩ := h
  refine ⟨tp, p, ?_⟩
  unfold World.var? at *
  cases hg : Tryz.prog.globalNamed name with
  | none => simp [hg] at h
  | some g =>
    simp only [hg, Option.bind_some] at h ⊢
    have hlt : g < w.heap.size := by
      rcases Nat.lt_or_ge g w.heap.size with h' | h'
      · exact h'
      · rw [Array.getElem?_eq_none h'] at h; simp at h
    rw [hb.block g hlt]
    exact h

/-- How Atoi ends. -/
def AtoiEnds (w : World) (l : List UInt8) (e : Ending) (w' : World) : Prop :=
  Below w.heap.size w w' ∧ ((∃ v, e = .returned (.tuple #[.int .i64 v, .nilIface]) ∧ Lib.atoiAll l = .ok v) ∨ (∃ v T N, e = .returned (.tuple #[.int .i64 v, .iface T (.pointer (some ⟨N, 0, none⟩))]) ∧ ∀ v', Lib.atoiAll l ≠ .ok v'))

/-- The steps of Parse at the text of a bound. -/
theorem steps_of {b : Int} (h : someB b = true) : Lib.hasPrefix (printL b) [60] = true ∧ Lib.hasPrefix (Lib.trimPrefix (printL b) [60]) [61] = decide (b % 2 = 1) ∧ Lib.trimPrefix (Lib.trimPrefix (printL b) [60]) [61] = Lib.itoa (b / 2) := by
  obtain ⟨c, r, e, n1, n2⟩ := itoa_head (b / 2)
  have hc : ((61 : UInt8) == c) = false := beq_eq_false_iff_ne.2 (Ne.symm n1)
  rw [printL_some h, e]
  by_cases x : b % 2 = 1
  · rw [if_pos x, decide_eq_true x]
    refine ⟨rfl, rfl, rfl⟩
  · rw [if_neg x, decide_eq_false x]
    have e1 : Lib.trimPrefix ([60] ++ c :: r) [60] = c :: r := rfl
    have e2 : Lib.hasPrefix (c :: r) [61] = false := by simp [Lib.hasPrefix, List.isPrefixOf, hc]
    exact ⟨rfl, by rw [e1, e2], by rw [e1, Lib.trimPrefix, e2]; rfl⟩

/-- What Parse answers, in a world with new blocks. -/
def Parses (w : World) (s : List UInt8) (e : Ending) (w' : World) : Prop := Below w.heap.size w w' ∧ ∃ r, ParsesTo s r ∧ e = .returned (.tuple #[.int .i32 r.1, .int .i64 r.2])

theorem trim_le (s p : List UInt8) : (Lib.trimPrefix s p).length ≤ s.length := by
  unfold Lib.trimPrefix
  split
  · rw [List.length_drop]; omega
  · omega
theorem wrong_no {s : List UInt8} (h0 : s ≠ [105, 110, 102]) (h : ∀ b, someB b = true → printL b ≠ s) : ParsesTo s (0, 7) := .inr (.inr ⟨h0, h, rfl⟩)

end Go.Proofs.YtmelblnflalanaaGreat

/- Print of a zone. -/
namespace Go.Proofs.YtmelblnflalanaaGreat
open Go Go.RowKit
set_option linter.unusedVariables false
set_option linter.unusedSimpArgs false

end Go.Proofs.YtmelblnflalanaaGreat

/- Print of a zone that is not empty. -/
namespace Go.Proofs.YtmelblnflalanaaGreat
open Go Go.RowKit
set_option linter.unusedVariables false
set_option linter.unusedSimpArgs false

theorem right_bits {x : Int} (h : rightB x = true) : -2147483648 ≤ x ∧ x ≤ 2147483647 := by
  unfold rightB at h
  have := of_decide_eq_true h
  omega
theorem rowT_len {n i : Nat} {m : Mat} (hn : n ≤ 8) (hi : i ≤ n) (hr : RightM n m) : ∀ j, j ≤ n + 1 → (rowT m i j).length ≤ j * 76
  | 0, _ => by simp [rowT]
  | j + 1, hj => by
    have h1 := rowT_len hn hi hr j (by omega)
    have hb := right_bits (hr i j hi (by omega))
    have h2 := cellL_len m i j (by omega) (by omega) hb.1 hb.2
    show (rowT m i j ++ cellL m i j).length ≤ _
    rw [List.length_append]
    omega
theorem zoneT_len {n : Nat} {m : Mat} (hn : n ≤ 8) (hr : RightM n m) : ∀ i, i ≤ n + 1 → (zoneT n m i).length ≤ 22 + i * 684
  | 0, _ => by
    have := itoa_len n hn
    show (Lib.itoa n ++ [58]).length ≤ _
    rw [List.length_append]
    simp
    omega
  | i + 1, hi => by
    have h1 := zoneT_len hn hr i (by omega)
    have h2 := rowT_len hn (show i ≤ n by omega) hr (n + 1) (Nat.le_refl _)
    have h3 : (n + 1) * 76 ≤ 684 := by omega
    show (zoneT n m i ++ rowT m i (n + 1)).length ≤ _
    rw [List.length_append]
    omega
theorem cellL_yes {m : Mat} {i j : Nat} (h : i ≠ j ∧ m i j ≠ 2147483647 ∧ (i ≠ 0 ∨ m i j < 1)) : cellL m i j = [32, 120] ++ Lib.itoa i ++ [45, 120] ++ Lib.itoa j ++ printL (m i j) := by unfold cellL; rw [if_pos h]
theorem cellL_no {m : Mat} {i j : Nat} (h : ¬ (i ≠ j ∧ m i j ≠ 2147483647 ∧ (i ≠ 0 ∨ m i j < 1))) : cellL m i j = [] := by unfold cellL; rw [if_neg h]
theorem rowT_no {m : Mat} {i j : Nat} {T S : List UInt8} (hs : S = T ++ rowT m i j) (h : ¬ (i ≠ j ∧ m i j ≠ 2147483647 ∧ (i ≠ 0 ∨ m i j < 1))) : S = T ++ rowT m i (j + 1) := by
  rw [hs, rowT, cellL_no h, List.append_nil]
theorem rowT_yes {m : Mat} {i j : Nat} {T S : List UInt8} (hs : S = T ++ rowT m i j) (h : i ≠ j ∧ m i j ≠ 2147483647 ∧ (i ≠ 0 ∨ m i j < 1)) :
    S ++ ([32, 120] ++ Lib.itoa i ++ [45, 120] ++ Lib.itoa j ++ printL (m i j)) = T ++ rowT m i (j + 1) := by
  rw [hs, rowT, cellL_yes h, List.append_assoc]

end Go.Proofs.YtmelblnflalanaaGreat

/- What live tells of the operations, whatever is asked. -/
namespace Go.Proofs.YtmelblnflalanaaGreat
open Go Go.RowKit
set_option linter.unusedVariables false
set_option linter.unusedSimpArgs false

theorem some_of {r : Option Mat × Int} (h1 : r.1.isSome = true) (h2 : r.2 = 0) : r = (some (r.1.getD fun _ _ => 0), 0) := by
  obtain ⟨a, b⟩ := r
  cases a
  · cases h1
  · simp only at h2; subst h2; rfl

/-- The zones that live makes: of zeroes, later, less than 3, set to 0. -/
def lz0 : Mat := (zerP 2).1.getD fun _ _ => 0
theorem lz0_is : zerP 2 = (some lz0, 0) := some_of (by decide +kernel) (by decide +kernel)
theorem lz0_flat : flat 2 lz0 = [1, 1, 1, 1, 1, 1, 1, 1, 1] := by decide +kernel
theorem lu1_flat : flat 2 (upW (some (2, lz0))) = [1, 1, 1, 2147483647, 1, 1, 2147483647, 1, 1] := by
  have e : emptyP (some (2, lz0)) = false := by decide +kernel
  have e2 : openW (some (2, lz0)) = fillUp 2 [1, 1, 1, 1, 1, 1, 1, 1, 1] 9 := by
    show fillUp 2 (flat 2 lz0) (flat 2 lz0).length = _
    rw [lz0_flat]; rfl
  unfold upW
  rw [e, if_neg (by simp), e2]
  decide +kernel
def lz1 : Mat := (ofP 2 [1, 1, 1, 2147483647, 1, 1, 2147483647, 1, 1]).1.getD fun _ _ => 0
theorem lz1_is : ofP ((2 : Nat) : Int) (flat 2 (upW (some (2, lz0)))) = (some lz1, 0) := by
  rw [lu1_flat]; exact some_of (by decide +kernel) (by decide +kernel)
theorem lz1_flat : flat 2 lz1 = [1, 1, 1, 2147483647, 1, 1, 2147483647, 1, 1] := by decide +kernel
def lz2 : Mat := (ofP 2 [1, 1, 1, 6, 1, 1, 2147483647, 1, 1]).1.getD fun _ _ => 0
theorem lz2_is : conP 2 (openW (some (2, lz1))) [(1, 0, 6)] = (some lz2, 0) := by
  have e2 : openW (some (2, lz1)) = fillUp 2 [1, 1, 1, 2147483647, 1, 1, 2147483647, 1, 1] 9 := by
    show fillUp 2 (flat 2 lz1) (flat 2 lz1).length = _
    rw [lz1_flat]; rfl
  unfold conP
  rw [if_pos (by decide +kernel), e2, show flat 2 (conUp (fillUp 2 [1, 1, 1, 2147483647, 1, 1, 2147483647, 1, 1] 9) [(1, 0, 6)] [((1 : Int), (0 : Int), (6 : Int))].length) = [1, 1, 1, 6, 1, 1, 2147483647, 1, 1] by decide +kernel]
  exact some_of (by decide +kernel) (by decide +kernel)
theorem lz2_flat : flat 2 lz2 = [1, 1, 1, 6, 1, 1, 6, 1, 1] := by decide +kernel
theorem lz2_text : printZ (some (2, lz2)) = [50, 58, 32, 120, 49, 45, 120, 48, 60, 51, 32, 120, 49, 45, 120, 50, 60, 61, 48, 32, 120, 50, 45, 120, 48, 60, 51, 32, 120, 50, 45, 120, 49, 60, 61, 48] := by decide +kernel
def lz3 : Mat := (ofP 2 [1, 1, 1, 1, 1, 2147483647, 6, 6, 1]).1.getD fun _ _ => 0
theorem lz3_is : ofP ((2 : Nat) : Int) (flat 2 (resetW (some (2, lz2)) 1 0)) = (some lz3, 0) := by
  have e : emptyP (some (2, lz2)) = false := by decide +kernel
  have e2 : openW (some (2, lz2)) = fillUp 2 [1, 1, 1, 6, 1, 1, 6, 1, 1] 9 := by
    show fillUp 2 (flat 2 lz2) (flat 2 lz2).length = _
    rw [lz2_flat]; rfl
  unfold resetW
  rw [e, if_neg (by simp), e2, show flat 2 (setW (fillUp 2 [1, 1, 1, 6, 1, 1, 6, 1, 1] 9) (dimN (some (2, lz2))) 1 0) = [1, 1, 1, 1, 1, 2147483647, 6, 6, 1] by decide +kernel]
  exact some_of (by decide +kernel) (by decide +kernel)
theorem lz3_text : printZ (some (2, lz3)) = [50, 58, 32, 120, 49, 45, 120, 48, 60, 61, 48, 32, 120, 49, 45, 120, 50, 60, 61, 48, 32, 120, 50, 45, 120, 48, 60, 51, 32, 120, 50, 45, 120, 49, 60, 51] := by decide +kernel

theorem lims_new (w : World) (e : TypeId) (a b c : Int) : Lims (w.alloc (.cells #[.int .i64 a, .int .i64 b, .int .i32 c] e (0, 0))) (some ⟨w.heap.size, 0, none⟩) [(a, b, c)] := by
  have h1 := heap_alloc_new w (.cells #[.int .i64 a, .int .i64 b, .int .i32 c] e (0, 0))
  intro j hj
  have e0 : j = 0 := by simp at hj; omega
  subst e0
  refine ⟨w.heap.size, 0, rfl, ?_, ?_, ?_⟩ <;> (unfold World.cell?; rw [h1]; rfl)

end Go.Proofs.YtmelblnflalanaaGreat

/- What OpsTime tells. -/
namespace Go.Proofs.YtmelblnflalanaaGreat
open Go Go.RowKit
set_option linter.unusedVariables false
set_option linter.unusedSimpArgs false

/-- What Up, Down answer, of a zone or nil. -/
def upA (z : Option (Nat × Mat)) : Option Mat × Int := match z with | none => (none, 1) | some (k, m) => ofP k (flat k (upW (some (k, m))))
def downA (z : Option (Nat × Mat)) : Option Mat × Int := match z with | none => (none, 1) | some (k, m) => ofP k (flat k (downW (some (k, m))))
/-- A zone that Of made. -/
def KindZ (z : Option (Nat × Mat)) : Prop := ∀ k m, z = some (k, m) → k ≤ 8 ∧ (m = (fun _ _ => 0) ∨ FullZ k m)
theorem kind_of (n : Int) (cells : List Int) : KindZ (zOf n cells) := fun k m e => by
  have h := zone_kinds e
  exact ⟨by omega, h.2⟩
theorem stable_tab : Stable Tab := fun _ _ h hb => h.below hb

end Go.Proofs.YtmelblnflalanaaGreat

/- The document's Constrain. -/
namespace Go.Proofs.YtmelblnflalanaaGreat
open Go Go.RowKit
set_option linter.unusedVariables false
set_option linter.unusedSimpArgs false

theorem lims_len {w : World} {A : Option Addr} {l : List (Int × Int × Int)} {p : Nat} (h : Lims w A l) (hp : p < l.length) : ∃ b off x y z, A = some ⟨b, off, none⟩ ∧ l.getD p (0, 0, 0) = (x, y, z) ∧ w.cell? ⟨b, off + p * 3, none⟩ = some (.int .i64 x) ∧ w.cell? ⟨b, off + p * 3 + 1, none⟩ = some (.int .i64 y) ∧ w.cell? ⟨b, off + p * 3 + 2, none⟩ = some (.int .i32 z) := by
  obtain ⟨b, off, e, a1, a2, a3⟩ := h p hp
  exact ⟨b, off, _, _, _, e, rfl, a1, a2, a3⟩

end Go.Proofs.YtmelblnflalanaaGreat

/- Limits in memory: a copy with marked room behind its end; it is as it was. -/
namespace Go.Proofs.YtmelblnflalanaaGreat
open Go Go.RowKit
set_option linter.unusedVariables false
set_option linter.unusedSimpArgs false

/-- Block g begins with N bounds of differences. -/
def TRow (w : World) (g : Nat) (e : TypeId) (N : Nat) (f : Nat → Int × Int × Int) : Prop :=
  ∃ cur : Array Value, w.heap[g]? = some (.cells cur e (0, 0)) ∧ cur.size = N * 3 ∧ ∀ j, j < N → cur[j * 3]? = some (.int .i64 (f j).1) ∧ cur[j * 3 + 1]? = some (.int .i64 (f j).2.1) ∧ cur[j * 3 + 2]? = some (.int .i32 (f j).2.2)
section
variable {w w' : World} {g : Nat} {e : TypeId} {N : Nat} {f : Nat → Int × Int × Int}
theorem TRow.lt (h : TRow w g e N f) : g < w.heap.size := by obtain ⟨cur, h1, _⟩ := h; exact (Array.getElem?_eq_some_iff.1 h1).1
theorem TRow.cell (h : TRow w g e N f) (j : Nat) (hj : j < N) : w.cell? ⟨g, j * 3, none⟩ = some (.int .i64 (f j).1) ∧ w.cell? ⟨g, j * 3 + 1, none⟩ = some (.int .i64 (f j).2.1) ∧ w.cell? ⟨g, j * 3 + 2, none⟩ = some (.int .i32 (f j).2.2) := by
  obtain ⟨cur, h1, _, h2⟩ := h
  obtain ⟨a, b, c⟩ := h2 j hj
  exact ⟨by simp [World.cell?, h1, a], by simp [World.cell?, h1, b], by simp [World.cell?, h1, c]⟩
theorem TRow.frozen (h : TRow w g e N f) (o : Nat) : w.frozen? ⟨g, o, none⟩ = false := by
  obtain ⟨cur, h1, _⟩ := h
  simp [World.frozen?, h1]
theorem TRow.later (h : TRow w g e N f) (hb : Below w.heap.size w w') : TRow w' g e N f := by
  have hlt := h.lt
  obtain ⟨cur, h1, h2⟩ := h
  exact ⟨cur, (hb.block g hlt).trans h1, h2⟩
theorem TRow.drewN (h : TRow w g e N f) (q : Nat) : TRow (w.drewN q) g e N f := h
theorem TRow.congr {f' : Nat → Int × Int × Int} (h : TRow w g e N f) (hf : ∀ j, j < N → f j = f' j) : TRow w g e N f' := by
  obtain ⟨cur, h1, h2, h3⟩ := h
  exact ⟨cur, h1, h2, fun j hj => by rw [← hf j hj]; exact h3 j hj⟩
theorem TRow.set (h : TRow w g e N f) (p : Nat) (hp : p < N) (x y z : Int) :
    TRow (((w.setCell ⟨g, p * 3, none⟩ (.int .i64 x)).setCell ⟨g, p * 3 + 1, none⟩ (.int .i64 y)).setCell ⟨g, p * 3 + 2, none⟩ (.int .i32 z)) g e N (fun j => if j = p then (x, y, z) else f j) := by
  obtain ⟨cur, h1, h2, h3⟩ := h
  refine ⟨((cur.setIfInBounds (p * 3) (.int .i64 x)).setIfInBounds (p * 3 + 1) (.int .i64 y)).setIfInBounds (p * 3 + 2) (.int .i32 z), ?_, by simpa using h2, fun j hj => ?_⟩
  · simp [World.setCell, Array.getElem?_modify, h1]
  · obtain ⟨a, b, c⟩ := h3 j hj
    have s : ∀ q, q < N * 3 → q < cur.size := fun q hq => by omega
    by_cases e : j = p
    · subst e
      simp only [if_true]
      refine ⟨?_, ?_, ?_⟩
      · rw [Array.getElem?_setIfInBounds, if_neg (by omega), Array.getElem?_setIfInBounds, if_neg (by omega), Array.getElem?_setIfInBounds, if_pos rfl, if_pos (by omega)]
      · rw [Array.getElem?_setIfInBounds, if_neg (by omega), Array.getElem?_setIfInBounds, if_pos rfl, if_pos (by simp; omega)]
      · rw [Array.getElem?_setIfInBounds, if_pos rfl, if_pos (by simp; omega)]
    · simp only [if_neg e]
      refine ⟨?_, ?_, ?_⟩ <;>
        rw [Array.getElem?_setIfInBounds, if_neg (by omega), Array.getElem?_setIfInBounds, if_neg (by omega), Array.getElem?_setIfInBounds, if_neg (by omega)] <;> assumption
theorem TRow.lims (h : TRow w g e N f) (l : List (Int × Int × Int)) (hl : l.length ≤ N) (hf : ∀ j, j < l.length → f j = l.getD j (0, 0, 0)) : Lims w (some ⟨g, 0, none⟩) l := fun j hj => by
  obtain ⟨a, b, c⟩ := h.cell j (by omega)
  rw [hf j hj] at a b c
  exact ⟨g, 0, rfl, by rw [Nat.zero_add]; exact a, by rw [Nat.zero_add]; exact b, by rw [Nat.zero_add]; exact c⟩
end
theorem infoL : (Tryz.prog.info? 72).map (fun i => (i.zero, i.size, i.bytes)) = some (some (.agg #[.int .i64 0, .int .i64 0, .int .i32 0]), 3, 24) := by kernel_rfl
theorem trow_made (w : World) (e : TypeId) (N : Nat) : TRow (w.alloc (.cells (madeCells #[.int .i64 0, .int .i64 0, .int .i32 0] (N * 3)) e)) w.heap.size e N (fun _ => (0, 0, 0)) := by
  refine ⟨_, heap_alloc_new _ _, by simp [madeCells], fun j hj => ?_⟩
  have h0 : j * 3 < N * 3 := by omega
  have h1 : j * 3 + 1 < N * 3 := by omega
  have h2 : j * 3 + 2 < N * 3 := by omega
  have e0 : j * 3 % 3 = 0 := by omega
  have e1 : (j * 3 + 1) % 3 = 1 := by omega
  have e2 : (j * 3 + 2) % 3 = 2 := by omega
  simp [madeCells, h0, h1, h2, e0, e1, e2]

/-- The copy, and its marks. -/
def handF (l : List (Int × Int × Int)) (j : Nat) : Int × Int × Int := if j < l.length then l.getD j (0, 0, 0) else (-700 - j + l.length, 0, 0)
/-- The first p places of it. -/
def handUp (l : List (Int × Int × Int)) (p j : Nat) : Int × Int × Int := if j < p then handF l j else (0, 0, 0)

def HandR (w0 : World) (l : List (Int × Int × Int)) (p : Nat) (wr : World) : Prop := Below w0.heap.size w0 wr ∧ TRow wr w0.heap.size 72 (l.length + 9) (handUp l p)
theorem HandR.next {w0 wr : World} {l : List (Int × Int × Int)} {p : Nat} (h : HandR w0 l p wr) (hp : p < l.length + 9) (x y z : Int) (hx : handF l p = (x, y, z)) :
    HandR w0 l (p + 1) (((wr.setCell ⟨w0.heap.size, p * 3, none⟩ (.int .i64 x)).setCell ⟨w0.heap.size, p * 3 + 1, none⟩ (.int .i64 y)).setCell ⟨w0.heap.size, p * 3 + 2, none⟩ (.int .i32 z)) := by
  refine ⟨((h.1.setCell (p := ⟨w0.heap.size, _, none⟩) (Nat.le_refl _) _).setCell (p := ⟨w0.heap.size, _, none⟩) (Nat.le_refl _) _).setCell (p := ⟨w0.heap.size, _, none⟩) (Nat.le_refl _) _, (h.2.set p hp x y z).congr fun j hj => ?_⟩
  unfold handUp
  by_cases e : j = p
  · subst e; rw [if_pos rfl, if_pos (by omega), hx]
  · rw [if_neg e]
    by_cases e2 : j < p
    · rw [if_pos e2, if_pos (by omega)]
    · rw [if_neg e2, if_neg (by omega)]

theorem HandR.lims {w0 w : World} {l : List (Int × Int × Int)} (h : HandR w0 l (l.length + 9) w) : Lims w (some ⟨w0.heap.size, 0, none⟩) l :=
  h.2.lims l (by omega) fun j hj => by unfold handUp handF; rw [if_pos (by omega), if_pos hj]

end Go.Proofs.YtmelblnflalanaaGreat

/- What OpsLimits tells. -/
namespace Go.Proofs.YtmelblnflalanaaGreat
open Go Go.RowKit
set_option linter.unusedVariables false
set_option linter.unusedSimpArgs false

def conA (z : Option (Nat × Mat)) (l : List (Int × Int × Int)) : Option Mat × Int := match z with | none => (none, 1) | some (k, m) => conP k (openW (some (k, m))) l
theorem stable_hand (w0 : World) (l : List (Int × Int × Int)) (p : Nat) : Stable fun w => HandR w0 l p w := fun _ _ h hb => ⟨h.1.trans (hb.mono h.1.size), h.2.later hb⟩

end Go.Proofs.YtmelblnflalanaaGreat

/- Where in a zone guards hold: the program's Guards, the document's. -/
namespace Go.Proofs.YtmelblnflalanaaGreat
open Go Go.RowKit
set_option linter.unusedVariables false
set_option linter.unusedSimpArgs false

/-- What Guards answers. -/
def gdA (z : Option (Nat × Mat)) (l : List (Int × Int × Int × Int)) : Option Mat × Int := match z with | none => (none, 1) | some p => if gsE l = 0 then conA (some p) (gsL l l.length) else (none, gsE l)
theorem infoGL : (Tryz.prog.info? 72).map (fun i => (i.zero, i.size, i.bytes)) = some (some (.agg #[.int .i64 0, .int .i64 0, .int .i32 0]), 3, 24) := by kernel_rfl
/-- The limits so far, a row of the call's own. -/
def GLim (w0 : World) (l : List (Int × Int × Int × Int)) (p : Nat) (v : Value) (wr : World) : Prop := Below w0.heap.size w0 wr ∧ OwnL wr w0.heap.size 72 v (gsL l p)
theorem lims_some {w : World} {A : Option Addr} {xs : List (Int × Int × Int)} (h : Lims w A xs) (h0 : 1 ≤ xs.length) : ∃ a, A = some a := by
  obtain ⟨b, off, e, _⟩ := h 0 (by omega)
  exact ⟨_, e⟩
/-- One append more. -/
theorem GLim.next {w0 wr w2 : World} {l : List (Int × Int × Int × Int)} {p : Nat} {v : Value} (h : GLim w0 l p v wr) (hb : Below wr.heap.size wr w2) {A : Option Addr} {c : Nat} {r : List (Int × Int × Int)} (hr : (guardP (l.getD p (0, 0, 0, 0))).1 = r)
    (hL : Lims w2 A r) (h1 : 1 ≤ r.length) (h2 : r.length ≤ 2) (hp : p < l.length) (hmax : l.length ≤ 4398046510976) :
    ∃ v' w', (Builtin.append_ #[67, 67] 67 #[v, .slice A r.length c]).run Tryz.prog w2 = .ok v' w' ∧ GLim w0 l (p + 1) v' w' := by
  obtain ⟨a, rfl⟩ := lims_some hL h1
  obtain ⟨i0, hi, hz0, hz1, hz2⟩ := info_parts infoGL
  have hlen := gsL_len l p
  have hown := h.2.later hb
  have hs2 := hb.size
  have hs1 := h.1.size
  unfold OwnL at hown
  obtain ⟨v', w', hrun, hown', hg⟩ := append_far (P := Tryz.prog) w2 w0.heap.size 67 67 72 i0 (.agg #[.int .i64 0, .int .i64 0, .int .i32 0]) Tryz.underlying67 hi hz0 hz1 hz2 rfl v (gsL l p).length (lcells (gsL l p)) hown a r.length c (lcells r) (lcells_length r) (lims_news hL a rfl) (lcells_one r) (by omega) (by omega) (by omega)
  refine ⟨v', w', hrun, (h.1.trans (hb.mono h.1.size)).grown hg (by omega) (fun k hk => (World.ownsRow.lt hown k hk).1), ?_⟩
  unfold OwnL
  have e : gsL l (p + 1) = gsL l p ++ r := by rw [gsL, hr]
  have e2 : lcells (gsL l p ++ r) = lcells (gsL l p) ++ lcells r := by unfold lcells; rw [List.flatMap_append]
  rw [e, e2, List.length_append]
  exact hown'

end Go.Proofs.YtmelblnflalanaaGreat

/- And, Hull of zones of whatever kind. -/
namespace Go.Proofs.YtmelblnflalanaaGreat
open Go Go.RowKit
set_option linter.unusedVariables false
set_option linter.unusedSimpArgs false

/-- Zones or nil, one behind the other. -/
def ZsV (w : World) (A : Option Addr) (vs : List Value) (zs : List (Option (Nat × Mat))) : Prop :=
  Ptrs w A vs ∧ vs.length = zs.length ∧ ∀ j, j < zs.length → ZoneV 173 w (vs.getD j (.pointer none)) (zs.getD j none)
theorem ZsV.below {w w' : World} {A : Option Addr} {vs : List Value} {zs : List (Option (Nat × Mat))} (h : ZsV w A vs zs) (hb : Below w.heap.size w w') : ZsV w' A vs zs :=
  ⟨h.1.below hb, h.2.1, fun j hj => (h.2.2 j hj).below hb⟩
/-- The error of zones that are to be of k clocks. -/
def alE (k : Nat) (zs : List (Option (Nat × Mat))) : Int := if ∀ j, j < zs.length → zs.getD j none ≠ none then (if ∀ j, j < zs.length → dimN (zs.getD j none) = k then 0 else 11) else 1
def msOf (zs : List (Option (Nat × Mat))) : List Mat := zs.map fun z => match z with | some (_, m) => m | none => fun _ _ => 0
theorem msOf_length (zs : List (Option (Nat × Mat))) : (msOf zs).length = zs.length := by simp [msOf]
theorem alE_one {k : Nat} {zs : List (Option (Nat × Mat))} {p : Nat} (hp : p < zs.length) (h : zs.getD p none = none) : alE k zs = 1 := by
  unfold alE
  rw [if_neg (fun h' => h' p hp h)]
theorem alE_dim {k : Nat} {zs : List (Option (Nat × Mat))} {p : Nat} (hn : ∀ j, j < zs.length → zs.getD j none ≠ none) (hp : p < zs.length) (h : dimN (zs.getD p none) ≠ k) : alE k zs = 11 := by
  unfold alE
  rw [if_pos hn, if_neg (fun h' => h (h' p hp))]
theorem alE_ok {k : Nat} {zs : List (Option (Nat × Mat))} (hn : ∀ j, j < zs.length → zs.getD j none ≠ none) (hd : ∀ j, j < zs.length → dimN (zs.getD j none) = k) : alE k zs = 0 := by
  unfold alE
  rw [if_pos hn, if_pos hd]
theorem alE_zs {k : Nat} {zs : List (Option (Nat × Mat))} (h : alE k zs = 0) : ∀ j, j < zs.length → zs.getD j none = some (k, (msOf zs).getD j fun _ _ => 0) := by
  unfold alE at h
  by_cases hn : ∀ j, j < zs.length → zs.getD j none ≠ none
  · rw [if_pos hn] at h
    by_cases hd : ∀ j, j < zs.length → dimN (zs.getD j none) = k
    · intro j hj
      have h1 := hn j hj
      have h2 := hd j hj
      have e : (msOf zs).getD j (fun _ _ => 0) = match zs.getD j none with | some (_, m) => m | none => fun _ _ => 0 := by
        unfold msOf
        rw [List.getD_eq_getElem?_getD, List.getElem?_map, List.getD_eq_getElem?_getD, List.getElem?_eq_getElem hj]
        rfl
      rw [e]
      cases hz : zs.getD j none with
      | none => exact absurd hz h1
      | some q =>
        obtain ⟨a, m⟩ := q
        rw [hz] at h2
        have : a = k := h2
        subst this; rfl
    · rw [if_neg hd] at h; omega
  · rw [if_neg hn] at h; omega
theorem ZsV.zones {w : World} {A : Option Addr} {vs : List Value} {zs : List (Option (Nat × Mat))} {k : Nat} (h : ZsV w A vs zs) (he : alE k zs = 0) : ZonesV w A vs k (msOf zs) :=
  ⟨h.1, by rw [msOf_length]; exact h.2.1, fun j hj => by
    rw [msOf_length] at hj
    rw [← alE_zs he j hj]
    exact h.2.2 j hj⟩

/-- What And, Hull answer. -/
def andA (z : Option (Nat × Mat)) (zs : List (Option (Nat × Mat))) : Option Mat × Int := match z with
  | none => (none, 1)
  | some (k, m) => if alE k zs = 0 then ofP k (flat k (andUp k (openW (some (k, m))) (msOf zs) (msOf zs).length)) else (none, alE k zs)
def hullZ (z : Option (Nat × Mat)) (zs : List (Option (Nat × Mat))) : Option Mat × Int := match z with
  | none => (none, 1)
  | some (k, m) => if alE k zs = 0 then hullA k m (msOf zs) else (none, alE k zs)

end Go.Proofs.YtmelblnflalanaaGreat
