/- keeps and valuation of the statements' text. -/
import Derived.Test.YtgpmfnahjepjjaaHr
import Derived.Test.YtgpmfnahjepjjaaRh
import Derived.Test.YtgpmfnahjepjjaaMsm
import Derived.Test.YtgpmfnahjepjjaaBag
namespace Go.Proofs.Ytgpmfnahjepjjaa
open Go Go.RowKit
set_option linter.unusedVariables false
set_option linter.unusedSimpArgs false

/-- Does a valuation keep a matrix? -/
def keepsB (n : Nat) (cells v : List Int) (g : Int) : Bool := decide (∀ i, i ≤ n → ∀ j, j ≤ n → holdsB (cells.getD (i * (n + 1) + j) 0) (v.getD i 0 - v.getD j 0) g = true)
theorem holds_sat {b x g : Int} (hr : rightB b = true) : holdsB b x g = true ↔ sat g (wid b) x := by
  unfold holdsB sat wid
  rw [decide_eq_true_iff]
  by_cases e : b = 2147483647
  · simp [e]
  · rw [if_neg e]
    have hb := rightB_bd hr e
    constructor
    · rintro (h | h)
      · exact absurd h e
      · exact .inr h
    · rintro (h | h)
      · exfalso; unfold none62 at h; omega
      · exact .inr h
theorem holds_zero {b g : Int} (hr : rightB b = true) : True := trivial

set_option maxRecDepth 100000 in
set_option maxHeartbeats 2000000 in
theorem keeps_any (n : Nat) (A : Option Addr) (c : Nat) (cells : List Int) (B : Option Addr) (d : Nat) (v : List Int) (g : Int) (w : World) (hn : n ≤ 8) (hI : Ints w .i32 A cells) (hV : Ints w .i64 B v)
    (hl : cells.length = (n + 1) * (n + 1)) (hlv : v.length = n + 1) (hr : ∀ q, q < (n + 1) * (n + 1) → rightB (cells.getD q 0) = true) (hv : ∀ q, q < n + 1 → 0 ≤ v.getD q 0 ∧ v.getD q 0 ≤ 549755813888) (hg0 : 1 ≤ g) (hg1 : g ≤ 1048576) :
    Calls Try.prog 32 #[.int .i64 n, .slice A ((n + 1) * (n + 1)) c, .slice B (n + 1) d, .int .i64 g] w fun e w' => e = .returned (.bool (keepsB n cells v g)) ∧ ∃ q, w' = w.drewN q := by
  have HI := Lib.hid hI
  have HV := Lib.hid hV
  have HL := Lib.hid hl
  have HLV := Lib.hid hlv
  have HR := Lib.hid hr
  have HVB := Lib.hid hv
  obtain ⟨N, hN⟩ : ∃ N : Nat, N = (n + 1) * (n + 1) := ⟨_, rfl⟩
  have hN81 : N ≤ 81 := by
    have := Nat.mul_le_mul (show n + 1 ≤ 9 by omega) (show n + 1 ≤ 9 by omega)
    omega
  rw [← hN]
  have HN := Lib.hid hN
  clear hI hV hl hlv hr hv hN
  go_enter Try.func32, Try.ntmps32
  go_wp2
  go_loopg [9] (n + 1) (fun q x wr => ∃ i k : Nat, x = .int .i64 i ∧ wr = w.drewN k ∧ Hid (q + i = n + 1 ∧ i ≤ n + 1 ∧ ∀ a, a < i → ∀ j, j ≤ n → holdsB (cells.getD (a * (n + 1) + j) 0) (v.getD a 0 - v.getD j 0) g = true))
  case atStart => exact ⟨0, 0, by simp, rfl, by omega, by omega, fun a h => by omega⟩
  case round =>
    obtain ⟨i, k, rfl, rfl, HA⟩ := hrel
    by_cases hi : i ≤ n
    · have hii : (i : Int) ≤ (n : Int) := by omega
      go_wp2
      go_loopg [10] (n + 1) (fun q x wr => ∃ j k : Nat, x = .int .i64 j ∧ wr = w.drewN k ∧ Hid (q + j = n + 1 ∧ j ≤ n + 1 ∧ ∀ a, a < j → holdsB (cells.getD (i * (n + 1) + a) 0) (v.getD i 0 - v.getD a 0) g = true))
      case atStart => exact ⟨0, k, by simp, rfl, by omega, by omega, fun a h => by omega⟩
      case round =>
        obtain ⟨j, k, rfl, rfl, HB⟩ := hrel
        by_cases hj : j ≤ n
        · have hjj : (j : Int) ≤ (n : Int) := by omega
          obtain ⟨P, hP, hP1, hP2, hP3⟩ := prod_facts i n hi hn
          have hPN : P + n < N := by have := HN.out; omega
          obtain ⟨b1, o1, e1, c1⟩ := HI.out (P + j) (by rw [HL.out, ← HN.out]; omega)
          obtain ⟨b2, o2, e2, c2⟩ := HV.out i (by rw [HLV.out]; omega)
          obtain ⟨b3, o3, e3, c3⟩ := HV.out j (by rw [HLV.out]; omega)
          subst e1 e2
          simp only [Option.some.injEq, Addr.mk.injEq] at e3
          obtain ⟨rfl, rfl, _⟩ := e3
          have hr := HR.out (P + j) (by rw [← HN.out]; omega)
          have hvi := HVB.out i (by omega)
          have hvj := HVB.out j (by omega)
          obtain ⟨x, hx⟩ : ∃ x, x = cells.getD (P + j) 0 := ⟨_, rfl⟩
          obtain ⟨y, hy⟩ : ∃ y, y = v.getD i 0 := ⟨_, rfl⟩
          obtain ⟨z, hz⟩ : ∃ z, z = v.getD j 0 := ⟨_, rfl⟩
          rw [← hx] at c1 hr
          rw [← hy] at c2 hvi
          rw [← hz] at c3 hvj
          have HH := Lib.hid (fun w => rholds_any x (y - z) g w hr (by omega) (by omega) hg0 hg1)
          have HX := Lib.hid (show cells.getD (i * (n + 1) + j) 0 = x by rw [← hP2, hx])
          have HY := Lib.hid hy
          have HZ := Lib.hid hz
          obtain ⟨hvi0, hvi1⟩ := hvi
          obtain ⟨hvj0, hvj1⟩ := hvj
          have g1 : IntKind.i64.wrap ((n : Int) + 1) = (n : Int) + 1 := IntWalk.i64_in _ (by omega)
          have g2 : IntKind.i64.wrap (P : Int) = (P : Int) := IntWalk.i64_in _ (by omega)
          have g3 : IntKind.i64.wrap ((P : Int) + (j : Int)) = (P : Int) + (j : Int) := IntWalk.i64_in _ (by omega)
          have g4 : IntKind.i64.wrap (y - z) = y - z := IntWalk.i64_in _ (by omega)
          have l1 : (P : Int) + (j : Int) < (N : Int) := by omega
          have l3 : 0 ≤ (P : Int) + (j : Int) := by omega
          have n1 : ((P : Int) + (j : Int)).toNat = P + j := by omega
          have l4 : (i : Int) < (n : Int) + 1 := by omega
          have l5 : (j : Int) < (n : Int) + 1 := by omega
          clear hr hx hy hz hP2 hP3
          obtain ⟨hb, hhb⟩ : ∃ hb, hb = holdsB x (y - z) g := ⟨_, rfl⟩
          rw [← hhb] at HH
          have HHB := Lib.hid hhb
          clear hhb
          go_wp2_with fail
          go_quiet ((go_at_call 54; exact quietA HH.out))
          clear g1 g2 g3 g4 n1
          cases hb with
          | false =>
            go_wp2
            go_ret
            refine ⟨?_, k + nq, World.drewN_drewN _ _ _⟩
            have hf : keepsB n cells v g = false := decide_eq_false fun hh => by
              have := hh i hi j hj
              rw [HX.out, ← HY.out, ← HZ.out, ← HHB.out] at this
              cases this
            rw [hf]
            rfl
          | true =>
            go_wp2
            go_roundg (gk - 1)
            case measure => have h := HB.out; omega
            case rel =>
              refine ⟨j + 1, _, by go_num, rfl, by have h := HB.out.1; omega, by omega, fun a ha => ?_⟩
              by_cases e : a = j
              · subst e; rw [HX.out, ← HY.out, ← HZ.out, ← HHB.out]
              · exact HB.out.2.2 a (by omega)
        · have hjj : ¬ (j : Int) ≤ (n : Int) := by omega
          go_wp2
          go_roundg (n - i)
          case measure => have h := HA.out; omega
          case rel =>
            refine ⟨i + 1, _, by go_num, rfl, by omega, by omega, fun a ha b hb => ?_⟩
            by_cases e : a = i
            · subst e; exact HB.out.2.2 b (by omega)
            · exact HA.out.2.2 a (by omega) b hb
    · have hii : ¬ (i : Int) ≤ (n : Int) := by omega
      go_wp2
      go_ret
      refine ⟨?_, _, rfl⟩
      have ht : keepsB n cells v g = true := decide_eq_true fun a ha b hb => HA.out.2.2 a (by omega) b hb
      rw [ht]
      rfl

/-- A valuation of n clocks, the clock 0 ahead. -/
def valL (n : Nat) (l : List Int) (p : Nat) : List Int := (List.range (n + 1)).map fun i => if 1 ≤ i ∧ i ≤ p ∧ i ≤ l.length then l.getD (i - 1) 0 else 0
theorem valL_length (n : Nat) (l : List Int) (p : Nat) : (valL n l p).length = n + 1 := by simp [valL]
theorem valL_getD (n : Nat) (l : List Int) (p i : Nat) (h : i < n + 1) : (valL n l p).getD i 0 = if 1 ≤ i ∧ i ≤ p ∧ i ≤ l.length then l.getD (i - 1) 0 else 0 := by
  simp [valL, List.getD_eq_getElem?_getD, h]
theorem valL_next (n : Nat) (l : List Int) (p : Nat) (hp : p < n) (hl : p < l.length) : (valL n l p).set (p + 1) (l.getD p 0) = valL n l (p + 1) :=
  list_ext0 (by simp [valL_length]) fun q hq => by
    rw [List.length_set, valL_length] at hq
    rw [valL_getD _ _ _ _ hq, List.getD_eq_getElem?_getD, List.getElem?_set]
    by_cases e : p + 1 = q
    · subst e
      rw [if_pos rfl, if_pos (by rw [valL_length]; omega), if_pos (by omega)]
      rfl
    · rw [if_neg e, ← List.getD_eq_getElem?_getD, valL_getD _ _ _ _ hq]
      by_cases h : 1 ≤ q ∧ q ≤ p ∧ q ≤ l.length
      · rw [if_pos h, if_pos (by omega)]
      · rw [if_neg h, if_neg (by omega)]
theorem valL_stop (n : Nat) (l : List Int) (p : Nat) (h : n ≤ p ∨ l.length ≤ p) : valL n l p = valL n l n :=
  list_ext0 (by simp [valL_length]) fun q hq => by
    rw [valL_length] at hq
    rw [valL_getD _ _ _ _ hq, valL_getD _ _ _ _ hq]
    by_cases h' : 1 ≤ q ∧ q ≤ p ∧ q ≤ l.length
    · rw [if_pos h', if_pos (by omega)]
    · rw [if_neg h', if_neg (by omega)]
theorem valL_bd (n : Nat) (l : List Int) (p : Nat) (h : ∀ q, q < l.length → 0 ≤ l.getD q 0 ∧ l.getD q 0 ≤ 4294967295) : ∀ q, q < n + 1 → 0 ≤ (valL n l p).getD q 0 ∧ (valL n l p).getD q 0 ≤ 549755813888 := fun q hq => by
  rw [valL_getD _ _ _ _ hq]
  split
  · have := h (q - 1) (by omega)
    omega
  · omega

/-- The valuation so far, in a block of the call's own. -/
def ValR (w0 : World) (n : Nat) (l : List Int) (p : Nat) (wr : World) : Prop := Below w0.heap.size w0 wr ∧ RowAt wr w0.heap.size 2 .i64 (valL n l p)
def ValEnds (w : World) (n : Nat) (l : List Int) (e : Ending) (w' : World) : Prop := ∃ cap, e = .returned (.slice (some ⟨w.heap.size, 0, none⟩) (n + 1) cap) ∧ ValR w n l n w'
theorem made_row (w : World) (e : TypeId) (k : IntKind) (N : Nat) (xs : List Int) (hl : xs.length = N) (hx : ∀ p, p < N → xs.getD p 0 = 0) : RowAt (w.alloc (.cells (madeCells #[.int k 0] N) e)) w.heap.size e k xs := by
  refine ⟨_, heap_alloc_new _ _, ?_⟩
  subst hl
  apply List.ext_getElem?
  intro p
  by_cases hp : p < xs.length
  · have := hx p hp
    rw [List.getD_eq_getElem?_getD, List.getElem?_eq_getElem hp] at this
    have e : xs[p] = 0 := this
    simp [madeCells, vals, hp, e, Nat.mod_one]
  · simp [madeCells, vals, hp]

set_option maxRecDepth 100000 in
set_option maxHeartbeats 1000000 in
theorem valuation_any (n : Nat) (A : Option Addr) (c : Nat) (l : List Int) (w : World) (hn : n ≤ 8) (hI : Ints w .u32 A l) (hmax : l.length ≤ 4611686018427387904) (hk : ∀ q, q < l.length → 0 ≤ l.getD q 0 ∧ l.getD q 0 ≤ 4294967295) :
    Calls Try.prog 31 #[.int .i64 n, .slice A l.length c] w (ValEnds w n l) := by
  have HI := Lib.hid hI
  have HK := Lib.hid hk
  have hmk := run_make_row' (P := Try.prog) 56 2 (.int .i64 0) 8 Try.underlying56 infoI rfl .i64 .i64 (n + 1) (by omega) (by omega)
  have hcast : ((n + 1 : Nat) : Int) = (n : Int) + 1 := by omega
  rw [hcast] at hmk
  have HS := Lib.hid (show ValR w n l 0 (w.alloc (.cells (madeCells #[.int .i64 0] (n + 1)) 2)) from ⟨(Below.refl _ _).alloc (Nat.le_refl _) _, made_row w _ _ (n + 1) _ (valL_length _ _ _) (fun p hp => by rw [valL_getD _ _ _ _ hp, if_neg (by omega)])⟩)
  clear hI hk hcast
  go_enter Try.func31, Try.ntmps31
  go_wp2
  generalize w.alloc (.cells (madeCells #[.int .i64 0] (n + 1)) 2) = w1 at *
  go_loopg [6] (n + 1) (fun g x wr => ∃ p : Nat, x = .int .i64 ((p : Int) + 1) ∧ ValR w n l p wr ∧ Hid (p ≤ n ∧ g + p = n + 1 ∧ p ≤ l.length))
  case atStart => exact ⟨0, by simp, HS.out, by omega, by omega, by omega⟩
  case round =>
    clear HS
    obtain ⟨p, rfl, H, HG⟩ := hrel
    have HW := Lib.hid H
    clear H
    have hp8 : p ≤ 8 := by have := HG.out; omega
    by_cases hgo : p < n ∧ p < l.length
    · obtain ⟨hp, hpl⟩ := hgo
      have h1 : (p : Int) + 1 ≤ (n : Int) := by omega
      have h2 : (p : Int) + 1 ≤ (l.length : Int) := by omega
      have h3 : (p : Int) < (l.length : Int) := by omega
      have h4 : (p : Int) + 1 < (n : Int) + 1 := by omega
      obtain ⟨b, off, rfl, hc⟩ := HI.out.below HW.out.1 p hpl
      have hb := HK.out p hpl
      obtain ⟨x, hx⟩ : ∃ x, x = l.getD p 0 := ⟨_, rfl⟩
      rw [← hx] at hc hb
      have HX := Lib.hid hx
      have hc' := HW.out.2.cell (p + 1) (by rw [valL_length]; omega)
      have hf' := HW.out.2.frozen (p + 1)
      obtain ⟨hb0, hb1⟩ := hb
      have HN := Lib.hid (show ValR w n l (p + 1) (wr.setCell ⟨w.heap.size, p + 1, none⟩ (.int .i64 x)) from by
        refine ⟨HW.out.1.setCell (Nat.le_refl _) _, ?_⟩
        have := HW.out.2.set (p + 1) x
        rwa [HX.out, valL_next n l p hp hpl, ← HX.out] at this)
      clear hx
      go_wp2
      go_roundg (gk - 1)
      case measure => have h := HG.out; omega
      case rel => exact ⟨p + 1, by go_num, HN.out, by omega, by have h := HG.out; omega, by omega⟩
    · have hs : valL n l p = valL n l n := valL_stop n l p (by omega)
      have HE := Lib.hid (show ValR w n l n wr from ⟨HW.out.1, by rw [← hs]; exact HW.out.2⟩)
      clear hs
      have hor : ¬ (p : Int) + 1 ≤ (n : Int) ∨ ((p : Int) + 1 ≤ (n : Int) ∧ ¬ (p : Int) + 1 ≤ (l.length : Int)) := by omega
      clear hgo HW
      rcases hor with h1 | ⟨h1, h2⟩
      all_goals
        go_wp2
        go_ret
        exact ⟨_, rfl, HE.out⟩

end Go.Proofs.Ytgpmfnahjepjjaa
