/- The document's Zero. -/
import Derived.Test.YtgpmfnahjepjjaaRl
import Derived.Test.YtgpmfnahjepjjaaDd
namespace Go.Proofs.Ytgpmfnahjepjjaa
open Go Go.RowKit
set_option linter.unusedVariables false
set_option linter.unusedSimpArgs false

/-- The limits of Zero. -/
def zl : Nat → List (Int × Int × Int)
  | 0 => []
  | p + 1 => zl p ++ [((p : Int) + 1, 0, 1)]
theorem zl_length : ∀ p, (zl p).length = p
  | 0 => rfl
  | p + 1 => by simp [zl, zl_length p]
theorem zl_getD : ∀ p q, q < p → (zl p).getD q (0, 0, 0) = ((q : Int) + 1, 0, 1)
  | 0, q, h => by omega
  | p + 1, q, h => by
    rw [show zl (p + 1) = zl p ++ [((p : Int) + 1, 0, 1)] from rfl, List.getD_eq_getElem?_getD]
    by_cases e : q = p
    · subst e
      rw [List.getElem?_append_right (by rw [zl_length]; omega), zl_length]
      simp
    · rw [List.getElem?_append_left (by rw [zl_length]; omega), ← List.getD_eq_getElem?_getD]
      exact zl_getD p q (by omega)
theorem zero_lim (n : Nat) : ∀ p, p ≤ n → zeroUp n (p + 1) = limUp n (zl n) p
  | 0, _ => by
    show keepM (openM n) 0 0 1 = openM n
    unfold keepM
    rw [if_neg (by decide)]
    funext a c
    unfold upd
    split
    · rename_i h
      rw [h.1, h.2]
      unfold openM
      simp
    · rfl
  | p + 1, h => by
    have ih := zero_lim n p (by omega)
    show keepM (zeroUp n (p + 1)) (p + 1) 0 1 = keepM (limUp n (zl n) p) ((zl n).getD p (0, 0, 0)).1.toNat ((zl n).getD p (0, 0, 0)).2.1.toNat ((zl n).getD p (0, 0, 0)).2.2
    rw [ih, zl_getD n p (by omega)]
    congr 1
theorem zl_all (n : Nat) : (zl n).all (limOk n) = true := (all_getD _ _ (0, 0, 0)).2 fun q hq => by
  rw [zl_length] at hq
  rw [zl_getD n q hq]
  simp [limOk, rightB]
  omega
theorem zer_lim {n : Nat} (hn : n ≤ 8) : zerP n = limP n (zl n) := by
  unfold zerP limP
  rw [if_pos (by omega), if_pos (by omega)]
  simp only [Int.toNat_natCast]
  rw [if_pos (zl_all n), zl_length, zero_lim n n (Nat.le_refl _)]
theorem zl_bd (n : Nat) : ∀ q, q < (zl n).length → -2147483648 ≤ ((zl n).getD q (0, 0, 0)).2.2 ∧ ((zl n).getD q (0, 0, 0)).2.2 ≤ 2147483647 := fun q hq => by
  rw [zl_length] at hq
  rw [zl_getD n q hq]
  simp
theorem infoLim : (Try.prog.info? 39).map (fun i => (i.zero, i.size, i.bytes)) = some (some (.agg #[.int .i64 0, .int .i64 0, .int .i32 0]), 3, 24) := by kernel_rfl

/-- The limits, so far. -/
def ZlR (w0 : World) (p : Nat) (v : Value) (wr : World) : Prop :=
  Below w0.heap.size w0 wr ∧ OwnL wr w0.heap.size 39 v (zl p)
theorem ZlR.own {w0 wr : World} {p : Nat} {v : Value} (h : ZlR w0 p v wr) : wr.ownsRow w0.heap.size 39 3 v p (lcells (zl p)) := by
  have := h.2
  unfold OwnL at this
  rwa [zl_length] at this
theorem ZlR.next {w0 wr w1 : World} {p : Nat} {v v' : Value} {o : Obj} (h : ZlR w0 p v wr)
    (hown : w1.ownsRow w0.heap.size 39 3 v' (p + 1) (lcells (zl p) ++ lcells [((p : Int) + 1, 0, 1)])) (hg : (wr.alloc o).grownBy w1 v.ownBlock) : ZlR w0 (p + 1) v' w1 := by
  refine ⟨(h.1.alloc h.1.size o).grown hg (by have := h.1.size; simp; omega) (fun k hk => (h.own.lt k hk).1), ?_⟩
  unfold OwnL
  rw [zl_length, show zl (p + 1) = zl p ++ [((p : Int) + 1, 0, 1)] from rfl]
  have e : lcells (zl p ++ [((p : Int) + 1, 0, 1)]) = lcells (zl p) ++ lcells [((p : Int) + 1, 0, 1)] := by simp [lcells]
  rw [e]; exact hown
theorem lcell_new (w : World) (e : TypeId) (x : Int × Int × Int) : ∀ j u, (lcells [x])[j]? = some u → (w.alloc (.cells #[.int .i64 x.1, .int .i64 x.2.1, .int .i32 x.2.2] e (0, 0))).cell? ((⟨w.heap.size, 0, none⟩ : Addr).add j) = some u := by
  intro j u hu
  have ea : ∀ k, (⟨w.heap.size, 0, none⟩ : Addr).add k = ⟨w.heap.size, 0 + k, none⟩ := fun k => by unfold Addr.add; split <;> simp_all
  rw [ea, Nat.zero_add]
  simp only [World.cell?, heap_alloc_new]
  simp [lcells] at hu
  simpa using hu

set_option maxRecDepth 100000 in
set_option maxHeartbeats 1000000 in
theorem rzero_yes (n : Nat) (w : World) (hn : n ≤ 8) : Calls Try.prog 18 #[.int .i64 n] w (MakesR w n (zerP n)) := by
  rw [zer_lim hn]
  obtain ⟨i0, hi, hz0, hz1, hz2⟩ := info_parts infoLim
  have HInf := Lib.hid (And.intro hi (And.intro hz0 (And.intro hz1 hz2)))
  clear hi hz0 hz1 hz2
  have HS := Lib.hid (show ZlR w 0 (.slice none 0 0) w from ⟨Below.refl _ _, World.ownsRow_nil w _ _ _⟩)
  have n8 : (n : Int) ≤ 8 := by omega
  go_enter Try.func18, Try.ntmps18
  go_wp2
  go_loopg [4, 5] n (fun g v x wr => ∃ p : Nat, x = .int .i64 ((p : Int) + 1) ∧ ZlR w p v wr ∧ Hid (p ≤ n ∧ g + p = n))
  case atStart => exact ⟨0, by simp, HS.out, by omega, by omega⟩
  case round =>
    clear HS
    obtain ⟨p, rfl, H, HG⟩ := hrel
    have HW := Lib.hid H
    clear H
    by_cases hp : p < n
    · have hpi : (p : Int) + 1 ≤ (n : Int) := by omega
      have hp8 : p < 8 := by omega
      go_wp2_with (at_builtin; refine wpList_append_own _ rfl _ _ 23 rfl w.heap.size 39 i0 (.agg #[.int .i64 0, .int .i64 0, .int .i32 0]) 3 24 Try.underlying23 HInf.out.1 HInf.out.2.1 HInf.out.2.2.1 HInf.out.2.2.2 rfl (by decide) _ _ _ rfl (HW.out.own.alloc _) ⟨wr.heap.size, 0, none⟩ 1 1 (lcells [((p : Int) + 1, 0, 1)]) rfl rfl (lcell_new _ _ ((p : Int) + 1, 0, 1)) (lcells_one _) ?c3 ?c4 ?c5 ?_)
      case c3 => unfold maxLen; omega
      case c4 => omega
      case c5 => have := HW.out.1.size; simp; omega
      intro v' w1 hown hgrow _
      have HN := Lib.hid (HW.out.next hown hgrow)
      clear hown hgrow
      go_wp2
      go_roundg (gk - 1)
      case measure => have h := HG.out; omega
      case rel => exact ⟨p + 1, by go_num, HN.out, by omega, by have h := HG.out; omega⟩
    · have hpi : ¬ (p : Int) + 1 ≤ (n : Int) := by omega
      have e : p = n := by have := HG.out; omega
      obtain ⟨A, cap, hv, hl⟩ := HW.out.2.lims
      subst hv
      have HL := Lib.hid hl
      rw [zl_length]
      have HB := Lib.hid HW.out.1
      clear HW hl
      go_wp2_with fail
      have hcall := rlimits_any n A cap (zl p) wr HL.out (by rw [zl_length]; omega) (zl_bd p)
      rw [zl_length, e] at hcall
      refine hcall.mono ?_
      clear hcall
      rintro e w2 hz
      obtain ⟨hb2, v2, rfl, hv2⟩ := hz
      have HB2 := Lib.hid (HB.out.trans (hb2.mono HB.out.size))
      have HV2 := Lib.hid hv2
      clear hb2 hv2
      go_wp2
      go_ret2
      exact ⟨HB2.out, v2, rfl, HV2.out⟩

set_option maxRecDepth 100000 in
set_option maxHeartbeats 1000000 in
theorem rzero_any (n : Int) (w : World) : Calls Try.prog 18 #[.int .i64 n] w (MakesR w n.toNat (zerP n)) := by
  by_cases hn : 0 ≤ n ∧ n ≤ 8
  · obtain ⟨k, rfl⟩ : ∃ k : Nat, n = k := ⟨n.toNat, by omega⟩
    exact rzero_yes k w (by omega)
  · have hz : zerP n = limP n [] := by
      unfold zerP limP; rw [if_neg hn, if_neg hn]
    rw [hz]
    clear hz
    have HN := Lib.hid hn
    by_cases h0 : n < 0
    · have d0 : decide (1 ≤ n) = false := decide_eq_false (by omega)
      clear hn
      go_enter Try.func18, Try.ntmps18
      go_wp2
      refine wp_loop_rounds 1 ?_
      rw [rounds_succ]
      go_wp2_with fail
      refine (rlimits_clock n _ [] _ HN.out).mono ?_
      rintro e w2 hz
      obtain ⟨hb2, v2, rfl, hv2⟩ := hz
      have HV2 := Lib.hid hv2
      have HB2 := Lib.hid hb2
      clear hb2 hv2
      go_wp2
      go_ret2
      exact ⟨HB2.out, v2, rfl, HV2.out⟩
    · have d0 : decide (1 ≤ n) = true := decide_eq_true (by omega)
      have d8 : decide (n ≤ 8) = false := decide_eq_false (by omega)
      clear hn
      go_enter Try.func18, Try.ntmps18
      go_wp2
      refine wp_loop_rounds 1 ?_
      rw [rounds_succ]
      go_wp2_with fail
      refine (rlimits_clock n _ [] _ HN.out).mono ?_
      rintro e w2 hz
      obtain ⟨hb2, v2, rfl, hv2⟩ := hz
      have HV2 := Lib.hid hv2
      have HB2 := Lib.hid hb2
      clear hb2 hv2
      go_wp2
      go_ret2
      exact ⟨HB2.out, v2, rfl, HV2.out⟩

end Go.Proofs.Ytgpmfnahjepjjaa
