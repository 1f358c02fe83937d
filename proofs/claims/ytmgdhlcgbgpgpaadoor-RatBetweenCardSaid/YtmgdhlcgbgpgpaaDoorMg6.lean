/- Texts of ours, laid together: Vt, Vu, Vv, Vw, Yj, Yk. -/
import Derived.Test.YtmgdhlcgbgpgpaaDoorMg5
/- Numbers of two words, as the document reckons with them. -/
namespace Go.Proofs.YtmgdhlcgbgpgpaaDoor
open Go Go.RowKit
set_option linter.unusedVariables false
set_option linter.unusedSimpArgs false

set_option maxRecDepth 100000 in
set_option maxHeartbeats 1000000 in
theorem dplus_any (s t : Nat) (h : s + t < 340282366920938463463374607431768211456) (w : World) : Calls Tryd.prog 79 #[szV s, szV t] w fun e w' => e = .returned (szV (s + t)) ∧ Below w.heap.size w w' := by
  obtain ⟨a1, a2⟩ := hi_range (n := s) (by omega)
  obtain ⟨b1, b2⟩ := hi_range (n := t) (by omega)
  obtain ⟨c1, c2⟩ := lo_range s
  obtain ⟨d1, d2⟩ := lo_range t
  have e1 := plus_lo s t
  have e2 := plus_hi s t h
  have k0 : 0 ≤ (loN s + loN t) / 18446744073709551616 := by omega
  have k1 : (loN s + loN t) / 18446744073709551616 ≤ 1 := by omega
  unfold szV
  go_enter Tryd.func79, Tryd.ntmps79
  go_wp2_with (first | simp only [add64_0 (loN s) (loN t) c1 d1] | simp only [add64 (hiN s) (hiN t) _ a1 b1 k0 k1])
  simp [bodyPost, results, Tryd.results79, go_sem]
  exact below_three w _ _ _

set_option maxRecDepth 100000 in
set_option maxHeartbeats 1000000 in
theorem dminus_any (s t : Nat) (h : t ≤ s) (hs : s < 340282366920938463463374607431768211456) (w : World) : Calls Tryd.prog 80 #[szV s, szV t] w fun e w' => e = .returned (szV (s - t)) ∧ Below w.heap.size w w' := by
  obtain ⟨a1, a2⟩ := hi_range (n := s) (by omega)
  obtain ⟨b1, b2⟩ := hi_range (n := t) (by omega)
  obtain ⟨c1, c2⟩ := lo_range s
  obtain ⟨d1, d2⟩ := lo_range t
  obtain ⟨k0, k1⟩ := bor_range (loN s) (loN t)
  have e1 := less_lo s t h
  have e2 := less_hi s t h hs
  unfold szV
  go_enter Tryd.func80, Tryd.ntmps80
  go_wp2_with (first | simp only [sub64_0 (loN s) (loN t) c1 d1 d2] | simp only [sub64 (hiN s) (hiN t) _ a1 b1 b2 k0 k1])
  simp [bodyPost, results, Tryd.results80, go_sem]
  exact below_three w _ _ _

theorem below_words (s t : Nat) : (s < t) ↔ (hiN s < hiN t ∨ (hiN s = hiN t ∧ loN s < loN t)) := by
  have h1 := hi_lo s
  have h2 := hi_lo t
  have h3 := lo_range s
  have h4 := lo_range t
  omega
set_option maxRecDepth 100000 in
set_option maxHeartbeats 1000000 in
theorem dbelow_any (s t : Nat) (w : World) : Calls Tryd.prog 63 #[szV s, szV t] w fun e w' => e = .returned (.bool (decide (s < t))) ∧ Below w.heap.size w w' := by
  have hb := below_words s t
  unfold szV
  by_cases h1 : hiN s < hiN t
  · rw [decide_eq_true (hb.2 (.inl h1))]
    have d1 : decide (hiN s < hiN t) = true := decide_eq_true h1
    clear hb
    generalize hiN s = a at *
    generalize loN s = b at *
    generalize hiN t = c at *
    generalize loN t = d at *
    go_enter Tryd.func63, Tryd.ntmps63
    go_wp2
    go_ret
    exact ⟨rfl, below_two w _ _⟩
  · have d1 : decide (hiN s < hiN t) = false := decide_eq_false h1
    by_cases h2 : hiN s = hiN t
    · have d2 : (hiN s == hiN t) = true := by simp [h2]
      by_cases h3 : loN s < loN t
      · rw [decide_eq_true (hb.2 (.inr ⟨h2, h3⟩))]
        have d3 : decide (loN s < loN t) = true := decide_eq_true h3
        clear hb h2
        generalize hiN s = a at *
        generalize loN s = b at *
        generalize hiN t = c at *
        generalize loN t = d at *
        go_enter Tryd.func63, Tryd.ntmps63
        go_wp2
        go_ret
        exact ⟨rfl, below_two w _ _⟩
      · rw [decide_eq_false (fun h => by rcases hb.1 h with h | h; exact h1 h; exact h3 h.2)]
        have d3 : decide (loN s < loN t) = false := decide_eq_false h3
        clear hb h2
        generalize hiN s = a at *
        generalize loN s = b at *
        generalize hiN t = c at *
        generalize loN t = d at *
        go_enter Tryd.func63, Tryd.ntmps63
        go_wp2
        go_ret
        exact ⟨rfl, below_two w _ _⟩
    · rw [decide_eq_false (fun h => by rcases hb.1 h with h | h; exact h1 h; exact h2 h.1)]
      have d2 : (hiN s == hiN t) = false := by simp [h2]
      clear hb
      generalize hiN s = a at *
      generalize loN s = b at *
      generalize hiN t = c at *
      generalize loN t = d at *
      go_enter Tryd.func63, Tryd.ntmps63
      go_wp2
      go_ret
      exact ⟨rfl, below_two w _ _⟩
set_option maxRecDepth 100000 in
set_option maxHeartbeats 1000000 in
theorem dmul_any (x y : Nat) (hx : x < 18446744073709551616) (hy : y < 18446744073709551616) (w : World) : Calls Tryd.prog 62 #[.int .u64 x, .int .u64 y] w fun e w' => e = .returned (szV (x * y)) ∧ Below w.heap.size w w' := by
  have HM : Hid (∀ W, Calls Tryd.prog 81 #[.int .u64 x, .int .u64 y] W fun e w' => e = .returned (.tuple #[.int .u64 (hiN (x * y)), .int .u64 (loN (x * y))]) ∧ W = w') := Lib.hid (fun W => mul64_any x y hx hy W)
  generalize x * y = P at *
  clear hx hy
  unfold szV
  go_enter Tryd.func62, Tryd.ntmps62
  go_wp2_with (refine (HM.out _).mono ?_; rintro e w1 ⟨rfl, rfl⟩)
  simp [bodyPost, results, Tryd.results62, go_sem]
  first | exact below_one w _ | exact ⟨rfl, below_one w _⟩
set_option maxRecDepth 100000 in
set_option maxHeartbeats 1000000 in
theorem dsize_any (n : Int) (h0 : -9223372036854775808 ≤ n) (h1 : n ≤ 9223372036854775807) (w : World) : Calls Tryd.prog 49 #[.int .i64 n] w fun e w' => e = .returned (.int .u64 (n.natAbs : Int)) ∧ w = w' := by
  by_cases hn : n < 0
  · have e1 : decide (n < 0) = true := decide_eq_true hn
    have e2 : IntKind.u64.wrap (-IntKind.u64.wrap n) = (n.natAbs : Int) := by rw [IntKind.wrap_u64, IntKind.wrap_u64]; omega
    obtain ⟨m, hm⟩ : ∃ m : Int, m = (n.natAbs : Int) := ⟨_, rfl⟩
    rw [← hm] at e2 ⊢
    clear hm
    go_enter Tryd.func49, Tryd.ntmps49
    go_wp2
    go_ret
    exact ⟨rfl, rfl⟩
  · have e1 : decide (n < 0) = false := decide_eq_false hn
    have e2 : IntKind.u64.wrap n = (n.natAbs : Int) := by rw [IntKind.wrap_u64]; omega
    obtain ⟨m, hm⟩ : ∃ m : Int, m = (n.natAbs : Int) := ⟨_, rfl⟩
    rw [← hm] at e2 ⊢
    clear hm
    go_enter Tryd.func49, Tryd.ntmps49
    go_wp2
    go_ret
    exact ⟨rfl, rfl⟩

/-- The blocks of a division while it goes on. -/
structure OdR (w0 : World) (gt g0 g1 gq gr : Nat) (s t q r : Nat) (wr : World) : Prop where
  below : Below w0.heap.size w0 wr
  ne : w0.heap.size < gt ∧ gt < g0 ∧ g0 < g1 ∧ g1 < gq ∧ gq < gr
  hs : wr.heap[w0.heap.size]? = some (.cells #[.int .u64 (hiN s), .int .u64 (loN s)] 59)
  ht : wr.heap[gt]? = some (.cells #[.int .u64 (hiN t), .int .u64 (loN t)] 59)
  h0 : wr.heap[g0]? = some (.cells #[.int .u64 0, .int .u64 0] 59)
  h1 : wr.heap[g1]? = some (.cells #[.int .u64 0, .int .u64 0] 59)
  hq : wr.heap[gq]? = some (.cells #[.int .u64 (hiN q), .int .u64 (loN q)] 59)
  hr : wr.heap[gr]? = some (.cells #[.int .u64 (hiN r), .int .u64 (loN r)] 59)
section
variable {w0 wr w' : World} {gt g0 g1 gq gr s t q r : Nat}
theorem OdR.step (h : OdR w0 gt g0 g1 gq gr s t q r wr) (hb : Below wr.heap.size wr w') : OdR w0 gt g0 g1 gq gr s t q r w' :=
  ⟨h.below.trans (hb.mono h.below.size), h.ne, (hb.block _ (heap_lt2 h.hs)).trans h.hs, (hb.block _ (heap_lt2 h.ht)).trans h.ht, (hb.block _ (heap_lt2 h.h0)).trans h.h0, (hb.block _ (heap_lt2 h.h1)).trans h.h1, (hb.block _ (heap_lt2 h.hq)).trans h.hq, (hb.block _ (heap_lt2 h.hr)).trans h.hr⟩
theorem OdR.drew (h : OdR w0 gt g0 g1 gq gr s t q r wr) : OdR w0 gt g0 g1 gq gr s t q r wr.drew := ⟨Below.drew h.below, h.ne, h.hs, h.ht, h.h0, h.h1, h.hq, h.hr⟩
theorem OdR.setR (h : OdR w0 gt g0 g1 gq gr s t q r wr) (x : Nat) : OdR w0 gt g0 g1 gq gr s t q x (wr.setRow gr #[.int .u64 (hiN x), .int .u64 (loN x)]) := by
  have hn := h.ne
  exact ⟨below_row h.below (by omega) _, hn, row_other _ h.hs (by omega), row_other _ h.ht (by omega), row_other _ h.h0 (by omega), row_other _ h.h1 (by omega), row_other _ h.hq (by omega), setRow_heap _ _ _ _ _ _ h.hr⟩
theorem OdR.setRlo (h : OdR w0 gt g0 g1 gq gr s t q r wr) (x : Nat) (y : Int) (hh : hiN r = hiN x) (hy : y = loN x) : OdR w0 gt g0 g1 gq gr s t q x (wr.setCell ⟨gr, 1, none⟩ (.int .u64 y)) := by
  have hn := h.ne
  have h1 := (cell_set h.hr (.int .u64 y)).2
  rw [hh, hy] at h1
  rw [hy]
  exact ⟨h.below.setCell (p := ⟨gr, 1, none⟩) (by show w0.heap.size ≤ gr; omega) _, hn, heap_other _ h.hs (by omega), heap_other _ h.ht (by omega), heap_other _ h.h0 (by omega), heap_other _ h.h1 (by omega), heap_other _ h.hq (by omega), h1⟩
theorem OdR.setQhi (h : OdR w0 gt g0 g1 gq gr s t q r wr) (x : Nat) (y : Int) (hh : loN q = loN x) (hy : y = hiN x) : OdR w0 gt g0 g1 gq gr s t x r (wr.setCell ⟨gq, 0, none⟩ (.int .u64 y)) := by
  have hn := h.ne
  have h1 := (cell_set h.hq (.int .u64 y)).1
  rw [hh, hy] at h1
  rw [hy]
  exact ⟨h.below.setCell (p := ⟨gq, 0, none⟩) (by show w0.heap.size ≤ gq; omega) _, hn, heap_other _ h.hs (by omega), heap_other _ h.ht (by omega), heap_other _ h.h0 (by omega), heap_other _ h.h1 (by omega), h1, heap_other _ h.hr (by omega)⟩
theorem OdR.setQlo (h : OdR w0 gt g0 g1 gq gr s t q r wr) (x : Nat) (y : Int) (hh : hiN q = hiN x) (hy : y = loN x) : OdR w0 gt g0 g1 gq gr s t x r (wr.setCell ⟨gq, 1, none⟩ (.int .u64 y)) := by
  have hn := h.ne
  have h1 := (cell_set h.hq (.int .u64 y)).2
  rw [hh, hy] at h1
  rw [hy]
  exact ⟨h.below.setCell (p := ⟨gq, 1, none⟩) (by show w0.heap.size ≤ gq; omega) _, hn, heap_other _ h.hs (by omega), heap_other _ h.ht (by omega), heap_other _ h.h0 (by omega), heap_other _ h.h1 (by omega), h1, heap_other _ h.hr (by omega)⟩
end
theorem OdR.made (w : World) (s t : Nat) : OdR w (w.heap.size + 1) (w.heap.size + 1 + 1) (w.heap.size + 1 + 1 + 1) (w.heap.size + 1 + 1 + 1 + 1) (w.heap.size + 1 + 1 + 1 + 1 + 1) s t 0 0
    ((((((w.alloc (.cells #[.int .u64 (hiN s), .int .u64 (loN s)] 59)).alloc (.cells #[.int .u64 (hiN t), .int .u64 (loN t)] 59)).alloc (.cells #[.int .u64 0, .int .u64 0] 59)).alloc (.cells #[.int .u64 0, .int .u64 0] 59)).alloc (.cells #[.int .u64 0, .int .u64 0] 59)).alloc (.cells #[.int .u64 0, .int .u64 0] 59)) := by
  have hz : ∀ (w : World) (o : Obj), (w.alloc o).heap.size = w.heap.size + 1 := fun w o => by simp
  have b2 := below_two w (.cells #[.int .u64 (hiN s), .int .u64 (loN s)] 59) (.cells #[.int .u64 (hiN t), .int .u64 (loN t)] 59)
  have b3 := b2.alloc b2.size (.cells #[.int .u64 0, .int .u64 0] 59)
  have b4 := b3.alloc b3.size (.cells #[.int .u64 0, .int .u64 0] 59)
  have b5 := b4.alloc b4.size (.cells #[.int .u64 0, .int .u64 0] 59)
  have b6 := b5.alloc b5.size (.cells #[.int .u64 0, .int .u64 0] 59)
  refine ⟨b6, by omega, ?_, ?_, ?_, ?_, ?_, ?_⟩
  · iterate 5 rw [heap_alloc_old _ _ (by simp only [hz]; omega)]
    exact heap_alloc_new _ _
  · iterate 4 rw [heap_alloc_old _ _ (by simp only [hz]; omega)]
    rw [← hz w (.cells #[.int .u64 (hiN s), .int .u64 (loN s)] 59)]
    exact heap_alloc_new _ _
  · iterate 3 rw [heap_alloc_old _ _ (by simp only [hz]; omega)]
    have h := heap_alloc_new ((w.alloc (.cells #[.int .u64 (hiN s), .int .u64 (loN s)] 59)).alloc (.cells #[.int .u64 (hiN t), .int .u64 (loN t)] 59)) (.cells #[.int .u64 0, .int .u64 0] 59)
    simp only [hz] at h
    exact h
  · iterate 2 rw [heap_alloc_old _ _ (by simp only [hz]; omega)]
    have h := heap_alloc_new (((w.alloc (.cells #[.int .u64 (hiN s), .int .u64 (loN s)] 59)).alloc (.cells #[.int .u64 (hiN t), .int .u64 (loN t)] 59)).alloc (.cells #[.int .u64 0, .int .u64 0] 59)) (.cells #[.int .u64 0, .int .u64 0] 59)
    simp only [hz] at h
    exact h
  · rw [heap_alloc_old _ _ (by simp only [hz]; omega)]
    have h := heap_alloc_new ((((w.alloc (.cells #[.int .u64 (hiN s), .int .u64 (loN s)] 59)).alloc (.cells #[.int .u64 (hiN t), .int .u64 (loN t)] 59)).alloc (.cells #[.int .u64 0, .int .u64 0] 59)).alloc (.cells #[.int .u64 0, .int .u64 0] 59)) (.cells #[.int .u64 0, .int .u64 0] 59)
    simp only [hz] at h
    exact h
  · have h := heap_alloc_new (((((w.alloc (.cells #[.int .u64 (hiN s), .int .u64 (loN s)] 59)).alloc (.cells #[.int .u64 (hiN t), .int .u64 (loN t)] 59)).alloc (.cells #[.int .u64 0, .int .u64 0] 59)).alloc (.cells #[.int .u64 0, .int .u64 0] 59)).alloc (.cells #[.int .u64 0, .int .u64 0] 59)) (.cells #[.int .u64 0, .int .u64 0] 59)
    simp only [hz] at h
    exact h

end Go.Proofs.YtmgdhlcgbgpgpaaDoor

/- Division of numbers of two words, as the document does it. -/
namespace Go.Proofs.YtmgdhlcgbgpgpaaDoor
open Go Go.RowKit
set_option linter.unusedVariables false
set_option linter.unusedSimpArgs false

def dvQ (s t j : Nat) : Nat := s / 2 ^ j / t
theorem dv_start (s t : Nat) (h : s < 340282366920938463463374607431768211456) : dvQ s t 128 = 0 ∧ ovR s t 128 = 0 := by
  have e : s / 2 ^ 128 = 0 := Nat.div_eq_of_lt (by simpa using h)
  unfold dvQ ovR
  rw [e]
  simp
theorem dv_end (s t : Nat) : dvQ s t 0 = s / t ∧ ovR s t 0 = s % t := by unfold dvQ ovR; simp
theorem dv_le (s t j : Nat) : dvQ s t j ≤ s := Nat.le_trans (Nat.div_le_self _ _) (Nat.div_le_self _ _)
theorem dv_step (s t i : Nat) (ht : 0 < t) :
    (2 * ovR s t (i + 1) + bitN s i < t → ovR s t i = 2 * ovR s t (i + 1) + bitN s i ∧ dvQ s t i = 2 * dvQ s t (i + 1)) ∧
    (¬ 2 * ovR s t (i + 1) + bitN s i < t → ovR s t i = 2 * ovR s t (i + 1) + bitN s i - t ∧ dvQ s t i = 2 * dvQ s t (i + 1) + 1) := rem_step s t i ht
theorem or_one (r : Nat) : bits .or .u64 (loN (2 * r)) 1 = loN (2 * r + 1) ∧ hiN (2 * r) = hiN (2 * r + 1) := low_bit r 1 (by decide)
theorem OdR.setQ {w0 wr : World} {gt g0 g1 gq gr s t q r : Nat} (h : OdR w0 gt g0 g1 gq gr s t q r wr) (x : Nat) : OdR w0 gt g0 g1 gq gr s t x r (wr.setRow gq #[.int .u64 (hiN x), .int .u64 (loN x)]) := by
  have hn := h.ne
  exact ⟨below_row h.below (by omega) _, hn, row_other _ h.hs (by omega), row_other _ h.ht (by omega), row_other _ h.h0 (by omega), row_other _ h.h1 (by omega), setRow_heap _ _ _ _ _ _ h.hq, row_other _ h.hr (by omega)⟩

set_option maxRecDepth 100000 in
set_option maxHeartbeats 4000000 in
theorem divide_any (s t : Nat) (hs : s < 340282366920938463463374607431768211456) (ht0 : 0 < t) (ht : t ≤ 170141183460469231731687303715884105728) (w : World) :
    Calls Tryd.prog 74 #[szV s, szV t] w fun e w' => e = .returned (.tuple #[szV (s / t), szV (s % t)]) ∧ Below w.heap.size w w' := by
  have HE := Lib.hid (dv_end s t)
  obtain ⟨q0, r0⟩ := dv_start s t hs
  have HQ := Lib.hid q0
  have HR := Lib.hid r0
  have HS := Lib.hid hs
  clear q0 r0
  unfold szV
  go_enter Tryd.func74, Tryd.ntmps74
  go_upto_region 2 with fail
  have HO := Lib.hid (OdR.made w s t)
  generalize ((((((w.alloc (.cells #[.int .u64 (hiN s), .int .u64 (loN s)] 59)).alloc (.cells #[.int .u64 (hiN t), .int .u64 (loN t)] 59)).alloc (.cells #[.int .u64 0, .int .u64 0] 59)).alloc (.cells #[.int .u64 0, .int .u64 0] 59)).alloc (.cells #[.int .u64 0, .int .u64 0] 59)).alloc (.cells #[.int .u64 0, .int .u64 0] 59)) = w1 at *
  obtain ⟨gr, hgr⟩ : ∃ g, g = w.heap.size + 1 + 1 + 1 + 1 + 1 := ⟨_, rfl⟩
  rw [← hgr] at HO ⊢
  obtain ⟨gq, hgq⟩ : ∃ g, g = w.heap.size + 1 + 1 + 1 + 1 := ⟨_, rfl⟩
  rw [← hgq] at HO ⊢
  obtain ⟨g1, hg1⟩ : ∃ g, g = w.heap.size + 1 + 1 + 1 := ⟨_, rfl⟩
  rw [← hg1] at HO ⊢
  obtain ⟨g0, hg0⟩ : ∃ g, g = w.heap.size + 1 + 1 := ⟨_, rfl⟩
  rw [← hg0] at HO ⊢
  obtain ⟨gt, hgt⟩ : ∃ g, g = w.heap.size + 1 := ⟨_, rfl⟩
  rw [← hgt] at HO ⊢
  clear hgr hgq hg1 hg0 hgt
  go_wp2
  go_loopg [8] 128 (fun g v wr => ∃ j : Nat, v = .int .i64 ((j : Int) - 1) ∧ Hid (OdR w gt g0 g1 gq gr s t (dvQ s t j) (ovR s t j) wr) ∧ Hid (j ≤ 128 ∧ g = j))
  case atStart => exact ⟨128, by simp, by rw [HQ.out, HR.out]; exact HO.out, by omega, rfl⟩
  case round =>
    obtain ⟨j, rfl, HV, HJ⟩ := hrel
    by_cases hj : 0 < j
    · obtain ⟨i, rfl⟩ : ∃ i, j = i + 1 := ⟨j - 1, by omega⟩
      have hji : 0 ≤ ((i + 1 : Nat) : Int) - 1 := by omega
      rw [show ((i + 1 : Nat) : Int) - 1 = (i : Int) by omega] at hji ⊢
      have hi127 : i < 128 := by have := HJ.out.1; omega
      have hrt : ovR s t (i + 1) < t := Nat.mod_lt _ ht0
      obtain ⟨hst1, hst2⟩ := dv_step s t i ht0
      have hqle := dv_le s t i
      obtain ⟨r, hr⟩ : ∃ r, r = ovR s t (i + 1) := ⟨_, rfl⟩
      obtain ⟨q, hq⟩ : ∃ q, q = dvQ s t (i + 1) := ⟨_, rfl⟩
      rw [← hr] at HV hrt hst1 hst2
      rw [← hq] at HV hst1 hst2
      have hb2 : bitN s i < 2 := Nat.mod_lt _ (by omega)
      have hq2 : q < 170141183460469231731687303715884105728 := by
        by_cases hc : 2 * r + bitN s i < t
        · have := (hst1 hc).2; omega
        · have := (hst2 hc).2; omega
      have HST := Lib.hid (And.intro hst1 hst2)
      clear hst1 hst2 hr hq hqle
      obtain ⟨lb1, lb2⟩ := low_bit r (bitN s i) hb2
      have e1 := shl_hi r (by omega)
      have e2 : IntKind.u64.wrap (hiN r * 2) = hiN r * 2 := by rw [IntKind.wrap_u64]; unfold hiN; omega
      have e3 : IntKind.u64.wrap (loN r * 2) = loN (2 * r) := by rw [IntKind.wrap_u64]; exact shl_lo r
      have f1 := shl_hi q hq2
      have f2 : IntKind.u64.wrap (hiN q * 2) = hiN q * 2 := by rw [IntKind.wrap_u64]; unfold hiN; omega
      have f3 : IntKind.u64.wrap (loN q * 2) = loN (2 * q) := by rw [IntKind.wrap_u64]; exact shl_lo q
      have et : hiN r / 9223372036854775808 = 0 := by unfold hiN; omega
      have HLB := Lib.hid lb2
      obtain ⟨k1, k2, _, _⟩ := cell_two HV.out.hs
      obtain ⟨k3, k4, _, _⟩ := cell_two HV.out.hr
      obtain ⟨k5, k6, _, _⟩ := cell_two HV.out.hq
      by_cases h64 : 64 ≤ i
      · have dd : decide (64 ≤ (i : Int)) = true := decide_eq_true (by omega)
        have dm : 64 ≤ (i : Int) := by omega
        have tm : (i : Int).tmod 64 = (i : Int) - 64 := by rw [Int.tmod_eq_emod_of_nonneg (by omega)]; omega
        have pu : IntKind.u64.wrap ((i : Int) - 64) = (i : Int) - 64 := by rw [IntKind.wrap_u64]; omega
        have pn : ((i : Int) - 64).toNat = i - 64 := by omega
        have pw : IntKind.i64.wrap ((i : Int) - 64) = (i : Int) - 64 := IntWalk.i64_in _ (by omega)
        have pa : 0 ≤ (i : Int) - 64 := by omega
        have pb : (i : Int) - 64 ≤ 64 := by omega
        have eb := bit_hi_word s i h64 hs
        go_upto_region 10 with ((refine wpList_store_row rfl 59 _ _ rfl gr _ rfl rfl 59 _ HV.out.hr (by kernel_rfl) rfl (by kernel_rfl) ?_))
        have HV2 := Lib.hid (HV.out.setR (2 * r + bitN s i))

        generalize wr.setRow gr #[.int .u64 (hiN (2 * r + bitN s i)), .int .u64 (loN (2 * r + bitN s i))] = w2 at *
        clear k1 k2 k3 k4 k5 k6 e1 e2 e3 lb1 lb2 HLB HV
        obtain ⟨k5, k6, _, _⟩ := cell_two HV2.out.hq
        go_upto_region 11 with ((refine wpList_store_row rfl 59 _ _ rfl gq _ rfl rfl 59 _ HV2.out.hq (by kernel_rfl) rfl (by kernel_rfl) ?_))
        have HV3 := Lib.hid (HV2.out.setQ (2 * q))
        generalize w2.setRow gq #[.int .u64 (hiN (2 * q)), .int .u64 (loN (2 * q))] = w3 at *
        clear k5 k6 f1 f2 f3 HV2
        obtain ⟨R, hR⟩ : ∃ R, R = 2 * r + bitN s i := ⟨_, rfl⟩
        rw [← hR] at HV3 HST
        have hR2 : R < 340282366920938463463374607431768211456 := by omega
        clear hR
        obtain ⟨c1, c2, _, _⟩ := cell_two HV3.out.hr
        obtain ⟨c3, c4, _, _⟩ := cell_two HV3.out.ht
        go_wp2_with fail
        refine (dbelow_any R t _).mono ?_
        rintro e w4 ⟨rfl, hb⟩
        have HV4 := Lib.hid (HV3.out.step hb)
        clear hb HV3 c1 c2 c3 c4
        by_cases hlt : R < t
        · obtain ⟨n1, n2⟩ := HST.out.1 hlt
          have HV5 := Lib.hid (show OdR w gt g0 g1 gq gr s t (dvQ s t i) (ovR s t i) w4 by rw [n1, n2]; exact HV4.out)
          rw [decide_eq_true hlt]
          clear n1 n2 hlt HV4
          go_wp2_with fail
          go_roundg i
          case measure => have h := HJ.out; omega
          case rel => exact ⟨i, by go_num, HV5.out, by omega, rfl⟩
        · obtain ⟨n1, n2⟩ := HST.out.2 hlt
          have HN := Lib.hid (And.intro n1 n2)
          rw [decide_eq_false hlt]
          clear n1 n2
          go_wp2_with (first | (refine wpList_load_row rfl 59 _ rfl gr rfl 59 _ (0, 0) _ HV4.out.hr Tryd.underlying59 rfl (by kernel_rfl) ?_) | (refine wpList_load_row rfl 59 _ rfl gt rfl 59 _ (0, 0) _ HV4.out.ht Tryd.underlying59 rfl (by kernel_rfl) ?_))
          refine (dminus_any R t (by omega) hR2 _).mono ?_
          rintro e w5 ⟨rfl, hb⟩
          have HV5 := Lib.hid (HV4.out.step hb)
          clear hb HV4
          rw [show szV (R - t) = .agg #[.int .u64 (hiN (R - t)), .int .u64 (loN (R - t))] from rfl]
          go_upto_region 13 with ((refine wpList_store_row rfl 59 _ _ rfl gr _ rfl rfl 59 _ HV5.out.hr (by kernel_rfl) rfl (by kernel_rfl) ?_))
          have HV6 := Lib.hid (HV5.out.setR (R - t))
          generalize w5.setRow gr #[.int .u64 (hiN (R - t)), .int .u64 (loN (R - t))] = w6 at *
          clear HV5
          obtain ⟨sh1, sh2⟩ := or_one q
          obtain ⟨k1, k2, k3, k4⟩ := cell_two HV6.out.hq
          have HV7 := Lib.hid (HV6.out.setQlo (2 * q + 1) _ sh2 rfl)
          have HV8 := Lib.hid (show OdR w gt g0 g1 gq gr s t (dvQ s t i) (ovR s t i) _ by rw [HN.out.1, HN.out.2]; exact HV7.out)
          clear sh2 HV7 HV6 HN
          go_wp2_with fail
          go_roundg i
          case measure => have h := HJ.out; omega
          case rel => exact ⟨i, by go_num, HV8.out, by omega, rfl⟩
      · have dd : decide (64 ≤ (i : Int)) = false := decide_eq_false (by omega)
        have dm : ¬ 64 ≤ (i : Int) := by omega
        have tm : (i : Int).tmod 64 = (i : Int) := by rw [Int.tmod_eq_emod_of_nonneg (by omega)]; omega
        have pu : IntKind.u64.wrap (i : Int) = (i : Int) := by rw [IntKind.wrap_u64]; omega
        have pw : IntKind.i64.wrap (i : Int) = (i : Int) := IntWalk.i64_in _ (by omega)
        have pa : 0 ≤ (i : Int) := by omega
        have pb : (i : Int) ≤ 64 := by omega
        have eb := bit_lo_word s i (by omega)
        go_upto_region 10 with ((refine wpList_store_row rfl 59 _ _ rfl gr _ rfl rfl 59 _ HV.out.hr (by kernel_rfl) rfl (by kernel_rfl) ?_))
        have HV2 := Lib.hid (HV.out.setR (2 * r + bitN s i))

        generalize wr.setRow gr #[.int .u64 (hiN (2 * r + bitN s i)), .int .u64 (loN (2 * r + bitN s i))] = w2 at *
        clear k1 k2 k3 k4 k5 k6 e1 e2 e3 lb1 lb2 HLB HV
        obtain ⟨k5, k6, _, _⟩ := cell_two HV2.out.hq
        go_upto_region 11 with ((refine wpList_store_row rfl 59 _ _ rfl gq _ rfl rfl 59 _ HV2.out.hq (by kernel_rfl) rfl (by kernel_rfl) ?_))
        have HV3 := Lib.hid (HV2.out.setQ (2 * q))
        generalize w2.setRow gq #[.int .u64 (hiN (2 * q)), .int .u64 (loN (2 * q))] = w3 at *
        clear k5 k6 f1 f2 f3 HV2
        obtain ⟨R, hR⟩ : ∃ R, R = 2 * r + bitN s i := ⟨_, rfl⟩
        rw [← hR] at HV3 HST
        have hR2 : R < 340282366920938463463374607431768211456 := by omega
        clear hR
        obtain ⟨c1, c2, _, _⟩ := cell_two HV3.out.hr
        obtain ⟨c3, c4, _, _⟩ := cell_two HV3.out.ht
        go_wp2_with fail
        refine (dbelow_any R t _).mono ?_
        rintro e w4 ⟨rfl, hb⟩
        have HV4 := Lib.hid (HV3.out.step hb)
        clear hb HV3 c1 c2 c3 c4
        by_cases hlt : R < t
        · obtain ⟨n1, n2⟩ := HST.out.1 hlt
          have HV5 := Lib.hid (show OdR w gt g0 g1 gq gr s t (dvQ s t i) (ovR s t i) w4 by rw [n1, n2]; exact HV4.out)
          rw [decide_eq_true hlt]
          clear n1 n2 hlt HV4
          go_wp2_with fail
          go_roundg i
          case measure => have h := HJ.out; omega
          case rel => exact ⟨i, by go_num, HV5.out, by omega, rfl⟩
        · obtain ⟨n1, n2⟩ := HST.out.2 hlt
          have HN := Lib.hid (And.intro n1 n2)
          rw [decide_eq_false hlt]
          clear n1 n2
          go_wp2_with (first | (refine wpList_load_row rfl 59 _ rfl gr rfl 59 _ (0, 0) _ HV4.out.hr Tryd.underlying59 rfl (by kernel_rfl) ?_) | (refine wpList_load_row rfl 59 _ rfl gt rfl 59 _ (0, 0) _ HV4.out.ht Tryd.underlying59 rfl (by kernel_rfl) ?_))
          refine (dminus_any R t (by omega) hR2 _).mono ?_
          rintro e w5 ⟨rfl, hb⟩
          have HV5 := Lib.hid (HV4.out.step hb)
          clear hb HV4
          rw [show szV (R - t) = .agg #[.int .u64 (hiN (R - t)), .int .u64 (loN (R - t))] from rfl]
          go_upto_region 13 with ((refine wpList_store_row rfl 59 _ _ rfl gr _ rfl rfl 59 _ HV5.out.hr (by kernel_rfl) rfl (by kernel_rfl) ?_))
          have HV6 := Lib.hid (HV5.out.setR (R - t))
          generalize w5.setRow gr #[.int .u64 (hiN (R - t)), .int .u64 (loN (R - t))] = w6 at *
          clear HV5
          obtain ⟨sh1, sh2⟩ := or_one q
          obtain ⟨k1, k2, k3, k4⟩ := cell_two HV6.out.hq
          have HV7 := Lib.hid (HV6.out.setQlo (2 * q + 1) _ sh2 rfl)
          have HV8 := Lib.hid (show OdR w gt g0 g1 gq gr s t (dvQ s t i) (ovR s t i) _ by rw [HN.out.1, HN.out.2]; exact HV7.out)
          clear sh2 HV7 HV6 HN
          go_wp2_with fail
          go_roundg i
          case measure => have h := HJ.out; omega
          case rel => exact ⟨i, by go_num, HV8.out, by omega, rfl⟩
    · obtain rfl : j = 0 := by omega
      have hji : ¬ (0 : Int) ≤ -1 := by omega
      rw [show ((0 : Nat) : Int) - 1 = -1 from rfl]
      rw [HE.out.1, HE.out.2] at HV
      go_upto_region 14 with fail
      obtain ⟨hb, hne, _, _, h0, h1, hq, hr⟩ := HV.out
      obtain ⟨q1, q2, q3, q4⟩ := cell_two hq
      obtain ⟨r1, r2, r3, r4⟩ := cell_two hr
      obtain ⟨a1, a2, a3, a4⟩ := cell_two h0
      obtain ⟨b1, b2, b3, b4⟩ := cell_two h1
      clear hq hr
      have HB := Lib.hid hb
      have H0 := Lib.hid h0
      have H1 := Lib.hid h1
      have n1 : g0 ≠ g1 := by omega
      have n2 : g0 ≠ gq := by omega
      have n3 : g0 ≠ gr := by omega
      have n4 : g1 ≠ gq := by omega
      have n5 : g1 ≠ gr := by omega
      clear hb h0 h1
      go_region
      obtain ⟨W, hW⟩ : ∃ W, W = ((((wr.setCell ⟨g0, 0, none⟩ (.int .u64 (hiN (s / t)))).setCell ⟨g0, 1, none⟩ (.int .u64 (loN (s / t)))).setCell ⟨g1, 0, none⟩ (.int .u64 (hiN (s % t)))).setCell ⟨g1, 1, none⟩ (.int .u64 (loN (s % t)))).drew := ⟨_, rfl⟩
      rw [← hW]
      have f0 : W.heap[g0]? = some (.cells #[.int .u64 (hiN (s / t)), .int .u64 (loN (s / t))] 59) := by
        rw [hW]
        exact heap_other _ (heap_other _ (cell_set (cell_set H0.out (.int .u64 (hiN (s / t)))).1 (.int .u64 (loN (s / t)))).2 n1) n1
      have f1 : W.heap[g1]? = some (.cells #[.int .u64 (hiN (s % t)), .int .u64 (loN (s % t))] 59) := by
        rw [hW]
        exact (cell_set (cell_set (heap_other _ (heap_other _ H1.out (Ne.symm n1)) (Ne.symm n1)) (.int .u64 (hiN (s % t)))).1 (.int .u64 (loN (s % t)))).2
      have HF := Lib.hid (show Below w.heap.size w W by
        rw [hW]
        exact Below.drew ((((HB.out.setCell (p := ⟨g0, 0, none⟩) (by show w.heap.size ≤ g0; omega) _).setCell (p := ⟨g0, 1, none⟩) (by show w.heap.size ≤ g0; omega) _).setCell (p := ⟨g1, 0, none⟩) (by show w.heap.size ≤ g1; omega) _).setCell (p := ⟨g1, 1, none⟩) (by show w.heap.size ≤ g1; omega) _))
      have HF0 := Lib.hid f0
      have HF1 := Lib.hid f1
      clear hW q1 q2 q3 q4 r1 r2 r3 r4 a1 a2 a3 a4 b1 b2 b3 b4 f0 f1
      go_wp2
      refine bodyPost_ret (results_cells2 (fn := Tryd.f74) rfl _ _ g0 g1 _ _ _ _ _ _ rfl rfl HF0.out HF1.out Tryd.underlying59 rfl (by kernel_rfl) (by kernel_rfl)) rfl ?_
      exact ⟨rfl, HF.out⟩

end Go.Proofs.YtmgdhlcgbgpgpaaDoor

/- The greatest divisor, and the fraction of a sign and two sizes, as the document makes them. -/
namespace Go.Proofs.YtmgdhlcgbgpgpaaDoor
open Go Go.RowKit
set_option linter.unusedVariables false
set_option linter.unusedSimpArgs false

set_option maxRecDepth 100000 in
set_option maxHeartbeats 4000000 in
theorem dcommon_any (a b : Nat) (ha : a ≤ 170141183460469231731687303715884105728) (hb : b ≤ 170141183460469231731687303715884105728) (w : World) :
    Calls Tryd.prog 50 #[szV a, szV b] w fun e w' => e = .returned (szV (Nat.gcd a b)) ∧ Below w.heap.size w w' := by
  obtain ⟨G, hG⟩ : ∃ G, G = Nat.gcd a b := ⟨_, rfl⟩
  rw [← hG]
  have HG := Lib.hid hG
  have HA := Lib.hid (And.intro ha hb)
  clear ha hb hG
  unfold szV
  go_enter Tryd.func50, Tryd.ntmps50
  go_upto_block 0 with fail
  have HO := Lib.hid (CmR.made 59 w a b)
  generalize (((w.alloc (.cells #[.int .u64 (hiN a), .int .u64 (loN a)] 59)).alloc (.cells #[.int .u64 (hiN b), .int .u64 (loN b)] 59)).alloc (.cells #[.int .u64 0, .int .u64 0] 59)) = w1 at *
  obtain ⟨g0, hg0⟩ : ∃ g, g = w.heap.size + 1 + 1 := ⟨_, rfl⟩
  rw [← hg0] at HO ⊢
  obtain ⟨gb, hgb⟩ : ∃ g, g = w.heap.size + 1 := ⟨_, rfl⟩
  rw [← hgb] at HO ⊢
  clear hg0 hgb
  go_wp2
  go_loopg [5] b (fun g v wr => ∃ x y : Nat, Hid (CmR 59 w gb g0 x y wr) ∧ Hid (g = y ∧ G = Nat.gcd x y ∧ x ≤ 170141183460469231731687303715884105728 ∧ y ≤ 170141183460469231731687303715884105728))
  case atStart => exact ⟨a, b, HO.out, rfl, HG.out, HA.out.1, HA.out.2⟩
  case round =>
    obtain ⟨x, y, HV, HP⟩ := hrel
    by_cases hy : y = 0
    · have e1 : (hiN y == 0) = true := by rw [hy]; rfl
      have e2 : (loN y == 0) = true := by rw [hy]; rfl
      have h := HP.out.2.1
      rw [hy, Nat.gcd_zero_right] at h
      subst h
      clear hy
      go_wp2_with (first | (refine wpList_load_row rfl 59 _ rfl w.heap.size rfl 59 _ (0, 0) _ HV.out.ha Tryd.underlying59 rfl (by kernel_rfl) ?_) | (refine wpList_load_row rfl 59 _ rfl gb rfl 59 _ (0, 0) _ HV.out.hb Tryd.underlying59 rfl (by kernel_rfl) ?_) | (refine wpList_store_row rfl 59 _ _ rfl g0 _ rfl rfl 59 _ HV.out.h0 (by kernel_rfl) rfl (by kernel_rfl) ?_))
      refine bodyPost_ret (results_cell_row (fn := Tryd.f50) rfl _ _ g0 _ _ _ _ rfl (setRow_heap _ _ _ _ _ _ HV.out.h0) Tryd.underlying59 rfl (by kernel_rfl)) rfl ?_
      exact ⟨rfl, below_row HV.out.below (by have := HV.out.ne; omega) _⟩
    · have e0 : ((hiN y == 0) && (loN y == 0)) = false := by
        rw [Bool.eq_false_iff]; intro h
        rw [Bool.and_eq_true] at h
        exact hy (hilo_zero.1 ⟨by simpa using h.1, by simpa using h.2⟩)
      cases e1 : (hiN y == 0) with
      | true =>
        have e2 : (loN y == 0) = false := by rw [e1, Bool.true_and] at e0; exact e0
        clear e0
        go_wp2_with (first | (refine wpList_load_row rfl 59 _ rfl w.heap.size rfl 59 _ (0, 0) _ HV.out.ha Tryd.underlying59 rfl (by kernel_rfl) ?_) | (refine wpList_load_row rfl 59 _ rfl gb rfl 59 _ (0, 0) _ HV.out.hb Tryd.underlying59 rfl (by kernel_rfl) ?_))
        refine (divide_any x y (by have h := HP.out; omega) (by omega) (by have h := HP.out; omega) _).mono ?_
        rintro e w3 ⟨rfl, hb2⟩
        have HV3 := Lib.hid (HV.out.step hb2)
        clear hb2 HV
        rw [show szV (x / y) = .agg #[.int .u64 (hiN (x / y)), .int .u64 (loN (x / y))] from rfl, show szV (x % y) = .agg #[.int .u64 (hiN (x % y)), .int .u64 (loN (x % y))] from rfl]
        have HZ := Lib.hid (two_fresh w3 59)
        go_upto_region 3 with (first | (refine wpList_store_row rfl 59 _ _ rfl w3.heap.size _ rfl rfl 59 _ HZ.out.1 (by kernel_rfl) rfl (by kernel_rfl) ?_) | (refine wpList_store_row rfl 59 _ _ rfl (w3.heap.size + 1) _ rfl rfl 59 _ (second_fresh _ HZ.out.2) (by kernel_rfl) rfl (by kernel_rfl) ?_))
        obtain ⟨pb, p1, p2⟩ := pair_stored w3 59 (x / y) (x % y)
        have HV4 := Lib.hid (HV3.out.step pb)
        have HR := Lib.hid p2
        have hlt : gb < w3.heap.size := HV3.out.hb.lt
        have hla : w.heap.size < w3.heap.size := HV3.out.ha.lt
        clear pb p1 p2 HZ HV3
        generalize (((w3.alloc (.cells #[.int .u64 0, .int .u64 0] 59)).alloc (.cells #[.int .u64 0, .int .u64 0] 59)).setRow w3.heap.size #[.int .u64 (hiN (x / y)), .int .u64 (loN (x / y))]).setRow (w3.heap.size + 1) #[.int .u64 (hiN (x % y)), .int .u64 (loN (x % y))] = w4 at *
        obtain ⟨gr, hgr⟩ : ∃ g, g = w3.heap.size + 1 := ⟨_, rfl⟩
        rw [← hgr] at HR ⊢
        have hgr2 : w.heap.size < gr ∧ gb < gr := by omega
        have HV5 := Lib.hid (HV4.out.setA y)
        have HR5 := Lib.hid (show Blk 59 gr (x % y) _ from row_other #[.int .u64 (hiN y), .int .u64 (loN y)] HR.out (show gr ≠ w.heap.size by omega))
        have HV6 := Lib.hid (HV5.out.setB (x % y))
        have HQ := Lib.hid (show G = Nat.gcd y (x % y) ∧ x % y < y from ⟨by rw [HP.out.2.1, Nat.gcd_comm x y, Nat.gcd_rec y x, Nat.gcd_comm], Nat.mod_lt _ (by omega)⟩)
        clear hgr hlt hla hgr2
        go_upto_region 4 with (first | (refine wpList_load_row rfl 59 _ rfl gb rfl 59 _ (0, 0) _ HV4.out.hb Tryd.underlying59 rfl (by kernel_rfl) ?_) | (refine wpList_store_row rfl 59 _ _ rfl w.heap.size _ rfl rfl 59 _ HV4.out.ha (by kernel_rfl) rfl (by kernel_rfl) ?_))
        go_wp2_with (first | (refine wpList_load_row rfl 59 _ rfl gr rfl 59 _ (0, 0) _ HR5.out Tryd.underlying59 rfl (by kernel_rfl) ?_) | (refine wpList_store_row rfl 59 _ _ rfl gb _ rfl rfl 59 _ HV5.out.hb (by kernel_rfl) rfl (by kernel_rfl) ?_))
        go_roundg (x % y)
        case measure => have h := HP.out; have h2 := HQ.out; omega
        case rel => exact ⟨y, x % y, HV6.out, rfl, HQ.out.1, by have h := HP.out; omega, by have h := HP.out; have h2 := HQ.out; omega⟩
      | false =>
        clear e0
        go_wp2_with (first | (refine wpList_load_row rfl 59 _ rfl w.heap.size rfl 59 _ (0, 0) _ HV.out.ha Tryd.underlying59 rfl (by kernel_rfl) ?_) | (refine wpList_load_row rfl 59 _ rfl gb rfl 59 _ (0, 0) _ HV.out.hb Tryd.underlying59 rfl (by kernel_rfl) ?_))
        refine (divide_any x y (by have h := HP.out; omega) (by omega) (by have h := HP.out; omega) _).mono ?_
        rintro e w3 ⟨rfl, hb2⟩
        have HV3 := Lib.hid (HV.out.step hb2)
        clear hb2 HV
        rw [show szV (x / y) = .agg #[.int .u64 (hiN (x / y)), .int .u64 (loN (x / y))] from rfl, show szV (x % y) = .agg #[.int .u64 (hiN (x % y)), .int .u64 (loN (x % y))] from rfl]
        have HZ := Lib.hid (two_fresh w3 59)
        go_upto_region 3 with (first | (refine wpList_store_row rfl 59 _ _ rfl w3.heap.size _ rfl rfl 59 _ HZ.out.1 (by kernel_rfl) rfl (by kernel_rfl) ?_) | (refine wpList_store_row rfl 59 _ _ rfl (w3.heap.size + 1) _ rfl rfl 59 _ (second_fresh _ HZ.out.2) (by kernel_rfl) rfl (by kernel_rfl) ?_))
        obtain ⟨pb, p1, p2⟩ := pair_stored w3 59 (x / y) (x % y)
        have HV4 := Lib.hid (HV3.out.step pb)
        have HR := Lib.hid p2
        have hlt : gb < w3.heap.size := HV3.out.hb.lt
        have hla : w.heap.size < w3.heap.size := HV3.out.ha.lt
        clear pb p1 p2 HZ HV3
        generalize (((w3.alloc (.cells #[.int .u64 0, .int .u64 0] 59)).alloc (.cells #[.int .u64 0, .int .u64 0] 59)).setRow w3.heap.size #[.int .u64 (hiN (x / y)), .int .u64 (loN (x / y))]).setRow (w3.heap.size + 1) #[.int .u64 (hiN (x % y)), .int .u64 (loN (x % y))] = w4 at *
        obtain ⟨gr, hgr⟩ : ∃ g, g = w3.heap.size + 1 := ⟨_, rfl⟩
        rw [← hgr] at HR ⊢
        have hgr2 : w.heap.size < gr ∧ gb < gr := by omega
        have HV5 := Lib.hid (HV4.out.setA y)
        have HR5 := Lib.hid (show Blk 59 gr (x % y) _ from row_other #[.int .u64 (hiN y), .int .u64 (loN y)] HR.out (show gr ≠ w.heap.size by omega))
        have HV6 := Lib.hid (HV5.out.setB (x % y))
        have HQ := Lib.hid (show G = Nat.gcd y (x % y) ∧ x % y < y from ⟨by rw [HP.out.2.1, Nat.gcd_comm x y, Nat.gcd_rec y x, Nat.gcd_comm], Nat.mod_lt _ (by omega)⟩)
        clear hgr hlt hla hgr2
        go_upto_region 4 with (first | (refine wpList_load_row rfl 59 _ rfl gb rfl 59 _ (0, 0) _ HV4.out.hb Tryd.underlying59 rfl (by kernel_rfl) ?_) | (refine wpList_store_row rfl 59 _ _ rfl w.heap.size _ rfl rfl 59 _ HV4.out.ha (by kernel_rfl) rfl (by kernel_rfl) ?_))
        go_wp2_with (first | (refine wpList_load_row rfl 59 _ rfl gr rfl 59 _ (0, 0) _ HR5.out Tryd.underlying59 rfl (by kernel_rfl) ?_) | (refine wpList_store_row rfl 59 _ _ rfl gb _ rfl rfl 59 _ HV5.out.hb (by kernel_rfl) rfl (by kernel_rfl) ?_))
        go_roundg (x % y)
        case measure => have h := HP.out; have h2 := HQ.out; omega
        case rel => exact ⟨y, x % y, HV6.out, rfl, HQ.out.1, by have h := HP.out; omega, by have h := HP.out; have h2 := HQ.out; omega⟩

end Go.Proofs.YtmgdhlcgbgpgpaaDoor

/- Whether a fraction is right, as the document tells it. -/
namespace Go.Proofs.YtmgdhlcgbgpgpaaDoor
open Go Go.RowKit
set_option linter.unusedVariables false
set_option linter.unusedSimpArgs false

set_option maxRecDepth 100000 in
set_option maxHeartbeats 4000000 in
theorem dright_any (x y : Int) (hx : I64 x) (hy : I64 y) (w : World) : Calls Tryd.prog 18 #[.agg #[.int .i64 x, .int .i64 y]] w fun e w' => e = .returned (.bool (rightR (x, y))) ∧ Below w.heap.size w w' := by
  have H1 := Lib.hid (heap_alloc_new w (.cells #[.int .i64 x, .int .i64 y] 23))
  have HB := Lib.hid (below_one w (.cells #[.int .i64 x, .int .i64 y] 23))
  by_cases h : 0 < y
  · have d1 : decide (0 < y) = true := decide_eq_true h
    have ax := abs64 hx
    have ay := abs64 hy
    have HS := Lib.hid (fun W => dsize_any x hx.1 hx.2 W)
    have HC := Lib.hid (fun W => dcommon_any x.natAbs y.natAbs (by omega) (by omega) W)
    have hG : Nat.gcd x.natAbs y.natAbs ≤ y.natAbs := Nat.le_of_dvd (by omega) (Nat.gcd_dvd_right _ _)
    have hyw : IntKind.u64.wrap y = (y.natAbs : Int) := by rw [IntKind.wrap_u64]; obtain ⟨_, _⟩ := hy; omega
    have hR : rightR (x, y) = true ↔ Nat.gcd x.natAbs y.natAbs = 1 := ⟨fun h' => (of_decide_eq_true h').2, fun h' => decide_eq_true ⟨h, h'⟩⟩
    obtain ⟨G, hg⟩ : ∃ G, G = Nat.gcd x.natAbs y.natAbs := ⟨_, rfl⟩
    rw [← hg] at HC hG hR
    have HC : Hid (∀ W, Calls Tryd.prog 50 #[.agg #[.int .u64 (hiN x.natAbs), .int .u64 (loN x.natAbs)], .agg #[.int .u64 (hiN y.natAbs), .int .u64 (loN y.natAbs)]] W fun e w' => e = .returned (.agg #[.int .u64 (hiN G), .int .u64 (loN G)]) ∧ Below W.heap.size W w') := HC
    rw [small_hi (show x.natAbs < 18446744073709551616 by omega), small_lo (show x.natAbs < 18446744073709551616 by omega), small_hi (show y.natAbs < 18446744073709551616 by omega), small_lo (show y.natAbs < 18446744073709551616 by omega), small_hi (show G < 18446744073709551616 by omega), small_lo (show G < 18446744073709551616 by omega)] at HC
    obtain ⟨R, hR2⟩ : ∃ R, R = rightR (x, y) := ⟨_, rfl⟩
    rw [← hR2] at hR ⊢
    have HR := Lib.hid hR
    clear hR2 hR hg hG h ax ay
    obtain ⟨mx, hmx⟩ : ∃ m, m = x.natAbs := ⟨_, rfl⟩
    obtain ⟨my, hmy⟩ : ∃ m, m = y.natAbs := ⟨_, rfl⟩
    rw [← hmx] at HS HC
    rw [← hmy] at HC hyw
    clear hmx hmy hx hy
    have hgr : ((G : Int) == 1) = R := by
      rw [Bool.eq_iff_iff, HR.out]
      simp
      omega
    clear HR
    go_enter Tryd.func18, Tryd.ntmps18
    go_upto_region 1 with fail
    generalize w.alloc (.cells #[.int .i64 x, .int .i64 y] 23) = w1 at *
    have kh : Below w.heap.size w w1.drew ∧ w1.drew.heap[w.heap.size]? = some (.cells #[.int .i64 x, .int .i64 y] 23) := ⟨Below.drew HB.out, H1.out⟩
    cases R with
    | true =>
      go_region_held3 (fun wr => wr.cell? ⟨w.heap.size, 0, none⟩ = some (.int .i64 x) ∧ wr.cell? ⟨w.heap.size, 1, none⟩ = some (.int .i64 y))
        (first | exact ⟨(cell_two kh.2).1, (cell_two kh.2).2.1⟩ | go_keep)
        (first | (go_at_call 49; refine (HS.out _).mono ?_; rintro e v1 ⟨rfl, rfl⟩) | (go_at_call 50; refine (HC.out _).mono ?_; rintro e v2 ⟨rfl, hb⟩; have kh := And.intro (kh.1.trans (hb.mono kh.1.size)) (heap_keep kh.2 hb); clear hb))
      go_wp2
      go_ret
      exact ⟨rfl, kh.1⟩
    | false =>
      go_region_held3 (fun wr => wr.cell? ⟨w.heap.size, 0, none⟩ = some (.int .i64 x) ∧ wr.cell? ⟨w.heap.size, 1, none⟩ = some (.int .i64 y))
        (first | exact ⟨(cell_two kh.2).1, (cell_two kh.2).2.1⟩ | go_keep)
        (first | (go_at_call 49; refine (HS.out _).mono ?_; rintro e v1 ⟨rfl, rfl⟩) | (go_at_call 50; refine (HC.out _).mono ?_; rintro e v2 ⟨rfl, hb⟩; have kh := And.intro (kh.1.trans (hb.mono kh.1.size)) (heap_keep kh.2 hb); clear hb))
      go_wp2
      go_ret
      exact ⟨rfl, kh.1⟩
  · have d1 : decide (0 < y) = false := decide_eq_false h
    have hR : rightR (x, y) = false := decide_eq_false (fun h' => h h'.1)
    rw [hR]
    clear hR h
    go_enter Tryd.func18, Tryd.ntmps18
    go_upto_region 1 with fail
    generalize w.alloc (.cells #[.int .i64 x, .int .i64 y] 23) = w1 at *
    obtain ⟨k1, k2, _, _⟩ := cell_two H1.out
    go_quiet (fail)
    go_wp2
    go_ret
    exact ⟨rfl, belowN HB.out _⟩

end Go.Proofs.YtmgdhlcgbgpgpaaDoor

/- RatOrders: of three right fractions the order is one; a is below b just if a less b is below 0. -/
namespace Go.Proofs.YtmgdhlcgbgpgpaaDoor
open Go Go.RowKit
set_option linter.unusedVariables false
set_option linter.unusedSimpArgs false

theorem held_of {r : Int × Int} (h : rightR r = true) (h1 : I64 r.1) (h2 : I64 r.2) : Held r := ⟨h, fits_of h1, h2.2⟩
/-- What RatOrders asks of three right fractions, in numbers. -/
theorem orders_cases {a b c d : Int × Int} {x y z e : Int} (ha : Held a) (hb : Held b) (hc : Held c) (hx : x = cmpP a b) (hy : y = cmpP b c) (hz : z = cmpP a c) (hd : (d, e) = subP a b) :
    ((x = 0 ∧ a.1 = b.1 ∧ a.2 = b.2) ∨ (x = 1 ∧ ((a.1 == b.1) = false ∨ ((a.1 == b.1) = true ∧ (a.2 == b.2) = false))) ∨ (x = -1 ∧ ((a.1 == b.1) = false ∨ ((a.1 == b.1) = true ∧ (a.2 == b.2) = false)))) ∧
    (x = 1 ∨ y = 1 ∨ (x = 0 ∧ y = 0 ∧ z = 0) ∨ (x = 0 ∧ y = -1 ∧ z = -1) ∨ (x = -1 ∧ y = 0 ∧ z = -1) ∨ (x = -1 ∧ y = -1 ∧ z = -1)) ∧
    (¬ e = 0 ∨ (e = 0 ∧ decide (d.1 < 0) = decide (x < 0) ∧ (d.1 == 0) = decide (x = 0))) := by
  have h3 := cmp_three a b
  have h4 := cmp_three b c
  have h5 := cmp_three a c
  have h6 := orders_law ha hb hc
  have h0 := cmp_zero ha hb
  rw [← hx] at h3 h6 h0
  rw [← hy] at h4 h6
  rw [← hz] at h5 h6
  have hne : x ≠ 0 → ((a.1 == b.1) = false ∨ ((a.1 == b.1) = true ∧ (a.2 == b.2) = false)) := fun h => by
    by_cases h1 : a.1 = b.1
    · refine .inr ⟨by simp [h1], ?_⟩
      have : a.2 ≠ b.2 := fun h2 => h (h0.2 (Prod.ext h1 h2))
      simp [this]
    · exact .inl (by simp [h1])
  refine ⟨?_, by omega, ?_⟩
  · rcases h3 with h | h | h
    · exact .inr (.inr ⟨h, hne (by omega)⟩)
    · have := h0.1 h
      exact .inl ⟨h, by rw [this], by rw [this]⟩
    · exact .inr (.inl ⟨h, hne (by omega)⟩)
  · by_cases he : e = 0
    · obtain ⟨l1, l2⟩ := less_law ha hb (by rw [← hd]; exact he)
      rw [← hd, ← hx] at l1 l2
      refine .inr ⟨he, ?_, ?_⟩
      · exact decide_eq_decide.2 l1
      · by_cases h : d.1 = 0
        · rw [decide_eq_true (l2.1 h)]; simp [h]
        · rw [decide_eq_false (fun hx => h (l2.2 hx))]; simp [h]
    · exact .inl he

set_option maxRecDepth 100000 in
set_option maxHeartbeats 32000000 in
theorem orders_any (x1 x2 y1 y2 z1 z2 : Int) (w : World) (hx1 : I64 x1) (hx2 : I64 x2) (hy1 : I64 y1) (hy2 : I64 y2) (hz1 : I64 z1) (hz2 : I64 z2) (ht : TabQ w) :
    Calls Tryd.prog 5 #[.agg #[.int .i64 x1, .int .i64 x2], .agg #[.int .i64 y1, .int .i64 y2], .agg #[.int .i64 z1, .int .i64 z2]] w fun e w' => e = .returned (.bool true) ∧ Below w.heap.size w w' := by
  have HRA := Lib.hid (fun W => right_any x1 x2 hx1 hx2 W)
  have HRB := Lib.hid (fun W => right_any y1 y2 hy1 hy2 W)
  have HRC := Lib.hid (fun W => right_any z1 z2 hz1 hz2 W)
  have HDA := Lib.hid (fun W => dright_any x1 x2 hx1 hx2 W)
  have HDB := Lib.hid (fun W => dright_any y1 y2 hy1 hy2 W)
  have HDC := Lib.hid (fun W => dright_any z1 z2 hz1 hz2 W)
  have HXY := Lib.hid (fun W => compare_any x1 x2 y1 y2 hx1 hx2 hy1 hy2 W)
  have HYX := Lib.hid (fun W => compare_any y1 y2 x1 x2 hy1 hy2 hx1 hx2 W)
  have HYZ := Lib.hid (fun W => compare_any y1 y2 z1 z2 hy1 hy2 hz1 hz2 W)
  have HXZ := Lib.hid (fun W => compare_any x1 x2 z1 z2 hx1 hx2 hz1 hz2 W)
  obtain ⟨⟨⟨d1, d2⟩, ed⟩, hd⟩ : ∃ q, q = subP (x1, x2) (y1, y2) := ⟨_, rfl⟩
  have HSU : Hid (∀ W, Calls Tryd.prog 22 #[.agg #[.int .i64 x1, .int .i64 x2], .agg #[.int .i64 y1, .int .i64 y2]] W fun e w' => e = .returned (.tuple #[.agg #[.int .i64 d1, .int .i64 d2], .int .i64 ed]) ∧ Below W.heap.size W w') := Lib.hid (fun W => by have h := sub_any x1 x2 y1 y2 hx1 hx2 hy1 hy2 W; rw [← hd] at h; exact h)
  obtain ⟨x, hx⟩ : ∃ q, q = cmpP (x1, x2) (y1, y2) := ⟨_, rfl⟩
  obtain ⟨y, hy⟩ : ∃ q, q = cmpP (y1, y2) (z1, z2) := ⟨_, rfl⟩
  obtain ⟨z, hz⟩ : ∃ q, q = cmpP (x1, x2) (z1, z2) := ⟨_, rfl⟩
  have HOC := Lib.hid (fun (ha : rightR (x1, x2) = true) (hb : rightR (y1, y2) = true) (hc : rightR (z1, z2) = true) => orders_cases (held_of ha hx1 hx2) (held_of hb hy1 hy2) (held_of hc hz1 hz2) hx hy hz hd)
  rw [cmp_neg, ← hx] at HYX
  rw [← hx] at HXY
  rw [← hy] at HYZ
  rw [← hz] at HXZ
  obtain ⟨ra, hra⟩ : ∃ q, q = rightR (x1, x2) := ⟨_, rfl⟩
  obtain ⟨rb, hrb⟩ : ∃ q, q = rightR (y1, y2) := ⟨_, rfl⟩
  obtain ⟨rc, hrc⟩ : ∃ q, q = rightR (z1, z2) := ⟨_, rfl⟩
  rw [← hra] at HRA HDA HOC
  rw [← hrb] at HRB HDB HOC
  rw [← hrc] at HRC HDC HOC
  have K := Lib.hid ((RtL.start ht).three x1 x2 y1 y2 z1 z2)
  clear hx hy hz hd hra hrb hrc hx1 hx2 hy1 hy2 hz1 hz2 ht
  go_enter Tryd.func5, Tryd.ntmps5
  go_upto_region 1 with fail
  generalize ((w.alloc (.cells #[.int .i64 x1, .int .i64 x2] 23)).alloc (.cells #[.int .i64 y1, .int .i64 y2] 23)).alloc (.cells #[.int .i64 z1, .int .i64 z2] 23) = w1 at *
  obtain ⟨a0, b0⟩ := K.out.cells 0 rfl
  go_wp2_with fail
  refine (HRA.out _).mono ?_
  rintro e w2 ⟨rfl, hb⟩
  replace K := Lib.hid (K.out.step hb)
  clear hb a0 b0
  cases ra with
  | false =>
    go_wp2_with fail
    refine (live02_any _ K.out.tab).mono ?_
    rintro e w3 ⟨rfl, hb⟩
    replace K := Lib.hid (K.out.step hb)
    clear hb
    obtain ⟨a0, b0⟩ := K.out.cells 0 rfl
    go_wp2_with fail
    refine (HDA.out _).mono ?_
    rintro e w4 ⟨rfl, hb⟩
    replace K := Lib.hid (K.out.step hb)
    clear hb a0 b0
    go_wp2
    go_ret
    exact ⟨rfl, K.out.below⟩
  | true =>
    obtain ⟨a1, b1⟩ := K.out.cells 1 rfl
    go_wp2_with fail
    refine (HRB.out _).mono ?_
    rintro e w3 ⟨rfl, hb⟩
    replace K := Lib.hid (K.out.step hb)
    clear hb a1 b1
    cases rb with
    | false =>
      go_wp2_with fail
      refine (live02_any _ K.out.tab).mono ?_
      rintro e w4 ⟨rfl, hb⟩
      replace K := Lib.hid (K.out.step hb)
      clear hb
      obtain ⟨a0, b0⟩ := K.out.cells 0 rfl
      go_wp2_with fail
      refine (HDA.out _).mono ?_
      rintro e w5 ⟨rfl, hb⟩
      replace K := Lib.hid (K.out.step hb)
      clear hb a0 b0
      obtain ⟨a1, b1⟩ := K.out.cells 1 rfl
      go_wp2_with fail
      refine (HDB.out _).mono ?_
      rintro e w6 ⟨rfl, hb⟩
      replace K := Lib.hid (K.out.step hb)
      clear hb a1 b1
      go_wp2
      go_ret
      exact ⟨rfl, K.out.below⟩
    | true =>
      obtain ⟨a2, b2⟩ := K.out.cells 2 rfl
      go_wp2_with fail
      refine (HRC.out _).mono ?_
      rintro e w4 ⟨rfl, hb⟩
      replace K := Lib.hid (K.out.step hb)
      clear hb a2 b2
      cases rc with
      | false =>
        go_wp2_with fail
        refine (live02_any _ K.out.tab).mono ?_
        rintro e w5 ⟨rfl, hb⟩
        replace K := Lib.hid (K.out.step hb)
        clear hb
        obtain ⟨a0, b0⟩ := K.out.cells 0 rfl
        go_wp2_with fail
        refine (HDA.out _).mono ?_
        rintro e w6 ⟨rfl, hb⟩
        replace K := Lib.hid (K.out.step hb)
        clear hb a0 b0
        obtain ⟨a1, b1⟩ := K.out.cells 1 rfl
        go_wp2_with fail
        refine (HDB.out _).mono ?_
        rintro e w7 ⟨rfl, hb⟩
        replace K := Lib.hid (K.out.step hb)
        clear hb a1 b1
        obtain ⟨a2, b2⟩ := K.out.cells 2 rfl
        go_wp2_with fail
        refine (HDC.out _).mono ?_
        rintro e w8 ⟨rfl, hb⟩
        replace K := Lib.hid (K.out.step hb)
        clear hb a2 b2
        go_wp2
        go_ret
        exact ⟨rfl, K.out.below⟩
      | true =>
        have HO := Lib.hid (HOC.out (by simp) (by simp) (by simp))
        clear HOC HRA HRB HRC HDA HDB HDC
        obtain ⟨a0, b0⟩ := K.out.cells 0 rfl
        obtain ⟨a1, b1⟩ := K.out.cells 1 rfl
        go_wp2_with fail
        refine (HXY.out _).mono ?_
        rintro e w5 ⟨rfl, hb⟩
        replace K := Lib.hid (K.out.step hb)
        clear hb a0 b0 a1 b1 HXY
        obtain ⟨a1, b1⟩ := K.out.cells 1 rfl
        obtain ⟨a2, b2⟩ := K.out.cells 2 rfl
        go_wp2_with fail
        refine (HYZ.out _).mono ?_
        rintro e w6 ⟨rfl, hb⟩
        replace K := Lib.hid (K.out.step hb)
        clear hb a1 b1 a2 b2 HYZ
        obtain ⟨a0, b0⟩ := K.out.cells 0 rfl
        obtain ⟨a2, b2⟩ := K.out.cells 2 rfl
        go_wp2_with fail
        refine (HXZ.out _).mono ?_
        rintro e w7 ⟨rfl, hb⟩
        replace K := Lib.hid (K.out.step hb)
        clear hb a0 b0 a2 b2 HXZ
        obtain ⟨a0, b0⟩ := K.out.cells 0 rfl
        obtain ⟨a1, b1⟩ := K.out.cells 1 rfl
        go_wp2_with fail
        refine (HSU.out _).mono ?_
        rintro e w8 ⟨rfl, hb⟩
        replace K := Lib.hid (K.out.step hb)
        clear hb a0 b0 a1 b1 HSU
        go_upto_region 7 with fail
        replace K := Lib.hid (K.out.new d1 d2)
        generalize w8.alloc (.cells #[.int .i64 d1, .int .i64 d2] 23) = w9 at *
        generalize w8.heap.size = g10 at *
        simp only [List.cons_append, List.nil_append] at K
        go_wp2_with fail
        refine (live02_any _ K.out.tab).mono ?_
        rintro e w10 ⟨rfl, hb⟩
        replace K := Lib.hid (K.out.step hb)
        clear hb
        obtain ⟨a0, b0⟩ := K.out.cells 0 rfl
        obtain ⟨a1, b1⟩ := K.out.cells 1 rfl
        go_wp2_with fail
        refine (HYX.out _).mono ?_
        rintro e w11 ⟨rfl, hb⟩
        replace K := Lib.hid (K.out.step hb)
        clear hb a0 b0 a1 b1 HYX
        have u0 : IntKind.i64.wrap 0 = 0 := by decide
        have u1 : IntKind.i64.wrap 1 = 1 := by decide
        have u2 : IntKind.i64.wrap (-1) = -1 := by decide
        have u3 : IntKind.i64.wrap (-2) = -2 := by decide
        obtain ⟨hA, hB, hC⟩ := HO.out
        clear HO
        rcases hC with q1 | ⟨rfl, q1, q2⟩
        · have q3 : (ed == 0) = false := by simp [q1]
          have q4 : (ed != 0) = true := by simp [q1]
          have q5 : (!(ed == 0)) = true := by simp [q1]
          have q6 : decide (ed = 0) = false := by simp [q1]
          rcases hA with ⟨rfl, rfl, rfl⟩ | ⟨rfl, p1 | ⟨p1, p2⟩⟩ | ⟨rfl, p1 | ⟨p1, p2⟩⟩
          all_goals
            rcases hB with h | rfl | ⟨h, rfl, rfl⟩ | ⟨h, rfl, rfl⟩ | ⟨h, rfl, rfl⟩ | ⟨h, rfl, rfl⟩
          all_goals first
            | exact absurd h (by decide)
            | (try clear h
               obtain ⟨a0, b0⟩ := K.out.cells 0 rfl
               obtain ⟨a1, b1⟩ := K.out.cells 1 rfl
               obtain ⟨a3, b3⟩ := K.out.cells 3 rfl
               go_wp2
               go_ret
               exact ⟨rfl, K.out.below⟩)
        all_goals
          rcases hA with ⟨rfl, rfl, rfl⟩ | ⟨rfl, p1 | ⟨p1, p2⟩⟩ | ⟨rfl, p1 | ⟨p1, p2⟩⟩
        all_goals
          rcases hB with h | rfl | ⟨h, rfl, rfl⟩ | ⟨h, rfl, rfl⟩ | ⟨h, rfl, rfl⟩ | ⟨h, rfl, rfl⟩
        all_goals first
          | exact absurd h (by decide)
          | (try clear h
             obtain ⟨a0, b0⟩ := K.out.cells 0 rfl
             obtain ⟨a1, b1⟩ := K.out.cells 1 rfl
             obtain ⟨a3, b3⟩ := K.out.cells 3 rfl
             go_wp2
             go_ret
             first | exact ⟨rfl, K.out.below⟩ | exact ⟨by show Ending.returned (.bool _) = _; rw [q1, q2]; rfl, K.out.below⟩)

end Go.Proofs.YtmgdhlcgbgpgpaaDoor

/- RatParts: the whole number below and what is left together are the fraction. -/
namespace Go.Proofs.YtmgdhlcgbgpgpaaDoor
open Go Go.RowKit
set_option linter.unusedVariables false
set_option linter.unusedSimpArgs false

/-- The slots of region 4. -/
def tb4 (g : Nat) (x y n u v : Int) : List (Nat × Nat × Value) :=
  [(0, 19, .agg #[.int .i64 x, .int .i64 y]), (1, 20, .int .i64 n), (2, 21, .agg #[.int .i64 n, .int .i64 1]), (3, 22, .agg #[.int .i64 u, .int .i64 v]),
   (4, 23, .tuple #[.agg #[.int .i64 x, .int .i64 y], .int .i64 0]), (5, 18, .tuple #[.agg #[.int .i64 x, .int .i64 y], .int .i64 0]), (6, 24, .agg #[.int .i64 x, .int .i64 y]), (7, 25, .int .i64 0), (10, 5, .int .i64 0)]
def bs4 (g g3 : Nat) : List (Nat × Value) := [(1, .pointer (some ⟨g, 0, none⟩)), (3, .pointer (some ⟨g3, 0, none⟩))]
def bk4 (x y : Int) : List BlkR := [⟨8, 4, 9, #[.int .i64 0, .int .i64 0], #[.int .i64 x, .int .i64 y], 23⟩]
theorem RtL.own {w0 wr : World} {L : List (Nat × Int × Int)} (h : RtL w0 L wr) {B g : Nat} (hB : w0.heap.size ≤ B) (hl : ∀ t ∈ L, t.1 < B) (hg : B ≤ g) (cs : Array Value) (ht : TabQ w0) : RtL w0 L (wr.setRow g cs) :=
  ⟨below_setRow h.below (by omega) _, fun t ht => (setRow_other _ _ _ _ (by have := hl t ht; omega)).trans (h.l t ht), ht.below (below_setRow h.below (by omega) _)⟩

theorem up_small {x y : Int} (hx : I64 x) (h : rightR (x, y) = true) (h0 : (partP (x, y)).1 ≠ 0) (h1 : (partP (x, y)).1 < (partP (x, y)).2) (h2 : 0 ≤ (partP (x, y)).1) : floorP (x, y) + 1 ≤ 9223372036854775807 := by
  have py := right_pos h
  have e : partP (x, y) = (x % y, y) := by unfold partP; rw [if_pos h]
  rw [e] at h0 h1 h2
  have y2 : 2 ≤ y := by
    have a1 : x % y ≠ 0 := h0
    have a2 : x % y < y := h1
    have a3 : 0 ≤ x % y := h2
    omega
  have : floorP (x, y) < 9223372036854775807 := by
    unfold floorP
    rw [if_pos h]
    show x / y < _
    rw [Int.ediv_lt_iff_lt_mul py]
    have := hx.2
    omega
  omega

set_option maxRecDepth 100000 in
set_option maxHeartbeats 16000000 in
theorem parts_any (x y : Int) (w : World) (hx : I64 x) (hy : I64 y) (ht : TabQ w) :
    Calls Tryd.prog 6 #[.agg #[.int .i64 x, .int .i64 y]] w fun e w' => e = .returned (.bool true) ∧ Below w.heap.size w w' := by
  have HR := Lib.hid (fun W => right_any x y hx hy W)
  have HDR := Lib.hid (fun W => dright_any x y hx hy W)
  have HFL := Lib.hid (fun W => floor_any x y hx hy W)
  have HCE := Lib.hid (fun W => ceil_any x y hx hy W)
  obtain ⟨⟨u1, u2⟩, hu⟩ : ∃ q, q = partP (x, y) := ⟨_, rfl⟩
  have HFR : Hid (∀ W, Calls Tryd.prog 23 #[.agg #[.int .i64 x, .int .i64 y]] W fun e w' => e = .returned (.agg #[.int .i64 u1, .int .i64 u2]) ∧ Below W.heap.size W w') := Lib.hid (fun W => by have h := frac_any x y hx hy W; rw [← hu] at h; exact h)
  have HU := Lib.hid (part64 (r := (x, y)) hx hy)
  have HF64 := Lib.hid (floor64 (r := (x, y)) hx)
  obtain ⟨n, hn⟩ : ∃ q, q = floorP (x, y) := ⟨_, rfl⟩
  obtain ⟨c, hc⟩ : ∃ q, q = ceilP (x, y) := ⟨_, rfl⟩
  have HP := Lib.hid (fun (h : rightR (x, y) = true) => floor_part (r := (x, y)) ⟨h, fits_of hx, hy.2⟩)
  have HUP := Lib.hid (fun (h : rightR (x, y) = true) => up_small hx h)
  obtain ⟨rb, hrb⟩ : ∃ q, q = rightR (x, y) := ⟨_, rfl⟩
  rw [← hrb] at HR HDR HP HUP
  rw [← hu] at HU HP HUP
  rw [← hn] at HFL HP HF64 HUP
  rw [← hc] at HCE HP
  have HT := Lib.hid ht
  have K := Lib.hid ((RtL.start ht).one x y)
  have HAD := Lib.hid (fun W => add_any n 1 u1 u2 HF64.out ⟨by decide, by decide⟩ HU.out.1 HU.out.2 W)
  clear hu hn hc hrb hx hy ht HU
  go_enter Tryd.func6, Tryd.ntmps6
  go_upto_region 1 with fail
  generalize w.alloc (.cells #[.int .i64 x, .int .i64 y] 23) = w1 at *
  obtain ⟨a0, b0⟩ := K.out.cells 0 rfl
  go_wp2_with fail
  refine (HR.out _).mono ?_
  rintro e w2 ⟨rfl, hb⟩
  replace K := Lib.hid (K.out.step hb)
  clear hb a0 b0 HR
  cases rb with
  | false =>
    go_wp2_with fail
    refine (live02_any _ K.out.tab).mono ?_
    rintro e w3 ⟨rfl, hb⟩
    replace K := Lib.hid (K.out.step hb)
    clear hb
    obtain ⟨a0, b0⟩ := K.out.cells 0 rfl
    go_wp2_with fail
    refine (HDR.out _).mono ?_
    rintro e w4 ⟨rfl, hb⟩
    replace K := Lib.hid (K.out.step hb)
    clear hb a0 b0
    go_wp2
    go_ret
    exact ⟨rfl, K.out.below⟩
  | true =>
    obtain ⟨q1, q2, q3, q4⟩ := HP.out rfl
    have HU2 : Hid (u1 = 0 ∨ n + 1 ≤ 9223372036854775807) := Lib.hid (by
      by_cases h0 : u1 = 0
      · exact .inl h0
      · exact .inr (HUP.out rfl h0 q3 q2))
    clear HUP
    have HAD : Hid (∀ W, Calls Tryd.prog 24 #[.agg #[.int .i64 n, .int .i64 1], .agg #[.int .i64 u1, .int .i64 u2]] W fun e w' => e = .returned (.tuple #[.agg #[.int .i64 x, .int .i64 y], .int .i64 0]) ∧ Below W.heap.size W w') := Lib.hid (fun W => by have h := HAD.out W; rw [q1] at h; exact h)
    have Q2 := Lib.hid q2
    have Q3 := Lib.hid q3
    have Q4 := Lib.hid q4
    clear q1 q2 q3 q4 HP HDR
    obtain ⟨a0, b0⟩ := K.out.cells 0 rfl
    go_wp2_with fail
    refine (HFR.out _).mono ?_
    rintro e w3 ⟨rfl, hb⟩
    replace K := Lib.hid (K.out.step hb)
    clear hb a0 b0 HFR
    go_upto_region 4 with fail
    replace K := Lib.hid (K.out.new u1 u2)
    generalize w3.alloc (.cells #[.int .i64 u1, .int .i64 u2] 23) = w4 at *
    generalize w3.heap.size = g3 at *
    simp only [List.cons_append, List.nil_append] at K
    go_cut [4, 5] (fun s4 s5 wx => ∃ g4 : Nat, s4 = .pointer (some ⟨g4, 0, none⟩) ∧ s5 = .int .i64 0 ∧ Hid (RtL w [(w.heap.size, x, y), (g3, u1, u2), (g4, x, y)] wx))
    case first =>
      have s0 := heap_lt2 (K.out.l (w.heap.size, x, y) (by simp))
      have s3 := heap_lt2 (K.out.l (g3, u1, u2) (by simp))
      refine wp_region_tab (by kernel_rfl) [1, 3, 4, 5, 18, 19, 20, 21, 22, 23, 24, 25] [[], [0], [1], [], [2, 3], [4], [5], [5], [], [6, 8], [7, 8, 9]]
        (fun L vals wx => RtL w [(w.heap.size, x, y), (g3, u1, u2)] wx ∧ TabR (tb4 w.heap.size x y n u1 u2) (bs4 w.heap.size g3) L vals ∧ BlksR (bk4 x y) w4.heap.size L vals wx) (by kernel_rfl) rfl ?_ ?_ ?_
      · exact ⟨K.out.drew, TabR.start (by simp [bs4]), BlksR.start _ (Nat.le_refl _)⟩
      · intro i hi a L vals wx E hJ hLi hn K hK hK0
        obtain ⟨hI, hT, hB⟩ := hJ
        match i, hi with
        | 0, _ => exact op_load rfl rfl rfl rfl Tryd.underlying23 rfl (by kernel_rfl) ((E 1 (by decide)).trans (hT.rd 0 rfl)) (hI.l (w.heap.size, x, y) (by simp)) (hK 19 _ _ (by decide) ⟨hI, hT.put (by simp [tb4]) (by simp [bs4]), hB.keep (Below.refl _ _) (by simp [bk4])⟩)
        | 1, _ =>
          have e1 := (E 19 (by decide)).trans (hT.val 0 rfl (hn 0 (by decide)))
          exact op_go rfl rfl rfl rfl Tryd.func25 (by kernel_rfl) rfl (by simp only [List.map_toArray, List.map_cons, List.map_nil, e1]) (HFL.out _) (fun w' hb => hK 20 _ _ (by decide) ⟨hI.step hb, hT.put (by simp [tb4]) (by simp [bs4]), hB.keep hb (by simp [bk4])⟩)
        | 2, _ =>
          have e1 := (E 20 (by decide)).trans (hT.val 1 rfl (hn 1 (by decide)))
          have e2 : a.eval (.const (.int .i64 1)) = .int .i64 1 := rfl
          refine op_value (w' := wx) (v := .agg #[.int .i64 n, .int .i64 1]) rfl rfl rfl ?_ (hK 21 _ _ (by decide) ⟨hI, hT.put (by simp [tb4]) (by simp [bs4]), hB.keep (Below.refl _ _) (by simp [bk4])⟩)
          clear hK hK0 hT E hB
          revert e1 e2
          generalize a.eval = ρ
          intro e1 e2
          go_simp
        | 3, _ => exact op_load rfl rfl rfl rfl Tryd.underlying23 rfl (by kernel_rfl) ((E 3 (by decide)).trans (hT.rd 1 rfl)) (hI.l (g3, u1, u2) (by simp)) (hK 22 _ _ (by decide) ⟨hI, hT.put (by simp [tb4]) (by simp [bs4]), hB.keep (Below.refl _ _) (by simp [bk4])⟩)
        | 4, _ =>
          have e1 := (E 21 (by decide)).trans (hT.val 2 rfl (hn 2 (by decide)))
          have e2 := (E 22 (by decide)).trans (hT.val 3 rfl (hn 3 (by decide)))
          exact op_go rfl rfl rfl rfl Tryd.func24 (by kernel_rfl) rfl (by simp only [List.map_toArray, List.map_cons, List.map_nil, e1, e2]) (HAD.out _) (fun w' hb => hK 23 _ _ (by decide) ⟨hI.step hb, hT.put (by simp [tb4]) (by simp [bs4]), hB.keep hb (by simp [bk4])⟩)
        | 5, _ => exact op_move rfl rfl rfl rfl ((E 23 (by decide)).trans (hT.val 4 rfl (hn 4 (by decide)))) (hK 18 _ _ (by decide) ⟨hI, hT.put (by simp [tb4]) (by simp [bs4]), hB.keep (Below.refl _ _) (by simp [bk4])⟩)
        | 6, _ =>
          have e1 := (E 18 (by decide)).trans (hT.val 5 rfl (hn 5 (by decide)))
          refine op_value (w' := wx) (v := .agg #[.int .i64 x, .int .i64 y]) rfl rfl rfl ?_ (hK 24 _ _ (by decide) ⟨hI, hT.put (by simp [tb4]) (by simp [bs4]), hB.keep (Below.refl _ _) (by simp [bk4])⟩)
          clear hK hK0 hT E hB
          revert e1
          generalize a.eval = ρ
          intro e1
          go_simp
        | 7, _ =>
          have e1 := (E 18 (by decide)).trans (hT.val 5 rfl (hn 5 (by decide)))
          refine op_value (w' := wx) (v := .int .i64 0) rfl rfl rfl ?_ (hK 25 _ _ (by decide) ⟨hI, hT.put (by simp [tb4]) (by simp [bs4]), hB.keep (Below.refl _ _) (by simp [bk4])⟩)
          clear hK hK0 hT E hB
          revert e1
          generalize a.eval = ρ
          intro e1
          go_simp
        | 8, _ =>
          refine op_value (w' := wx.alloc (.cells #[.int .i64 0, .int .i64 0] 23)) (v := .pointer (some ⟨wx.heap.size, 0, none⟩)) rfl rfl rfl ?_ (hK 4 _ _ (by decide) ⟨hI.step (below_one _ _), hT.put (by simp [tb4]) (by simp [bs4]), hB.new 0 rfl hLi (by simp [bk4]) (by simp [bk4])⟩)
          clear hK hK0 hT hB E
          go_simp
        | 9, _ =>
          obtain ⟨ga, e1, e2, e3⟩ := hB.blk 0 rfl (hn 8 (by decide))
          rw [if_neg (by rw [hLi]; decide)] at e3
          exact op_store (old := #[.int .i64 0, .int .i64 0]) (cs := #[.int .i64 x, .int .i64 y]) rfl rfl rfl rfl (by kernel_rfl) rfl (by kernel_rfl) ((E 4 (by decide)).trans e1) ((E 24 (by decide)).trans (hT.val 6 rfl (hn 6 (by decide)))) e3
            (hK0 _ ⟨hI.own (Nat.le_of_lt s0) (by simp; omega) e2 _ HT.out, hT.skip (by simp [tb4]), hB.st 0 rfl (hn 8 (by decide)) (by simp [bk4]) (by simp [bk4]) (by simp [bk4]) e1⟩)
        | 10, _ =>
          have e1 := (E 25 (by decide)).trans (hT.val 7 rfl (hn 7 (by decide)))
          refine op_value (w' := wx) (v := .int .i64 0) rfl rfl rfl ?_ (hK 5 _ _ (by decide) ⟨hI, hT.put (by simp [tb4]) (by simp [bs4]), hB.keep (Below.refl _ _) (by simp [bk4])⟩)
          clear hK hK0 hT E hB
          revert e1
          generalize a.eval = ρ
          intro e1
          go_simp
        | k + 11, h => exact absurd (show k + 11 < 11 from h) (by omega)
      · intro L vals wx hJ hall
        obtain ⟨hI, hT, hB⟩ := hJ
        obtain ⟨ga, e1, e2, e3⟩ := hB.blk 0 rfl (hall 8 (by decide))
        rw [if_pos (hall 9 (by decide))] at e3
        simp only [overA, Act.put, List.setIfInBounds_toArray, List.set_cons_zero, List.set_cons_succ]
        have v1 : vals 1 = .pointer (some ⟨w.heap.size, 0, none⟩) := hT.rd 0 rfl
        have v3 : vals 3 = .pointer (some ⟨g3, 0, none⟩) := hT.rd 1 rfl
        have v4 : vals 4 = .pointer (some ⟨ga, 0, none⟩) := e1
        have v5 : vals 5 = .int .i64 0 := hT.val 8 rfl (hall 10 (by decide))
        rw [v1, v3, v4, v5]
        go_wp2_with fail
        go_meet
        refine ⟨ga, rfl, rfl, Lib.hid ⟨hI.below, fun t ht => ?_, hI.tab⟩⟩
        rcases List.mem_cons.1 ht with rfl | ht
        · exact hI.l _ (by simp)
        · rcases List.mem_cons.1 ht with rfl | ht
          · exact hI.l _ (by simp)
          · obtain rfl := List.mem_singleton.1 ht
            exact e3
    case rest =>
      clear K
      obtain ⟨g4, rfl, rfl, K⟩ := hcut
      obtain ⟨a0, b0⟩ := K.out.cells 0 rfl
      go_wp2_with fail
      refine (HFL.out _).mono ?_
      rintro e w5 ⟨rfl, hb⟩
      replace K := Lib.hid (K.out.step hb)
      clear hb a0 b0 HFL
      obtain ⟨a1, b1⟩ := K.out.cells 1 rfl
      have p1 : decide (0 ≤ u1) = true := decide_eq_true Q2.out
      have p2 : decide (u1 < u2) = true := decide_eq_true Q3.out
      by_cases h0 : u1 = 0
      · have f1 : (u1 == 0) = true := by simp [h0]
        have e1 := Q4.out
        rw [if_pos h0] at e1
        clear h0
        subst e1
        go_wp2_with fail
        refine (live02_any _ K.out.tab).mono ?_
        rintro e w6 ⟨rfl, hb⟩
        replace K := Lib.hid (K.out.step hb)
        clear hb a1 b1
        obtain ⟨a0, b0⟩ := K.out.cells 0 rfl
        obtain ⟨a1, b1⟩ := K.out.cells 1 rfl
        obtain ⟨a2, b2⟩ := K.out.cells 2 rfl
        go_wp2_with fail
        refine (HCE.out _).mono ?_
        rintro e w7 ⟨rfl, hb⟩
        replace K := Lib.hid (K.out.step hb)
        clear hb a0 b0 a1 b1 a2 b2
        go_wp2
        go_ret
        exact ⟨rfl, K.out.below⟩
      · have f1 : (u1 == 0) = false := by simp [h0]
        have e1 := Q4.out
        rw [if_neg h0] at e1
        have kw : IntKind.i64.wrap (n + 1) = n + 1 := IntWalk.i64_in _ (by have := HU2.out.resolve_left h0; obtain ⟨_, _⟩ := HF64.out; omega)
        clear h0
        subst e1
        go_wp2_with fail
        refine (live02_any _ K.out.tab).mono ?_
        rintro e w6 ⟨rfl, hb⟩
        replace K := Lib.hid (K.out.step hb)
        clear hb a1 b1
        obtain ⟨a0, b0⟩ := K.out.cells 0 rfl
        obtain ⟨a1, b1⟩ := K.out.cells 1 rfl
        obtain ⟨a2, b2⟩ := K.out.cells 2 rfl
        go_wp2_with fail
        refine (HCE.out _).mono ?_
        rintro e w7 ⟨rfl, hb⟩
        replace K := Lib.hid (K.out.step hb)
        clear hb a0 b0 a1 b1 a2 b2
        go_wp2
        go_ret
        exact ⟨rfl, K.out.below⟩

end Go.Proofs.YtmgdhlcgbgpgpaaDoor
