/- Texts of ours, laid together: Vt, Vu, Vv, Vw, Ua. -/
import Derived.Test.YtmelblnflalanaaMg14
/- Numbers of two words, as the document reckons with them. -/
namespace Go.Proofs.Ytmelblnflalanaa
open Go Go.RowKit
set_option linter.unusedVariables false
set_option linter.unusedSimpArgs false

set_option maxRecDepth 100000 in
set_option maxHeartbeats 1000000 in
theorem dminus_any (s t : Nat) (h : t ≤ s) (hs : s < 340282366920938463463374607431768211456) (w : World) : Calls Try.prog 87 #[szV s, szV t] w fun e w' => e = .returned (szV (s - t)) ∧ Below w.heap.size w w' := by
  obtain ⟨a1, a2⟩ := hi_range (n := s) (by omega)
  obtain ⟨b1, b2⟩ := hi_range (n := t) (by omega)
  obtain ⟨c1, c2⟩ := lo_range s
  obtain ⟨d1, d2⟩ := lo_range t
  obtain ⟨k0, k1⟩ := bor_range (loN s) (loN t)
  have e1 := less_lo s t h
  have e2 := less_hi s t h hs
  unfold szV
  go_enter Try.func87, Try.ntmps87
  go_wp2_with (first | simp only [sub64_0 (loN s) (loN t) c1 d1 d2] | simp only [sub64 (hiN s) (hiN t) _ a1 b1 b2 k0 k1])
  simp [bodyPost, results, Try.results87, go_sem]
  exact below_three w _ _ _

theorem below_words (s t : Nat) : (s < t) ↔ (hiN s < hiN t ∨ (hiN s = hiN t ∧ loN s < loN t)) := by
  have h1 := hi_lo s
  have h2 := hi_lo t
  have h3 := lo_range s
  have h4 := lo_range t
  omega
set_option maxRecDepth 100000 in
set_option maxHeartbeats 1000000 in
theorem dbelow_any (s t : Nat) (w : World) : Calls Try.prog 86 #[szV s, szV t] w fun e w' => e = .returned (.bool (decide (s < t))) ∧ Below w.heap.size w w' := by
  have hb := below_words s t
  unfold szV
  by_cases h1 : hiN s < hiN t
  · rw [decide_eq_true (hb.2 (.inl h1))]
    have d1 : decide (hiN s < hiN t) = true := decide_eq_true h1
    clear hb
    generalize hiN s = a at *
    generalize loN s = b at *
    generalize hiN t = c at *
    generalize loN t = d at *
    go_enter Try.func86, Try.ntmps86
    go_wp2
    go_ret
    exact ⟨rfl, below_two w _ _⟩
  · have d1 : decide (hiN s < hiN t) = false := decide_eq_false h1
    by_cases h2 : hiN s = hiN t
    · have d2 : (hiN s == hiN t) = true := by simp [h2]
      by_cases h3 : loN s < loN t
      · rw [decide_eq_true (hb.2 (.inr ⟨h2, h3⟩))]
        have d3 : decide (loN s < loN t) = true := decide_eq_true h3
        clear hb h2
        generalize hiN s = a at *
        generalize loN s = b at *
        generalize hiN t = c at *
        generalize loN t = d at *
        go_enter Try.func86, Try.ntmps86
        go_wp2
        go_ret
        exact ⟨rfl, below_two w _ _⟩
      · rw [decide_eq_false (fun h => by rcases hb.1 h with h | h; exact h1 h; exact h3 h.2)]
        have d3 : decide (loN s < loN t) = false := decide_eq_false h3
        clear hb h2
        generalize hiN s = a at *
        generalize loN s = b at *
        generalize hiN t = c at *
        generalize loN t = d at *
        go_enter Try.func86, Try.ntmps86
        go_wp2
        go_ret
        exact ⟨rfl, below_two w _ _⟩
    · rw [decide_eq_false (fun h => by rcases hb.1 h with h | h; exact h1 h; exact h2 h.1)]
      have d2 : (hiN s == hiN t) = false := by simp [h2]
      clear hb
      generalize hiN s = a at *
      generalize loN s = b at *
      generalize hiN t = c at *
      generalize loN t = d at *
      go_enter Try.func86, Try.ntmps86
      go_wp2
      go_ret
      exact ⟨rfl, below_two w _ _⟩
set_option maxRecDepth 100000 in
set_option maxHeartbeats 1000000 in
theorem dsize_any (n : Int) (h0 : -9223372036854775808 ≤ n) (h1 : n ≤ 9223372036854775807) (w : World) : Calls Try.prog 57 #[.int .i64 n] w fun e w' => e = .returned (.int .u64 (n.natAbs : Int)) ∧ w = w' := by
  by_cases hn : n < 0
  · have e1 : decide (n < 0) = true := decide_eq_true hn
    have e2 : IntKind.u64.wrap (-IntKind.u64.wrap n) = (n.natAbs : Int) := by rw [IntKind.wrap_u64, IntKind.wrap_u64]; omega
    obtain ⟨m, hm⟩ : ∃ m : Int, m = (n.natAbs : Int) := ⟨_, rfl⟩
    rw [← hm] at e2 ⊢
    clear hm
    go_enter Try.func57, Try.ntmps57
    go_wp2
    go_ret
    exact ⟨rfl, rfl⟩
  · have e1 : decide (n < 0) = false := decide_eq_false hn
    have e2 : IntKind.u64.wrap n = (n.natAbs : Int) := by rw [IntKind.wrap_u64]; omega
    obtain ⟨m, hm⟩ : ∃ m : Int, m = (n.natAbs : Int) := ⟨_, rfl⟩
    rw [← hm] at e2 ⊢
    clear hm
    go_enter Try.func57, Try.ntmps57
    go_wp2
    go_ret
    exact ⟨rfl, rfl⟩

/-- The blocks of a division while it goes on. -/
structure OdR (w0 : World) (gt g0 g1 gq gr : Nat) (s t q r : Nat) (wr : World) : Prop where
  below : Below w0.heap.size w0 wr
  ne : w0.heap.size < gt ∧ gt < g0 ∧ g0 < g1 ∧ g1 < gq ∧ gq < gr
  hs : wr.heap[w0.heap.size]? = some (.cells #[.int .u64 (hiN s), .int .u64 (loN s)] 113)
  ht : wr.heap[gt]? = some (.cells #[.int .u64 (hiN t), .int .u64 (loN t)] 113)
  h0 : wr.heap[g0]? = some (.cells #[.int .u64 0, .int .u64 0] 113)
  h1 : wr.heap[g1]? = some (.cells #[.int .u64 0, .int .u64 0] 113)
  hq : wr.heap[gq]? = some (.cells #[.int .u64 (hiN q), .int .u64 (loN q)] 113)
  hr : wr.heap[gr]? = some (.cells #[.int .u64 (hiN r), .int .u64 (loN r)] 113)
section
variable {w0 wr w' : World} {gt g0 g1 gq gr s t q r : Nat}
theorem OdR.step (h : OdR w0 gt g0 g1 gq gr s t q r wr) (hb : Below wr.heap.size wr w') : OdR w0 gt g0 g1 gq gr s t q r w' :=
  ⟨h.below.trans (hb.mono h.below.size), h.ne, (hb.block _ (heap_lt2 h.hs)).trans h.hs, (hb.block _ (heap_lt2 h.ht)).trans h.ht, (hb.block _ (heap_lt2 h.h0)).trans h.h0, (hb.block _ (heap_lt2 h.h1)).trans h.h1, (hb.block _ (heap_lt2 h.hq)).trans h.hq, (hb.block _ (heap_lt2 h.hr)).trans h.hr⟩
theorem OdR.drew (h : OdR w0 gt g0 g1 gq gr s t q r wr) : OdR w0 gt g0 g1 gq gr s t q r wr.drew := ⟨Below.drew h.below, h.ne, h.hs, h.ht, h.h0, h.h1, h.hq, h.hr⟩
theorem OdR.setR (h : OdR w0 gt g0 g1 gq gr s t q r wr) (x : Nat) : OdR w0 gt g0 g1 gq gr s t q x (wr.setRow gr #[.int .u64 (hiN x), .int .u64 (loN x)]) := by
  have hn := h.ne
  exact ⟨below_row h.below (by omega) _, hn, row_other _ h.hs (by omega), row_other _ h.ht (by omega), row_other _ h.h0 (by omega), row_other _ h.h1 (by omega), row_other _ h.hq (by omega), setRow_heap _ _ _ _ _ _ h.hr⟩
theorem OdR.setRlo (h : OdR w0 gt g0 g1 gq gr s t q r wr) (x : Nat) (y : Int) (hh : hiN r = hiN x) (hy : y = loN x) : OdR w0 gt g0 g1 gq gr s t q x (wr.setCell ⟨gr, 1, none⟩ (.int .u64 y)) := by
  have hn := h.ne
  have h1 := (cell_set h.hr (.int .u64 y)).2
  rw [hh, hy] at h1
  rw [hy]
  exact ⟨h.below.setCell (p := ⟨gr, 1, none⟩) (by show w0.heap.size ≤ gr; omega) _, hn, heap_other _ h.hs (by omega), heap_other _ h.ht (by omega), heap_other _ h.h0 (by omega), heap_other _ h.h1 (by omega), heap_other _ h.hq (by omega), h1⟩
theorem OdR.setQhi (h : OdR w0 gt g0 g1 gq gr s t q r wr) (x : Nat) (y : Int) (hh : loN q = loN x) (hy : y = hiN x) : OdR w0 gt g0 g1 gq gr s t x r (wr.setCell ⟨gq, 0, none⟩ (.int .u64 y)) := by
  have hn := h.ne
  have h1 := (cell_set h.hq (.int .u64 y)).1
  rw [hh, hy] at h1
  rw [hy]
  exact ⟨h.below.setCell (p := ⟨gq, 0, none⟩) (by show w0.heap.size ≤ gq; omega) _, hn, heap_other _ h.hs (by omega), heap_other _ h.ht (by omega), heap_other _ h.h0 (by omega), heap_other _ h.h1 (by omega), h1, heap_other _ h.hr (by omega)⟩
theorem OdR.setQlo (h : OdR w0 gt g0 g1 gq gr s t q r wr) (x : Nat) (y : Int) (hh : hiN q = hiN x) (hy : y = loN x) : OdR w0 gt g0 g1 gq gr s t x r (wr.setCell ⟨gq, 1, none⟩ (.int .u64 y)) := by
  have hn := h.ne
  have h1 := (cell_set h.hq (.int .u64 y)).2
  rw [hh, hy] at h1
  rw [hy]
  exact ⟨h.below.setCell (p := ⟨gq, 1, none⟩) (by show w0.heap.size ≤ gq; omega) _, hn, heap_other _ h.hs (by omega), heap_other _ h.ht (by omega), heap_other _ h.h0 (by omega), heap_other _ h.h1 (by omega), h1, heap_other _ h.hr (by omega)⟩
end
theorem OdR.made (w : World) (s t : Nat) : OdR w (w.heap.size + 1) (w.heap.size + 1 + 1) (w.heap.size + 1 + 1 + 1) (w.heap.size + 1 + 1 + 1 + 1) (w.heap.size + 1 + 1 + 1 + 1 + 1) s t 0 0
    ((((((w.alloc (.cells #[.int .u64 (hiN s), .int .u64 (loN s)] 113)).alloc (.cells #[.int .u64 (hiN t), .int .u64 (loN t)] 113)).alloc (.cells #[.int .u64 0, .int .u64 0] 113)).alloc (.cells #[.int .u64 0, .int .u64 0] 113)).alloc (.cells #[.int .u64 0, .int .u64 0] 113)).alloc (.cells #[.int .u64 0, .int .u64 0] 113)) := by
  have hz : ∀ (w : World) (o : Obj), (w.alloc o).heap.size = w.heap.size + 1 := fun w o => by simp
  have b2 := below_two w (.cells #[.int .u64 (hiN s), .int .u64 (loN s)] 113) (.cells #[.int .u64 (hiN t), .int .u64 (loN t)] 113)
  have b3 := b2.alloc b2.size (.cells #[.int .u64 0, .int .u64 0] 113)
  have b4 := b3.alloc b3.size (.cells #[.int .u64 0, .int .u64 0] 113)
  have b5 := b4.alloc b4.size (.cells #[.int .u64 0, .int .u64 0] 113)
  have b6 := b5.alloc b5.size (.cells #[.int .u64 0, .int .u64 0] 113)
  refine ⟨b6, by omega, ?_, ?_, ?_, ?_, ?_, ?_⟩
  · iterate 5 rw [heap_alloc_old _ _ (by simp only [hz]; omega)]
    exact heap_alloc_new _ _
  · iterate 4 rw [heap_alloc_old _ _ (by simp only [hz]; omega)]
    rw [← hz w (.cells #[.int .u64 (hiN s), .int .u64 (loN s)] 113)]
    exact heap_alloc_new _ _
  · iterate 3 rw [heap_alloc_old _ _ (by simp only [hz]; omega)]
    have h := heap_alloc_new ((w.alloc (.cells #[.int .u64 (hiN s), .int .u64 (loN s)] 113)).alloc (.cells #[.int .u64 (hiN t), .int .u64 (loN t)] 113)) (.cells #[.int .u64 0, .int .u64 0] 113)
    simp only [hz] at h
    exact h
  · iterate 2 rw [heap_alloc_old _ _ (by simp only [hz]; omega)]
    have h := heap_alloc_new (((w.alloc (.cells #[.int .u64 (hiN s), .int .u64 (loN s)] 113)).alloc (.cells #[.int .u64 (hiN t), .int .u64 (loN t)] 113)).alloc (.cells #[.int .u64 0, .int .u64 0] 113)) (.cells #[.int .u64 0, .int .u64 0] 113)
    simp only [hz] at h
    exact h
  · rw [heap_alloc_old _ _ (by simp only [hz]; omega)]
    have h := heap_alloc_new ((((w.alloc (.cells #[.int .u64 (hiN s), .int .u64 (loN s)] 113)).alloc (.cells #[.int .u64 (hiN t), .int .u64 (loN t)] 113)).alloc (.cells #[.int .u64 0, .int .u64 0] 113)).alloc (.cells #[.int .u64 0, .int .u64 0] 113)) (.cells #[.int .u64 0, .int .u64 0] 113)
    simp only [hz] at h
    exact h
  · have h := heap_alloc_new (((((w.alloc (.cells #[.int .u64 (hiN s), .int .u64 (loN s)] 113)).alloc (.cells #[.int .u64 (hiN t), .int .u64 (loN t)] 113)).alloc (.cells #[.int .u64 0, .int .u64 0] 113)).alloc (.cells #[.int .u64 0, .int .u64 0] 113)).alloc (.cells #[.int .u64 0, .int .u64 0] 113)) (.cells #[.int .u64 0, .int .u64 0] 113)
    simp only [hz] at h
    exact h

end Go.Proofs.Ytmelblnflalanaa

/- Division of numbers of two words, as the document does it. -/
namespace Go.Proofs.Ytmelblnflalanaa
open Go Go.RowKit
set_option linter.unusedVariables false
set_option linter.unusedSimpArgs false

def dvQ (s t j : Nat) : Nat := s / 2 ^ j / t
theorem dv_start (s t : Nat) (h : s < 340282366920938463463374607431768211456) : dvQ s t 128 = 0 ∧ ovR s t 128 = 0 := by
  have e : s / 2 ^ 128 = 0 := Nat.div_eq_of_lt (by simpa using h)
  unfold dvQ ovR
  rw [e]
  simp
theorem dv_end (s t : Nat) : dvQ s t 0 = s / t ∧ ovR s t 0 = s % t := by unfold dvQ ovR; simp
theorem dv_le (s t j : Nat) : dvQ s t j ≤ s := Nat.le_trans (Nat.div_le_self _ _) (Nat.div_le_self _ _)
theorem dv_step (s t i : Nat) (ht : 0 < t) :
    (2 * ovR s t (i + 1) + bitN s i < t → ovR s t i = 2 * ovR s t (i + 1) + bitN s i ∧ dvQ s t i = 2 * dvQ s t (i + 1)) ∧
    (¬ 2 * ovR s t (i + 1) + bitN s i < t → ovR s t i = 2 * ovR s t (i + 1) + bitN s i - t ∧ dvQ s t i = 2 * dvQ s t (i + 1) + 1) := rem_step s t i ht
theorem or_one (r : Nat) : bits .or .u64 (loN (2 * r)) 1 = loN (2 * r + 1) ∧ hiN (2 * r) = hiN (2 * r + 1) := low_bit r 1 (by decide)
theorem OdR.setQ {w0 wr : World} {gt g0 g1 gq gr s t q r : Nat} (h : OdR w0 gt g0 g1 gq gr s t q r wr) (x : Nat) : OdR w0 gt g0 g1 gq gr s t x r (wr.setRow gq #[.int .u64 (hiN x), .int .u64 (loN x)]) := by
  have hn := h.ne
  exact ⟨below_row h.below (by omega) _, hn, row_other _ h.hs (by omega), row_other _ h.ht (by omega), row_other _ h.h0 (by omega), row_other _ h.h1 (by omega), setRow_heap _ _ _ _ _ _ h.hq, row_other _ h.hr (by omega)⟩

set_option maxRecDepth 100000 in
set_option maxHeartbeats 4000000 in
theorem divide_any (s t : Nat) (hs : s < 340282366920938463463374607431768211456) (ht0 : 0 < t) (ht : t ≤ 170141183460469231731687303715884105728) (w : World) :
    Calls Try.prog 74 #[szV s, szV t] w fun e w' => e = .returned (.tuple #[szV (s / t), szV (s % t)]) ∧ Below w.heap.size w w' := by
  have HE := Lib.hid (dv_end s t)
  obtain ⟨q0, r0⟩ := dv_start s t hs
  have HQ := Lib.hid q0
  have HR := Lib.hid r0
  have HS := Lib.hid hs
  clear q0 r0
  unfold szV
  go_enter Try.func74, Try.ntmps74
  go_upto_region 2 with fail
  have HO := Lib.hid (OdR.made w s t)
  generalize ((((((w.alloc (.cells #[.int .u64 (hiN s), .int .u64 (loN s)] 113)).alloc (.cells #[.int .u64 (hiN t), .int .u64 (loN t)] 113)).alloc (.cells #[.int .u64 0, .int .u64 0] 113)).alloc (.cells #[.int .u64 0, .int .u64 0] 113)).alloc (.cells #[.int .u64 0, .int .u64 0] 113)).alloc (.cells #[.int .u64 0, .int .u64 0] 113)) = w1 at *
  obtain ⟨gr, hgr⟩ : ∃ g, g = w.heap.size + 1 + 1 + 1 + 1 + 1 := ⟨_, rfl⟩
  rw [← hgr] at HO ⊢
  obtain ⟨gq, hgq⟩ : ∃ g, g = w.heap.size + 1 + 1 + 1 + 1 := ⟨_, rfl⟩
  rw [← hgq] at HO ⊢
  obtain ⟨g1, hg1⟩ : ∃ g, g = w.heap.size + 1 + 1 + 1 := ⟨_, rfl⟩
  rw [← hg1] at HO ⊢
  obtain ⟨g0, hg0⟩ : ∃ g, g = w.heap.size + 1 + 1 := ⟨_, rfl⟩
  rw [← hg0] at HO ⊢
  obtain ⟨gt, hgt⟩ : ∃ g, g = w.heap.size + 1 := ⟨_, rfl⟩
  rw [← hgt] at HO ⊢
  clear hgr hgq hg1 hg0 hgt
  go_wp2
  go_loopg [8] 128 (fun g v wr => ∃ j : Nat, v = .int .i64 ((j : Int) - 1) ∧ Hid (OdR w gt g0 g1 gq gr s t (dvQ s t j) (ovR s t j) wr) ∧ Hid (j ≤ 128 ∧ g = j))
  case atStart => exact ⟨128, by simp, by rw [HQ.out, HR.out]; exact HO.out, by omega, rfl⟩
  case round =>
    obtain ⟨j, rfl, HV, HJ⟩ := hrel
    by_cases hj : 0 < j
    · obtain ⟨i, rfl⟩ : ∃ i, j = i + 1 := ⟨j - 1, by omega⟩
      have hji : 0 ≤ ((i + 1 : Nat) : Int) - 1 := by omega
      rw [show ((i + 1 : Nat) : Int) - 1 = (i : Int) by omega] at hji ⊢
      have hi127 : i < 128 := by have := HJ.out.1; omega
      have hrt : ovR s t (i + 1) < t := Nat.mod_lt _ ht0
      obtain ⟨hst1, hst2⟩ := dv_step s t i ht0
      have hqle := dv_le s t i
      obtain ⟨r, hr⟩ : ∃ r, r = ovR s t (i + 1) := ⟨_, rfl⟩
      obtain ⟨q, hq⟩ : ∃ q, q = dvQ s t (i + 1) := ⟨_, rfl⟩
      rw [← hr] at HV hrt hst1 hst2
      rw [← hq] at HV hst1 hst2
      have hb2 : bitN s i < 2 := Nat.mod_lt _ (by omega)
      have hq2 : q < 170141183460469231731687303715884105728 := by
        by_cases hc : 2 * r + bitN s i < t
        · have := (hst1 hc).2; omega
        · have := (hst2 hc).2; omega
      have HST := Lib.hid (And.intro hst1 hst2)
      clear hst1 hst2 hr hq hqle
      obtain ⟨lb1, lb2⟩ := low_bit r (bitN s i) hb2
      have e1 := shl_hi r (by omega)
      have e2 : IntKind.u64.wrap (hiN r * 2) = hiN r * 2 := by rw [IntKind.wrap_u64]; unfold hiN; omega
      have e3 : IntKind.u64.wrap (loN r * 2) = loN (2 * r) := by rw [IntKind.wrap_u64]; exact shl_lo r
      have f1 := shl_hi q hq2
      have f2 : IntKind.u64.wrap (hiN q * 2) = hiN q * 2 := by rw [IntKind.wrap_u64]; unfold hiN; omega
      have f3 : IntKind.u64.wrap (loN q * 2) = loN (2 * q) := by rw [IntKind.wrap_u64]; exact shl_lo q
      have et : hiN r / 9223372036854775808 = 0 := by unfold hiN; omega
      have HLB := Lib.hid lb2
      obtain ⟨k1, k2, _, _⟩ := cell_two HV.out.hs
      obtain ⟨k3, k4, _, _⟩ := cell_two HV.out.hr
      obtain ⟨k5, k6, _, _⟩ := cell_two HV.out.hq
      by_cases h64 : 64 ≤ i
      · have dd : decide (64 ≤ (i : Int)) = true := decide_eq_true (by omega)
        have dm : 64 ≤ (i : Int) := by omega
        have tm : (i : Int).tmod 64 = (i : Int) - 64 := by rw [Int.tmod_eq_emod_of_nonneg (by omega)]; omega
        have pu : IntKind.u64.wrap ((i : Int) - 64) = (i : Int) - 64 := by rw [IntKind.wrap_u64]; omega
        have pn : ((i : Int) - 64).toNat = i - 64 := by omega
        have pw : IntKind.i64.wrap ((i : Int) - 64) = (i : Int) - 64 := IntWalk.i64_in _ (by omega)
        have pa : 0 ≤ (i : Int) - 64 := by omega
        have pb : (i : Int) - 64 ≤ 64 := by omega
        have eb := bit_hi_word s i h64 hs
        go_upto_region 10 with ((refine wpList_store_row rfl 113 _ _ rfl gr _ rfl rfl 113 _ HV.out.hr (by kernel_rfl) rfl (by kernel_rfl) ?_))
        have HV2 := Lib.hid (HV.out.setR (2 * r + bitN s i))

        generalize wr.setRow gr #[.int .u64 (hiN (2 * r + bitN s i)), .int .u64 (loN (2 * r + bitN s i))] = w2 at *
        clear k1 k2 k3 k4 k5 k6 e1 e2 e3 lb1 lb2 HLB HV
        obtain ⟨k5, k6, _, _⟩ := cell_two HV2.out.hq
        go_upto_region 11 with ((refine wpList_store_row rfl 113 _ _ rfl gq _ rfl rfl 113 _ HV2.out.hq (by kernel_rfl) rfl (by kernel_rfl) ?_))
        have HV3 := Lib.hid (HV2.out.setQ (2 * q))
        generalize w2.setRow gq #[.int .u64 (hiN (2 * q)), .int .u64 (loN (2 * q))] = w3 at *
        clear k5 k6 f1 f2 f3 HV2
        obtain ⟨R, hR⟩ : ∃ R, R = 2 * r + bitN s i := ⟨_, rfl⟩
        rw [← hR] at HV3 HST
        have hR2 : R < 340282366920938463463374607431768211456 := by omega
        clear hR
        obtain ⟨c1, c2, _, _⟩ := cell_two HV3.out.hr
        obtain ⟨c3, c4, _, _⟩ := cell_two HV3.out.ht
        go_wp2_with fail
        refine (dbelow_any R t _).mono ?_
        rintro e w4 ⟨rfl, hb⟩
        have HV4 := Lib.hid (HV3.out.step hb)
        clear hb HV3 c1 c2 c3 c4
        by_cases hlt : R < t
        · obtain ⟨n1, n2⟩ := HST.out.1 hlt
          have HV5 := Lib.hid (show OdR w gt g0 g1 gq gr s t (dvQ s t i) (ovR s t i) w4 by rw [n1, n2]; exact HV4.out)
          rw [decide_eq_true hlt]
          clear n1 n2 hlt HV4
          go_wp2_with fail
          go_roundg i
          case measure => have h := HJ.out; omega
          case rel => exact ⟨i, by go_num, HV5.out, by omega, rfl⟩
        · obtain ⟨n1, n2⟩ := HST.out.2 hlt
          have HN := Lib.hid (And.intro n1 n2)
          rw [decide_eq_false hlt]
          clear n1 n2
          go_wp2_with (first | (refine wpList_load_row rfl 113 _ rfl gr rfl 113 _ (0, 0) _ HV4.out.hr Try.underlying113 rfl (by kernel_rfl) ?_) | (refine wpList_load_row rfl 113 _ rfl gt rfl 113 _ (0, 0) _ HV4.out.ht Try.underlying113 rfl (by kernel_rfl) ?_))
          refine (dminus_any R t (by omega) hR2 _).mono ?_
          rintro e w5 ⟨rfl, hb⟩
          have HV5 := Lib.hid (HV4.out.step hb)
          clear hb HV4
          rw [show szV (R - t) = .agg #[.int .u64 (hiN (R - t)), .int .u64 (loN (R - t))] from rfl]
          go_upto_region 13 with ((refine wpList_store_row rfl 113 _ _ rfl gr _ rfl rfl 113 _ HV5.out.hr (by kernel_rfl) rfl (by kernel_rfl) ?_))
          have HV6 := Lib.hid (HV5.out.setR (R - t))
          generalize w5.setRow gr #[.int .u64 (hiN (R - t)), .int .u64 (loN (R - t))] = w6 at *
          clear HV5
          obtain ⟨sh1, sh2⟩ := or_one q
          obtain ⟨k1, k2, k3, k4⟩ := cell_two HV6.out.hq
          have HV7 := Lib.hid (HV6.out.setQlo (2 * q + 1) _ sh2 rfl)
          have HV8 := Lib.hid (show OdR w gt g0 g1 gq gr s t (dvQ s t i) (ovR s t i) _ by rw [HN.out.1, HN.out.2]; exact HV7.out)
          clear sh2 HV7 HV6 HN
          go_wp2_with fail
          go_roundg i
          case measure => have h := HJ.out; omega
          case rel => exact ⟨i, by go_num, HV8.out, by omega, rfl⟩
      · have dd : decide (64 ≤ (i : Int)) = false := decide_eq_false (by omega)
        have dm : ¬ 64 ≤ (i : Int) := by omega
        have tm : (i : Int).tmod 64 = (i : Int) := by rw [Int.tmod_eq_emod_of_nonneg (by omega)]; omega
        have pu : IntKind.u64.wrap (i : Int) = (i : Int) := by rw [IntKind.wrap_u64]; omega
        have pw : IntKind.i64.wrap (i : Int) = (i : Int) := IntWalk.i64_in _ (by omega)
        have pa : 0 ≤ (i : Int) := by omega
        have pb : (i : Int) ≤ 64 := by omega
        have eb := bit_lo_word s i (by omega)
        go_upto_region 10 with ((refine wpList_store_row rfl 113 _ _ rfl gr _ rfl rfl 113 _ HV.out.hr (by kernel_rfl) rfl (by kernel_rfl) ?_))
        have HV2 := Lib.hid (HV.out.setR (2 * r + bitN s i))

        generalize wr.setRow gr #[.int .u64 (hiN (2 * r + bitN s i)), .int .u64 (loN (2 * r + bitN s i))] = w2 at *
        clear k1 k2 k3 k4 k5 k6 e1 e2 e3 lb1 lb2 HLB HV
        obtain ⟨k5, k6, _, _⟩ := cell_two HV2.out.hq
        go_upto_region 11 with ((refine wpList_store_row rfl 113 _ _ rfl gq _ rfl rfl 113 _ HV2.out.hq (by kernel_rfl) rfl (by kernel_rfl) ?_))
        have HV3 := Lib.hid (HV2.out.setQ (2 * q))
        generalize w2.setRow gq #[.int .u64 (hiN (2 * q)), .int .u64 (loN (2 * q))] = w3 at *
        clear k5 k6 f1 f2 f3 HV2
        obtain ⟨R, hR⟩ : ∃ R, R = 2 * r + bitN s i := ⟨_, rfl⟩
        rw [← hR] at HV3 HST
        have hR2 : R < 340282366920938463463374607431768211456 := by omega
        clear hR
        obtain ⟨c1, c2, _, _⟩ := cell_two HV3.out.hr
        obtain ⟨c3, c4, _, _⟩ := cell_two HV3.out.ht
        go_wp2_with fail
        refine (dbelow_any R t _).mono ?_
        rintro e w4 ⟨rfl, hb⟩
        have HV4 := Lib.hid (HV3.out.step hb)
        clear hb HV3 c1 c2 c3 c4
        by_cases hlt : R < t
        · obtain ⟨n1, n2⟩ := HST.out.1 hlt
          have HV5 := Lib.hid (show OdR w gt g0 g1 gq gr s t (dvQ s t i) (ovR s t i) w4 by rw [n1, n2]; exact HV4.out)
          rw [decide_eq_true hlt]
          clear n1 n2 hlt HV4
          go_wp2_with fail
          go_roundg i
          case measure => have h := HJ.out; omega
          case rel => exact ⟨i, by go_num, HV5.out, by omega, rfl⟩
        · obtain ⟨n1, n2⟩ := HST.out.2 hlt
          have HN := Lib.hid (And.intro n1 n2)
          rw [decide_eq_false hlt]
          clear n1 n2
          go_wp2_with (first | (refine wpList_load_row rfl 113 _ rfl gr rfl 113 _ (0, 0) _ HV4.out.hr Try.underlying113 rfl (by kernel_rfl) ?_) | (refine wpList_load_row rfl 113 _ rfl gt rfl 113 _ (0, 0) _ HV4.out.ht Try.underlying113 rfl (by kernel_rfl) ?_))
          refine (dminus_any R t (by omega) hR2 _).mono ?_
          rintro e w5 ⟨rfl, hb⟩
          have HV5 := Lib.hid (HV4.out.step hb)
          clear hb HV4
          rw [show szV (R - t) = .agg #[.int .u64 (hiN (R - t)), .int .u64 (loN (R - t))] from rfl]
          go_upto_region 13 with ((refine wpList_store_row rfl 113 _ _ rfl gr _ rfl rfl 113 _ HV5.out.hr (by kernel_rfl) rfl (by kernel_rfl) ?_))
          have HV6 := Lib.hid (HV5.out.setR (R - t))
          generalize w5.setRow gr #[.int .u64 (hiN (R - t)), .int .u64 (loN (R - t))] = w6 at *
          clear HV5
          obtain ⟨sh1, sh2⟩ := or_one q
          obtain ⟨k1, k2, k3, k4⟩ := cell_two HV6.out.hq
          have HV7 := Lib.hid (HV6.out.setQlo (2 * q + 1) _ sh2 rfl)
          have HV8 := Lib.hid (show OdR w gt g0 g1 gq gr s t (dvQ s t i) (ovR s t i) _ by rw [HN.out.1, HN.out.2]; exact HV7.out)
          clear sh2 HV7 HV6 HN
          go_wp2_with fail
          go_roundg i
          case measure => have h := HJ.out; omega
          case rel => exact ⟨i, by go_num, HV8.out, by omega, rfl⟩
    · obtain rfl : j = 0 := by omega
      have hji : ¬ (0 : Int) ≤ -1 := by omega
      rw [show ((0 : Nat) : Int) - 1 = -1 from rfl]
      rw [HE.out.1, HE.out.2] at HV
      go_upto_region 14 with fail
      obtain ⟨hb, hne, _, _, h0, h1, hq, hr⟩ := HV.out
      obtain ⟨q1, q2, q3, q4⟩ := cell_two hq
      obtain ⟨r1, r2, r3, r4⟩ := cell_two hr
      obtain ⟨a1, a2, a3, a4⟩ := cell_two h0
      obtain ⟨b1, b2, b3, b4⟩ := cell_two h1
      clear hq hr
      have HB := Lib.hid hb
      have H0 := Lib.hid h0
      have H1 := Lib.hid h1
      have n1 : g0 ≠ g1 := by omega
      have n2 : g0 ≠ gq := by omega
      have n3 : g0 ≠ gr := by omega
      have n4 : g1 ≠ gq := by omega
      have n5 : g1 ≠ gr := by omega
      clear hb h0 h1
      go_region
      obtain ⟨W, hW⟩ : ∃ W, W = ((((wr.setCell ⟨g0, 0, none⟩ (.int .u64 (hiN (s / t)))).setCell ⟨g0, 1, none⟩ (.int .u64 (loN (s / t)))).setCell ⟨g1, 0, none⟩ (.int .u64 (hiN (s % t)))).setCell ⟨g1, 1, none⟩ (.int .u64 (loN (s % t)))).drew := ⟨_, rfl⟩
      rw [← hW]
      have f0 : W.heap[g0]? = some (.cells #[.int .u64 (hiN (s / t)), .int .u64 (loN (s / t))] 113) := by
        rw [hW]
        exact heap_other _ (heap_other _ (cell_set (cell_set H0.out (.int .u64 (hiN (s / t)))).1 (.int .u64 (loN (s / t)))).2 n1) n1
      have f1 : W.heap[g1]? = some (.cells #[.int .u64 (hiN (s % t)), .int .u64 (loN (s % t))] 113) := by
        rw [hW]
        exact (cell_set (cell_set (heap_other _ (heap_other _ H1.out (Ne.symm n1)) (Ne.symm n1)) (.int .u64 (hiN (s % t)))).1 (.int .u64 (loN (s % t)))).2
      have HF := Lib.hid (show Below w.heap.size w W by
        rw [hW]
        exact Below.drew ((((HB.out.setCell (p := ⟨g0, 0, none⟩) (by show w.heap.size ≤ g0; omega) _).setCell (p := ⟨g0, 1, none⟩) (by show w.heap.size ≤ g0; omega) _).setCell (p := ⟨g1, 0, none⟩) (by show w.heap.size ≤ g1; omega) _).setCell (p := ⟨g1, 1, none⟩) (by show w.heap.size ≤ g1; omega) _))
      have HF0 := Lib.hid f0
      have HF1 := Lib.hid f1
      clear hW q1 q2 q3 q4 r1 r2 r3 r4 a1 a2 a3 a4 b1 b2 b3 b4 f0 f1
      go_wp2
      refine bodyPost_ret (results_cells2 (fn := Try.f74) rfl _ _ g0 g1 _ _ _ _ _ _ rfl rfl HF0.out HF1.out Try.underlying113 rfl (by kernel_rfl) (by kernel_rfl)) rfl ?_
      exact ⟨rfl, HF.out⟩

end Go.Proofs.Ytmelblnflalanaa

/- The greatest divisor, and the fraction of a sign and two sizes, as the document makes them. -/
namespace Go.Proofs.Ytmelblnflalanaa
open Go Go.RowKit
set_option linter.unusedVariables false
set_option linter.unusedSimpArgs false

set_option maxRecDepth 100000 in
set_option maxHeartbeats 4000000 in
theorem dcommon_any (a b : Nat) (ha : a ≤ 170141183460469231731687303715884105728) (hb : b ≤ 170141183460469231731687303715884105728) (w : World) :
    Calls Try.prog 56 #[szV a, szV b] w fun e w' => e = .returned (szV (Nat.gcd a b)) ∧ Below w.heap.size w w' := by
  obtain ⟨G, hG⟩ : ∃ G, G = Nat.gcd a b := ⟨_, rfl⟩
  rw [← hG]
  have HG := Lib.hid hG
  have HA := Lib.hid (And.intro ha hb)
  clear ha hb hG
  unfold szV
  go_enter Try.func56, Try.ntmps56
  go_upto_block 0 with fail
  have HO := Lib.hid (CmR.made 113 w a b)
  generalize (((w.alloc (.cells #[.int .u64 (hiN a), .int .u64 (loN a)] 113)).alloc (.cells #[.int .u64 (hiN b), .int .u64 (loN b)] 113)).alloc (.cells #[.int .u64 0, .int .u64 0] 113)) = w1 at *
  obtain ⟨g0, hg0⟩ : ∃ g, g = w.heap.size + 1 + 1 := ⟨_, rfl⟩
  rw [← hg0] at HO ⊢
  obtain ⟨gb, hgb⟩ : ∃ g, g = w.heap.size + 1 := ⟨_, rfl⟩
  rw [← hgb] at HO ⊢
  clear hg0 hgb
  go_wp2
  go_loopg [5] b (fun g v wr => ∃ x y : Nat, Hid (CmR 113 w gb g0 x y wr) ∧ Hid (g = y ∧ G = Nat.gcd x y ∧ x ≤ 170141183460469231731687303715884105728 ∧ y ≤ 170141183460469231731687303715884105728))
  case atStart => exact ⟨a, b, HO.out, rfl, HG.out, HA.out.1, HA.out.2⟩
  case round =>
    obtain ⟨x, y, HV, HP⟩ := hrel
    by_cases hy : y = 0
    · have e1 : (hiN y == 0) = true := by rw [hy]; rfl
      have e2 : (loN y == 0) = true := by rw [hy]; rfl
      have h := HP.out.2.1
      rw [hy, Nat.gcd_zero_right] at h
      subst h
      clear hy
      go_wp2_with (first | (refine wpList_load_row rfl 113 _ rfl w.heap.size rfl 113 _ (0, 0) _ HV.out.ha Try.underlying113 rfl (by kernel_rfl) ?_) | (refine wpList_load_row rfl 113 _ rfl gb rfl 113 _ (0, 0) _ HV.out.hb Try.underlying113 rfl (by kernel_rfl) ?_) | (refine wpList_store_row rfl 113 _ _ rfl g0 _ rfl rfl 113 _ HV.out.h0 (by kernel_rfl) rfl (by kernel_rfl) ?_))
      refine bodyPost_ret (results_cell_row (fn := Try.f56) rfl _ _ g0 _ _ _ _ rfl (setRow_heap _ _ _ _ _ _ HV.out.h0) Try.underlying113 rfl (by kernel_rfl)) rfl ?_
      exact ⟨rfl, below_row HV.out.below (by have := HV.out.ne; omega) _⟩
    · have e0 : ((hiN y == 0) && (loN y == 0)) = false := by
        rw [Bool.eq_false_iff]; intro h
        rw [Bool.and_eq_true] at h
        exact hy (hilo_zero.1 ⟨by simpa using h.1, by simpa using h.2⟩)
      cases e1 : (hiN y == 0) with
      | true =>
        have e2 : (loN y == 0) = false := by rw [e1, Bool.true_and] at e0; exact e0
        clear e0
        go_wp2_with (first | (refine wpList_load_row rfl 113 _ rfl w.heap.size rfl 113 _ (0, 0) _ HV.out.ha Try.underlying113 rfl (by kernel_rfl) ?_) | (refine wpList_load_row rfl 113 _ rfl gb rfl 113 _ (0, 0) _ HV.out.hb Try.underlying113 rfl (by kernel_rfl) ?_))
        refine (divide_any x y (by have h := HP.out; omega) (by omega) (by have h := HP.out; omega) _).mono ?_
        rintro e w3 ⟨rfl, hb2⟩
        have HV3 := Lib.hid (HV.out.step hb2)
        clear hb2 HV
        rw [show szV (x / y) = .agg #[.int .u64 (hiN (x / y)), .int .u64 (loN (x / y))] from rfl, show szV (x % y) = .agg #[.int .u64 (hiN (x % y)), .int .u64 (loN (x % y))] from rfl]
        have HZ := Lib.hid (two_fresh w3 113)
        go_upto_region 3 with (first | (refine wpList_store_row rfl 113 _ _ rfl w3.heap.size _ rfl rfl 113 _ HZ.out.1 (by kernel_rfl) rfl (by kernel_rfl) ?_) | (refine wpList_store_row rfl 113 _ _ rfl (w3.heap.size + 1) _ rfl rfl 113 _ (second_fresh _ HZ.out.2) (by kernel_rfl) rfl (by kernel_rfl) ?_))
        obtain ⟨pb, p1, p2⟩ := pair_stored w3 113 (x / y) (x % y)
        have HV4 := Lib.hid (HV3.out.step pb)
        have HR := Lib.hid p2
        have hlt : gb < w3.heap.size := HV3.out.hb.lt
        have hla : w.heap.size < w3.heap.size := HV3.out.ha.lt
        clear pb p1 p2 HZ HV3
        generalize (((w3.alloc (.cells #[.int .u64 0, .int .u64 0] 113)).alloc (.cells #[.int .u64 0, .int .u64 0] 113)).setRow w3.heap.size #[.int .u64 (hiN (x / y)), .int .u64 (loN (x / y))]).setRow (w3.heap.size + 1) #[.int .u64 (hiN (x % y)), .int .u64 (loN (x % y))] = w4 at *
        obtain ⟨gr, hgr⟩ : ∃ g, g = w3.heap.size + 1 := ⟨_, rfl⟩
        rw [← hgr] at HR ⊢
        have hgr2 : w.heap.size < gr ∧ gb < gr := by omega
        have HV5 := Lib.hid (HV4.out.setA y)
        have HR5 := Lib.hid (show Blk 113 gr (x % y) _ from row_other #[.int .u64 (hiN y), .int .u64 (loN y)] HR.out (show gr ≠ w.heap.size by omega))
        have HV6 := Lib.hid (HV5.out.setB (x % y))
        have HQ := Lib.hid (show G = Nat.gcd y (x % y) ∧ x % y < y from ⟨by rw [HP.out.2.1, Nat.gcd_comm x y, Nat.gcd_rec y x, Nat.gcd_comm], Nat.mod_lt _ (by omega)⟩)
        clear hgr hlt hla hgr2
        go_upto_region 4 with (first | (refine wpList_load_row rfl 113 _ rfl gb rfl 113 _ (0, 0) _ HV4.out.hb Try.underlying113 rfl (by kernel_rfl) ?_) | (refine wpList_store_row rfl 113 _ _ rfl w.heap.size _ rfl rfl 113 _ HV4.out.ha (by kernel_rfl) rfl (by kernel_rfl) ?_))
        go_wp2_with (first | (refine wpList_load_row rfl 113 _ rfl gr rfl 113 _ (0, 0) _ HR5.out Try.underlying113 rfl (by kernel_rfl) ?_) | (refine wpList_store_row rfl 113 _ _ rfl gb _ rfl rfl 113 _ HV5.out.hb (by kernel_rfl) rfl (by kernel_rfl) ?_))
        go_roundg (x % y)
        case measure => have h := HP.out; have h2 := HQ.out; omega
        case rel => exact ⟨y, x % y, HV6.out, rfl, HQ.out.1, by have h := HP.out; omega, by have h := HP.out; have h2 := HQ.out; omega⟩
      | false =>
        clear e0
        go_wp2_with (first | (refine wpList_load_row rfl 113 _ rfl w.heap.size rfl 113 _ (0, 0) _ HV.out.ha Try.underlying113 rfl (by kernel_rfl) ?_) | (refine wpList_load_row rfl 113 _ rfl gb rfl 113 _ (0, 0) _ HV.out.hb Try.underlying113 rfl (by kernel_rfl) ?_))
        refine (divide_any x y (by have h := HP.out; omega) (by omega) (by have h := HP.out; omega) _).mono ?_
        rintro e w3 ⟨rfl, hb2⟩
        have HV3 := Lib.hid (HV.out.step hb2)
        clear hb2 HV
        rw [show szV (x / y) = .agg #[.int .u64 (hiN (x / y)), .int .u64 (loN (x / y))] from rfl, show szV (x % y) = .agg #[.int .u64 (hiN (x % y)), .int .u64 (loN (x % y))] from rfl]
        have HZ := Lib.hid (two_fresh w3 113)
        go_upto_region 3 with (first | (refine wpList_store_row rfl 113 _ _ rfl w3.heap.size _ rfl rfl 113 _ HZ.out.1 (by kernel_rfl) rfl (by kernel_rfl) ?_) | (refine wpList_store_row rfl 113 _ _ rfl (w3.heap.size + 1) _ rfl rfl 113 _ (second_fresh _ HZ.out.2) (by kernel_rfl) rfl (by kernel_rfl) ?_))
        obtain ⟨pb, p1, p2⟩ := pair_stored w3 113 (x / y) (x % y)
        have HV4 := Lib.hid (HV3.out.step pb)
        have HR := Lib.hid p2
        have hlt : gb < w3.heap.size := HV3.out.hb.lt
        have hla : w.heap.size < w3.heap.size := HV3.out.ha.lt
        clear pb p1 p2 HZ HV3
        generalize (((w3.alloc (.cells #[.int .u64 0, .int .u64 0] 113)).alloc (.cells #[.int .u64 0, .int .u64 0] 113)).setRow w3.heap.size #[.int .u64 (hiN (x / y)), .int .u64 (loN (x / y))]).setRow (w3.heap.size + 1) #[.int .u64 (hiN (x % y)), .int .u64 (loN (x % y))] = w4 at *
        obtain ⟨gr, hgr⟩ : ∃ g, g = w3.heap.size + 1 := ⟨_, rfl⟩
        rw [← hgr] at HR ⊢
        have hgr2 : w.heap.size < gr ∧ gb < gr := by omega
        have HV5 := Lib.hid (HV4.out.setA y)
        have HR5 := Lib.hid (show Blk 113 gr (x % y) _ from row_other #[.int .u64 (hiN y), .int .u64 (loN y)] HR.out (show gr ≠ w.heap.size by omega))
        have HV6 := Lib.hid (HV5.out.setB (x % y))
        have HQ := Lib.hid (show G = Nat.gcd y (x % y) ∧ x % y < y from ⟨by rw [HP.out.2.1, Nat.gcd_comm x y, Nat.gcd_rec y x, Nat.gcd_comm], Nat.mod_lt _ (by omega)⟩)
        clear hgr hlt hla hgr2
        go_upto_region 4 with (first | (refine wpList_load_row rfl 113 _ rfl gb rfl 113 _ (0, 0) _ HV4.out.hb Try.underlying113 rfl (by kernel_rfl) ?_) | (refine wpList_store_row rfl 113 _ _ rfl w.heap.size _ rfl rfl 113 _ HV4.out.ha (by kernel_rfl) rfl (by kernel_rfl) ?_))
        go_wp2_with (first | (refine wpList_load_row rfl 113 _ rfl gr rfl 113 _ (0, 0) _ HR5.out Try.underlying113 rfl (by kernel_rfl) ?_) | (refine wpList_store_row rfl 113 _ _ rfl gb _ rfl rfl 113 _ HV5.out.hb (by kernel_rfl) rfl (by kernel_rfl) ?_))
        go_roundg (x % y)
        case measure => have h := HP.out; have h2 := HQ.out; omega
        case rel => exact ⟨y, x % y, HV6.out, rfl, HQ.out.1, by have h := HP.out; omega, by have h := HP.out; have h2 := HQ.out; omega⟩

end Go.Proofs.Ytmelblnflalanaa

/- Whether a fraction is right, as the document tells it. -/
namespace Go.Proofs.Ytmelblnflalanaa
open Go Go.RowKit
set_option linter.unusedVariables false
set_option linter.unusedSimpArgs false

set_option maxRecDepth 100000 in
set_option maxHeartbeats 4000000 in
theorem dright_any (x y : Int) (hx : I64 x) (hy : I64 y) (w : World) : Calls Try.prog 30 #[.agg #[.int .i64 x, .int .i64 y]] w fun e w' => e = .returned (.bool (rightR (x, y))) ∧ Below w.heap.size w w' := by
  have H1 := Lib.hid (heap_alloc_new w (.cells #[.int .i64 x, .int .i64 y] 25))
  have HB := Lib.hid (below_one w (.cells #[.int .i64 x, .int .i64 y] 25))
  by_cases h : 0 < y
  · have d1 : decide (0 < y) = true := decide_eq_true h
    have ax := abs64 hx
    have ay := abs64 hy
    have HS := Lib.hid (fun W => dsize_any x hx.1 hx.2 W)
    have HC := Lib.hid (fun W => dcommon_any x.natAbs y.natAbs (by omega) (by omega) W)
    have hG : Nat.gcd x.natAbs y.natAbs ≤ y.natAbs := Nat.le_of_dvd (by omega) (Nat.gcd_dvd_right _ _)
    have hyw : IntKind.u64.wrap y = (y.natAbs : Int) := by rw [IntKind.wrap_u64]; obtain ⟨_, _⟩ := hy; omega
    have hR : rightR (x, y) = true ↔ Nat.gcd x.natAbs y.natAbs = 1 := ⟨fun h' => (of_decide_eq_true h').2, fun h' => decide_eq_true ⟨h, h'⟩⟩
    obtain ⟨G, hg⟩ : ∃ G, G = Nat.gcd x.natAbs y.natAbs := ⟨_, rfl⟩
    rw [← hg] at HC hG hR
    have HC : Hid (∀ W, Calls Try.prog 56 #[.agg #[.int .u64 (hiN x.natAbs), .int .u64 (loN x.natAbs)], .agg #[.int .u64 (hiN y.natAbs), .int .u64 (loN y.natAbs)]] W fun e w' => e = .returned (.agg #[.int .u64 (hiN G), .int .u64 (loN G)]) ∧ Below W.heap.size W w') := HC
    rw [small_hi (show x.natAbs < 18446744073709551616 by omega), small_lo (show x.natAbs < 18446744073709551616 by omega), small_hi (show y.natAbs < 18446744073709551616 by omega), small_lo (show y.natAbs < 18446744073709551616 by omega), small_hi (show G < 18446744073709551616 by omega), small_lo (show G < 18446744073709551616 by omega)] at HC
    obtain ⟨R, hR2⟩ : ∃ R, R = rightR (x, y) := ⟨_, rfl⟩
    rw [← hR2] at hR ⊢
    have HR := Lib.hid hR
    clear hR2 hR hg hG h ax ay
    obtain ⟨mx, hmx⟩ : ∃ m, m = x.natAbs := ⟨_, rfl⟩
    obtain ⟨my, hmy⟩ : ∃ m, m = y.natAbs := ⟨_, rfl⟩
    rw [← hmx] at HS HC
    rw [← hmy] at HC hyw
    clear hmx hmy hx hy
    have hgr : ((G : Int) == 1) = R := by
      rw [Bool.eq_iff_iff, HR.out]
      simp
      omega
    clear HR
    go_enter Try.func30, Try.ntmps30
    go_upto_region 1 with fail
    generalize w.alloc (.cells #[.int .i64 x, .int .i64 y] 25) = w1 at *
    have kh : Below w.heap.size w w1.drew ∧ w1.drew.heap[w.heap.size]? = some (.cells #[.int .i64 x, .int .i64 y] 25) := ⟨Below.drew HB.out, H1.out⟩
    cases R with
    | true =>
      go_region_held3 (fun wr => wr.cell? ⟨w.heap.size, 0, none⟩ = some (.int .i64 x) ∧ wr.cell? ⟨w.heap.size, 1, none⟩ = some (.int .i64 y))
        (first | exact ⟨(cell_two kh.2).1, (cell_two kh.2).2.1⟩ | go_keep)
        (first | (go_at_call 57; refine (HS.out _).mono ?_; rintro e v1 ⟨rfl, rfl⟩) | (go_at_call 56; refine (HC.out _).mono ?_; rintro e v2 ⟨rfl, hb⟩; have kh := And.intro (kh.1.trans (hb.mono kh.1.size)) (heap_keep kh.2 hb); clear hb))
      go_wp2
      go_ret
      exact ⟨rfl, kh.1⟩
    | false =>
      go_region_held3 (fun wr => wr.cell? ⟨w.heap.size, 0, none⟩ = some (.int .i64 x) ∧ wr.cell? ⟨w.heap.size, 1, none⟩ = some (.int .i64 y))
        (first | exact ⟨(cell_two kh.2).1, (cell_two kh.2).2.1⟩ | go_keep)
        (first | (go_at_call 57; refine (HS.out _).mono ?_; rintro e v1 ⟨rfl, rfl⟩) | (go_at_call 56; refine (HC.out _).mono ?_; rintro e v2 ⟨rfl, hb⟩; have kh := And.intro (kh.1.trans (hb.mono kh.1.size)) (heap_keep kh.2 hb); clear hb))
      go_wp2
      go_ret
      exact ⟨rfl, kh.1⟩
  · have d1 : decide (0 < y) = false := decide_eq_false h
    have hR : rightR (x, y) = false := decide_eq_false (fun h' => h h'.1)
    rw [hR]
    clear hR h
    go_enter Try.func30, Try.ntmps30
    go_upto_region 1 with fail
    generalize w.alloc (.cells #[.int .i64 x, .int .i64 y] 25) = w1 at *
    obtain ⟨k1, k2, _, _⟩ := cell_two H1.out
    go_quiet (fail)
    go_wp2
    go_ret
    exact ⟨rfl, belowN HB.out _⟩

end Go.Proofs.Ytmelblnflalanaa

/- What PointUp needs: the document's Right, Reset and Unset whatever the clock, cells that stay; what they tell of points. -/
namespace Go.Proofs.Ytmelblnflalanaa
open Go Go.RowKit
set_option linter.unusedVariables false
set_option linter.unusedSimpArgs false

/-- The cells of a block. -/
def HasCs (b : Nat) (cs : Array Value) (w : World) : Prop := ∀ k v, cs[k]? = some v → w.cell? ⟨b, k, none⟩ = some v
theorem stable_cs (b : Nat) (cs : Array Value) : Stable (HasCs b cs) := fun w w' h hb k v hk => (hb.cell (p := ⟨b, k, none⟩) (World.block_lt_of_cell? w _ (h k v hk))).trans (h k v hk)
theorem cs_new (w : World) (cs : Array Value) (T : TypeId) : HasCs w.heap.size cs (w.alloc (.cells cs T)) := fun k v hk => by
  have h1 := heap_alloc_new w (.cells cs T)
  unfold World.cell?
  rw [h1]
  simpa using hk
theorem stable_rats (A : Option Addr) (l : List (Int × Int)) : Stable fun w => RatsA w A l := fun _ _ h hb => h.below hb
theorem stable_gds (A : Option Addr) (l : List (Int × Int × Int × Int)) : Stable fun w => Gds w A l := fun _ _ h hb => h.below hb

set_option maxRecDepth 100000 in
set_option maxHeartbeats 2000000 in
theorem dpright_any (A : Option Addr) (c : Nat) (l : List (Int × Int)) (w : World) (hI : RatsA w A l) (hmax : l.length ≤ 8796093022000) (h64 : All64v l) :
    Calls Try.prog 7 #[.slice A l.length c] w fun e w' => e = .returned (.bool (rightV l)) ∧ Below w.heap.size w w' := by
  have HI := Lib.hid hI
  have H64 := Lib.hid h64
  have HM := Lib.hid hmax
  have HB0 := Lib.hid (Below.refl w.heap.size w)
  have HR := Lib.hid (fun x1 x2 (h1 : I64 x1) (h2 : I64 x2) W => dright_any x1 x2 h1 h2 W)
  have HF : Hid (∀ q, q < l.length → ¬ (rightR (l.getD q (0, 0)) = true ∧ 0 ≤ (l.getD q (0, 0)).1) → rightV l = false) := Lib.hid fun q hq hn => by
    rw [Bool.eq_false_iff]
    intro h
    have := clock_right h (i := q + 1) (by omega)
    unfold clockV at this
    rw [if_neg (by omega), Nat.add_sub_cancel] at this
    exact hn this
  have HT : Hid ((∀ q, q < l.length → rightR (l.getD q (0, 0)) = true ∧ 0 ≤ (l.getD q (0, 0)).1) → rightV l = decide ((l.length : Int) ≤ 8)) := Lib.hid fun h => by
    unfold rightV
    rw [show (l.all fun r => rightR r && decide (0 ≤ r.1)) = true from (all_getD _ _ (0, 0)).2 fun q hq => by
      obtain ⟨a, b⟩ := h q hq
      rw [a, decide_eq_true b]; rfl, Bool.and_true]
    exact decide_eq_decide.2 ⟨fun h => by omega, fun h => by omega⟩
  obtain ⟨R, hR⟩ : ∃ R, R = rightV l := ⟨_, rfl⟩
  rw [← hR] at HF HT ⊢
  clear hR hI h64 hmax
  go_enter Try.func7, Try.ntmps7
  go_wp2
  go_loopg [3] l.length (fun g x wr => ∃ i : Nat, x = .int .i64 i ∧ Hid (Below w.heap.size w wr) ∧ Hid (i ≤ l.length ∧ g + i = l.length ∧ ∀ q, q < i → rightR (l.getD q (0, 0)) = true ∧ 0 ≤ (l.getD q (0, 0)).1))
  case atStart => exact ⟨0, by simp, HB0, Lib.hid ⟨by omega, by omega, fun q h => absurd h (by omega)⟩⟩
  case round =>
    clear HB0
    obtain ⟨i, rfl, HB, HG⟩ := hrel
    have q5 : IntKind.i64.wrap ((i : Int) + 1) = ((i + 1 : Nat) : Int) := by rw [IntWalk.i64_in _ (by have := HG.out.1; have := HM.out; omega)]; omega
    by_cases hp : i < l.length
    · have hpi : (i : Int) < (l.length : Int) := by omega
      obtain ⟨ba, oa, rfl, e1, e2⟩ := HI.out.below HB.out i hp
      have x64 := H64.out i hp
      have HFI := Lib.hid (HF.out i hp)
      have HNX := Lib.hid (fun (h : rightR (l.getD i (0, 0)) = true ∧ 0 ≤ (l.getD i (0, 0)).1) q (hq : q < i + 1) => show rightR (l.getD q (0, 0)) = true ∧ 0 ≤ (l.getD q (0, 0)).1 from by
        by_cases e : q = i
        · rw [e]; exact h
        · exact HG.out.2.2 q (by omega))
      have HE := Lib.hid e1
      obtain ⟨x, hx⟩ : ∃ x, x = l.getD i (0, 0) := ⟨_, rfl⟩
      rw [← hx] at e1 e2 x64 HFI HNX HE
      obtain ⟨x1, x2⟩ := x
      have HRX := Lib.hid (fun W => HR.out x1 x2 x64.1 x64.2 W)
      obtain ⟨rx, hrx⟩ : ∃ r, r = rightR (x1, x2) := ⟨_, rfl⟩
      rw [← hrx] at HRX HFI HNX
      clear hx hrx x64
      go_wp2_with fail
      refine (HRX.out _).mono ?_
      rintro e w2 ⟨rfl, hb⟩
      have e3 := (hb.cell (World.block_lt_of_cell? wr _ HE.out)).trans HE.out
      replace HB := Lib.hid (HB.out.trans (hb.mono HB.out.size))
      clear hb e1 e2
      cases rx with
      | false =>
        have HZ := Lib.hid (HFI.out fun h => absurd h.1 (by decide))
        go_wp2
        go_ret
        rw [HZ.out]
        exact ⟨rfl, HB.out⟩
      | true =>
        by_cases h0 : x1 < 0
        · have d1 : decide (x1 < 0) = true := decide_eq_true h0
          have HZ := Lib.hid (HFI.out fun h => absurd h.2 (by show ¬ 0 ≤ x1; omega))
          clear h0
          go_wp2
          go_ret
          rw [HZ.out]
          exact ⟨rfl, HB.out⟩
        · have d1 : decide (x1 < 0) = false := decide_eq_false h0
          have HZ := Lib.hid (HNX.out ⟨rfl, by show 0 ≤ x1; omega⟩)
          clear h0
          go_wp2
          go_roundg (gk - 1)
          case measure => have h := HG.out.2.1; omega
          case rel => exact ⟨i + 1, by go_num, HB, Lib.hid ⟨by omega, by have h := HG.out.2.1; omega, HZ.out⟩⟩
    · have hpi : ¬ (i : Int) < (l.length : Int) := by omega
      have HZ := Lib.hid (HT.out fun q hq => HG.out.2.2 q (by omega))
      go_wp2
      go_ret
      rw [HZ.out]
      exact ⟨rfl, HB.out⟩

/-! ### Reset and Unset, whatever the clock and the number -/
def resetZ (k : Nat) (m : Mat) (c n : Int) : Option Mat × Int := if setE (some (k, m)) c n = 0 then ofP k (flat k (resetW (some (k, m)) c.toNat n)) else (none, setE (some (k, m)) c n)
def unsetZ (k : Nat) (m : Mat) (c n : Int) : Option Mat × Int := if setE (some (k, m)) c n = 0 then unsetP k m c.toNat n else (none, setE (some (k, m)) c n)
theorem setE_ok {k : Nat} {m : Mat} {c n : Int} (h : setE (some (k, m)) c n = 0) : (1 ≤ c ∧ c ≤ k) ∧ (0 ≤ n ∧ n ≤ 1048576) := by
  have h0 : (if isB k c = true then (if 0 ≤ n ∧ n ≤ 1048576 then (0 : Int) else 13) else 12) = 0 := h
  by_cases i1 : isB k c = true
  · rw [if_pos i1] at h0
    by_cases i2 : 0 ≤ n ∧ n ≤ 1048576
    · exact ⟨of_decide_eq_true i1, i2⟩
    · rw [if_neg i2] at h0; omega
  · rw [if_neg i1] at h0; omega
theorem reset_all (v : Value) (k : Nat) (m : Mat) (c n : Int) (w : World) (h : ZoneV 109 w v (some (k, m))) : Calls Try.prog 13 #[v, .int .i64 c, .int .i64 n] w (MakesZ w k (resetZ k m c n)) := by
  unfold resetZ
  by_cases he : setE (some (k, m)) c n = 0
  · obtain ⟨h1, h2⟩ := setE_ok he
    rw [if_pos he]
    obtain ⟨x, rfl⟩ : ∃ x : Nat, c = x := ⟨c.toNat, by omega⟩
    exact reset_right v k m x n w h (by omega) h2
  · rw [if_neg he]
    exact (reset_wrong v (some (k, m)) c n w h he).mono fun e w' ⟨h1, h2⟩ => ⟨h2, .pointer none, h1, rfl⟩
theorem unset_all (v : Value) (k : Nat) (m : Mat) (c n : Int) (w : World) (h : ZoneV 109 w v (some (k, m))) : Calls Try.prog 16 #[v, .int .i64 c, .int .i64 n] w (MakesZ w k (unsetZ k m c n)) := by
  unfold unsetZ
  by_cases he : setE (some (k, m)) c n = 0
  · obtain ⟨h1, h2⟩ := setE_ok he
    rw [if_pos he]
    obtain ⟨x, rfl⟩ : ∃ x : Nat, c = x := ⟨c.toNat, by omega⟩
    exact unset_right v k m x n w h (by omega) h2
  · rw [if_neg he]
    exact (unset_wrong v (some (k, m)) c n w h he).mono fun e w' ⟨h1, h2⟩ => ⟨h2, .pointer none, h1, rfl⟩
theorem set_ok {l : List (Int × Int)} {k : Nat} {c n : Int} (hv : rightV l = true) (hl : l.length = k) (h1 : 1 ≤ c ∧ c ≤ k) (h2 : 0 ≤ n ∧ n ≤ 1048576) : setA l c n = (setV l c.toNat n, 0) := by
  unfold setA
  rw [if_pos hv, if_neg (by omega), if_neg (by omega)]
theorem unset_kind {n c : Nat} {k : Int} {m u : Mat} (h : unsetP n m c k = (some u, 0)) : u = (fun _ _ => 0) ∨ ClosedZ n u := by
  unfold unsetP at h
  split at h
  · exact of_kind h
  · split at h
    · unfold freeP at h
      split at h
      · exact of_kind h
      · cases h
    · unfold wideP at h
      split at h
      · exact of_kind h
      · cases h
theorem unset_cases {n c : Nat} {k : Int} {m : Mat} (hn : n ≤ 8) (hc : 1 ≤ c ∧ c ≤ n) (hk : 0 ≤ k ∧ k ≤ 1048576) (hm : m = (fun _ _ => 0) ∨ ClosedZ n m) : unsetP n m c k = (none, 10) ∨ ∃ u, unsetP n m c k = (some u, 0) := by
  rcases hm with rfl | hm
  · exact .inr ⟨_, unset_zero k hn⟩
  · rcases unset_back hn hc hk hm with h | ⟨u, h, _⟩
    · exact .inl h
    · exact .inr ⟨u, h⟩
theorem reset_told {k : Nat} {m : Mat} {l : List (Int × Int)} {c n : Int} (hk : k ≤ 8) (hm : m = (fun _ _ => 0) ∨ ClosedZ k m) (hv : rightV l = true) (hl : l.length = k) (h : (resetZ k m c n).2 = 0) :
    ∃ a, resetZ k m c n = (some a, 0) ∧ setA l c n = (setV l c.toNat n, 0) ∧ (1 ≤ c ∧ c ≤ k) ∧ (inP k m l = true → inP k a (setV l c.toNat n) = true) ∧ (inP k a l = true → l.getD (c.toNat - 1) (0, 0) = (n, 1)) := by
  by_cases he : setE (some (k, m)) c n = 0
  · obtain ⟨h1, h2⟩ := setE_ok he
    have e : resetZ k m c n = ofP k (flat k (resetW (some (k, m)) c.toNat n)) := if_pos he
    rw [e] at h ⊢
    rcases ofP_cases k (flat k (resetW (some (k, m)) c.toNat n)) with ⟨a, ha⟩ | ⟨e, hne, ha⟩
    · obtain ⟨r1, r2⟩ := reset06 hk (by omega) h2 hm ha hv hl
      exact ⟨a, ha, set_ok hv hl h1 h2, h1, r1, r2⟩
    · rw [ha] at h; exact absurd h hne
  · unfold resetZ at h
    rw [if_neg he] at h; exact absurd h he
theorem unset_told {k : Nat} {m : Mat} {l : List (Int × Int)} {c n : Int} (hk : k ≤ 8) (hm : m = (fun _ _ => 0) ∨ ClosedZ k m) (hv : rightV l = true) (hl : l.length = k) (h : (unsetZ k m c n).2 = 0) :
    ∃ a, unsetZ k m c n = (some a, 0) ∧ setA l c n = (setV l c.toNat n, 0) ∧ inP k a l = inP k m (setV l c.toNat n) := by
  by_cases he : setE (some (k, m)) c n = 0
  · obtain ⟨h1, h2⟩ := setE_ok he
    have e : unsetZ k m c n = unsetP k m c.toNat n := if_pos he
    rw [e] at h ⊢
    rcases unset_cases (c := c.toNat) hk (by omega) h2 hm with ha | ⟨a, ha⟩
    · rw [ha] at h; exact absurd h (by decide)
    · exact ⟨a, ha, set_ok hv hl h1 h2, unset06 hk (by omega) h2 hm ha (kind_right (unset_kind ha)) hv hl⟩
  · unfold unsetZ at h
    rw [if_neg he] at h; exact absurd h he
theorem guards_told {k : Nat} {m : Mat} {l : List (Int × Int)} {gs : List (Int × Int × Int × Int)} (hk : k ≤ 8) (hm : m = (fun _ _ => 0) ∨ ClosedZ k m) (hv : rightV l = true) (hl : l.length = k) (h : (gdA (some (k, m)) gs).2 = 0) :
    ∃ a, gdA (some (k, m)) gs = (some a, 0) ∧ (holdsA l gs).2 = 0 ∧ inP k a l = (inP k m l && (holdsA l gs).1) := by
  suffices hx : ∃ a, gdA (some (k, m)) gs = (some a, 0) ∧ RightM k a by
    obtain ⟨a, ha, hr⟩ := hx
    obtain ⟨h1, h2⟩ := guards06 hk hm ha hr hv hl
    exact ⟨a, ha, h1, h2⟩
  have e : gdA (some (k, m)) gs = if gsE gs = 0 then conA (some (k, m)) (gsL gs gs.length) else (none, gsE gs) := rfl
  rw [e] at h ⊢
  by_cases hE : gsE gs = 0
  · rw [if_pos hE] at h ⊢
    have e2 : conA (some (k, m)) (gsL gs gs.length) = if conE k (gsL gs gs.length) = 0 then ofP k (flat k (conUp (openW (some (k, m))) (gsL gs gs.length) (gsL gs gs.length).length)) else (none, conE k (gsL gs gs.length)) := rfl
    rw [e2] at h ⊢
    by_cases hC : conE k (gsL gs gs.length) = 0
    · rw [if_pos hC] at h ⊢
      rcases ofP_cases k (flat k (conUp (openW (some (k, m))) (gsL gs gs.length) (gsL gs gs.length).length)) with ⟨a, ha⟩ | ⟨e, hne, ha⟩
      · exact ⟨a, ha, kind_right (of_kind ha)⟩
      · rw [ha] at h; exact absurd h hne
    · rw [if_neg hC] at h; exact absurd h hC
  · rw [if_neg hE] at h; exact absurd h hE

end Go.Proofs.Ytmelblnflalanaa
