/- Texts of ours, laid together: Vh, Vi, Hm, Vj, Vb, Vc, Vk. -/
import Derived.Test.YtmgdhlcgbgpgpaaDoorProg
import Derived.Shelf.Bits.Mul64
import Derived.Lib.Hide
import Derived.Deep.LoopGhost
import Derived.KernelRfl
import Derived.Deep.RegionHeld3
import Derived.Test.YtmgdhlcgbgpgpaaDoorMg1
/- Division of numbers of two words, as rat does it. -/
namespace Go.Proofs.YtmgdhlcgbgpgpaaDoor
open Go Go.RowKit
set_option linter.unusedVariables false
set_option linter.unusedSimpArgs false

/-- What of the quotient and the rest stands behind the upper bits, j of them still to come. -/
def ovQ (s t j : Nat) : Nat := s / 2 ^ j / t * 2 ^ j
def ovR (s t j : Nat) : Nat := s / 2 ^ j % t
theorem ov_start (s t : Nat) (h : s < 340282366920938463463374607431768211456) : ovQ s t 128 = 0 ∧ ovR s t 128 = 0 := by
  have e : s / 2 ^ 128 = 0 := Nat.div_eq_of_lt (by simpa using h)
  unfold ovQ ovR
  rw [e]
  simp
theorem ov_end (s t : Nat) : ovQ s t 0 = s / t ∧ ovR s t 0 = s % t := by unfold ovQ ovR; simp
theorem ov_le (s t j : Nat) : ovQ s t j ≤ s := by
  unfold ovQ
  exact Nat.le_trans (Nat.mul_le_mul_right _ (Nat.div_le_self _ _)) (Nat.div_mul_le_self _ _)
theorem ov_step (s t i : Nat) (ht : 0 < t) :
    (2 * ovR s t (i + 1) + bitN s i < t → ovR s t i = 2 * ovR s t (i + 1) + bitN s i ∧ ovQ s t i = ovQ s t (i + 1)) ∧
    (¬ 2 * ovR s t (i + 1) + bitN s i < t → ovR s t i = 2 * ovR s t (i + 1) + bitN s i - t ∧ ovQ s t i = ovQ s t (i + 1) + 2 ^ i) := by
  have h := rem_step s t i ht
  have e : (2 : Nat) ^ (i + 1) = 2 * 2 ^ i := by rw [Nat.pow_succ]; omega
  unfold ovR ovQ
  refine ⟨fun hr => ?_, fun hr => ?_⟩
  · obtain ⟨h1, h2⟩ := h.1 hr
    refine ⟨h1, ?_⟩
    rw [h2]
    generalize s / 2 ^ (i + 1) / t = X
    rw [e]
    ac_rfl
  · obtain ⟨h1, h2⟩ := h.2 hr
    refine ⟨h1, ?_⟩
    rw [h2, Nat.add_mul, Nat.one_mul]
    generalize s / 2 ^ (i + 1) / t = X
    congr 1
    rw [e]
    ac_rfl

/-- The blocks of a division while it goes on. -/
structure OvR (w0 : World) (gt g0 g1 gq gr : Nat) (s t q r : Nat) (wr : World) : Prop where
  below : Below w0.heap.size w0 wr
  ne : w0.heap.size < gt ∧ gt < g0 ∧ g0 < g1 ∧ g1 < gq ∧ gq < gr
  hs : wr.heap[w0.heap.size]? = some (.cells #[.int .u64 (hiN s), .int .u64 (loN s)] 52)
  ht : wr.heap[gt]? = some (.cells #[.int .u64 (hiN t), .int .u64 (loN t)] 52)
  h0 : wr.heap[g0]? = some (.cells #[.int .u64 0, .int .u64 0] 52)
  h1 : wr.heap[g1]? = some (.cells #[.int .u64 0, .int .u64 0] 52)
  hq : wr.heap[gq]? = some (.cells #[.int .u64 (hiN q), .int .u64 (loN q)] 52)
  hr : wr.heap[gr]? = some (.cells #[.int .u64 (hiN r), .int .u64 (loN r)] 52)
theorem heap_lt2 {w : World} {g : Nat} {o : Obj} (h : w.heap[g]? = some o) : g < w.heap.size := by
  by_cases c : g < w.heap.size
  · exact c
  · rw [Array.getElem?_eq_none (by omega)] at h; cases h
theorem below_row {w w1 : World} {B g : Nat} (h : Below B w w1) (hg : B ≤ g) (cs : Array Value) : Below B w (w1.setRow g cs) :=
  ⟨h.os, h.tape, h.output, by have := h.size; simpa [World.setRow] using this, fun k hk => by rw [setRow_other _ _ _ _ (by omega)]; exact h.block k hk⟩
theorem heap_other {wr : World} {k g c : Nat} {o : Obj} (v : Value) (h : wr.heap[k]? = some o) (hg : k ≠ g) : (wr.setCell ⟨g, c, none⟩ v).heap[k]? = some o := by
  simp only [World.setCell, Array.getElem?_modify]
  rw [if_neg (by omega)]
  exact h
theorem row_other {wr : World} {k g : Nat} {o : Obj} (c : Array Value) (h : wr.heap[k]? = some o) (hg : k ≠ g) : (wr.setRow g c).heap[k]? = some o := by rw [setRow_other _ _ _ _ hg]; exact h
section
variable {w0 wr w' : World} {gt g0 g1 gq gr s t q r : Nat}
theorem OvR.step (h : OvR w0 gt g0 g1 gq gr s t q r wr) (hb : Below wr.heap.size wr w') : OvR w0 gt g0 g1 gq gr s t q r w' :=
  ⟨h.below.trans (hb.mono h.below.size), h.ne, (hb.block _ (heap_lt2 h.hs)).trans h.hs, (hb.block _ (heap_lt2 h.ht)).trans h.ht, (hb.block _ (heap_lt2 h.h0)).trans h.h0, (hb.block _ (heap_lt2 h.h1)).trans h.h1, (hb.block _ (heap_lt2 h.hq)).trans h.hq, (hb.block _ (heap_lt2 h.hr)).trans h.hr⟩
theorem OvR.drew (h : OvR w0 gt g0 g1 gq gr s t q r wr) : OvR w0 gt g0 g1 gq gr s t q r wr.drew := ⟨Below.drew h.below, h.ne, h.hs, h.ht, h.h0, h.h1, h.hq, h.hr⟩
theorem OvR.setR (h : OvR w0 gt g0 g1 gq gr s t q r wr) (x : Nat) : OvR w0 gt g0 g1 gq gr s t q x (wr.setRow gr #[.int .u64 (hiN x), .int .u64 (loN x)]) := by
  have hn := h.ne
  exact ⟨below_row h.below (by omega) _, hn, row_other _ h.hs (by omega), row_other _ h.ht (by omega), row_other _ h.h0 (by omega), row_other _ h.h1 (by omega), row_other _ h.hq (by omega), setRow_heap _ _ _ _ _ _ h.hr⟩
theorem cell_set {wr : World} {g : Nat} {a b : Value} {T : TypeId} (h : wr.heap[g]? = some (.cells #[a, b] T)) (v : Value) :
    (wr.setCell ⟨g, 0, none⟩ v).heap[g]? = some (.cells #[v, b] T) ∧ (wr.setCell ⟨g, 1, none⟩ v).heap[g]? = some (.cells #[a, v] T) := by
  constructor <;> (simp only [World.setCell, Array.getElem?_modify, if_true, h, Option.map_some]; rfl)
theorem OvR.setRlo (h : OvR w0 gt g0 g1 gq gr s t q r wr) (x : Nat) (y : Int) (hh : hiN r = hiN x) (hy : y = loN x) : OvR w0 gt g0 g1 gq gr s t q x (wr.setCell ⟨gr, 1, none⟩ (.int .u64 y)) := by
  have hn := h.ne
  have h1 := (cell_set h.hr (.int .u64 y)).2
  rw [hh, hy] at h1
  rw [hy]
  exact ⟨h.below.setCell (p := ⟨gr, 1, none⟩) (by show w0.heap.size ≤ gr; omega) _, hn, heap_other _ h.hs (by omega), heap_other _ h.ht (by omega), heap_other _ h.h0 (by omega), heap_other _ h.h1 (by omega), heap_other _ h.hq (by omega), h1⟩
theorem OvR.setQhi (h : OvR w0 gt g0 g1 gq gr s t q r wr) (x : Nat) (y : Int) (hh : loN q = loN x) (hy : y = hiN x) : OvR w0 gt g0 g1 gq gr s t x r (wr.setCell ⟨gq, 0, none⟩ (.int .u64 y)) := by
  have hn := h.ne
  have h1 := (cell_set h.hq (.int .u64 y)).1
  rw [hh, hy] at h1
  rw [hy]
  exact ⟨h.below.setCell (p := ⟨gq, 0, none⟩) (by show w0.heap.size ≤ gq; omega) _, hn, heap_other _ h.hs (by omega), heap_other _ h.ht (by omega), heap_other _ h.h0 (by omega), heap_other _ h.h1 (by omega), h1, heap_other _ h.hr (by omega)⟩
theorem OvR.setQlo (h : OvR w0 gt g0 g1 gq gr s t q r wr) (x : Nat) (y : Int) (hh : hiN q = hiN x) (hy : y = loN x) : OvR w0 gt g0 g1 gq gr s t x r (wr.setCell ⟨gq, 1, none⟩ (.int .u64 y)) := by
  have hn := h.ne
  have h1 := (cell_set h.hq (.int .u64 y)).2
  rw [hh, hy] at h1
  rw [hy]
  exact ⟨h.below.setCell (p := ⟨gq, 1, none⟩) (by show w0.heap.size ≤ gq; omega) _, hn, heap_other _ h.hs (by omega), heap_other _ h.ht (by omega), heap_other _ h.h0 (by omega), heap_other _ h.h1 (by omega), h1, heap_other _ h.hr (by omega)⟩
end
theorem cell_two {wr : World} {g : Nat} {a b : Value} {T : TypeId} (h : wr.heap[g]? = some (.cells #[a, b] T)) :
    wr.cell? ⟨g, 0, none⟩ = some a ∧ wr.cell? ⟨g, 1, none⟩ = some b ∧ wr.frozen? ⟨g, 0, none⟩ = false ∧ wr.frozen? ⟨g, 1, none⟩ = false := by
  refine ⟨?_, ?_, ?_, ?_⟩
  · unfold World.cell?; rw [h]; rfl
  · unfold World.cell?; rw [h]; rfl
  · unfold World.frozen?; rw [h]; rfl
  · unfold World.frozen?; rw [h]; rfl
theorem OvR.made (w : World) (s t : Nat) : OvR w (w.heap.size + 1) (w.heap.size + 1 + 1) (w.heap.size + 1 + 1 + 1) (w.heap.size + 1 + 1 + 1 + 1) (w.heap.size + 1 + 1 + 1 + 1 + 1) s t 0 0
    ((((((w.alloc (.cells #[.int .u64 (hiN s), .int .u64 (loN s)] 52)).alloc (.cells #[.int .u64 (hiN t), .int .u64 (loN t)] 52)).alloc (.cells #[.int .u64 0, .int .u64 0] 52)).alloc (.cells #[.int .u64 0, .int .u64 0] 52)).alloc (.cells #[.int .u64 0, .int .u64 0] 52)).alloc (.cells #[.int .u64 0, .int .u64 0] 52)) := by
  have hz : ∀ (w : World) (o : Obj), (w.alloc o).heap.size = w.heap.size + 1 := fun w o => by simp
  have b2 := below_two w (.cells #[.int .u64 (hiN s), .int .u64 (loN s)] 52) (.cells #[.int .u64 (hiN t), .int .u64 (loN t)] 52)
  have b3 := b2.alloc b2.size (.cells #[.int .u64 0, .int .u64 0] 52)
  have b4 := b3.alloc b3.size (.cells #[.int .u64 0, .int .u64 0] 52)
  have b5 := b4.alloc b4.size (.cells #[.int .u64 0, .int .u64 0] 52)
  have b6 := b5.alloc b5.size (.cells #[.int .u64 0, .int .u64 0] 52)
  refine ⟨b6, by omega, ?_, ?_, ?_, ?_, ?_, ?_⟩
  · iterate 5 rw [heap_alloc_old _ _ (by simp only [hz]; omega)]
    exact heap_alloc_new _ _
  · iterate 4 rw [heap_alloc_old _ _ (by simp only [hz]; omega)]
    rw [← hz w (.cells #[.int .u64 (hiN s), .int .u64 (loN s)] 52)]
    exact heap_alloc_new _ _
  · iterate 3 rw [heap_alloc_old _ _ (by simp only [hz]; omega)]
    have h := heap_alloc_new ((w.alloc (.cells #[.int .u64 (hiN s), .int .u64 (loN s)] 52)).alloc (.cells #[.int .u64 (hiN t), .int .u64 (loN t)] 52)) (.cells #[.int .u64 0, .int .u64 0] 52)
    simp only [hz] at h
    exact h
  · iterate 2 rw [heap_alloc_old _ _ (by simp only [hz]; omega)]
    have h := heap_alloc_new (((w.alloc (.cells #[.int .u64 (hiN s), .int .u64 (loN s)] 52)).alloc (.cells #[.int .u64 (hiN t), .int .u64 (loN t)] 52)).alloc (.cells #[.int .u64 0, .int .u64 0] 52)) (.cells #[.int .u64 0, .int .u64 0] 52)
    simp only [hz] at h
    exact h
  · rw [heap_alloc_old _ _ (by simp only [hz]; omega)]
    have h := heap_alloc_new ((((w.alloc (.cells #[.int .u64 (hiN s), .int .u64 (loN s)] 52)).alloc (.cells #[.int .u64 (hiN t), .int .u64 (loN t)] 52)).alloc (.cells #[.int .u64 0, .int .u64 0] 52)).alloc (.cells #[.int .u64 0, .int .u64 0] 52)) (.cells #[.int .u64 0, .int .u64 0] 52)
    simp only [hz] at h
    exact h
  · have h := heap_alloc_new (((((w.alloc (.cells #[.int .u64 (hiN s), .int .u64 (loN s)] 52)).alloc (.cells #[.int .u64 (hiN t), .int .u64 (loN t)] 52)).alloc (.cells #[.int .u64 0, .int .u64 0] 52)).alloc (.cells #[.int .u64 0, .int .u64 0] 52)).alloc (.cells #[.int .u64 0, .int .u64 0] 52)) (.cells #[.int .u64 0, .int .u64 0] 52)
    simp only [hz] at h
    exact h
/-- A shift by more than a word. -/
theorem shr_far (x y : Int) (hx : 0 ≤ x) (hx1 : x ≤ 18446744073709551615) (hy : 63 < y) : Op.shift .shr .u64 x .i64 y = pure (.int .u64 0) := by
  have hm : min y.toNat 64 = 64 := by omega
  have e : x.fdiv (2 ^ (min y.toNat IntKind.u64.bits)) = 0 := by
    show x.fdiv (2 ^ (min y.toNat 64)) = 0
    rw [hm, Int.fdiv_eq_ediv_of_nonneg _ (by decide)]
    exact Int.ediv_eq_zero_of_lt hx (by simp; omega)
  unfold Op.shift
  rw [if_neg (by omega)]
  show pure (Value.int .u64 (x.fdiv (2 ^ (min y.toNat IntKind.u64.bits)))) = _
  rw [e]

attribute [local go_sem] shr_far
theorem bit_hi_word (s i : Nat) (hi : 64 ≤ i) (hs : s < 340282366920938463463374607431768211456) : bits .and .u64 (hiN s / 2 ^ (i - 64)) 1 = ((bitN s i : Nat) : Int) := by
  have e : hiN s / 2 ^ (i - 64) = ((s / 18446744073709551616 / 2 ^ (i - 64) : Nat) : Int) := by unfold hiN; simp
  rw [e, and_one_u64 _ (Nat.lt_of_le_of_lt (Nat.div_le_self _ _) (by omega)), bit_high s i hi]
theorem bit_lo_word (s i : Nat) (hi : i < 64) : bits .and .u64 (loN s / 2 ^ i) 1 = ((bitN s i : Nat) : Int) := by
  have e : loN s / 2 ^ i = ((s % 18446744073709551616 / 2 ^ i : Nat) : Int) := by unfold loN; simp
  rw [e, and_one_u64 _ (Nat.lt_of_le_of_lt (Nat.div_le_self _ _) (by omega)), bit_low s i hi]
theorem pow_word (i : Nat) (hi : i < 64) : IntKind.u64.wrap (2 ^ i) = ((2 ^ i : Nat) : Int) := by
  have h := pow_small i hi
  have e : ((2 : Int) ^ i) = ((2 ^ i : Nat) : Int) := by simp
  rw [e, IntKind.wrap_u64]
  generalize (2 : Nat) ^ i = x at h ⊢
  omega
set_option maxRecDepth 100000 in
set_option maxHeartbeats 4000000 in
theorem over_any (s t : Nat) (hs : s < 340282366920938463463374607431768211456) (ht0 : 0 < t) (ht : t ≤ 170141183460469231731687303715884105728) (w : World) :
    Calls Tryd.prog 72 #[szV s, szV t] w fun e w' => e = .returned (.tuple #[szV (s / t), szV (s % t)]) ∧ Below w.heap.size w w' := by
  have HE := Lib.hid (ov_end s t)
  obtain ⟨q0, r0⟩ := ov_start s t hs
  have HQ := Lib.hid q0
  have HR := Lib.hid r0
  have HS := Lib.hid hs
  clear q0 r0
  unfold szV
  go_enter Tryd.func72, Tryd.ntmps72
  go_upto_region 2 with fail
  have HO := Lib.hid (OvR.made w s t)
  generalize ((((((w.alloc (.cells #[.int .u64 (hiN s), .int .u64 (loN s)] 52)).alloc (.cells #[.int .u64 (hiN t), .int .u64 (loN t)] 52)).alloc (.cells #[.int .u64 0, .int .u64 0] 52)).alloc (.cells #[.int .u64 0, .int .u64 0] 52)).alloc (.cells #[.int .u64 0, .int .u64 0] 52)).alloc (.cells #[.int .u64 0, .int .u64 0] 52)) = w1 at *
  obtain ⟨gr, hgr⟩ : ∃ g, g = w.heap.size + 1 + 1 + 1 + 1 + 1 := ⟨_, rfl⟩
  rw [← hgr] at HO ⊢
  obtain ⟨gq, hgq⟩ : ∃ g, g = w.heap.size + 1 + 1 + 1 + 1 := ⟨_, rfl⟩
  rw [← hgq] at HO ⊢
  obtain ⟨g1, hg1⟩ : ∃ g, g = w.heap.size + 1 + 1 + 1 := ⟨_, rfl⟩
  rw [← hg1] at HO ⊢
  obtain ⟨g0, hg0⟩ : ∃ g, g = w.heap.size + 1 + 1 := ⟨_, rfl⟩
  rw [← hg0] at HO ⊢
  obtain ⟨gt, hgt⟩ : ∃ g, g = w.heap.size + 1 := ⟨_, rfl⟩
  rw [← hgt] at HO ⊢
  obtain ⟨gs, hgs⟩ : ∃ g, g = w.heap.size := ⟨_, rfl⟩
  clear hgr hgq hg1 hg0 hgt
  go_wp2
  go_loopg [8] 128 (fun g v wr => ∃ j : Nat, v = .int .i64 ((j : Int) - 1) ∧ Hid (OvR w gt g0 g1 gq gr s t (ovQ s t j) (ovR s t j) wr) ∧ Hid (j ≤ 128 ∧ g = j))
  case atStart => exact ⟨128, by simp, by rw [HQ.out, HR.out]; exact HO.out, by omega, rfl⟩
  case round =>
    obtain ⟨j, rfl, HV, HJ⟩ := hrel
    by_cases hj : 0 < j
    · obtain ⟨i, rfl⟩ : ∃ i, j = i + 1 := ⟨j - 1, by omega⟩
      have hji : 0 ≤ ((i + 1 : Nat) : Int) - 1 := by omega
      rw [show ((i + 1 : Nat) : Int) - 1 = (i : Int) by omega] at hji ⊢
      have hi127 : i < 128 := by have := HJ.out.1; omega
      have hrt : ovR s t (i + 1) < t := Nat.mod_lt _ ht0
      obtain ⟨hst1, hst2⟩ := ov_step s t i ht0
      have hqle := ov_le s t i
      have hq1 : ovQ s t (i + 1) = s / 2 ^ (i + 1) / t * 2 ^ (i + 1) := rfl
      obtain ⟨r, hr⟩ : ∃ r, r = ovR s t (i + 1) := ⟨_, rfl⟩
      rw [← hr] at HV hrt hst1 hst2
      have HST := Lib.hid (And.intro hst1 hst2)
      have HQL := Lib.hid (And.intro hqle hq1)
      clear hst1 hst2 hqle hq1 hr
      have hb2 : bitN s i < 2 := Nat.mod_lt _ (by omega)
      obtain ⟨lb1, lb2⟩ := low_bit r (bitN s i) hb2
      obtain ⟨k1, k2, k3, k4⟩ := cell_two HV.out.hr
      have e1 := shl_hi r (by omega)
      have e2 : IntKind.u64.wrap (hiN r * 2) = hiN r * 2 := by rw [IntKind.wrap_u64]; unfold hiN; omega
      have e3 : IntKind.u64.wrap (loN r * 2) = loN (2 * r) := by rw [IntKind.wrap_u64]; exact shl_lo r
      have HLB := Lib.hid (And.intro lb1 lb2)
      clear lb1 lb2
      by_cases h64 : 64 ≤ i
      · have dd : decide (63 < (i : Int)) = true := decide_eq_true (by omega)
        have dm : 63 < (i : Int) := by omega
        have pn : ((i : Int) - 64).toNat = i - 64 := by omega
        have pw : IntKind.i64.wrap ((i : Int) - 64) = (i : Int) - 64 := IntWalk.i64_in _ (by omega)
        have pa : 0 ≤ (i : Int) - 64 := by omega
        have pb : (i : Int) - 64 ≤ 64 := by omega
        obtain ⟨pc, pd⟩ := lo_range s
        have eb := bit_hi_word s i h64 hs
        go_upto_region 6 with (refine wpList_store_row rfl 52 _ _ rfl gr _ rfl rfl 52 _ HV.out.hr (by kernel_rfl) rfl (by kernel_rfl) ?_)
        have HV2 := Lib.hid (HV.out.setR (2 * r))
        generalize wr.setRow gr #[.int .u64 (hiN (2 * r)), .int .u64 (loN (2 * r))] = w2 at *
        clear k1 k2 k3 k4 e1 e2 e3 HV
        obtain ⟨k1, k2, _, _⟩ := cell_two HV2.out.hs
        obtain ⟨k3, k4, k5, k6⟩ := cell_two HV2.out.hr
        have lb1 := HLB.out.1
        go_upto_region 10 with fail
        have HV3 := Lib.hid (HV2.out.setRlo (2 * r + bitN s i) _ HLB.out.2 rfl)
        generalize w2.setCell ⟨gr, 1, none⟩ (.int .u64 (loN (2 * r + bitN s i))) = w3 at *
        clear k1 k2 k3 k4 k5 k6 lb1 HLB HV2 eb
        obtain ⟨R, hR⟩ : ∃ R, R = 2 * r + bitN s i := ⟨_, rfl⟩
        rw [← hR] at HV3 HST
        have hR2 : R < 340282366920938463463374607431768211456 := by omega
        clear hR
        by_cases hlt : R < t
        · obtain ⟨n1, n2⟩ := HST.out.1 hlt
          have HV4 := Lib.hid (show OvR w gt g0 g1 gq gr s t (ovQ s t i) (ovR s t i) w3 by rw [n1, n2]; exact HV3.out)
          have HCM := Lib.hid (show cmpN R t = -1 by unfold cmpN; rw [if_pos hlt])
          clear n1 n2 hlt
          go_wp2_with (first | (refine wpList_load_row rfl 52 _ rfl gr rfl 52 _ (0, 0) _ HV3.out.hr Tryd.underlying52 rfl (by kernel_rfl) ?_) | (refine wpList_load_row rfl 52 _ rfl gt rfl 52 _ (0, 0) _ HV3.out.ht Tryd.underlying52 rfl (by kernel_rfl) ?_))
          refine (scmp_any R t _).mono ?_
          rintro e w4 ⟨rfl, hb⟩
          rw [HCM.out]
          have HV5 := Lib.hid (HV4.out.step hb)
          clear hb HV4 HV3
          go_wp2_with fail
          go_roundg i
          case measure => have h := HJ.out; omega
          case rel => exact ⟨i, by go_num, HV5.out, by omega, rfl⟩
        · obtain ⟨n1, n2⟩ := HST.out.2 hlt
          have HN := Lib.hid (And.intro n1 n2)
          have HCM := Lib.hid (show 0 ≤ cmpN R t by unfold cmpN; rw [if_neg hlt]; split <;> decide)
          clear n1 n2
          go_wp2_with (first | (refine wpList_load_row rfl 52 _ rfl gr rfl 52 _ (0, 0) _ HV3.out.hr Tryd.underlying52 rfl (by kernel_rfl) ?_) | (refine wpList_load_row rfl 52 _ rfl gt rfl 52 _ (0, 0) _ HV3.out.ht Tryd.underlying52 rfl (by kernel_rfl) ?_))
          refine (scmp_any R t _).mono ?_
          rintro e w4 ⟨rfl, hb⟩
          have HV4 := Lib.hid (HV3.out.step hb)
          clear hb HV3
          have hcm := HCM.out
          clear HCM
          generalize cmpN R t = cm at *
          have d2 : decide (0 ≤ cm) = true := decide_eq_true hcm
          go_wp2_with (first | (refine wpList_load_row rfl 52 _ rfl gr rfl 52 _ (0, 0) _ HV4.out.hr Tryd.underlying52 rfl (by kernel_rfl) ?_) | (refine wpList_load_row rfl 52 _ rfl gt rfl 52 _ (0, 0) _ HV4.out.ht Tryd.underlying52 rfl (by kernel_rfl) ?_))
          refine (sless_any R t (by omega) hR2 _).mono ?_
          rintro e w5 ⟨rfl, hb⟩
          have HV5 := Lib.hid (HV4.out.step hb)
          clear hb HV4 hcm d2
          rw [show szV (R - t) = .agg #[.int .u64 (hiN (R - t)), .int .u64 (loN (R - t))] from rfl]
          go_upto_region 13 with (refine wpList_store_row rfl 52 _ _ rfl gr _ rfl rfl 52 _ HV5.out.hr (by kernel_rfl) rfl (by kernel_rfl) ?_)
          have HV6 := Lib.hid (HV5.out.setR (R - t))
          generalize w5.setRow gr #[.int .u64 (hiN (R - t)), .int .u64 (loN (R - t))] = w6 at *
          clear HV5
          obtain ⟨sh1, sh2⟩ := set_hi (s / 2 ^ (i + 1) / t) i h64 hi127 (by rw [← HQL.out.2, ← HN.out.2]; exact Nat.lt_of_le_of_lt HQL.out.1 HS.out)
          rw [← HQL.out.2] at sh1 sh2
          have pw2 := pow_word (i - 64) (by omega)
          have pe : ((2 ^ (i - 64) : Nat) : Int) = (2 : Int) ^ (i - 64) := by simp
          rw [pe] at pw2 sh1
          obtain ⟨q, hq⟩ : ∃ q, q = ovQ s t (i + 1) := ⟨_, rfl⟩
          rw [← hq] at HV6 HN sh1 sh2
          clear hq
          obtain ⟨k1, k2, k3, k4⟩ := cell_two HV6.out.hq
          have HV7 := Lib.hid (HV6.out.setQhi _ _ sh2 rfl)
          have HV8 := Lib.hid (show OvR w gt g0 g1 gq gr s t (ovQ s t i) (ovR s t i) _ by rw [HN.out.1, HN.out.2]; exact HV7.out)
          clear sh2 HV7 HV6 HN
          go_region
          go_wp2
          go_roundg i
          case measure => have h := HJ.out; omega
          case rel => exact ⟨i, by go_num, HV8.out.drew, by omega, rfl⟩
      · have dd : decide (63 < (i : Int)) = false := decide_eq_false (by omega)
        have dm : ¬ 63 < (i : Int) := by omega
        have pa : 0 ≤ (i : Int) := by omega
        have pb : (i : Int) ≤ 64 := by omega
        have eb := bit_lo_word s i (by omega)
        go_upto_region 6 with (refine wpList_store_row rfl 52 _ _ rfl gr _ rfl rfl 52 _ HV.out.hr (by kernel_rfl) rfl (by kernel_rfl) ?_)
        have HV2 := Lib.hid (HV.out.setR (2 * r))
        generalize wr.setRow gr #[.int .u64 (hiN (2 * r)), .int .u64 (loN (2 * r))] = w2 at *
        clear k1 k2 k3 k4 e1 e2 e3 HV
        obtain ⟨k1, k2, _, _⟩ := cell_two HV2.out.hs
        obtain ⟨k3, k4, k5, k6⟩ := cell_two HV2.out.hr
        have lb1 := HLB.out.1
        go_upto_region 10 with fail
        have HV3 := Lib.hid (HV2.out.setRlo (2 * r + bitN s i) _ HLB.out.2 rfl)
        generalize w2.setCell ⟨gr, 1, none⟩ (.int .u64 (loN (2 * r + bitN s i))) = w3 at *
        clear k1 k2 k3 k4 k5 k6 lb1 HLB HV2 eb
        obtain ⟨R, hR⟩ : ∃ R, R = 2 * r + bitN s i := ⟨_, rfl⟩
        rw [← hR] at HV3 HST
        have hR2 : R < 340282366920938463463374607431768211456 := by omega
        clear hR
        by_cases hlt : R < t
        · obtain ⟨n1, n2⟩ := HST.out.1 hlt
          have HV4 := Lib.hid (show OvR w gt g0 g1 gq gr s t (ovQ s t i) (ovR s t i) w3 by rw [n1, n2]; exact HV3.out)
          have HCM := Lib.hid (show cmpN R t = -1 by unfold cmpN; rw [if_pos hlt])
          clear n1 n2 hlt
          go_wp2_with (first | (refine wpList_load_row rfl 52 _ rfl gr rfl 52 _ (0, 0) _ HV3.out.hr Tryd.underlying52 rfl (by kernel_rfl) ?_) | (refine wpList_load_row rfl 52 _ rfl gt rfl 52 _ (0, 0) _ HV3.out.ht Tryd.underlying52 rfl (by kernel_rfl) ?_))
          refine (scmp_any R t _).mono ?_
          rintro e w4 ⟨rfl, hb⟩
          rw [HCM.out]
          have HV5 := Lib.hid (HV4.out.step hb)
          clear hb HV4 HV3
          go_wp2_with fail
          go_roundg i
          case measure => have h := HJ.out; omega
          case rel => exact ⟨i, by go_num, HV5.out, by omega, rfl⟩
        · obtain ⟨n1, n2⟩ := HST.out.2 hlt
          have HN := Lib.hid (And.intro n1 n2)
          have HCM := Lib.hid (show 0 ≤ cmpN R t by unfold cmpN; rw [if_neg hlt]; split <;> decide)
          clear n1 n2
          go_wp2_with (first | (refine wpList_load_row rfl 52 _ rfl gr rfl 52 _ (0, 0) _ HV3.out.hr Tryd.underlying52 rfl (by kernel_rfl) ?_) | (refine wpList_load_row rfl 52 _ rfl gt rfl 52 _ (0, 0) _ HV3.out.ht Tryd.underlying52 rfl (by kernel_rfl) ?_))
          refine (scmp_any R t _).mono ?_
          rintro e w4 ⟨rfl, hb⟩
          have HV4 := Lib.hid (HV3.out.step hb)
          clear hb HV3
          have hcm := HCM.out
          clear HCM
          generalize cmpN R t = cm at *
          have d2 : decide (0 ≤ cm) = true := decide_eq_true hcm
          go_wp2_with (first | (refine wpList_load_row rfl 52 _ rfl gr rfl 52 _ (0, 0) _ HV4.out.hr Tryd.underlying52 rfl (by kernel_rfl) ?_) | (refine wpList_load_row rfl 52 _ rfl gt rfl 52 _ (0, 0) _ HV4.out.ht Tryd.underlying52 rfl (by kernel_rfl) ?_))
          refine (sless_any R t (by omega) hR2 _).mono ?_
          rintro e w5 ⟨rfl, hb⟩
          have HV5 := Lib.hid (HV4.out.step hb)
          clear hb HV4 hcm d2
          rw [show szV (R - t) = .agg #[.int .u64 (hiN (R - t)), .int .u64 (loN (R - t))] from rfl]
          go_upto_region 14 with (refine wpList_store_row rfl 52 _ _ rfl gr _ rfl rfl 52 _ HV5.out.hr (by kernel_rfl) rfl (by kernel_rfl) ?_)
          have HV6 := Lib.hid (HV5.out.setR (R - t))
          generalize w5.setRow gr #[.int .u64 (hiN (R - t)), .int .u64 (loN (R - t))] = w6 at *
          clear HV5
          obtain ⟨sh1, sh2⟩ := set_lo (s / 2 ^ (i + 1) / t) i (by omega)
          rw [← HQL.out.2] at sh1 sh2
          have pw2 := pow_word i (by omega)
          have pe : ((2 ^ i : Nat) : Int) = (2 : Int) ^ i := by simp
          rw [pe] at pw2 sh1
          obtain ⟨q, hq⟩ : ∃ q, q = ovQ s t (i + 1) := ⟨_, rfl⟩
          rw [← hq] at HV6 HN sh1 sh2
          clear hq
          obtain ⟨k1, k2, k3, k4⟩ := cell_two HV6.out.hq
          have HV7 := Lib.hid (HV6.out.setQlo _ _ sh2 rfl)
          have HV8 := Lib.hid (show OvR w gt g0 g1 gq gr s t (ovQ s t i) (ovR s t i) _ by rw [HN.out.1, HN.out.2]; exact HV7.out)
          clear sh2 HV7 HV6 HN
          go_region
          go_wp2
          go_roundg i
          case measure => have h := HJ.out; omega
          case rel => exact ⟨i, by go_num, HV8.out.drew, by omega, rfl⟩
    · obtain rfl : j = 0 := by omega
      have hji : ¬ (0 : Int) ≤ -1 := by omega
      rw [show ((0 : Nat) : Int) - 1 = -1 from rfl]
      rw [HE.out.1, HE.out.2] at HV
      go_upto_region 15 with fail
      obtain ⟨hb, hne, _, _, h0, h1, hq, hr⟩ := HV.out
      obtain ⟨q1, q2, q3, q4⟩ := cell_two hq
      obtain ⟨r1, r2, r3, r4⟩ := cell_two hr
      obtain ⟨a1, a2, a3, a4⟩ := cell_two h0
      obtain ⟨b1, b2, b3, b4⟩ := cell_two h1
      clear hq hr
      have HB := Lib.hid hb
      have H0 := Lib.hid h0
      have H1 := Lib.hid h1
      have n1 : g0 ≠ g1 := by omega
      have n2 : g0 ≠ gq := by omega
      have n3 : g0 ≠ gr := by omega
      have n4 : g1 ≠ gq := by omega
      have n5 : g1 ≠ gr := by omega
      clear hb h0 h1
      go_region
      obtain ⟨W, hW⟩ : ∃ W, W = ((((wr.setCell ⟨g0, 0, none⟩ (.int .u64 (hiN (s / t)))).setCell ⟨g0, 1, none⟩ (.int .u64 (loN (s / t)))).setCell ⟨g1, 0, none⟩ (.int .u64 (hiN (s % t)))).setCell ⟨g1, 1, none⟩ (.int .u64 (loN (s % t)))).drew := ⟨_, rfl⟩
      rw [← hW]
      have f0 : W.heap[g0]? = some (.cells #[.int .u64 (hiN (s / t)), .int .u64 (loN (s / t))] 52) := by
        rw [hW]
        exact heap_other _ (heap_other _ (cell_set (cell_set H0.out (.int .u64 (hiN (s / t)))).1 (.int .u64 (loN (s / t)))).2 n1) n1
      have f1 : W.heap[g1]? = some (.cells #[.int .u64 (hiN (s % t)), .int .u64 (loN (s % t))] 52) := by
        rw [hW]
        exact (cell_set (cell_set (heap_other _ (heap_other _ H1.out (Ne.symm n1)) (Ne.symm n1)) (.int .u64 (hiN (s % t)))).1 (.int .u64 (loN (s % t)))).2
      have HF := Lib.hid (show Below w.heap.size w W by
        rw [hW]
        exact Below.drew ((((HB.out.setCell (p := ⟨g0, 0, none⟩) (by show w.heap.size ≤ g0; omega) _).setCell (p := ⟨g0, 1, none⟩) (by show w.heap.size ≤ g0; omega) _).setCell (p := ⟨g1, 0, none⟩) (by show w.heap.size ≤ g1; omega) _).setCell (p := ⟨g1, 1, none⟩) (by show w.heap.size ≤ g1; omega) _))
      have HF0 := Lib.hid f0
      have HF1 := Lib.hid f1
      clear hW q1 q2 q3 q4 r1 r2 r3 r4 a1 a2 a3 a4 b1 b2 b3 b4 f0 f1
      go_wp2
      refine bodyPost_ret (results_cells2 (fn := Tryd.f72) rfl _ _ g0 g1 _ _ _ _ _ _ rfl rfl HF0.out HF1.out Tryd.underlying52 rfl (by kernel_rfl) (by kernel_rfl)) rfl ?_
      exact ⟨rfl, HF.out⟩

end Go.Proofs.YtmgdhlcgbgpgpaaDoor

/- The greatest divisor, as rat and the document find it. -/
namespace Go.Proofs.YtmgdhlcgbgpgpaaDoor
open Go Go.RowKit
set_option linter.unusedVariables false
set_option linter.unusedSimpArgs false

/-- A number of two words in a block. -/
def Blk (T : TypeId) (g n : Nat) (w : World) : Prop := w.heap[g]? = some (.cells #[.int .u64 (hiN n), .int .u64 (loN n)] T)
theorem Blk.lt {T : TypeId} {g n : Nat} {w : World} (h : Blk T g n w) : g < w.heap.size := heap_lt2 h
theorem Blk.below {T : TypeId} {g n : Nat} {w w' : World} (h : Blk T g n w) (hb : Below w.heap.size w w') : Blk T g n w' := (hb.block _ h.lt).trans h
def zr2 (T : TypeId) : Obj := .cells #[.int .u64 0, .int .u64 0] T
theorem two_fresh (w : World) (T : TypeId) : ((w.alloc (.cells #[.int .u64 0, .int .u64 0] T)).alloc (.cells #[.int .u64 0, .int .u64 0] T)).heap[w.heap.size]? = some (.cells #[.int .u64 0, .int .u64 0] T) ∧
    ((w.alloc (.cells #[.int .u64 0, .int .u64 0] T)).alloc (.cells #[.int .u64 0, .int .u64 0] T)).heap[w.heap.size + 1]? = some (.cells #[.int .u64 0, .int .u64 0] T) := by
  constructor
  · rw [heap_alloc_old _ _ (by simp)]; exact heap_alloc_new _ _
  · have h := heap_alloc_new (w.alloc (.cells #[.int .u64 0, .int .u64 0] T)) (.cells #[.int .u64 0, .int .u64 0] T)
    rw [show (w.alloc (.cells #[.int .u64 0, .int .u64 0] T)).heap.size = w.heap.size + 1 by simp] at h
    exact h
theorem second_fresh {w wr : World} {T : TypeId} (c : Array Value) (h : wr.heap[w.heap.size + 1]? = some (.cells #[.int .u64 0, .int .u64 0] T)) :
    (wr.setRow w.heap.size c).heap[w.heap.size + 1]? = some (.cells #[.int .u64 0, .int .u64 0] T) := row_other _ h (by omega)
theorem pair_stored (w : World) (T : TypeId) (q r : Nat) :
    Below w.heap.size w ((((w.alloc (.cells #[.int .u64 0, .int .u64 0] T)).alloc (.cells #[.int .u64 0, .int .u64 0] T)).setRow w.heap.size #[.int .u64 (hiN q), .int .u64 (loN q)]).setRow (w.heap.size + 1) #[.int .u64 (hiN r), .int .u64 (loN r)]) ∧
    Blk T w.heap.size q ((((w.alloc (.cells #[.int .u64 0, .int .u64 0] T)).alloc (.cells #[.int .u64 0, .int .u64 0] T)).setRow w.heap.size #[.int .u64 (hiN q), .int .u64 (loN q)]).setRow (w.heap.size + 1) #[.int .u64 (hiN r), .int .u64 (loN r)]) ∧
    Blk T (w.heap.size + 1) r ((((w.alloc (.cells #[.int .u64 0, .int .u64 0] T)).alloc (.cells #[.int .u64 0, .int .u64 0] T)).setRow w.heap.size #[.int .u64 (hiN q), .int .u64 (loN q)]).setRow (w.heap.size + 1) #[.int .u64 (hiN r), .int .u64 (loN r)]) := by
  obtain ⟨h1, h2⟩ := two_fresh w T
  exact ⟨below_row (below_row (below_two w _ _) (Nat.le_refl _) _) (Nat.le_succ _) _, row_other _ (setRow_heap _ _ _ _ _ _ h1) (by omega), setRow_heap _ _ _ _ _ _ (second_fresh _ h2)⟩
/-- The blocks while a greatest divisor is looked for. -/
structure CmR (T : TypeId) (w0 : World) (gb g0 a b : Nat) (wr : World) : Prop where
  below : Below w0.heap.size w0 wr
  ne : w0.heap.size < gb ∧ gb < g0
  ha : Blk T w0.heap.size a wr
  hb : Blk T gb b wr
  h0 : wr.heap[g0]? = some (.cells #[.int .u64 0, .int .u64 0] T)
section
variable {T : TypeId} {w0 wr w' : World} {gb g0 a b : Nat}
theorem CmR.step (h : CmR T w0 gb g0 a b wr) (hb : Below wr.heap.size wr w') : CmR T w0 gb g0 a b w' :=
  ⟨h.below.trans (hb.mono h.below.size), h.ne, h.ha.below hb, h.hb.below hb, (hb.block _ (heap_lt2 h.h0)).trans h.h0⟩
theorem CmR.setA (h : CmR T w0 gb g0 a b wr) (x : Nat) : CmR T w0 gb g0 x b (wr.setRow w0.heap.size #[.int .u64 (hiN x), .int .u64 (loN x)]) := by
  have hn := h.ne
  exact ⟨below_row h.below (Nat.le_refl _) _, hn, setRow_heap _ _ _ _ _ _ h.ha, row_other _ h.hb (by omega), row_other _ h.h0 (by omega)⟩
theorem CmR.setB (h : CmR T w0 gb g0 a b wr) (x : Nat) : CmR T w0 gb g0 a x (wr.setRow gb #[.int .u64 (hiN x), .int .u64 (loN x)]) := by
  have hn := h.ne
  exact ⟨below_row h.below (by omega) _, hn, row_other _ h.ha (by omega), setRow_heap _ _ _ _ _ _ h.hb, row_other _ h.h0 (by omega)⟩
theorem CmR.cells (h : CmR T w0 gb g0 a b wr) (x y : Nat) : CmR T w0 gb g0 x y ((((wr.setCell ⟨w0.heap.size, 0, none⟩ (.int .u64 (hiN x))).setCell ⟨w0.heap.size, 1, none⟩ (.int .u64 (loN x))).setCell ⟨gb, 0, none⟩ (.int .u64 (hiN y))).setCell ⟨gb, 1, none⟩ (.int .u64 (loN y))).drew := by
  have hn := h.ne
  refine ⟨Below.drew ((((h.below.setCell (p := ⟨w0.heap.size, 0, none⟩) (Nat.le_refl _) _).setCell (p := ⟨w0.heap.size, 1, none⟩) (Nat.le_refl _) _).setCell (p := ⟨gb, 0, none⟩) (by show w0.heap.size ≤ gb; omega) _).setCell (p := ⟨gb, 1, none⟩) (by show w0.heap.size ≤ gb; omega) _), hn, ?_, ?_, ?_⟩
  · exact heap_other _ (heap_other _ (cell_set (cell_set h.ha (.int .u64 (hiN x))).1 (.int .u64 (loN x))).2 (by omega)) (by omega)
  · exact (cell_set (cell_set (heap_other _ (heap_other _ h.hb (by omega)) (by omega)) (.int .u64 (hiN y))).1 (.int .u64 (loN y))).2
  · exact heap_other _ (heap_other _ (heap_other _ (heap_other _ h.h0 (by omega)) (by omega)) (by omega)) (by omega)
theorem CmR.cells' (h : CmR T w0 gb g0 a b wr) (x y : Nat) : CmR T w0 gb g0 x y ((((wr.setCell ⟨gb, 0, none⟩ (.int .u64 (hiN y))).setCell ⟨gb, 1, none⟩ (.int .u64 (loN y))).setCell ⟨w0.heap.size, 0, none⟩ (.int .u64 (hiN x))).setCell ⟨w0.heap.size, 1, none⟩ (.int .u64 (loN x))).drew := by
  have hn := h.ne
  refine ⟨Below.drew ((((h.below.setCell (p := ⟨gb, 0, none⟩) (by show w0.heap.size ≤ gb; omega) _).setCell (p := ⟨gb, 1, none⟩) (by show w0.heap.size ≤ gb; omega) _).setCell (p := ⟨w0.heap.size, 0, none⟩) (Nat.le_refl _) _).setCell (p := ⟨w0.heap.size, 1, none⟩) (Nat.le_refl _) _), hn, ?_, ?_, ?_⟩
  · exact (cell_set (cell_set (heap_other _ (heap_other _ h.ha (by omega)) (by omega)) (.int .u64 (hiN x))).1 (.int .u64 (loN x))).2
  · exact heap_other _ (heap_other _ (cell_set (cell_set h.hb (.int .u64 (hiN y))).1 (.int .u64 (loN y))).2 (by omega)) (by omega)
  · exact heap_other _ (heap_other _ (heap_other _ (heap_other _ h.h0 (by omega)) (by omega)) (by omega)) (by omega)
end
theorem CmR.made (T : TypeId) (w : World) (a b : Nat) : CmR T w (w.heap.size + 1) (w.heap.size + 1 + 1) a b
    (((w.alloc (.cells #[.int .u64 (hiN a), .int .u64 (loN a)] T)).alloc (.cells #[.int .u64 (hiN b), .int .u64 (loN b)] T)).alloc (.cells #[.int .u64 0, .int .u64 0] T)) := by
  have hz : ∀ (w : World) (o : Obj), (w.alloc o).heap.size = w.heap.size + 1 := fun w o => by simp
  refine ⟨below_three _ _ _ _, by omega, ?_, ?_, ?_⟩
  · show _ = _
    iterate 2 rw [heap_alloc_old _ _ (by simp only [hz]; omega)]
    exact heap_alloc_new _ _
  · show _ = _
    rw [heap_alloc_old _ _ (by simp only [hz]; omega)]
    rw [← hz w (.cells #[.int .u64 (hiN a), .int .u64 (loN a)] T)]
    exact heap_alloc_new _ _
  · have h := heap_alloc_new ((w.alloc (.cells #[.int .u64 (hiN a), .int .u64 (loN a)] T)).alloc (.cells #[.int .u64 (hiN b), .int .u64 (loN b)] T)) (.cells #[.int .u64 0, .int .u64 0] T)
    simp only [hz] at h
    exact h

set_option maxRecDepth 100000 in
set_option maxHeartbeats 4000000 in
theorem common_any (a b : Nat) (ha : a ≤ 170141183460469231731687303715884105728) (hb : b ≤ 170141183460469231731687303715884105728) (w : World) :
    Calls Tryd.prog 71 #[szV a, szV b] w fun e w' => e = .returned (szV (Nat.gcd a b)) ∧ Below w.heap.size w w' := by
  obtain ⟨G, hG⟩ : ∃ G, G = Nat.gcd a b := ⟨_, rfl⟩
  rw [← hG]
  have HG := Lib.hid hG
  have HA := Lib.hid (And.intro ha hb)
  clear ha hb hG
  unfold szV
  go_enter Tryd.func71, Tryd.ntmps71
  go_upto_block 0 with fail
  have HO := Lib.hid (CmR.made 52 w a b)
  generalize (((w.alloc (.cells #[.int .u64 (hiN a), .int .u64 (loN a)] 52)).alloc (.cells #[.int .u64 (hiN b), .int .u64 (loN b)] 52)).alloc (.cells #[.int .u64 0, .int .u64 0] 52)) = w1 at *
  obtain ⟨g0, hg0⟩ : ∃ g, g = w.heap.size + 1 + 1 := ⟨_, rfl⟩
  rw [← hg0] at HO ⊢
  obtain ⟨gb, hgb⟩ : ∃ g, g = w.heap.size + 1 := ⟨_, rfl⟩
  rw [← hgb] at HO ⊢
  clear hg0 hgb
  go_wp2
  go_loopg [5] b (fun g v wr => ∃ x y : Nat, Hid (CmR 52 w gb g0 x y wr) ∧ Hid (g = y ∧ G = Nat.gcd x y ∧ x ≤ 170141183460469231731687303715884105728 ∧ y ≤ 170141183460469231731687303715884105728))
  case atStart => exact ⟨a, b, HO.out, rfl, HG.out, HA.out.1, HA.out.2⟩
  case round =>
    obtain ⟨x, y, HV, HP⟩ := hrel
    go_wp2_with (refine wpList_load_row rfl 52 _ rfl gb rfl 52 _ (0, 0) _ HV.out.hb Tryd.underlying52 rfl (by kernel_rfl) ?_)
    refine (szero_any y _).mono ?_
    rintro e w2 ⟨rfl, hb2⟩
    have HV2 := Lib.hid (HV.out.step hb2)
    clear hb2 HV
    by_cases hy : y = 0
    · rw [decide_eq_true hy]
      have h := HP.out.2.1
      rw [hy, Nat.gcd_zero_right] at h
      subst h
      clear hy
      go_wp2_with (first | (refine wpList_load_row rfl 52 _ rfl w.heap.size rfl 52 _ (0, 0) _ HV2.out.ha Tryd.underlying52 rfl (by kernel_rfl) ?_) | (refine wpList_store_row rfl 52 _ _ rfl g0 _ rfl rfl 52 _ HV2.out.h0 (by kernel_rfl) rfl (by kernel_rfl) ?_))
      refine bodyPost_ret (results_cell_row (fn := Tryd.f71) rfl _ _ g0 _ _ _ _ rfl (setRow_heap _ _ _ _ _ _ HV2.out.h0) Tryd.underlying52 rfl (by kernel_rfl)) rfl ?_
      exact ⟨rfl, below_row HV2.out.below (by have := HV2.out.ne; omega) _⟩
    · rw [decide_eq_false hy]
      go_wp2_with (first | (refine wpList_load_row rfl 52 _ rfl w.heap.size rfl 52 _ (0, 0) _ HV2.out.ha Tryd.underlying52 rfl (by kernel_rfl) ?_) | (refine wpList_load_row rfl 52 _ rfl gb rfl 52 _ (0, 0) _ HV2.out.hb Tryd.underlying52 rfl (by kernel_rfl) ?_))
      refine (over_any x y (by have h := HP.out; omega) (by omega) (by have h := HP.out; omega) _).mono ?_
      rintro e w3 ⟨rfl, hb2⟩
      have HV3 := Lib.hid (HV2.out.step hb2)
      clear hb2 HV2
      rw [show szV (x / y) = .agg #[.int .u64 (hiN (x / y)), .int .u64 (loN (x / y))] from rfl, show szV (x % y) = .agg #[.int .u64 (hiN (x % y)), .int .u64 (loN (x % y))] from rfl]
      have HZ := Lib.hid (two_fresh w3 52)
      go_upto_region 3 with (first | (refine wpList_store_row rfl 52 _ _ rfl w3.heap.size _ rfl rfl 52 _ HZ.out.1 (by kernel_rfl) rfl (by kernel_rfl) ?_) | (refine wpList_store_row rfl 52 _ _ rfl (w3.heap.size + 1) _ rfl rfl 52 _ (second_fresh _ HZ.out.2) (by kernel_rfl) rfl (by kernel_rfl) ?_))
      obtain ⟨pb, p1, p2⟩ := pair_stored w3 52 (x / y) (x % y)
      have HV4 := Lib.hid (HV3.out.step pb)
      have HR := Lib.hid p2
      have hlt : gb < w3.heap.size := HV3.out.hb.lt
      have hla : w.heap.size < w3.heap.size := HV3.out.ha.lt
      clear pb p1 p2 HZ HV3
      generalize (((w3.alloc (.cells #[.int .u64 0, .int .u64 0] 52)).alloc (.cells #[.int .u64 0, .int .u64 0] 52)).setRow w3.heap.size #[.int .u64 (hiN (x / y)), .int .u64 (loN (x / y))]).setRow (w3.heap.size + 1) #[.int .u64 (hiN (x % y)), .int .u64 (loN (x % y))] = w4 at *
      have hne := HV4.out.ne
      obtain ⟨gr, hgr⟩ : ∃ g, g = w3.heap.size + 1 := ⟨_, rfl⟩
      rw [← hgr] at HR ⊢
      have n1 : w.heap.size ≠ gb := by omega
      have n2 : w.heap.size ≠ gr := by omega
      have n3 : gb ≠ gr := by omega
      obtain ⟨a1, a2, a3, a4⟩ := cell_two HV4.out.ha
      obtain ⟨b1, b2, b3, b4⟩ := cell_two HV4.out.hb
      obtain ⟨r1, r2, r3, r4⟩ := cell_two HR.out
      have HN := Lib.hid (And.intro (HV4.out.cells y (x % y)) (HV4.out.cells' y (x % y)))
      have HQ := Lib.hid (show G = Nat.gcd y (x % y) ∧ x % y < y from ⟨by rw [HP.out.2.1, Nat.gcd_comm x y, Nat.gcd_rec y x, Nat.gcd_comm], Nat.mod_lt _ (by omega)⟩)
      clear hgr hne hlt hla HV4 HR
      go_region
      all_goals
        clear n1 n2 n3 a1 a2 a3 a4 b1 b2 b3 b4 r1 r2 r3 r4
        go_wp2
        go_roundg (x % y)
        case measure => have h := HP.out; have h2 := HQ.out; omega
        case rel => exact ⟨y, x % y, by first | exact HN.out.1 | exact HN.out.2, rfl, HQ.out.1, by have h := HP.out; omega, by have h := HP.out; have h2 := HQ.out; omega⟩

end Go.Proofs.YtmgdhlcgbgpgpaaDoor

/- math/bits.Mul64, walked over this program: the product of two words. -/
namespace Go.Proofs.YtmgdhlcgbgpgpaaDoor
open Go Go.RowKit
set_option linter.unusedVariables false
set_option linter.unusedSimpArgs false

set_option maxRecDepth 100000 in
set_option maxHeartbeats 1000000 in
theorem mul64_any (x y : Nat) (hx : x < 18446744073709551616) (hy : y < 18446744073709551616) (w : World) :
    Calls Tryd.prog 81 #[.int .u64 x, .int .u64 y] w fun e w' => e = .returned (.tuple #[.int .u64 ((x * y / 18446744073709551616 : Nat) : Int), .int .u64 ((x * y % 18446744073709551616 : Nat) : Int)]) ∧ w = w' := by
  obtain ⟨bd, bt, bw, hhi⟩ := Lib.mul64_hi x y hx hy
  have ba := Lib.half_mul_le (a := x / 4294967296) (b := y / 4294967296) (by omega) (by omega)
  have bb := Lib.half_mul_le (a := x / 4294967296) (b := y % 4294967296) (by omega) (by omega)
  have bc := Lib.half_mul_le (a := x % 4294967296) (b := y / 4294967296) (by omega) (by omega)
  have ba' : x / 4294967296 * (y / 4294967296) < 18446744073709551616 := by omega
  have bb' : x / 4294967296 * (y % 4294967296) < 18446744073709551616 := by omega
  have bc' : x % 4294967296 * (y / 4294967296) < 18446744073709551616 := by omega
  have bh1 : x / 4294967296 * (y / 4294967296) + (x / 4294967296 * (y % 4294967296) + x % 4294967296 * (y % 4294967296) / 4294967296) / 4294967296 < 18446744073709551616 := by omega
  have bh : x / 4294967296 * (y / 4294967296) + (x / 4294967296 * (y % 4294967296) + x % 4294967296 * (y % 4294967296) / 4294967296) / 4294967296 + ((x / 4294967296 * (y % 4294967296) + x % 4294967296 * (y % 4294967296) / 4294967296) % 4294967296 + x % 4294967296 * (y / 4294967296)) / 4294967296 < 18446744073709551616 := by omega
  go_enter Tryd.func81, Tryd.ntmps81
  go_wp2
  simp only [Mul64.maskN x hx, Mul64.maskN y hy, Mul64.divN, Mul64.mulN, Mul64.addN, Mul64.wrapN _ bd, Mul64.wrapN _ bb', Mul64.wrapN _ bt, Mul64.maskN _ bt, Mul64.wrapN _ bc', Mul64.wrapN _ bw, Mul64.wrapN _ ba', Mul64.wrapN _ bh1, Mul64.wrapN _ bh, Mul64.wrapM (x * y)]
  rw [hhi]
  go_ret2
  exact ⟨rfl, rfl⟩

/-- The product of two words that is a word. -/
theorem mul64_low (x y : Nat) (hx : x < 18446744073709551616) (hy : y < 18446744073709551616) (h : x * y < 18446744073709551616) (w : World) :
    Calls Tryd.prog 81 #[.int .u64 x, .int .u64 y] w fun e w' => e = .returned (.tuple #[.int .u64 0, .int .u64 ((x * y : Nat) : Int)]) ∧ w = w' :=
  (mul64_any x y hx hy w).mono fun e w' ⟨h1, h2⟩ => ⟨by rw [h1, Nat.div_eq_of_lt h, Nat.mod_eq_of_lt h]; rfl, h2⟩

end Go.Proofs.YtmgdhlcgbgpgpaaDoor

/- Whole numbers of 128 bits with a sign, as rat reckons with them. -/
namespace Go.Proofs.YtmgdhlcgbgpgpaaDoor
open Go Go.RowKit
set_option linter.unusedVariables false
set_option linter.unusedSimpArgs false

def wdV (x : Int) : Value := .agg #[.int .u64 (hiN x.natAbs), .int .u64 (loN x.natAbs), .bool (decide (x < 0))]
def I64 (x : Int) : Prop := -9223372036854775808 ≤ x ∧ x ≤ 9223372036854775807
theorem abs64 {x : Int} (h : I64 x) : x.natAbs ≤ 9223372036854775808 := by obtain ⟨_, _⟩ := h; omega
theorem of_is {n : Int} (h : I64 n) : wdV n = .agg #[.int .u64 0, .int .u64 (n.natAbs : Int), .bool (decide (n < 0))] := by
  have h1 := abs64 h
  unfold wdV
  rw [small_hi (by omega), small_lo (by omega)]

set_option maxRecDepth 100000 in
set_option maxHeartbeats 1000000 in
theorem of_any2 (n : Int) (h : I64 n) (w : World) : Calls Tryd.prog 47 #[.int .i64 n] w fun e w' => e = .returned (.agg #[.int .u64 0, .int .u64 (n.natAbs : Int), .bool (decide (n < 0))]) ∧ Below w.heap.size w w' := by
  obtain ⟨h1, h2⟩ := h
  by_cases hn : n < 0
  · have e1 : decide (n < 0) = true := decide_eq_true hn
    have e2 : IntKind.u64.wrap (-IntKind.u64.wrap n) = (n.natAbs : Int) := by rw [IntKind.wrap_u64, IntKind.wrap_u64]; omega
    rw [e1]
    go_enter Tryd.func47, Tryd.ntmps47
    go_wp2
    simp [bodyPost, results, Tryd.results47, go_sem]
    first | exact below_one w _ | exact ⟨by simp [e2], below_one w _⟩ | exact ⟨by omega, below_one w _⟩
  · have e1 : decide (n < 0) = false := decide_eq_false hn
    have e2 : IntKind.u64.wrap n = (n.natAbs : Int) := by rw [IntKind.wrap_u64]; omega
    rw [e1]
    go_enter Tryd.func47, Tryd.ntmps47
    go_wp2
    simp [bodyPost, results, Tryd.results47, go_sem]
    first | exact below_one w _ | exact ⟨by simp [e2], below_one w _⟩ | exact ⟨by omega, below_one w _⟩

/-! ### two fresh blocks -/
theorem two_fr (w : World) (o p : Obj) : ((w.alloc o).alloc p).heap[w.heap.size]? = some o ∧ ((w.alloc o).alloc p).heap[w.heap.size + 1]? = some p := by
  constructor
  · rw [heap_alloc_old _ _ (by simp)]; exact heap_alloc_new _ _
  · have h := heap_alloc_new (w.alloc o) p
    rw [show (w.alloc o).heap.size = w.heap.size + 1 by simp] at h
    exact h
theorem second_fr {w wr : World} {o : Obj} (c : Array Value) (h : wr.heap[w.heap.size + 1]? = some o) : (wr.setRow w.heap.size c).heap[w.heap.size + 1]? = some o := row_other _ h (by omega)
theorem pair_st (w : World) (T T' : TypeId) (a b c d : Array Value) :
    Below w.heap.size w ((((w.alloc (.cells a T)).alloc (.cells b T')).setRow w.heap.size c).setRow (w.heap.size + 1) d) ∧
    ((((w.alloc (.cells a T)).alloc (.cells b T')).setRow w.heap.size c).setRow (w.heap.size + 1) d).heap[w.heap.size]? = some (.cells c T) ∧
    ((((w.alloc (.cells a T)).alloc (.cells b T')).setRow w.heap.size c).setRow (w.heap.size + 1) d).heap[w.heap.size + 1]? = some (.cells d T') := by
  obtain ⟨h1, h2⟩ := two_fr w (.cells a T) (.cells b T')
  exact ⟨below_row (below_row (below_two w _ _) (Nat.le_refl _) _) (Nat.le_succ _) _, row_other _ (setRow_heap _ _ _ _ _ _ h1) (by omega), setRow_heap _ _ _ _ _ _ (second_fr _ h2)⟩
theorem heap_keep {w w' : World} {g : Nat} {o : Obj} (h : w.heap[g]? = some o) (hb : Below w.heap.size w w') : w'.heap[g]? = some o := (hb.block _ (heap_lt2 h)).trans h
theorem cell_three {wr : World} {g : Nat} {a b c : Value} {T : TypeId} (h : wr.heap[g]? = some (.cells #[a, b, c] T)) :
    wr.cell? ⟨g, 0, none⟩ = some a ∧ wr.cell? ⟨g, 1, none⟩ = some b ∧ wr.cell? ⟨g, 2, none⟩ = some c ∧ wr.frozen? ⟨g, 2, none⟩ = false := by
  refine ⟨?_, ?_, ?_, ?_⟩
  · unfold World.cell?; rw [h]; rfl
  · unfold World.cell?; rw [h]; rfl
  · unfold World.cell?; rw [h]; rfl
  · unfold World.frozen?; rw [h]; rfl
theorem third_set {wr : World} {g : Nat} {a b c : Value} {T : TypeId} (h : wr.heap[g]? = some (.cells #[a, b, c] T)) (v : Value) : (wr.setCell ⟨g, 2, none⟩ v).heap[g]? = some (.cells #[a, b, v] T) := by
  simp only [World.setCell, Array.getElem?_modify, if_true, h, Option.map_some]; rfl

theorem times_sgn (a b : Int) : wdV (a * b) = .agg #[.int .u64 (hiN (a.natAbs * b.natAbs)), .int .u64 (loN (a.natAbs * b.natAbs)), .bool ((decide (a < 0) != decide (b < 0)) && !decide (a.natAbs * b.natAbs = 0))] := by
  unfold wdV
  rw [Int.natAbs_mul]
  congr 4
  by_cases hz : a.natAbs * b.natAbs = 0
  · have h0 : a * b = 0 := by
      have := Int.natAbs_mul a b
      omega
    rw [h0, decide_eq_true hz]
    simp
  · rw [decide_eq_false hz, Bool.not_false, Bool.and_true]
    have ha : a ≠ 0 := fun e => hz (by rw [e]; simp)
    have hb : b ≠ 0 := fun e => hz (by rw [e]; simp)
    rcases Int.lt_trichotomy a 0 with h | h | h
    · rcases Int.lt_trichotomy b 0 with h' | h' | h'
      · have := Int.mul_pos_of_neg_of_neg h h'
        rw [decide_eq_true h, decide_eq_true h', decide_eq_false (by omega)]; rfl
      · exact absurd h' hb
      · have := Int.mul_neg_of_neg_of_pos h h'
        rw [decide_eq_true h, decide_eq_false (show ¬ b < 0 by omega), decide_eq_true this]; rfl
    · exact absurd h ha
    · rcases Int.lt_trichotomy b 0 with h' | h' | h'
      · have := Int.mul_neg_of_pos_of_neg h h'
        rw [decide_eq_false (show ¬ a < 0 by omega), decide_eq_true h', decide_eq_true this]; rfl
      · exact absurd h' hb
      · have := Int.mul_pos h h'
        rw [decide_eq_false (show ¬ a < 0 by omega), decide_eq_false (show ¬ b < 0 by omega), decide_eq_false (by omega)]; rfl

set_option maxRecDepth 100000 in
set_option maxHeartbeats 2000000 in
theorem times_any (a b : Int) (ha : I64 a) (hb : I64 b) (w : World) : Calls Tryd.prog 57 #[.int .i64 a, .int .i64 b] w fun e w' => e = .returned (wdV (a * b)) ∧ Below w.heap.size w w' := by
  rw [times_sgn]
  have h1 := abs64 ha
  have h2 := abs64 hb
  have HM := Lib.hid (fun W => mul64_any a.natAbs b.natAbs (by omega) (by omega) W)
  have HA := Lib.hid (fun W => of_any2 a ha W)
  have HB := Lib.hid (fun W => of_any2 b hb W)
  obtain ⟨x, hx⟩ : ∃ x, x = a.natAbs := ⟨_, rfl⟩
  obtain ⟨y, hy⟩ : ∃ y, y = b.natAbs := ⟨_, rfl⟩
  obtain ⟨sa, hsa⟩ : ∃ sa, sa = decide (a < 0) := ⟨_, rfl⟩
  obtain ⟨sb, hsb⟩ : ∃ sb, sb = decide (b < 0) := ⟨_, rfl⟩
  rw [← hx, ← hy] at HM
  rw [← hx, ← hsa] at HA
  rw [← hy, ← hsb] at HB
  rw [← hx, ← hy, ← hsa, ← hsb]
  clear hx hy hsa hsb ha hb h1 h2
  obtain ⟨P, hP⟩ : ∃ P, P = x * y := ⟨_, rfl⟩
  rw [← hP] at HM ⊢
  clear hP
  have HM2 : Hid (∀ W, Calls Tryd.prog 81 #[.int .u64 x, .int .u64 y] W fun e w' => e = .returned (.tuple #[.int .u64 (hiN P), .int .u64 (loN P)]) ∧ W = w') := HM
  clear HM
  have HSZ := Lib.hid (fun W => szero_any P W)
  obtain ⟨z, hz⟩ : ∃ z, decide (P = 0) = z := ⟨_, rfl⟩
  obtain ⟨sx, hsx⟩ : ∃ sx, (!(sa == sb)) = sx := ⟨_, rfl⟩
  rw [hz] at HSZ
  rw [hz, show (sa != sb) = sx from hsx]
  clear hz
  go_enter Tryd.func57, Tryd.ntmps57
  go_wp2_with fail
  have HZ := Lib.hid (heap_alloc_new w (.cells #[.int .u64 0, .int .u64 0, .bool false] 54))
  have HW := Lib.hid (below_one w (.cells #[.int .u64 0, .int .u64 0, .bool false] 54))
  generalize w.alloc (.cells #[.int .u64 0, .int .u64 0, .bool false] 54) = w1 at *
  refine (HA.out _).mono ?_
  rintro e w2 ⟨rfl, hb⟩
  have HZ2 := Lib.hid (heap_keep HZ.out hb)
  have HW2 := Lib.hid (HW.out.trans (hb.mono HW.out.size))
  clear hb HZ HW HA
  go_wp2_with fail
  refine (HB.out _).mono ?_
  rintro e w3 ⟨rfl, hb⟩
  have HZ3 := Lib.hid (heap_keep HZ2.out hb)
  have HW3 := Lib.hid (HW2.out.trans (hb.mono HW2.out.size))
  clear hb HZ2 HW2 HB
  have HF := Lib.hid (two_fr w3 (.cells #[.int .u64 0, .int .u64 0, .bool false] 54) (.cells #[.int .u64 0, .int .u64 0, .bool false] 54))
  go_upto_region 2 with (first | (refine wpList_store_row rfl 54 _ _ rfl w3.heap.size _ rfl rfl 54 _ HF.out.1 (by kernel_rfl) rfl (by kernel_rfl) ?_) | (refine wpList_store_row rfl 54 _ _ rfl (w3.heap.size + 1) _ rfl rfl 54 _ (second_fr _ HF.out.2) (by kernel_rfl) rfl (by kernel_rfl) ?_))
  obtain ⟨pb, p1, p2⟩ := pair_st w3 54 54 #[.int .u64 0, .int .u64 0, .bool false] #[.int .u64 0, .int .u64 0, .bool false] #[.int .u64 0, .int .u64 x, .bool sa] #[.int .u64 0, .int .u64 y, .bool sb]
  have HZ4 := Lib.hid (heap_keep HZ3.out pb)
  have HW4 := Lib.hid (HW3.out.trans (pb.mono HW3.out.size))
  generalize (((w3.alloc (.cells #[.int .u64 0, .int .u64 0, .bool false] 54)).alloc (.cells #[.int .u64 0, .int .u64 0, .bool false] 54)).setRow w3.heap.size #[.int .u64 0, .int .u64 (x : Int), .bool sa]).setRow (w3.heap.size + 1) #[.int .u64 0, .int .u64 (y : Int), .bool sb] = w4 at *
  obtain ⟨c1, c2, c3, _⟩ := cell_three p1
  obtain ⟨d1, d2, d3, _⟩ := cell_three p2
  clear pb p1 p2 HF HZ3 HW3
  go_wp2_with fail
  refine (HM2.out _).mono ?_
  rintro e w5 ⟨rfl, rfl⟩
  go_upto_region 4 with fail
  have HB5 := Lib.hid (HW4.out.alloc HW4.out.size (.cells #[.int .u64 (hiN P), .int .u64 (loN P), .bool sx] 54))
  have H5 := Lib.hid (heap_keep HZ4.out (below_one w4 (.cells #[.int .u64 (hiN P), .int .u64 (loN P), .bool sx] 54)))
  have H9 := Lib.hid (heap_alloc_new w4 (.cells #[.int .u64 (hiN P), .int .u64 (loN P), .bool sx] 54))
  have hlt : w.heap.size < w4.heap.size := heap_lt2 HZ4.out
  generalize w4.alloc (.cells #[.int .u64 (hiN P), .int .u64 (loN P), .bool sx] 54) = w5 at *
  obtain ⟨g9, hg9⟩ : ∃ g, g = w4.heap.size := ⟨_, rfl⟩
  rw [← hg9] at H9 hlt ⊢
  have hle : w.heap.size ≤ g9 := by omega
  clear hg9 HZ4 HW4 c1 c2 c3 d1 d2 d3 hsx
  cases sx with
  | false =>
    obtain ⟨k1, k2, k3, k4⟩ := cell_three H9.out
    go_upto_region 5 with fail
    have H10 := Lib.hid (third_set H9.out (.bool false))
    have H11 := Lib.hid (heap_other (c := 2) (g := g9) (.bool false) H5.out (by omega))
    have HB6 := Lib.hid (HB5.out.setCell (p := ⟨g9, 2, none⟩) hle (.bool false))
    generalize w5.setCell ⟨g9, 2, none⟩ (.bool false) = w6 at *
    clear k1 k2 k3 k4
    go_wp2_with (first | (refine wpList_load_row rfl 54 _ rfl g9 rfl 54 _ (0, 0) _ H10.out Tryd.underlying54 rfl (by kernel_rfl) ?_) | (refine wpList_store_row rfl 54 _ _ rfl w.heap.size _ rfl rfl 54 _ H11.out (by kernel_rfl) rfl (by kernel_rfl) ?_))
    refine bodyPost_ret (results_cell_row (fn := Tryd.f57) rfl _ _ w.heap.size _ _ _ _ rfl (setRow_heap _ _ _ _ _ _ H11.out) Tryd.underlying54 rfl (by kernel_rfl)) rfl ?_
    exact ⟨rfl, below_row HB6.out (Nat.le_refl _) _⟩
  | true =>
    obtain ⟨k1, k2, k3, k4⟩ := cell_three H9.out
    go_wp2_with fail
    refine (HSZ.out _).mono ?_
    rintro e w7 ⟨rfl, hb⟩
    have J9 := Lib.hid (heap_keep H9.out hb)
    have J5 := Lib.hid (heap_keep H5.out hb)
    have JB := Lib.hid (HB5.out.trans (hb.mono HB5.out.size))
    clear k1 k2 k3 k4 hb H9 H5 HB5
    obtain ⟨k1, k2, k3, k4⟩ := cell_three J9.out
    go_upto_region 5 with fail
    have H10 := Lib.hid (third_set J9.out (.bool (!z)))
    have H11 := Lib.hid (heap_other (c := 2) (g := g9) (.bool (!z)) J5.out (by omega))
    have HB6 := Lib.hid (JB.out.setCell (p := ⟨g9, 2, none⟩) hle (.bool (!z)))
    generalize w7.setCell ⟨g9, 2, none⟩ (.bool (!z)) = w6 at *
    clear k1 k2 k3 k4
    go_wp2_with (first | (refine wpList_load_row rfl 54 _ rfl g9 rfl 54 _ (0, 0) _ H10.out Tryd.underlying54 rfl (by kernel_rfl) ?_) | (refine wpList_store_row rfl 54 _ _ rfl w.heap.size _ rfl rfl 54 _ H11.out (by kernel_rfl) rfl (by kernel_rfl) ?_))
    refine bodyPost_ret (results_cell_row (fn := Tryd.f57) rfl _ _ w.heap.size _ _ _ _ rfl (setRow_heap _ _ _ _ _ _ H11.out) Tryd.underlying54 rfl (by kernel_rfl)) rfl ?_
    exact ⟨rfl, below_row HB6.out (Nat.le_refl _) _⟩

end Go.Proofs.YtmgdhlcgbgpgpaaDoor

/- Fractions in lowest terms: plain laws. -/
namespace Go.Proofs.YtmgdhlcgbgpgpaaDoor
set_option linter.unusedVariables false
set_option linter.unusedSimpArgs false

/-- The fraction of a sign and two sizes. -/
def fracS (neg : Bool) (n d : Nat) : (Int × Int) × Int :=
  if fitsI (sgnI neg (n / Nat.gcd n d)) = true ∧ d / Nat.gcd n d ≤ 9223372036854775807 then ((sgnI neg (n / Nat.gcd n d), ((d / Nat.gcd n d : Nat) : Int)), 0) else ((0, 0), 20)
theorem frac_is (X D : Int) : fracP X D = fracS (decide (X < 0) != decide (D < 0)) X.natAbs D.natAbs := rfl
theorem sgn_zero (b : Bool) : sgnI b 0 = 0 := by cases b <;> rfl
theorem sgn_abs (X : Int) : sgnI (decide (X < 0)) X.natAbs = X := by
  unfold sgnI
  by_cases h : X < 0
  · simp [h]; omega
  · simp [h]; omega
theorem abs_sgn (b : Bool) (n : Nat) : (sgnI b n).natAbs = n := by cases b <;> simp [sgnI]
theorem fracS_zero (b b' : Bool) (d : Nat) : fracS b 0 d = fracS b' 0 d := by unfold fracS; rw [Nat.zero_div, sgn_zero, sgn_zero]
theorem frac_sgn (neg : Bool) (n d : Nat) (hd : 0 < d) : fracS neg n d = fracP (sgnI neg n) d := by
  rw [frac_is, abs_sgn, Int.natAbs_natCast, show decide ((d : Int) < 0) = false from decide_eq_false (by omega)]
  by_cases h : n = 0
  · subst h; exact fracS_zero _ _ _
  · have e : decide (sgnI neg n < 0) = neg := by
      cases neg
      · exact decide_eq_false (by show ¬ ((n : Int) < 0); omega)
      · exact decide_eq_true (by show -(n : Int) < 0; omega)
    rw [e]
    cases neg <;> rfl
/-- What the fraction is worth. -/
theorem frac_value {X D : Int} (hD : D ≠ 0) (h : (fracP X D).2 = 0) : (fracP X D).1.1 * D = X * (fracP X D).1.2 := by
  unfold fracP at h ⊢
  by_cases hc : fitsI (sgnI (decide (X < 0) != decide (D < 0)) (X.natAbs / Nat.gcd X.natAbs D.natAbs)) = true ∧ D.natAbs / Nat.gcd X.natAbs D.natAbs ≤ 9223372036854775807
  · rw [if_pos hc]
    have hg : 0 < Nat.gcd X.natAbs D.natAbs := Nat.gcd_pos_of_pos_right _ (by omega)
    obtain ⟨n, hn⟩ := Nat.gcd_dvd_left X.natAbs D.natAbs
    obtain ⟨d, hd⟩ := Nat.gcd_dvd_right X.natAbs D.natAbs
    have e1 : X.natAbs / Nat.gcd X.natAbs D.natAbs = n := by rw [Nat.div_eq_of_eq_mul_right hg hn]
    have e2 : D.natAbs / Nat.gcd X.natAbs D.natAbs = d := by rw [Nat.div_eq_of_eq_mul_right hg hd]
    rw [e1, e2]
    show sgnI (decide (X < 0) != decide (D < 0)) n * D = X * (d : Int)
    generalize Nat.gcd X.natAbs D.natAbs = g at *
    have hX : (X.natAbs : Int) = (g : Int) * n := by rw [hn]; simp
    have hDn : (D.natAbs : Int) = (g : Int) * d := by rw [hd]; simp
    have key : (n : Int) * ((g : Int) * d) = (g : Int) * n * d := by rw [← Int.mul_assoc, Int.mul_comm (n : Int) g]
    by_cases hx : X < 0 <;> by_cases hdd : D < 0
    · have ex : X = -((g : Int) * n) := by omega
      have ed : D = -((g : Int) * d) := by omega
      simp only [hx, hdd, decide_true, bne_self_eq_false, sgnI]
      rw [ex, ed]
      simp only [Bool.false_eq_true, if_false, Int.mul_neg, Int.neg_mul]
      rw [key]
    · have ex : X = -((g : Int) * n) := by omega
      have ed : D = (g : Int) * d := by omega
      simp only [hx, hdd, decide_true, decide_false, sgnI, bne_iff_ne, ne_eq, Bool.true_eq_false, not_false_eq_true, if_true]
      rw [ex, ed]
      simp only [Int.mul_neg, Int.neg_mul]
      rw [key]
    · have ex : X = (g : Int) * n := by omega
      have ed : D = -((g : Int) * d) := by omega
      simp only [hx, hdd, decide_true, decide_false, sgnI, bne_iff_ne, ne_eq, Bool.false_eq_true, not_false_eq_true, if_true]
      rw [ex, ed]
      simp only [Int.mul_neg, Int.neg_mul, Int.neg_neg]
      rw [key]
    · have ex : X = (g : Int) * n := by omega
      have ed : D = (g : Int) * d := by omega
      simp only [hx, hdd, decide_false, bne_self_eq_false, sgnI]
      rw [ex, ed]
      simp only [Bool.false_eq_true, if_false]
      rw [key]
  · rw [if_neg hc] at h
    exact absurd h (by decide)
/-- A fraction in lowest terms is what fracP tells of all that are worth as much. -/
theorem frac_of_right {X D : Int} {a : Int × Int} (hD : D ≠ 0) (ha : rightR a = true) (hf : fitsI a.1 = true) (h2 : a.2 ≤ 9223372036854775807) (he : X * a.2 = a.1 * D) : fracP X D = (a, 0) := by
  obtain ⟨h0, h1⟩ := of_decide_eq_true ha
  have hN : X.natAbs * a.2.natAbs = a.1.natAbs * D.natAbs := by rw [← Int.natAbs_mul, ← Int.natAbs_mul, he]
  have hdvd : a.2.natAbs ∣ D.natAbs := gcd_one_dvd h1 D.natAbs ⟨X.natAbs, by rw [← hN, Nat.mul_comm]⟩
  obtain ⟨k, hk⟩ := hdvd
  have ha2 : 0 < a.2.natAbs := by omega
  have hkp : 0 < k := by
    rcases Nat.eq_zero_or_pos k with e | e
    · subst e; omega
    · exact e
  have hX : X.natAbs = a.1.natAbs * k := by
    rw [hk, Nat.mul_left_comm] at hN
    rw [Nat.mul_comm X.natAbs] at hN
    exact Nat.eq_of_mul_eq_mul_left ha2 hN
  have hg : Nat.gcd X.natAbs D.natAbs = k := by rw [hX, hk, Nat.gcd_mul_right, h1, Nat.one_mul]
  have e1 : X.natAbs / k = a.1.natAbs := by rw [hX]; exact Nat.mul_div_cancel _ hkp
  have e2 : D.natAbs / k = a.2.natAbs := by rw [hk]; exact Nat.mul_div_cancel _ hkp
  have es : sgnI (decide (X < 0) != decide (D < 0)) a.1.natAbs = a.1 := by
    by_cases hz : a.1 = 0
    · rw [hz]; exact sgn_zero _
    · have hb : (decide (X < 0) != decide (D < 0)) = decide (a.1 < 0) := by
        have k1 : X < 0 ↔ a.1 * D < 0 := by
          rw [← he]
          constructor
          · exact fun h => Int.mul_neg_of_neg_of_pos h h0
          · intro h
            rcases Int.lt_trichotomy X 0 with e | e | e
            · exact e
            · subst e; rw [Int.zero_mul] at h; exact absurd h (by decide)
            · have := Int.mul_pos e h0; omega
        rcases Int.lt_trichotomy D 0 with hd | hd | hd
        · rcases Int.lt_trichotomy a.1 0 with hn | hn | hn
          · have p1 : 0 < a.1 * D := Int.mul_pos_of_neg_of_neg hn hd
            rw [show decide (X < 0) = false from decide_eq_false (by omega), show decide (D < 0) = true from decide_eq_true hd, show decide (a.1 < 0) = true from decide_eq_true hn]; rfl
          · exact absurd hn hz
          · have p1 : a.1 * D < 0 := Int.mul_neg_of_pos_of_neg hn hd
            rw [show decide (X < 0) = true from decide_eq_true (by omega), show decide (D < 0) = true from decide_eq_true hd, show decide (a.1 < 0) = false from decide_eq_false (by omega)]; rfl
        · exact absurd hd hD
        · rcases Int.lt_trichotomy a.1 0 with hn | hn | hn
          · have p1 : a.1 * D < 0 := Int.mul_neg_of_neg_of_pos hn hd
            rw [show decide (X < 0) = true from decide_eq_true (by omega), show decide (D < 0) = false from decide_eq_false (by omega), show decide (a.1 < 0) = true from decide_eq_true hn]; rfl
          · exact absurd hn hz
          · have p1 : 0 < a.1 * D := Int.mul_pos hn hd
            rw [show decide (X < 0) = false from decide_eq_false (by omega), show decide (D < 0) = false from decide_eq_false (by omega), show decide (a.1 < 0) = false from decide_eq_false (by omega)]; rfl
      rw [hb, sgn_abs]
  unfold fracP
  rw [hg, e1, e2, es, if_pos ⟨hf, by omega⟩]
  rw [show ((a.2.natAbs : Nat) : Int) = a.2 by omega]
theorem right_unique {a b : Int × Int} (ha : rightR a = true) (hb : rightR b = true) (hf : fitsI a.1 = true) (h2 : a.2 ≤ 9223372036854775807) (hg : fitsI b.1 = true) (h3 : b.2 ≤ 9223372036854775807) (he : a.1 * b.2 = b.1 * a.2) : a = b := by
  have hb0 := (of_decide_eq_true hb).1
  have h := frac_of_right (X := a.1) (D := a.2) (a := b) (by have := (of_decide_eq_true ha).1; omega) hb hg h3 he
  rw [right_frac ha hf h2] at h
  exact congrArg Prod.fst h

end Go.Proofs.YtmgdhlcgbgpgpaaDoor

/- Fractions by the document, and what it says of sums: plain. -/
namespace Go.Proofs.YtmgdhlcgbgpgpaaDoor
set_option linter.unusedVariables false
set_option linter.unusedSimpArgs false

/-! ### the document's answers -/
def heldP (neg : Bool) (n d : Nat) : (Int × Int) × Int := if d = 0 then ((0, 0), 21) else fracS neg n d
theorem held_is (neg : Bool) (n d : Nat) (hd : 0 < d) : heldP neg n d = fracP (sgnI neg n) d := by unfold heldP; rw [if_neg (by omega), frac_sgn _ _ _ hd]
def dnewP (n d : Int) : (Int × Int) × Int := heldP (decide (n < 0) != decide (d < 0)) n.natAbs d.natAbs
theorem dnew_is (n d : Int) : dnewP n d = newP n d := by
  unfold dnewP heldP newP
  by_cases h : d = 0
  · rw [if_pos (by omega), if_pos h]
  · rw [if_neg (by omega), if_neg h, frac_is]
theorem prod_sgn (a b : Int) (hb : 0 ≤ b) : a * b = sgnI (decide (a < 0)) (a.natAbs * b.natAbs) := by
  have e : ((a.natAbs * b.natAbs : Nat) : Int) = (a.natAbs : Int) * b := by
    have h : (b.natAbs : Int) = b := by omega
    rw [Int.natCast_mul, h]
  by_cases h : a < 0
  · simp only [h, decide_true, sgnI, if_true]
    rw [e, show (a.natAbs : Int) = -a by omega, Int.neg_mul, Int.neg_neg]
  · simp only [h, decide_false, sgnI, Bool.false_eq_true, if_false]
    rw [e, show (a.natAbs : Int) = a by omega]
theorem den_sgn (a b : Int) (ha : 0 < a) (hb : 0 < b) : ((a.natAbs * b.natAbs : Nat) : Int) = a * b ∧ 0 < a.natAbs * b.natAbs := by
  have h1 : (a.natAbs : Int) = a := by omega
  have h2 : (b.natAbs : Int) = b := by omega
  exact ⟨by rw [Int.natCast_mul, h1, h2], Nat.mul_pos (by omega) (by omega)⟩
theorem sgn_same (s : Bool) (x y : Nat) : sgnI s x + sgnI s y = sgnI s (x + y) := by cases s <;> simp [sgnI]; omega
theorem sgn_less (s t : Bool) (h : s ≠ t) (x y : Nat) (hxy : x < y) : sgnI s x + sgnI t y = sgnI t (y - x) := by
  cases s <;> cases t <;> first | exact absurd rfl h | (simp [sgnI]; omega)
theorem sgn_more (s t : Bool) (h : s ≠ t) (x y : Nat) (hxy : ¬ x < y) : sgnI s x + sgnI t y = sgnI s (x - y) := by
  cases s <;> cases t <;> first | exact absurd rfl h | (simp [sgnI]; omega)
theorem sgn_neg (s : Bool) (x : Nat) : -sgnI s x = sgnI (!s) x := by cases s <;> simp [sgnI]
/-- A sum of signs and sizes, as the document makes it. -/
def dsumS (s t : Bool) (x y den : Nat) : (Int × Int) × Int := if s = t then heldP s (x + y) den else if x < y then heldP t (y - x) den else heldP s (x - y) den
theorem dsumS_is (s t : Bool) (x y den : Nat) (hd : 0 < den) : dsumS s t x y den = fracP (sgnI s x + sgnI t y) den := by
  unfold dsumS
  by_cases h : s = t
  · subst h; rw [if_pos rfl, held_is _ _ _ hd, sgn_same]
  · rw [if_neg h]
    by_cases hxy : x < y
    · rw [if_pos hxy, held_is _ _ _ hd, sgn_less s t h x y hxy]
    · rw [if_neg hxy, held_is _ _ _ hd, sgn_more s t h x y hxy]
def dsumP (a b : Int × Int) : (Int × Int) × Int := dsumS (decide (a.1 < 0)) (decide (b.1 < 0)) (a.1.natAbs * b.2.natAbs) (b.1.natAbs * a.2.natAbs) (a.2.natAbs * b.2.natAbs)
theorem dsum_is (a b : Int × Int) (ha : 0 < a.2) (hb : 0 < b.2) : dsumP a b = fracP (a.1 * b.2 + b.1 * a.2) (a.2 * b.2) := by
  obtain ⟨e, hd⟩ := den_sgn a.2 b.2 ha hb
  unfold dsumP
  rw [dsumS_is _ _ _ _ _ hd, e, ← prod_sgn a.1 b.2 (by omega), ← prod_sgn b.1 a.2 (by omega)]
def dlessP (a b : Int × Int) : (Int × Int) × Int := dsumS (decide (a.1 < 0)) (!decide (b.1 < 0)) (a.1.natAbs * b.2.natAbs) (b.1.natAbs * a.2.natAbs) (a.2.natAbs * b.2.natAbs)
theorem dless_is (a b : Int × Int) (ha : 0 < a.2) (hb : 0 < b.2) : dlessP a b = fracP (a.1 * b.2 - b.1 * a.2) (a.2 * b.2) := by
  obtain ⟨e, hd⟩ := den_sgn a.2 b.2 ha hb
  unfold dlessP
  rw [dsumS_is _ _ _ _ _ hd, e, ← sgn_neg, ← prod_sgn a.1 b.2 (by omega), ← prod_sgn b.1 a.2 (by omega)]
  rfl
def dmulP (a b : Int × Int) : (Int × Int) × Int := heldP (decide (a.1 < 0) != decide (b.1 < 0)) (a.1.natAbs * b.1.natAbs) (a.2.natAbs * b.2.natAbs)
theorem sgn_mul (a b : Int) : sgnI (decide (a < 0) != decide (b < 0)) (a.natAbs * b.natAbs) = a * b := by
  by_cases h : b < 0
  · have h1 := prod_sgn a (-b) (by omega)
    rw [Int.natAbs_neg] at h1
    have h2 : a * b = -(a * -b) := by rw [Int.mul_neg, Int.neg_neg]
    rw [h2, h1, sgn_neg]
    simp [h]
  · rw [prod_sgn a b (by omega)]
    simp [h]
theorem dmul_is (a b : Int × Int) (ha : 0 < a.2) (hb : 0 < b.2) : dmulP a b = fracP (a.1 * b.1) (a.2 * b.2) := by
  obtain ⟨e, hd⟩ := den_sgn a.2 b.2 ha hb
  unfold dmulP
  rw [held_is _ _ _ hd, e, sgn_mul]
def ddivP (a b : Int × Int) : (Int × Int) × Int := heldP (decide (a.1 < 0) != decide (b.1 < 0)) (a.1.natAbs * b.2.natAbs) (a.2.natAbs * b.1.natAbs)
theorem ddiv_is (a b : Int × Int) (ha : 0 < a.2) (hb : 0 < b.2) : ddivP a b = if b.1 = 0 then ((0, 0), 21) else fracP (a.1 * b.2) (a.2 * b.1) := by
  unfold ddivP heldP
  by_cases h : b.1 = 0
  · rw [if_pos h, if_pos (by rw [h]; rfl)]
  · have h1 : 0 < a.2.natAbs * b.1.natAbs := Nat.mul_pos (by omega) (by omega)
    rw [if_neg h, if_neg (by omega), frac_is, Int.natAbs_mul, Int.natAbs_mul]
    have e1 : decide (a.1 * b.2 < 0) = decide (a.1 < 0) := by
      rw [decide_eq_decide]
      constructor
      · intro h; by_cases h' : a.1 < 0
        · exact h'
        · have := Int.mul_nonneg (show 0 ≤ a.1 by omega) (show 0 ≤ b.2 by omega); omega
      · intro h; exact Int.mul_neg_of_neg_of_pos h hb
    have e2 : decide (a.2 * b.1 < 0) = decide (b.1 < 0) := by
      rw [decide_eq_decide]
      constructor
      · intro h; by_cases h' : b.1 < 0
        · exact h'
        · have := Int.mul_nonneg (show 0 ≤ a.2 by omega) (show 0 ≤ b.1 by omega); omega
      · intro h; exact Int.mul_neg_of_pos_of_neg ha h
    rw [e1, e2]
/-- Which is greater, as the document holds them. -/
def dcmpS (s t : Bool) (x y : Nat) : Int := if s = true ∧ t = false ∨ (s = t ∧ (if s = true ∧ t = true then y < x else x < y)) then -1 else if s = false ∧ t = true ∨ (if s = true ∧ t = true then x < y else y < x) then 1 else 0
def dcmpP (a b : Int × Int) : Int := dcmpS (decide (a.1 < 0)) (decide (b.1 < 0)) (a.1.natAbs * b.2.natAbs) (b.1.natAbs * a.2.natAbs)
theorem dcmpS_is (s t : Bool) (x y : Nat) (hs : s = true → 0 < x) (ht : t = true → 0 < y) : dcmpS s t x y = cmpI (sgnI s x - sgnI t y) := by
  unfold dcmpS cmpI
  cases s <;> cases t
  · simp only [sgnI, Bool.false_eq_true, false_and, and_self, if_false, true_and, false_or, and_false]
    split
    · rw [if_pos (by omega)]
    · split
      · rw [if_neg (by omega), if_neg (by omega)]
      · rw [if_neg (by omega), if_pos (by omega)]
  · have := ht rfl
    simp [sgnI]
    rw [if_neg (by omega), if_neg (by omega)]
  · have := hs rfl
    simp [sgnI]
    omega
  · simp only [sgnI, and_self, if_true, true_and, Bool.true_eq_false, false_and, and_false, false_or, Bool.false_eq_true]
    split
    · rw [if_pos (by omega)]
    · split
      · rw [if_neg (by omega), if_neg (by omega)]
      · rw [if_neg (by omega), if_pos (by omega)]
theorem dcmp_is (a b : Int × Int) (ha : 0 < a.2) (hb : 0 < b.2) : dcmpP a b = cmpI (a.1 * b.2 - b.1 * a.2) := by
  unfold dcmpP
  rw [dcmpS_is _ _ _ _ (fun h => Nat.mul_pos (by have := of_decide_eq_true h; omega) (by omega)) (fun h => Nat.mul_pos (by have := of_decide_eq_true h; omega) (by omega)), ← prod_sgn a.1 b.2 (by omega), ← prod_sgn b.1 a.2 (by omega)]

end Go.Proofs.YtmgdhlcgbgpgpaaDoor

/- Sums, opposites and numbers of 128 bits with a sign, as rat reckons with them. -/
namespace Go.Proofs.YtmgdhlcgbgpgpaaDoor
open Go Go.RowKit
set_option linter.unusedVariables false
set_option linter.unusedSimpArgs false

/-- Two numbers with a sign in blocks, and a third that is still 0. -/
structure Wr (w0 : World) (a b : Nat) (sa sb : Bool) (wr : World) : Prop where
  below : Below w0.heap.size w0 wr
  ha : wr.heap[w0.heap.size]? = some (.cells #[.int .u64 (hiN a), .int .u64 (loN a), .bool sa] 54)
  hb : wr.heap[w0.heap.size + 1]? = some (.cells #[.int .u64 (hiN b), .int .u64 (loN b), .bool sb] 54)
  h0 : wr.heap[w0.heap.size + 1 + 1]? = some (.cells #[.int .u64 0, .int .u64 0, .bool false] 54)
theorem Wr.step {w0 wr w' : World} {a b : Nat} {sa sb : Bool} (h : Wr w0 a b sa sb wr) (hb : Below wr.heap.size wr w') : Wr w0 a b sa sb w' :=
  ⟨h.below.trans (hb.mono h.below.size), heap_keep h.ha hb, heap_keep h.hb hb, heap_keep h.h0 hb⟩
theorem Wr.drew {w0 wr : World} {a b : Nat} {sa sb : Bool} (h : Wr w0 a b sa sb wr) : Wr w0 a b sa sb wr.drew := ⟨Below.drew h.below, h.ha, h.hb, h.h0⟩
def WrS (w0 : World) (a b : Nat) (sa sb : Bool) (wr : World) : Prop :=
  wr.cell? ⟨w0.heap.size, 0, none⟩ = some (.int .u64 (hiN a)) ∧ wr.cell? ⟨w0.heap.size, 1, none⟩ = some (.int .u64 (loN a)) ∧ wr.cell? ⟨w0.heap.size, 2, none⟩ = some (.bool sa) ∧
  wr.cell? ⟨w0.heap.size + 1, 0, none⟩ = some (.int .u64 (hiN b)) ∧ wr.cell? ⟨w0.heap.size + 1, 1, none⟩ = some (.int .u64 (loN b)) ∧ wr.cell? ⟨w0.heap.size + 1, 2, none⟩ = some (.bool sb) ∧
  wr.cell? ⟨w0.heap.size + 1 + 1, 0, none⟩ = some (.int .u64 0) ∧ wr.cell? ⟨w0.heap.size + 1 + 1, 1, none⟩ = some (.int .u64 0) ∧ wr.cell? ⟨w0.heap.size + 1 + 1, 2, none⟩ = some (.bool false) ∧
  wr.frozen? ⟨w0.heap.size + 1 + 1, 0, none⟩ = false ∧ wr.frozen? ⟨w0.heap.size + 1 + 1, 1, none⟩ = false ∧ wr.frozen? ⟨w0.heap.size + 1 + 1, 2, none⟩ = false
theorem three_frozen {wr : World} {g : Nat} {a b c : Value} {T : TypeId} (h : wr.heap[g]? = some (.cells #[a, b, c] T)) : wr.frozen? ⟨g, 0, none⟩ = false ∧ wr.frozen? ⟨g, 1, none⟩ = false ∧ wr.frozen? ⟨g, 2, none⟩ = false := by
  refine ⟨?_, ?_, ?_⟩ <;> (unfold World.frozen?; rw [h]; rfl)
theorem Wr.cells {w0 wr : World} {a b : Nat} {sa sb : Bool} (h : Wr w0 a b sa sb wr) : WrS w0 a b sa sb wr := by
  obtain ⟨a1, a2, a3, _⟩ := cell_three h.ha
  obtain ⟨b1, b2, b3, _⟩ := cell_three h.hb
  obtain ⟨c1, c2, c3, _⟩ := cell_three h.h0
  obtain ⟨f1, f2, f3⟩ := three_frozen h.h0
  exact ⟨a1, a2, a3, b1, b2, b3, c1, c2, c3, f1, f2, f3⟩
theorem Wr.six {w0 wr : World} {a b : Nat} {sa sb : Bool} (h : Wr w0 a b sa sb wr) :
  wr.cell? ⟨w0.heap.size, 0, none⟩ = some (.int .u64 (hiN a)) ∧ wr.cell? ⟨w0.heap.size, 1, none⟩ = some (.int .u64 (loN a)) ∧ wr.cell? ⟨w0.heap.size, 2, none⟩ = some (.bool sa) ∧
  wr.cell? ⟨w0.heap.size + 1, 0, none⟩ = some (.int .u64 (hiN b)) ∧ wr.cell? ⟨w0.heap.size + 1, 1, none⟩ = some (.int .u64 (loN b)) ∧ wr.cell? ⟨w0.heap.size + 1, 2, none⟩ = some (.bool sb) := by
  obtain ⟨a1, a2, a3, _⟩ := cell_three h.ha
  obtain ⟨b1, b2, b3, _⟩ := cell_three h.hb
  exact ⟨a1, a2, a3, b1, b2, b3⟩
theorem Wr.three {w0 wr : World} {a b : Nat} {sa sb : Bool} (h : Wr w0 a b sa sb wr) :
  wr.cell? ⟨w0.heap.size + 1 + 1, 0, none⟩ = some (.int .u64 0) ∧ wr.cell? ⟨w0.heap.size + 1 + 1, 1, none⟩ = some (.int .u64 0) ∧ wr.cell? ⟨w0.heap.size + 1 + 1, 2, none⟩ = some (.bool false) ∧
  wr.frozen? ⟨w0.heap.size + 1 + 1, 0, none⟩ = false ∧ wr.frozen? ⟨w0.heap.size + 1 + 1, 1, none⟩ = false ∧ wr.frozen? ⟨w0.heap.size + 1 + 1, 2, none⟩ = false := by
  obtain ⟨c1, c2, c3, _⟩ := cell_three h.h0
  obtain ⟨f1, f2, f3⟩ := three_frozen h.h0
  exact ⟨c1, c2, c3, f1, f2, f3⟩
theorem three_set {wr : World} {g : Nat} {a b c : Value} {T : TypeId} (h : wr.heap[g]? = some (.cells #[a, b, c] T)) (x y z : Value) :
    (((wr.setCell ⟨g, 0, none⟩ x).setCell ⟨g, 1, none⟩ y).setCell ⟨g, 2, none⟩ z).heap[g]? = some (.cells #[x, y, z] T) := by
  simp only [World.setCell, Array.getElem?_modify, if_true, h, Option.map_some]; rfl
theorem Wr.told {w0 wr : World} {a b : Nat} {sa sb : Bool} (h : Wr w0 a b sa sb wr) (x y z : Value) :
    (((wr.setCell ⟨w0.heap.size + 1 + 1, 0, none⟩ x).setCell ⟨w0.heap.size + 1 + 1, 1, none⟩ y).setCell ⟨w0.heap.size + 1 + 1, 2, none⟩ z).heap[w0.heap.size + 1 + 1]? = some (.cells #[x, y, z] 54) ∧
    Below w0.heap.size w0 (((wr.setCell ⟨w0.heap.size + 1 + 1, 0, none⟩ x).setCell ⟨w0.heap.size + 1 + 1, 1, none⟩ y).setCell ⟨w0.heap.size + 1 + 1, 2, none⟩ z) := by
  have hl : w0.heap.size ≤ w0.heap.size + 1 + 1 := by omega
  exact ⟨three_set h.h0 x y z, ((h.below.setCell (p := ⟨w0.heap.size + 1 + 1, 0, none⟩) hl _).setCell (p := ⟨w0.heap.size + 1 + 1, 1, none⟩) hl _).setCell (p := ⟨w0.heap.size + 1 + 1, 2, none⟩) hl _⟩
theorem Wr.sixT {w0 wr : World} {a b : Nat} {sa sb : Bool} (h : Wr w0 a b sa sb wr) (x y z : Value) :
  (((wr.setCell ⟨w0.heap.size + 1 + 1, 0, none⟩ x).setCell ⟨w0.heap.size + 1 + 1, 1, none⟩ y).setCell ⟨w0.heap.size + 1 + 1, 2, none⟩ z).cell? ⟨w0.heap.size, 0, none⟩ = some (.int .u64 (hiN a)) ∧ (((wr.setCell ⟨w0.heap.size + 1 + 1, 0, none⟩ x).setCell ⟨w0.heap.size + 1 + 1, 1, none⟩ y).setCell ⟨w0.heap.size + 1 + 1, 2, none⟩ z).cell? ⟨w0.heap.size, 1, none⟩ = some (.int .u64 (loN a)) ∧ (((wr.setCell ⟨w0.heap.size + 1 + 1, 0, none⟩ x).setCell ⟨w0.heap.size + 1 + 1, 1, none⟩ y).setCell ⟨w0.heap.size + 1 + 1, 2, none⟩ z).cell? ⟨w0.heap.size, 2, none⟩ = some (.bool sa) ∧
  (((wr.setCell ⟨w0.heap.size + 1 + 1, 0, none⟩ x).setCell ⟨w0.heap.size + 1 + 1, 1, none⟩ y).setCell ⟨w0.heap.size + 1 + 1, 2, none⟩ z).cell? ⟨w0.heap.size + 1, 0, none⟩ = some (.int .u64 (hiN b)) ∧ (((wr.setCell ⟨w0.heap.size + 1 + 1, 0, none⟩ x).setCell ⟨w0.heap.size + 1 + 1, 1, none⟩ y).setCell ⟨w0.heap.size + 1 + 1, 2, none⟩ z).cell? ⟨w0.heap.size + 1, 1, none⟩ = some (.int .u64 (loN b)) ∧ (((wr.setCell ⟨w0.heap.size + 1 + 1, 0, none⟩ x).setCell ⟨w0.heap.size + 1 + 1, 1, none⟩ y).setCell ⟨w0.heap.size + 1 + 1, 2, none⟩ z).cell? ⟨w0.heap.size + 1, 2, none⟩ = some (.bool sb) := by
  have e1 := heap_other (c := 2) (g := w0.heap.size + 1 + 1) z (heap_other (c := 1) (g := w0.heap.size + 1 + 1) y (heap_other (c := 0) (g := w0.heap.size + 1 + 1) x h.ha (by omega)) (by omega)) (by omega)
  have e2 := heap_other (c := 2) (g := w0.heap.size + 1 + 1) z (heap_other (c := 1) (g := w0.heap.size + 1 + 1) y (heap_other (c := 0) (g := w0.heap.size + 1 + 1) x h.hb (by omega)) (by omega)) (by omega)
  obtain ⟨a1, a2, a3, _⟩ := cell_three e1
  obtain ⟨b1, b2, b3, _⟩ := cell_three e2
  exact ⟨a1, a2, a3, b1, b2, b3⟩
theorem Wr.made (w : World) (a b : Nat) (sa sb : Bool) : Wr w a b sa sb
    (((w.alloc (.cells #[.int .u64 (hiN a), .int .u64 (loN a), .bool sa] 54)).alloc (.cells #[.int .u64 (hiN b), .int .u64 (loN b), .bool sb] 54)).alloc (.cells #[.int .u64 0, .int .u64 0, .bool false] 54)) := by
  obtain ⟨h1, h2⟩ := two_fr w (.cells #[.int .u64 (hiN a), .int .u64 (loN a), .bool sa] 54) (.cells #[.int .u64 (hiN b), .int .u64 (loN b), .bool sb] 54)
  have hz : ∀ (w : World) (o : Obj), (w.alloc o).heap.size = w.heap.size + 1 := fun w o => by simp
  refine ⟨below_three _ _ _ _, (heap_alloc_old _ _ (heap_lt2 h1)).trans h1, (heap_alloc_old _ _ (heap_lt2 h2)).trans h2, ?_⟩
  have h := heap_alloc_new ((w.alloc (.cells #[.int .u64 (hiN a), .int .u64 (loN a), .bool sa] 54)).alloc (.cells #[.int .u64 (hiN b), .int .u64 (loN b), .bool sb] 54)) (.cells #[.int .u64 0, .int .u64 0, .bool false] 54)
  simp only [hz] at h
  exact h

def sgV (n : Nat) (s : Bool) : Value := .agg #[.int .u64 (hiN n), .int .u64 (loN n), .bool s]
theorem wd_sg (x : Int) : wdV x = sgV x.natAbs (decide (x < 0)) := rfl
/-- What sum tells of signs and sizes. -/
def sumW (a b : Nat) (sa sb : Bool) : Value := if sa = sb then sgV (a + b) sa else if a < b then sgV (b - a) sb else if a = b then sgV 0 false else sgV (a - b) sa

set_option maxRecDepth 100000 in
set_option maxHeartbeats 4000000 in
theorem sum_sg (a b : Nat) (sa sb : Bool) (w : World) (ha : a ≤ 85070591730234615865843651857942052864) (hb : b ≤ 85070591730234615865843651857942052864) :
    Calls Tryd.prog 58 #[sgV a sa, sgV b sb] w fun e w' => e = .returned (sumW a b sa sb) ∧ Below w.heap.size w w' := by
  have HP : Hid (∀ W, Calls Tryd.prog 82 #[.agg #[.int .u64 (hiN a), .int .u64 (loN a)], .agg #[.int .u64 (hiN b), .int .u64 (loN b)]] W fun e w' => e = .returned (.agg #[.int .u64 (hiN (a + b)), .int .u64 (loN (a + b))]) ∧ Below W.heap.size W w') := Lib.hid (fun W => splus_any a b (by omega) W)
  have HC := Lib.hid (fun W => scmp_any a b W)
  have HL1 : Hid (∀ W, b ≤ a → Calls Tryd.prog 84 #[.agg #[.int .u64 (hiN a), .int .u64 (loN a)], .agg #[.int .u64 (hiN b), .int .u64 (loN b)]] W fun e w' => e = .returned (.agg #[.int .u64 (hiN (a - b)), .int .u64 (loN (a - b))]) ∧ Below W.heap.size W w') := Lib.hid (fun W h => sless_any a b h (by omega) W)
  have HL2 : Hid (∀ W, a ≤ b → Calls Tryd.prog 84 #[.agg #[.int .u64 (hiN b), .int .u64 (loN b)], .agg #[.int .u64 (hiN a), .int .u64 (loN a)]] W fun e w' => e = .returned (.agg #[.int .u64 (hiN (b - a)), .int .u64 (loN (b - a))]) ∧ Below W.heap.size W w') := Lib.hid (fun W h => sless_any b a h (by omega) W)
  clear ha hb
  have HW0 := Lib.hid (Wr.made w a b sa sb)
  unfold sgV
  go_enter Tryd.func58, Tryd.ntmps58
  go_upto_region 1 with fail
  generalize (((w.alloc (.cells #[.int .u64 (hiN a), .int .u64 (loN a), .bool sa] 54)).alloc (.cells #[.int .u64 (hiN b), .int .u64 (loN b), .bool sb] 54)).alloc (.cells #[.int .u64 0, .int .u64 0, .bool false] 54)) = w1 at *
  have kc := HW0.out.cells
  unfold WrS at kc
  obtain ⟨k1, k2, k3, k4, k5, k6, k7, k8, k9, k10, k11, k12⟩ := kc
  by_cases hs : sa = sb
  · have HS := Lib.hid (show sumW a b sa sb = sgV (a + b) sa by unfold sumW; rw [if_pos hs])
    have hs2 : (sa == sb) = true := by simp [hs]
    clear hs
    go_upto_region 2 with fail
    have kb := HW0.out.drew
    clear k1 k2 k3 k4 k5 k6 k7 k8 k9 k10 k11 k12
    go_region_held3 (fun wr => wr.cell? ⟨w.heap.size, 0, none⟩ = some (.int .u64 (hiN a)) ∧ wr.cell? ⟨w.heap.size, 1, none⟩ = some (.int .u64 (loN a)) ∧ wr.cell? ⟨w.heap.size, 2, none⟩ = some (.bool sa) ∧
      wr.cell? ⟨w.heap.size + 1, 0, none⟩ = some (.int .u64 (hiN b)) ∧ wr.cell? ⟨w.heap.size + 1, 1, none⟩ = some (.int .u64 (loN b)) ∧ wr.cell? ⟨w.heap.size + 1, 2, none⟩ = some (.bool sb))
      (first | exact kb.six | exact kb.sixT _ _ _ | go_keep)
      (first | (go_at_call 82; refine (HP.out _).mono ?_; rintro e w3 ⟨rfl, hb⟩; have kb := kb.step hb; clear hb; have kc := kb.three; obtain ⟨k7, k8, k9, k10, k11, k12⟩ := kc))
    obtain ⟨t1, t2⟩ := kb.told (.int .u64 (hiN (a + b))) (.int .u64 (loN (a + b))) (.bool sa)
    have T1 := Lib.hid t1
    have T2 := Lib.hid t2
    generalize ((w3.setCell ⟨w.heap.size + 1 + 1, 0, none⟩ (.int .u64 (hiN (a + b)))).setCell ⟨w.heap.size + 1 + 1, 1, none⟩ (.int .u64 (loN (a + b)))).setCell ⟨w.heap.size + 1 + 1, 2, none⟩ (.bool sa) = w4 at *
    clear t1 t2 k7 k8 k9 k10 k11 k12
    go_wp2
    refine bodyPost_ret (results_cell_row (fn := Tryd.f58) rfl _ _ (w.heap.size + 1 + 1) _ _ _ _ rfl T1.out Tryd.underlying54 rfl (by kernel_rfl)) rfl ?_
    exact ⟨by rw [HS.out]; rfl, T2.out⟩
  · have hs2 : (sa == sb) = false := by simp [hs]
    by_cases h1 : a < b
    · have HS := Lib.hid (show sumW a b sa sb = sgV (b - a) sb by unfold sumW; rw [if_neg hs, if_pos h1])
      have HCM := Lib.hid (show cmpN a b = -1 by unfold cmpN; rw [if_pos h1])
      have hle : a ≤ b := by omega
      clear hs h1
      go_wp2_with fail
      refine (HC.out _).mono ?_
      rintro e w2 ⟨rfl, hb⟩
      rw [HCM.out]
      have HW2 := Lib.hid (HW0.out.step hb)
      clear hb HW0 k1 k2 k3 k4 k5 k6 k7 k8 k9 k10 k11 k12
      go_upto_region 8 with fail
      have kb := HW2.out.drew
      go_region_held3 (fun wr => wr.cell? ⟨w.heap.size, 0, none⟩ = some (.int .u64 (hiN a)) ∧ wr.cell? ⟨w.heap.size, 1, none⟩ = some (.int .u64 (loN a)) ∧ wr.cell? ⟨w.heap.size, 2, none⟩ = some (.bool sa) ∧
        wr.cell? ⟨w.heap.size + 1, 0, none⟩ = some (.int .u64 (hiN b)) ∧ wr.cell? ⟨w.heap.size + 1, 1, none⟩ = some (.int .u64 (loN b)) ∧ wr.cell? ⟨w.heap.size + 1, 2, none⟩ = some (.bool sb))
        (first | exact kb.six | exact kb.sixT _ _ _ | go_keep)
        (first | (go_at_call 84; refine (HL2.out _ hle).mono ?_; rintro e w3 ⟨rfl, hb⟩; have kb := kb.step hb; clear hb; have kc := kb.three; obtain ⟨k7, k8, k9, k10, k11, k12⟩ := kc))
      obtain ⟨t1, t2⟩ := kb.told (.int .u64 (hiN (b - a))) (.int .u64 (loN (b - a))) (.bool sb)
      have T1 := Lib.hid t1
      have T2 := Lib.hid t2
      generalize ((w3.setCell ⟨w.heap.size + 1 + 1, 0, none⟩ (.int .u64 (hiN (b - a)))).setCell ⟨w.heap.size + 1 + 1, 1, none⟩ (.int .u64 (loN (b - a)))).setCell ⟨w.heap.size + 1 + 1, 2, none⟩ (.bool sb) = w4 at *
      clear t1 t2 k7 k8 k9 k10 k11 k12
      go_wp2
      refine bodyPost_ret (results_cell_row (fn := Tryd.f58) rfl _ _ (w.heap.size + 1 + 1) _ _ _ _ rfl T1.out Tryd.underlying54 rfl (by kernel_rfl)) rfl ?_
      exact ⟨by rw [HS.out]; rfl, T2.out⟩
    · by_cases h2 : a = b
      · have HS := Lib.hid (show sumW a b sa sb = sgV 0 false by unfold sumW; rw [if_neg hs, if_neg h1, if_pos h2])
        have HCM := Lib.hid (show cmpN a b = 0 by unfold cmpN; rw [if_neg h1, if_pos h2])
        clear hs h1 h2
        go_wp2_with fail
        refine (HC.out _).mono ?_
        rintro e w2 ⟨rfl, hb⟩
        rw [HCM.out]
        have HW2 := Lib.hid (HW0.out.step hb)
        clear hb HW0 k1 k2 k3 k4 k5 k6 k7 k8 k9 k10 k11 k12
        obtain ⟨k7, k8, k9, k10, k11, k12⟩ := HW2.out.three
        go_wp2
        obtain ⟨t1, t2⟩ := HW2.out.told (.int .u64 0) (.int .u64 0) (.bool false)
        refine bodyPost_ret (results_cell_row (fn := Tryd.f58) rfl _ _ (w.heap.size + 1 + 1) _ _ _ _ rfl t1 Tryd.underlying54 rfl (by kernel_rfl)) rfl ?_
        exact ⟨by rw [HS.out]; rfl, t2⟩
      · have HS := Lib.hid (show sumW a b sa sb = sgV (a - b) sa by unfold sumW; rw [if_neg hs, if_neg h1, if_neg h2])
        have HCM := Lib.hid (show cmpN a b = 1 by unfold cmpN; rw [if_neg h1, if_neg h2])
        have hle : b ≤ a := by omega
        clear hs h1 h2
        go_wp2_with fail
        refine (HC.out _).mono ?_
        rintro e w2 ⟨rfl, hb⟩
        rw [HCM.out]
        have HW2 := Lib.hid (HW0.out.step hb)
        clear hb HW0 k1 k2 k3 k4 k5 k6 k7 k8 k9 k10 k11 k12
        go_upto_region 7 with fail
        have kb := HW2.out.drew
        go_region_held3 (fun wr => wr.cell? ⟨w.heap.size, 0, none⟩ = some (.int .u64 (hiN a)) ∧ wr.cell? ⟨w.heap.size, 1, none⟩ = some (.int .u64 (loN a)) ∧ wr.cell? ⟨w.heap.size, 2, none⟩ = some (.bool sa) ∧
          wr.cell? ⟨w.heap.size + 1, 0, none⟩ = some (.int .u64 (hiN b)) ∧ wr.cell? ⟨w.heap.size + 1, 1, none⟩ = some (.int .u64 (loN b)) ∧ wr.cell? ⟨w.heap.size + 1, 2, none⟩ = some (.bool sb))
          (first | exact kb.six | exact kb.sixT _ _ _ | go_keep)
          (first | (go_at_call 84; refine (HL1.out _ hle).mono ?_; rintro e w3 ⟨rfl, hb⟩; have kb := kb.step hb; clear hb; have kc := kb.three; obtain ⟨k7, k8, k9, k10, k11, k12⟩ := kc))
        obtain ⟨t1, t2⟩ := kb.told (.int .u64 (hiN (a - b))) (.int .u64 (loN (a - b))) (.bool sa)
        have T1 := Lib.hid t1
        have T2 := Lib.hid t2
        generalize ((w3.setCell ⟨w.heap.size + 1 + 1, 0, none⟩ (.int .u64 (hiN (a - b)))).setCell ⟨w.heap.size + 1 + 1, 1, none⟩ (.int .u64 (loN (a - b)))).setCell ⟨w.heap.size + 1 + 1, 2, none⟩ (.bool sa) = w4 at *
        clear t1 t2 k7 k8 k9 k10 k11 k12
        go_wp2
        refine bodyPost_ret (results_cell_row (fn := Tryd.f58) rfl _ _ (w.heap.size + 1 + 1) _ _ _ _ rfl T1.out Tryd.underlying54 rfl (by kernel_rfl)) rfl ?_
        exact ⟨by rw [HS.out]; rfl, T2.out⟩

end Go.Proofs.YtmgdhlcgbgpgpaaDoor
