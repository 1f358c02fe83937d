/- Texts of ours, laid together: Hm, Vj, Bag, Bx, Vk, Vl, Vm, Vn. -/
import Derived.Test.YtmelblnflalanaaGreatProg
import Derived.Shelf.Bits.Mul64
import Derived.Lib.Hide
import Derived.Deep.LoopGhost
import Derived.KernelRfl
import Derived.Deep.RegionHeld3
import Derived.Deep.Draws
import Derived.Sort.AtCall
import Derived.Test.YtmelblnflalanaaGreatMg2
/- math/bits.Mul64, walked over this program: the product of two words. -/
namespace Go.Proofs.YtmelblnflalanaaGreat
open Go Go.RowKit
set_option linter.unusedVariables false
set_option linter.unusedSimpArgs false

set_option maxRecDepth 100000 in
set_option maxHeartbeats 1000000 in
theorem mul64_any (x y : Nat) (hx : x < 18446744073709551616) (hy : y < 18446744073709551616) (w : World) :
    Calls Tryz.prog 90 #[.int .u64 x, .int .u64 y] w fun e w' => e = .returned (.tuple #[.int .u64 ((x * y / 18446744073709551616 : Nat) : Int), .int .u64 ((x * y % 18446744073709551616 : Nat) : Int)]) ∧ w = w' := by
  obtain ⟨bd, bt, bw, hhi⟩ := Lib.mul64_hi x y hx hy
  have ba := Lib.half_mul_le (a := x / 4294967296) (b := y / 4294967296) (by omega) (by omega)
  have bb := Lib.half_mul_le (a := x / 4294967296) (b := y % 4294967296) (by omega) (by omega)
  have bc := Lib.half_mul_le (a := x % 4294967296) (b := y / 4294967296) (by omega) (by omega)
  have ba' : x / 4294967296 * (y / 4294967296) < 18446744073709551616 := by omega
  have bb' : x / 4294967296 * (y % 4294967296) < 18446744073709551616 := by omega
  have bc' : x % 4294967296 * (y / 4294967296) < 18446744073709551616 := by omega
  have bh1 : x / 4294967296 * (y / 4294967296) + (x / 4294967296 * (y % 4294967296) + x % 4294967296 * (y % 4294967296) / 4294967296) / 4294967296 < 18446744073709551616 := by omega
  have bh : x / 4294967296 * (y / 4294967296) + (x / 4294967296 * (y % 4294967296) + x % 4294967296 * (y % 4294967296) / 4294967296) / 4294967296 + ((x / 4294967296 * (y % 4294967296) + x % 4294967296 * (y % 4294967296) / 4294967296) % 4294967296 + x % 4294967296 * (y / 4294967296)) / 4294967296 < 18446744073709551616 := by omega
  go_enter Tryz.func90, Tryz.ntmps90
  go_wp2
  simp only [Mul64.maskN x hx, Mul64.maskN y hy, Mul64.divN, Mul64.mulN, Mul64.addN, Mul64.wrapN _ bd, Mul64.wrapN _ bb', Mul64.wrapN _ bt, Mul64.maskN _ bt, Mul64.wrapN _ bc', Mul64.wrapN _ bw, Mul64.wrapN _ ba', Mul64.wrapN _ bh1, Mul64.wrapN _ bh, Mul64.wrapM (x * y)]
  rw [hhi]
  go_ret2
  exact ⟨rfl, rfl⟩

/-- The product of two words that is a word. -/
theorem mul64_low (x y : Nat) (hx : x < 18446744073709551616) (hy : y < 18446744073709551616) (h : x * y < 18446744073709551616) (w : World) :
    Calls Tryz.prog 90 #[.int .u64 x, .int .u64 y] w fun e w' => e = .returned (.tuple #[.int .u64 0, .int .u64 ((x * y : Nat) : Int)]) ∧ w = w' :=
  (mul64_any x y hx hy w).mono fun e w' ⟨h1, h2⟩ => ⟨by rw [h1, Nat.div_eq_of_lt h, Nat.mod_eq_of_lt h]; rfl, h2⟩

end Go.Proofs.YtmelblnflalanaaGreat

/- Whole numbers of 128 bits with a sign, as rat reckons with them. -/
namespace Go.Proofs.YtmelblnflalanaaGreat
open Go Go.RowKit
set_option linter.unusedVariables false
set_option linter.unusedSimpArgs false

def wdV (x : Int) : Value := .agg #[.int .u64 (hiN x.natAbs), .int .u64 (loN x.natAbs), .bool (decide (x < 0))]
def I64 (x : Int) : Prop := -9223372036854775808 ≤ x ∧ x ≤ 9223372036854775807
theorem abs64 {x : Int} (h : I64 x) : x.natAbs ≤ 9223372036854775808 := by obtain ⟨_, _⟩ := h; omega
theorem ofq_is {n : Int} (h : I64 n) : wdV n = .agg #[.int .u64 0, .int .u64 (n.natAbs : Int), .bool (decide (n < 0))] := by
  have h1 := abs64 h
  unfold wdV
  rw [small_hi (by omega), small_lo (by omega)]

set_option maxRecDepth 100000 in
set_option maxHeartbeats 1000000 in
theorem of_any2 (n : Int) (h : I64 n) (w : World) : Calls Tryz.prog 85 #[.int .i64 n] w fun e w' => e = .returned (.agg #[.int .u64 0, .int .u64 (n.natAbs : Int), .bool (decide (n < 0))]) ∧ Below w.heap.size w w' := by
  obtain ⟨h1, h2⟩ := h
  by_cases hn : n < 0
  · have e1 : decide (n < 0) = true := decide_eq_true hn
    have e2 : IntKind.u64.wrap (-IntKind.u64.wrap n) = (n.natAbs : Int) := by rw [IntKind.wrap_u64, IntKind.wrap_u64]; omega
    rw [e1]
    go_enter Tryz.func85, Tryz.ntmps85
    go_wp2
    simp [bodyPost, results, Tryz.results85, go_sem]
    first | exact below_one w _ | exact ⟨by simp [e2], below_one w _⟩ | exact ⟨by omega, below_one w _⟩
  · have e1 : decide (n < 0) = false := decide_eq_false hn
    have e2 : IntKind.u64.wrap n = (n.natAbs : Int) := by rw [IntKind.wrap_u64]; omega
    rw [e1]
    go_enter Tryz.func85, Tryz.ntmps85
    go_wp2
    simp [bodyPost, results, Tryz.results85, go_sem]
    first | exact below_one w _ | exact ⟨by simp [e2], below_one w _⟩ | exact ⟨by omega, below_one w _⟩

/-! ### two fresh blocks -/
theorem two_fr (w : World) (o p : Obj) : ((w.alloc o).alloc p).heap[w.heap.size]? = some o ∧ ((w.alloc o).alloc p).heap[w.heap.size + 1]? = some p := by
  constructor
  · rw [heap_alloc_old _ _ (by simp)]; exact heap_alloc_new _ _
  · have h := heap_alloc_new (w.alloc o) p
    rw [show (w.alloc o).heap.size = w.heap.size + 1 by simp] at h
    exact h
theorem second_fr {w wr : World} {o : Obj} (c : Array Value) (h : wr.heap[w.heap.size + 1]? = some o) : (wr.setRow w.heap.size c).heap[w.heap.size + 1]? = some o := row_other _ h (by omega)
theorem pair_st (w : World) (T T' : TypeId) (a b c d : Array Value) :
    Below w.heap.size w ((((w.alloc (.cells a T)).alloc (.cells b T')).setRow w.heap.size c).setRow (w.heap.size + 1) d) ∧
    ((((w.alloc (.cells a T)).alloc (.cells b T')).setRow w.heap.size c).setRow (w.heap.size + 1) d).heap[w.heap.size]? = some (.cells c T) ∧
    ((((w.alloc (.cells a T)).alloc (.cells b T')).setRow w.heap.size c).setRow (w.heap.size + 1) d).heap[w.heap.size + 1]? = some (.cells d T') := by
  obtain ⟨h1, h2⟩ := two_fr w (.cells a T) (.cells b T')
  exact ⟨below_row (below_row (below_two w _ _) (Nat.le_refl _) _) (Nat.le_succ _) _, row_other _ (setRow_heap _ _ _ _ _ _ h1) (by omega), setRow_heap _ _ _ _ _ _ (second_fr _ h2)⟩
theorem heap_keep {w w' : World} {g : Nat} {o : Obj} (h : w.heap[g]? = some o) (hb : Below w.heap.size w w') : w'.heap[g]? = some o := (hb.block _ (heap_lt2 h)).trans h
theorem cell_three {wr : World} {g : Nat} {a b c : Value} {T : TypeId} (h : wr.heap[g]? = some (.cells #[a, b, c] T)) :
    wr.cell? ⟨g, 0, none⟩ = some a ∧ wr.cell? ⟨g, 1, none⟩ = some b ∧ wr.cell? ⟨g, 2, none⟩ = some c ∧ wr.frozen? ⟨g, 2, none⟩ = false := by
  refine ⟨?_, ?_, ?_, ?_⟩
  · unfold World.cell?; rw [h]; rfl
  · unfold World.cell?; rw [h]; rfl
  · unfold World.cell?; rw [h]; rfl
  · unfold World.frozen?; rw [h]; rfl
theorem third_set {wr : World} {g : Nat} {a b c : Value} {T : TypeId} (h : wr.heap[g]? = some (.cells #[a, b, c] T)) (v : Value) : (wr.setCell ⟨g, 2, none⟩ v).heap[g]? = some (.cells #[a, b, v] T) := by
  simp only [World.setCell, Array.getElem?_modify, if_true, h, Option.map_some]; rfl

theorem times_sgn (a b : Int) : wdV (a * b) = .agg #[.int .u64 (hiN (a.natAbs * b.natAbs)), .int .u64 (loN (a.natAbs * b.natAbs)), .bool ((decide (a < 0) != decide (b < 0)) && !decide (a.natAbs * b.natAbs = 0))] := by
  unfold wdV
  rw [Int.natAbs_mul]
  congr 4
  by_cases hz : a.natAbs * b.natAbs = 0
  · have h0 : a * b = 0 := by
      have := Int.natAbs_mul a b
      omega
    rw [h0, decide_eq_true hz]
    simp
  · rw [decide_eq_false hz, Bool.not_false, Bool.and_true]
    have ha : a ≠ 0 := fun e => hz (by rw [e]; simp)
    have hb : b ≠ 0 := fun e => hz (by rw [e]; simp)
    rcases Int.lt_trichotomy a 0 with h | h | h
    · rcases Int.lt_trichotomy b 0 with h' | h' | h'
      · have := Int.mul_pos_of_neg_of_neg h h'
        rw [decide_eq_true h, decide_eq_true h', decide_eq_false (by omega)]; rfl
      · exact absurd h' hb
      · have := Int.mul_neg_of_neg_of_pos h h'
        rw [decide_eq_true h, decide_eq_false (show ¬ b < 0 by omega), decide_eq_true this]; rfl
    · exact absurd h ha
    · rcases Int.lt_trichotomy b 0 with h' | h' | h'
      · have := Int.mul_neg_of_pos_of_neg h h'
        rw [decide_eq_false (show ¬ a < 0 by omega), decide_eq_true h', decide_eq_true this]; rfl
      · exact absurd h' hb
      · have := Int.mul_pos h h'
        rw [decide_eq_false (show ¬ a < 0 by omega), decide_eq_false (show ¬ b < 0 by omega), decide_eq_false (by omega)]; rfl

set_option maxRecDepth 100000 in
set_option maxHeartbeats 2000000 in
theorem times_any (a b : Int) (ha : I64 a) (hb : I64 b) (w : World) : Calls Tryz.prog 57 #[.int .i64 a, .int .i64 b] w fun e w' => e = .returned (wdV (a * b)) ∧ Below w.heap.size w w' := by
  rw [times_sgn]
  have h1 := abs64 ha
  have h2 := abs64 hb
  have HM := Lib.hid (fun W => mul64_any a.natAbs b.natAbs (by omega) (by omega) W)
  have HA := Lib.hid (fun W => of_any2 a ha W)
  have HB := Lib.hid (fun W => of_any2 b hb W)
  obtain ⟨x, hx⟩ : ∃ x, x = a.natAbs := ⟨_, rfl⟩
  obtain ⟨y, hy⟩ : ∃ y, y = b.natAbs := ⟨_, rfl⟩
  obtain ⟨sa, hsa⟩ : ∃ sa, sa = decide (a < 0) := ⟨_, rfl⟩
  obtain ⟨sb, hsb⟩ : ∃ sb, sb = decide (b < 0) := ⟨_, rfl⟩
  rw [← hx, ← hy] at HM
  rw [← hx, ← hsa] at HA
  rw [← hy, ← hsb] at HB
  rw [← hx, ← hy, ← hsa, ← hsb]
  clear hx hy hsa hsb ha hb h1 h2
  obtain ⟨P, hP⟩ : ∃ P, P = x * y := ⟨_, rfl⟩
  rw [← hP] at HM ⊢
  clear hP
  have HM2 : Hid (∀ W, Calls Tryz.prog 90 #[.int .u64 x, .int .u64 y] W fun e w' => e = .returned (.tuple #[.int .u64 (hiN P), .int .u64 (loN P)]) ∧ W = w') := HM
  clear HM
  have HSZ := Lib.hid (fun W => szero_any P W)
  obtain ⟨z, hz⟩ : ∃ z, decide (P = 0) = z := ⟨_, rfl⟩
  obtain ⟨sx, hsx⟩ : ∃ sx, (!(sa == sb)) = sx := ⟨_, rfl⟩
  rw [hz] at HSZ
  rw [hz, show (sa != sb) = sx from hsx]
  clear hz
  go_enter Tryz.func57, Tryz.ntmps57
  go_wp2_with fail
  have HZ := Lib.hid (heap_alloc_new w (.cells #[.int .u64 0, .int .u64 0, .bool false] 92))
  have HW := Lib.hid (below_one w (.cells #[.int .u64 0, .int .u64 0, .bool false] 92))
  generalize w.alloc (.cells #[.int .u64 0, .int .u64 0, .bool false] 92) = w1 at *
  refine (HA.out _).mono ?_
  rintro e w2 ⟨rfl, hb⟩
  have HZ2 := Lib.hid (heap_keep HZ.out hb)
  have HW2 := Lib.hid (HW.out.trans (hb.mono HW.out.size))
  clear hb HZ HW HA
  go_wp2_with fail
  refine (HB.out _).mono ?_
  rintro e w3 ⟨rfl, hb⟩
  have HZ3 := Lib.hid (heap_keep HZ2.out hb)
  have HW3 := Lib.hid (HW2.out.trans (hb.mono HW2.out.size))
  clear hb HZ2 HW2 HB
  have HF := Lib.hid (two_fr w3 (.cells #[.int .u64 0, .int .u64 0, .bool false] 92) (.cells #[.int .u64 0, .int .u64 0, .bool false] 92))
  go_upto_region 2 with (first | (refine wpList_store_row rfl 92 _ _ rfl w3.heap.size _ rfl rfl 92 _ HF.out.1 (by kernel_rfl) rfl (by kernel_rfl) ?_) | (refine wpList_store_row rfl 92 _ _ rfl (w3.heap.size + 1) _ rfl rfl 92 _ (second_fr _ HF.out.2) (by kernel_rfl) rfl (by kernel_rfl) ?_))
  obtain ⟨pb, p1, p2⟩ := pair_st w3 92 92 #[.int .u64 0, .int .u64 0, .bool false] #[.int .u64 0, .int .u64 0, .bool false] #[.int .u64 0, .int .u64 x, .bool sa] #[.int .u64 0, .int .u64 y, .bool sb]
  have HZ4 := Lib.hid (heap_keep HZ3.out pb)
  have HW4 := Lib.hid (HW3.out.trans (pb.mono HW3.out.size))
  generalize (((w3.alloc (.cells #[.int .u64 0, .int .u64 0, .bool false] 92)).alloc (.cells #[.int .u64 0, .int .u64 0, .bool false] 92)).setRow w3.heap.size #[.int .u64 0, .int .u64 (x : Int), .bool sa]).setRow (w3.heap.size + 1) #[.int .u64 0, .int .u64 (y : Int), .bool sb] = w4 at *
  obtain ⟨c1, c2, c3, _⟩ := cell_three p1
  obtain ⟨d1, d2, d3, _⟩ := cell_three p2
  clear pb p1 p2 HF HZ3 HW3
  go_wp2_with fail
  refine (HM2.out _).mono ?_
  rintro e w5 ⟨rfl, rfl⟩
  go_upto_region 4 with fail
  have HB5 := Lib.hid (HW4.out.alloc HW4.out.size (.cells #[.int .u64 (hiN P), .int .u64 (loN P), .bool sx] 92))
  have H5 := Lib.hid (heap_keep HZ4.out (below_one w4 (.cells #[.int .u64 (hiN P), .int .u64 (loN P), .bool sx] 92)))
  have H9 := Lib.hid (heap_alloc_new w4 (.cells #[.int .u64 (hiN P), .int .u64 (loN P), .bool sx] 92))
  have hlt : w.heap.size < w4.heap.size := heap_lt2 HZ4.out
  generalize w4.alloc (.cells #[.int .u64 (hiN P), .int .u64 (loN P), .bool sx] 92) = w5 at *
  obtain ⟨g9, hg9⟩ : ∃ g, g = w4.heap.size := ⟨_, rfl⟩
  rw [← hg9] at H9 hlt ⊢
  have hle : w.heap.size ≤ g9 := by omega
  clear hg9 HZ4 HW4 c1 c2 c3 d1 d2 d3 hsx
  cases sx with
  | false =>
    obtain ⟨k1, k2, k3, k4⟩ := cell_three H9.out
    go_upto_region 5 with fail
    have H10 := Lib.hid (third_set H9.out (.bool false))
    have H11 := Lib.hid (heap_other (c := 2) (g := g9) (.bool false) H5.out (by omega))
    have HB6 := Lib.hid (HB5.out.setCell (p := ⟨g9, 2, none⟩) hle (.bool false))
    generalize w5.setCell ⟨g9, 2, none⟩ (.bool false) = w6 at *
    clear k1 k2 k3 k4
    go_wp2_with (first | (refine wpList_load_row rfl 92 _ rfl g9 rfl 92 _ (0, 0) _ H10.out Tryz.underlying92 rfl (by kernel_rfl) ?_) | (refine wpList_store_row rfl 92 _ _ rfl w.heap.size _ rfl rfl 92 _ H11.out (by kernel_rfl) rfl (by kernel_rfl) ?_))
    refine bodyPost_ret (results_cell_row (fn := Tryz.f57) rfl _ _ w.heap.size _ _ _ _ rfl (setRow_heap _ _ _ _ _ _ H11.out) Tryz.underlying92 rfl (by kernel_rfl)) rfl ?_
    exact ⟨rfl, below_row HB6.out (Nat.le_refl _) _⟩
  | true =>
    obtain ⟨k1, k2, k3, k4⟩ := cell_three H9.out
    go_wp2_with fail
    refine (HSZ.out _).mono ?_
    rintro e w7 ⟨rfl, hb⟩
    have J9 := Lib.hid (heap_keep H9.out hb)
    have J5 := Lib.hid (heap_keep H5.out hb)
    have JB := Lib.hid (HB5.out.trans (hb.mono HB5.out.size))
    clear k1 k2 k3 k4 hb H9 H5 HB5
    obtain ⟨k1, k2, k3, k4⟩ := cell_three J9.out
    go_upto_region 5 with fail
    have H10 := Lib.hid (third_set J9.out (.bool (!z)))
    have H11 := Lib.hid (heap_other (c := 2) (g := g9) (.bool (!z)) J5.out (by omega))
    have HB6 := Lib.hid (JB.out.setCell (p := ⟨g9, 2, none⟩) hle (.bool (!z)))
    generalize w7.setCell ⟨g9, 2, none⟩ (.bool (!z)) = w6 at *
    clear k1 k2 k3 k4
    go_wp2_with (first | (refine wpList_load_row rfl 92 _ rfl g9 rfl 92 _ (0, 0) _ H10.out Tryz.underlying92 rfl (by kernel_rfl) ?_) | (refine wpList_store_row rfl 92 _ _ rfl w.heap.size _ rfl rfl 92 _ H11.out (by kernel_rfl) rfl (by kernel_rfl) ?_))
    refine bodyPost_ret (results_cell_row (fn := Tryz.f57) rfl _ _ w.heap.size _ _ _ _ rfl (setRow_heap _ _ _ _ _ _ H11.out) Tryz.underlying92 rfl (by kernel_rfl)) rfl ?_
    exact ⟨rfl, below_row HB6.out (Nat.le_refl _) _⟩

end Go.Proofs.YtmelblnflalanaaGreat

/- A bag of facts of the memory, each of which stays where nothing old is written. -/
namespace Go.Proofs.YtmelblnflalanaaGreat
open Go Go.RowKit
set_option linter.unusedVariables false

/-- It stays where nothing old is written. -/
def Stable (P : World → Prop) : Prop := ∀ w w', P w → Below w.heap.size w w' → P w'
structure Bag (w0 : World) (Ps : List (World → Prop)) (w : World) : Prop where
  below : Below w0.heap.size w0 w
  all : ∀ P, P ∈ Ps → P w ∧ Stable P
theorem Bag.start {w0 w : World} (h : Below w0.heap.size w0 w) : Bag w0 [] w := ⟨h, fun _ h => by cases h⟩
theorem Bag.step {w0 w w' : World} {Ps : List (World → Prop)} (h : Bag w0 Ps w) (hb : Below w.heap.size w w') : Bag w0 Ps w' :=
  ⟨h.below.trans (hb.mono h.below.size), fun P hP => ⟨(h.all P hP).2 w w' (h.all P hP).1 hb, (h.all P hP).2⟩⟩
theorem Bag.drewN {w0 w : World} {Ps : List (World → Prop)} (h : Bag w0 Ps w) (q : Nat) : Bag w0 Ps (w.drewN q) := h.step (belowN (Below.refl _ _) q)
theorem Bag.drew {w0 w : World} {Ps : List (World → Prop)} (h : Bag w0 Ps w) : Bag w0 Ps w.drew := h.step (Below.drew (Below.refl _ _))
theorem Bag.alloc {w0 w : World} {Ps : List (World → Prop)} (h : Bag w0 Ps w) (o : Obj) : Bag w0 Ps (w.alloc o) := h.step ((Below.refl _ _).alloc (Nat.le_refl _) o)
theorem Bag.add {w0 w : World} {Ps : List (World → Prop)} {P : World → Prop} (h : Bag w0 Ps w) (hP : P w) (hs : Stable P) : Bag w0 (P :: Ps) w :=
  ⟨h.below, fun Q hQ => by
    rcases List.mem_cons.1 hQ with rfl | hQ
    · exact ⟨hP, hs⟩
    · exact h.all Q hQ⟩
theorem Bag.at {w0 w : World} {Ps : List (World → Prop)} {P : World → Prop} (h : Bag w0 Ps w) (i : Nat) (e : Ps[i]? = some P) : P w :=
  (h.all P (List.mem_of_getElem? e)).1
theorem Bag.tail {w0 w : World} {Ps : List (World → Prop)} {P : World → Prop} (h : Bag w0 (P :: Ps) w) : Bag w0 Ps w := ⟨h.below, fun Q hQ => h.all Q (List.mem_cons_of_mem _ hQ)⟩
theorem stable_zone (T : TypeId) (v : Value) (z : Option (Nat × Mat)) : Stable fun w => ZoneV T w v z := fun _ _ h hb => h.below hb
theorem stable_ints (k : IntKind) (A : Option Addr) (xs : List Int) : Stable fun w => Ints w k A xs := fun _ _ h hb => h.below hb
theorem stable_own (b : Nat) (e : TypeId) (k : IntKind) (v : Value) (xs : List Int) : Stable fun w => OwnI w b e k v xs := fun _ _ h hb => h.later hb
theorem stable_lims (A : Option Addr) (l : List (Int × Int × Int)) : Stable fun w => Lims w A l := fun _ _ h hb => h.below hb

/-- A call that leaves the world alone, in a region that draws. -/
theorem quietL {P : Program} {f : FuncId} {args : Array Value} {w : World} {n : Nat} {v : Value} (h : ∀ W, Calls P f args W fun e w' => e = .returned v ∧ W = w') :
    Calls P f args (w.drewN n) fun e w'' => e = .returned v ∧ ∃ m, w'' = w.drewN m := (h _).mono fun _ _ ⟨he, hm⟩ => ⟨he, n, hm.symm⟩
/-- The same, behind a region that drew. -/
theorem quietA {P : Program} {f : FuncId} {args : Array Value} {w : World} {a n : Nat} {v : Value} (h : ∀ W, Calls P f args W fun e w' => e = .returned v ∧ W = w') :
    Calls P f args (w.drewN (a + n)) fun e w'' => e = .returned v ∧ ∃ m, w'' = w.drewN (a + m) := (h _).mono fun _ _ ⟨he, hm⟩ => ⟨he, n, hm.symm⟩
/-- A call that only draws, behind a region that drew. -/
theorem quietD {P : Program} {f : FuncId} {args : Array Value} {w : World} {a n : Nat} {v : Value} (h : Calls P f args (w.drewN (a + n)) fun e w' => e = .returned v ∧ ∃ q, w' = (w.drewN (a + n)).drewN q) :
    Calls P f args (w.drewN (a + n)) fun e w'' => e = .returned v ∧ ∃ m, w'' = w.drewN (a + m) := h.mono fun _ _ ⟨he, q, hq⟩ => ⟨he, n + q, by rw [hq, World.drewN_drewN, Nat.add_assoc]⟩
theorem backC {P : Program} {f : FuncId} {args : Array Value} {w : World} {e0 : Ending} (h : Calls P f args w fun e w' => e = e0 ∧ w = w') : Calls P f args w fun e w' => e = e0 ∧ w' = w :=
  h.mono fun _ _ ⟨a, b⟩ => ⟨a, b.symm⟩

end Go.Proofs.YtmelblnflalanaaGreat

/- Blocks of a call's own, one behind another: each is known, each may be written anew. -/
namespace Go.Proofs.YtmelblnflalanaaGreat
open Go Go.RowKit
set_option linter.unusedVariables false
set_option linter.unusedSimpArgs false

structure Blx (w0 : World) (L : List (Nat × Array Value × TypeId)) (wr : World) : Prop where
  below : Below w0.heap.size w0 wr
  l : ∀ t ∈ L, wr.heap[t.1]? = some (.cells t.2.1 t.2.2)
  s : L.Pairwise fun a b => a.1 < b.1
  lo : ∀ t ∈ L, w0.heap.size ≤ t.1
section
variable {w0 wr w' : World} {L M : List (Nat × Array Value × TypeId)} {g : Nat} {cs : Array Value} {T : TypeId}
theorem Blx.start (w0 : World) : Blx w0 [] w0 := ⟨Below.refl _ _, (fun _ h => by cases h), List.Pairwise.nil, (fun _ h => by cases h)⟩
theorem Blx.step (h : Blx w0 L wr) (hb : Below wr.heap.size wr w') : Blx w0 L w' := ⟨h.below.trans (hb.mono h.below.size), fun t ht => heap_keep (h.l t ht) hb, h.s, h.lo⟩
theorem Blx.drew (h : Blx w0 L wr) : Blx w0 L wr.drew := h.step (Below.drew (Below.refl _ _))
theorem Blx.drewN (h : Blx w0 L wr) (q : Nat) : Blx w0 L (wr.drewN q) := ⟨belowN h.below q, h.l, h.s, h.lo⟩
theorem Blx.new (h : Blx w0 L wr) (cs : Array Value) (T : TypeId) : Blx w0 (L ++ [(wr.heap.size, cs, T)]) (wr.alloc (.cells cs T)) := by
  have h2 := h.step (below_one wr (.cells cs T))
  refine ⟨h2.below, fun t ht => ?_, List.pairwise_append.2 ⟨h.s, List.pairwise_singleton _ _, fun a ha b hb => ?_⟩, fun t ht => ?_⟩
  · rcases List.mem_append.1 ht with ht | ht
    · exact h2.l t ht
    · obtain rfl := List.mem_singleton.1 ht
      exact heap_alloc_new _ _
  · obtain rfl := List.mem_singleton.1 hb
    exact heap_lt2 (h.l a ha)
  · rcases List.mem_append.1 ht with ht | ht
    · exact h.lo t ht
    · obtain rfl := List.mem_singleton.1 ht
      exact h.below.size
theorem Blx.cell (h : Blx w0 L wr) (j : Nat) (hj : L[j]? = some (g, cs, T)) (k : Nat) {v : Value} (hk : cs[k]? = some v) : wr.cell? ⟨g, k, none⟩ = some v ∧ wr.frozen? ⟨g, k, none⟩ = false := by
  have h1 := h.l _ (List.mem_of_getElem? hj)
  simp only at h1
  refine ⟨?_, ?_⟩
  · unfold World.cell?; rw [h1]; exact hk
  · unfold World.frozen?; rw [h1]; simp
theorem Blx.cells2 (h : Blx w0 L wr) (j : Nat) {a b : Value} (hj : L[j]? = some (g, #[a, b], T)) : wr.cell? ⟨g, 0, none⟩ = some a ∧ wr.cell? ⟨g, 1, none⟩ = some b ∧ wr.frozen? ⟨g, 0, none⟩ = false ∧ wr.frozen? ⟨g, 1, none⟩ = false :=
  ⟨(h.cell j hj 0 rfl).1, (h.cell j hj 1 rfl).1, (h.cell j hj 0 rfl).2, (h.cell j hj 1 rfl).2⟩
theorem Blx.cells3 (h : Blx w0 L wr) (j : Nat) {a b c : Value} (hj : L[j]? = some (g, #[a, b, c], T)) : wr.cell? ⟨g, 0, none⟩ = some a ∧ wr.cell? ⟨g, 1, none⟩ = some b ∧ wr.cell? ⟨g, 2, none⟩ = some c ∧ wr.frozen? ⟨g, 0, none⟩ = false ∧ wr.frozen? ⟨g, 1, none⟩ = false ∧ wr.frozen? ⟨g, 2, none⟩ = false :=
  ⟨(h.cell j hj 0 rfl).1, (h.cell j hj 1 rfl).1, (h.cell j hj 2 rfl).1, (h.cell j hj 0 rfl).2, (h.cell j hj 1 rfl).2, (h.cell j hj 2 rfl).2⟩
theorem Blx.anew (h : Blx w0 L wr) (j : Nat) (hj : L[j]? = some (g, cs, T)) (cs' : Array Value) (hb : Below w0.heap.size w0 w') (h1 : w'.heap[g]? = some (.cells cs' T)) (h2 : ∀ k, k ≠ g → w'.heap[k]? = wr.heap[k]?) : Blx w0 (L.set j (g, cs', T)) w' := by
  have hjl : j < L.length := (List.getElem?_eq_some_iff.1 hj).1
  have hje : L[j] = (g, cs, T) := (List.getElem?_eq_some_iff.1 hj).2
  have hp := List.pairwise_iff_getElem.1 h.s
  have one : ∀ k (hk : k < (L.set j (g, cs', T)).length), ((L.set j (g, cs', T))[k]).1 = (L[k]'(by simpa using hk)).1 := fun k hk => by
    rw [List.getElem_set]
    split
    · rename_i e; subst e; rw [hje]
    · rfl
  refine ⟨hb, fun t ht => ?_, ?_, fun t ht => ?_⟩
  · obtain ⟨k, hk1, hk2⟩ := List.getElem_of_mem ht
    have hkl : k < L.length := by simpa using hk1
    rw [List.getElem_set] at hk2
    by_cases e : j = k
    · rw [if_pos e] at hk2
      subst hk2
      exact h1
    · rw [if_neg e] at hk2
      subst hk2
      have hne : (L[k]).1 ≠ g := by
        rcases Nat.lt_or_gt_of_ne e with h1 | h1
        · have := hp j k hjl hkl h1; rw [hje] at this; exact Nat.ne_of_gt this
        · have := hp k j hkl hjl h1; rw [hje] at this; exact Nat.ne_of_lt this
      rw [h2 _ hne]
      exact h.l _ (List.getElem_mem _)
  · refine List.pairwise_iff_getElem.2 (fun a b ha hb hab => ?_)
    rw [one a ha, one b hb]
    exact hp a b (by simpa using ha) (by simpa using hb) hab
  · obtain ⟨k, hk1, hk2⟩ := List.getElem_of_mem ht
    rw [← hk2, one k hk1]
    exact h.lo _ (List.getElem_mem _)
theorem Blx.row (h : Blx w0 L wr) (j : Nat) (hj : L[j]? = some (g, cs, T)) (cs' : Array Value) : Blx w0 (L.set j (g, cs', T)) (wr.setRow g cs') := by
  have hl : w0.heap.size ≤ g := h.lo (g, cs, T) (List.mem_of_getElem? hj)
  exact h.anew j hj cs' (below_row h.below hl _) (setRow_heap _ _ _ _ _ _ (h.l _ (List.mem_of_getElem? hj))) (fun k hk => setRow_other _ _ _ _ (fun e => hk e))
theorem Blx.set (h : Blx w0 L wr) (j : Nat) (hj : L[j]? = some (g, cs, T)) (k : Nat) (v : Value) : Blx w0 (L.set j (g, cs.setIfInBounds k v, T)) (wr.setCell ⟨g, k, none⟩ v) := by
  have hl : w0.heap.size ≤ g := h.lo (g, cs, T) (List.mem_of_getElem? hj)
  have h1 := h.l _ (List.mem_of_getElem? hj)
  simp only at h1
  refine h.anew j hj _ (h.below.setCell (p := ⟨g, k, none⟩) hl _) ?_ (fun q hq => ?_)
  · simp [World.setCell, Array.getElem?_modify, h1]
  · simp only [World.setCell, Array.getElem?_modify]; rw [if_neg (fun e => hq e.symm)]
theorem Blx.own (h : Blx w0 L wr) {B : Nat} (hB : w0.heap.size ≤ B) (hl : ∀ t ∈ L, t.1 < B) (hg : B ≤ g) (cs : Array Value) : Blx w0 L (wr.setRow g cs) :=
  ⟨below_row h.below (by omega) _, fun t ht => (setRow_other _ _ _ _ (by have := hl t ht; omega)).trans (h.l t ht), h.s, h.lo⟩
theorem Blx.with (h : Blx w0 L wr) (hl : ∀ t ∈ L, t.1 < g) (hg : w0.heap.size ≤ g) (hh : wr.heap[g]? = some (.cells cs T)) : Blx w0 (L ++ [(g, cs, T)]) wr := by
  refine ⟨h.below, fun t ht => ?_, List.pairwise_append.2 ⟨h.s, List.pairwise_singleton _ _, fun a ha b hb => ?_⟩, fun t ht => ?_⟩
  · rcases List.mem_append.1 ht with ht | ht
    · exact h.l t ht
    · obtain rfl := List.mem_singleton.1 ht
      exact hh
  · obtain rfl := List.mem_singleton.1 hb
    exact hl a ha
  · rcases List.mem_append.1 ht with ht | ht
    · exact h.lo t ht
    · obtain rfl := List.mem_singleton.1 ht
      exact hg
theorem Blx.front (h : Blx w0 (L ++ M) wr) : Blx w0 L wr := ⟨h.below, fun t ht => h.l t (List.mem_append_left _ ht), (List.pairwise_append.1 h.s).1, fun t ht => h.lo t (List.mem_append_left _ ht)⟩
theorem Blx.after (h : Blx w0 L wr) : ∀ t ∈ L, t.1 < wr.heap.size := fun t ht => heap_lt2 (h.l t ht)
end

end Go.Proofs.YtmelblnflalanaaGreat

/- Sums, opposites and numbers of 128 bits with a sign, as rat reckons with them. -/
namespace Go.Proofs.YtmelblnflalanaaGreat
open Go Go.RowKit
set_option linter.unusedVariables false
set_option linter.unusedSimpArgs false

/-- Two numbers with a sign in blocks, and a third that is still 0. -/
structure Wr (w0 : World) (a b : Nat) (sa sb : Bool) (wr : World) : Prop where
  below : Below w0.heap.size w0 wr
  ha : wr.heap[w0.heap.size]? = some (.cells #[.int .u64 (hiN a), .int .u64 (loN a), .bool sa] 92)
  hb : wr.heap[w0.heap.size + 1]? = some (.cells #[.int .u64 (hiN b), .int .u64 (loN b), .bool sb] 92)
  h0 : wr.heap[w0.heap.size + 1 + 1]? = some (.cells #[.int .u64 0, .int .u64 0, .bool false] 92)
theorem Wr.step {w0 wr w' : World} {a b : Nat} {sa sb : Bool} (h : Wr w0 a b sa sb wr) (hb : Below wr.heap.size wr w') : Wr w0 a b sa sb w' :=
  ⟨h.below.trans (hb.mono h.below.size), heap_keep h.ha hb, heap_keep h.hb hb, heap_keep h.h0 hb⟩
theorem Wr.drew {w0 wr : World} {a b : Nat} {sa sb : Bool} (h : Wr w0 a b sa sb wr) : Wr w0 a b sa sb wr.drew := ⟨Below.drew h.below, h.ha, h.hb, h.h0⟩
def WrS (w0 : World) (a b : Nat) (sa sb : Bool) (wr : World) : Prop :=
  wr.cell? ⟨w0.heap.size, 0, none⟩ = some (.int .u64 (hiN a)) ∧ wr.cell? ⟨w0.heap.size, 1, none⟩ = some (.int .u64 (loN a)) ∧ wr.cell? ⟨w0.heap.size, 2, none⟩ = some (.bool sa) ∧
  wr.cell? ⟨w0.heap.size + 1, 0, none⟩ = some (.int .u64 (hiN b)) ∧ wr.cell? ⟨w0.heap.size + 1, 1, none⟩ = some (.int .u64 (loN b)) ∧ wr.cell? ⟨w0.heap.size + 1, 2, none⟩ = some (.bool sb) ∧
  wr.cell? ⟨w0.heap.size + 1 + 1, 0, none⟩ = some (.int .u64 0) ∧ wr.cell? ⟨w0.heap.size + 1 + 1, 1, none⟩ = some (.int .u64 0) ∧ wr.cell? ⟨w0.heap.size + 1 + 1, 2, none⟩ = some (.bool false) ∧
  wr.frozen? ⟨w0.heap.size + 1 + 1, 0, none⟩ = false ∧ wr.frozen? ⟨w0.heap.size + 1 + 1, 1, none⟩ = false ∧ wr.frozen? ⟨w0.heap.size + 1 + 1, 2, none⟩ = false
theorem three_frozen {wr : World} {g : Nat} {a b c : Value} {T : TypeId} (h : wr.heap[g]? = some (.cells #[a, b, c] T)) : wr.frozen? ⟨g, 0, none⟩ = false ∧ wr.frozen? ⟨g, 1, none⟩ = false ∧ wr.frozen? ⟨g, 2, none⟩ = false := by
  refine ⟨?_, ?_, ?_⟩ <;> (unfold World.frozen?; rw [h]; rfl)
theorem Wr.cells {w0 wr : World} {a b : Nat} {sa sb : Bool} (h : Wr w0 a b sa sb wr) : WrS w0 a b sa sb wr := by
  obtain ⟨a1, a2, a3, _⟩ := cell_three h.ha
  obtain ⟨b1, b2, b3, _⟩ := cell_three h.hb
  obtain ⟨c1, c2, c3, _⟩ := cell_three h.h0
  obtain ⟨f1, f2, f3⟩ := three_frozen h.h0
  exact ⟨a1, a2, a3, b1, b2, b3, c1, c2, c3, f1, f2, f3⟩
theorem Wr.six {w0 wr : World} {a b : Nat} {sa sb : Bool} (h : Wr w0 a b sa sb wr) :
  wr.cell? ⟨w0.heap.size, 0, none⟩ = some (.int .u64 (hiN a)) ∧ wr.cell? ⟨w0.heap.size, 1, none⟩ = some (.int .u64 (loN a)) ∧ wr.cell? ⟨w0.heap.size, 2, none⟩ = some (.bool sa) ∧
  wr.cell? ⟨w0.heap.size + 1, 0, none⟩ = some (.int .u64 (hiN b)) ∧ wr.cell? ⟨w0.heap.size + 1, 1, none⟩ = some (.int .u64 (loN b)) ∧ wr.cell? ⟨w0.heap.size + 1, 2, none⟩ = some (.bool sb) := by
  obtain ⟨a1, a2, a3, _⟩ := cell_three h.ha
  obtain ⟨b1, b2, b3, _⟩ := cell_three h.hb
  exact ⟨a1, a2, a3, b1, b2, b3⟩
theorem Wr.three {w0 wr : World} {a b : Nat} {sa sb : Bool} (h : Wr w0 a b sa sb wr) :
  wr.cell? ⟨w0.heap.size + 1 + 1, 0, none⟩ = some (.int .u64 0) ∧ wr.cell? ⟨w0.heap.size + 1 + 1, 1, none⟩ = some (.int .u64 0) ∧ wr.cell? ⟨w0.heap.size + 1 + 1, 2, none⟩ = some (.bool false) ∧
  wr.frozen? ⟨w0.heap.size + 1 + 1, 0, none⟩ = false ∧ wr.frozen? ⟨w0.heap.size + 1 + 1, 1, none⟩ = false ∧ wr.frozen? ⟨w0.heap.size + 1 + 1, 2, none⟩ = false := by
  obtain ⟨c1, c2, c3, _⟩ := cell_three h.h0
  obtain ⟨f1, f2, f3⟩ := three_frozen h.h0
  exact ⟨c1, c2, c3, f1, f2, f3⟩
theorem three_set {wr : World} {g : Nat} {a b c : Value} {T : TypeId} (h : wr.heap[g]? = some (.cells #[a, b, c] T)) (x y z : Value) :
    (((wr.setCell ⟨g, 0, none⟩ x).setCell ⟨g, 1, none⟩ y).setCell ⟨g, 2, none⟩ z).heap[g]? = some (.cells #[x, y, z] T) := by
  simp only [World.setCell, Array.getElem?_modify, if_true, h, Option.map_some]; rfl
theorem Wr.told {w0 wr : World} {a b : Nat} {sa sb : Bool} (h : Wr w0 a b sa sb wr) (x y z : Value) :
    (((wr.setCell ⟨w0.heap.size + 1 + 1, 0, none⟩ x).setCell ⟨w0.heap.size + 1 + 1, 1, none⟩ y).setCell ⟨w0.heap.size + 1 + 1, 2, none⟩ z).heap[w0.heap.size + 1 + 1]? = some (.cells #[x, y, z] 92) ∧
    Below w0.heap.size w0 (((wr.setCell ⟨w0.heap.size + 1 + 1, 0, none⟩ x).setCell ⟨w0.heap.size + 1 + 1, 1, none⟩ y).setCell ⟨w0.heap.size + 1 + 1, 2, none⟩ z) := by
  have hl : w0.heap.size ≤ w0.heap.size + 1 + 1 := by omega
  exact ⟨three_set h.h0 x y z, ((h.below.setCell (p := ⟨w0.heap.size + 1 + 1, 0, none⟩) hl _).setCell (p := ⟨w0.heap.size + 1 + 1, 1, none⟩) hl _).setCell (p := ⟨w0.heap.size + 1 + 1, 2, none⟩) hl _⟩
theorem Wr.sixT {w0 wr : World} {a b : Nat} {sa sb : Bool} (h : Wr w0 a b sa sb wr) (x y z : Value) :
  (((wr.setCell ⟨w0.heap.size + 1 + 1, 0, none⟩ x).setCell ⟨w0.heap.size + 1 + 1, 1, none⟩ y).setCell ⟨w0.heap.size + 1 + 1, 2, none⟩ z).cell? ⟨w0.heap.size, 0, none⟩ = some (.int .u64 (hiN a)) ∧ (((wr.setCell ⟨w0.heap.size + 1 + 1, 0, none⟩ x).setCell ⟨w0.heap.size + 1 + 1, 1, none⟩ y).setCell ⟨w0.heap.size + 1 + 1, 2, none⟩ z).cell? ⟨w0.heap.size, 1, none⟩ = some (.int .u64 (loN a)) ∧ (((wr.setCell ⟨w0.heap.size + 1 + 1, 0, none⟩ x).setCell ⟨w0.heap.size + 1 + 1, 1, none⟩ y).setCell ⟨w0.heap.size + 1 + 1, 2, none⟩ z).cell? ⟨w0.heap.size, 2, none⟩ = some (.bool sa) ∧
  (((wr.setCell ⟨w0.heap.size + 1 + 1, 0, none⟩ x).setCell ⟨w0.heap.size + 1 + 1, 1, none⟩ y).setCell ⟨w0.heap.size + 1 + 1, 2, none⟩ z).cell? ⟨w0.heap.size + 1, 0, none⟩ = some (.int .u64 (hiN b)) ∧ (((wr.setCell ⟨w0.heap.size + 1 + 1, 0, none⟩ x).setCell ⟨w0.heap.size + 1 + 1, 1, none⟩ y).setCell ⟨w0.heap.size + 1 + 1, 2, none⟩ z).cell? ⟨w0.heap.size + 1, 1, none⟩ = some (.int .u64 (loN b)) ∧ (((wr.setCell ⟨w0.heap.size + 1 + 1, 0, none⟩ x).setCell ⟨w0.heap.size + 1 + 1, 1, none⟩ y).setCell ⟨w0.heap.size + 1 + 1, 2, none⟩ z).cell? ⟨w0.heap.size + 1, 2, none⟩ = some (.bool sb) := by
  have e1 := heap_other (c := 2) (g := w0.heap.size + 1 + 1) z (heap_other (c := 1) (g := w0.heap.size + 1 + 1) y (heap_other (c := 0) (g := w0.heap.size + 1 + 1) x h.ha (by omega)) (by omega)) (by omega)
  have e2 := heap_other (c := 2) (g := w0.heap.size + 1 + 1) z (heap_other (c := 1) (g := w0.heap.size + 1 + 1) y (heap_other (c := 0) (g := w0.heap.size + 1 + 1) x h.hb (by omega)) (by omega)) (by omega)
  obtain ⟨a1, a2, a3, _⟩ := cell_three e1
  obtain ⟨b1, b2, b3, _⟩ := cell_three e2
  exact ⟨a1, a2, a3, b1, b2, b3⟩
theorem Wr.made (w : World) (a b : Nat) (sa sb : Bool) : Wr w a b sa sb
    (((w.alloc (.cells #[.int .u64 (hiN a), .int .u64 (loN a), .bool sa] 92)).alloc (.cells #[.int .u64 (hiN b), .int .u64 (loN b), .bool sb] 92)).alloc (.cells #[.int .u64 0, .int .u64 0, .bool false] 92)) := by
  obtain ⟨h1, h2⟩ := two_fr w (.cells #[.int .u64 (hiN a), .int .u64 (loN a), .bool sa] 92) (.cells #[.int .u64 (hiN b), .int .u64 (loN b), .bool sb] 92)
  have hz : ∀ (w : World) (o : Obj), (w.alloc o).heap.size = w.heap.size + 1 := fun w o => by simp
  refine ⟨below_three _ _ _ _, (heap_alloc_old _ _ (heap_lt2 h1)).trans h1, (heap_alloc_old _ _ (heap_lt2 h2)).trans h2, ?_⟩
  have h := heap_alloc_new ((w.alloc (.cells #[.int .u64 (hiN a), .int .u64 (loN a), .bool sa] 92)).alloc (.cells #[.int .u64 (hiN b), .int .u64 (loN b), .bool sb] 92)) (.cells #[.int .u64 0, .int .u64 0, .bool false] 92)
  simp only [hz] at h
  exact h

def sgV (n : Nat) (s : Bool) : Value := .agg #[.int .u64 (hiN n), .int .u64 (loN n), .bool s]
theorem wd_sg (x : Int) : wdV x = sgV x.natAbs (decide (x < 0)) := rfl
/-- What sum tells of signs and sizes. -/
def sumW (a b : Nat) (sa sb : Bool) : Value := if sa = sb then sgV (a + b) sa else if a < b then sgV (b - a) sb else if a = b then sgV 0 false else sgV (a - b) sa

set_option maxRecDepth 100000 in
set_option maxHeartbeats 4000000 in
theorem sum_sg (a b : Nat) (sa sb : Bool) (w : World) (ha : a ≤ 85070591730234615865843651857942052864) (hb : b ≤ 85070591730234615865843651857942052864) :
    Calls Tryz.prog 58 #[sgV a sa, sgV b sb] w fun e w' => e = .returned (sumW a b sa sb) ∧ Below w.heap.size w w' := by
  have HP : Hid (∀ W, Calls Tryz.prog 91 #[.agg #[.int .u64 (hiN a), .int .u64 (loN a)], .agg #[.int .u64 (hiN b), .int .u64 (loN b)]] W fun e w' => e = .returned (.agg #[.int .u64 (hiN (a + b)), .int .u64 (loN (a + b))]) ∧ Below W.heap.size W w') := Lib.hid (fun W => splus_any a b (by omega) W)
  have HC := Lib.hid (fun W => scmp_any a b W)
  have HL1 : Hid (∀ W, b ≤ a → Calls Tryz.prog 93 #[.agg #[.int .u64 (hiN a), .int .u64 (loN a)], .agg #[.int .u64 (hiN b), .int .u64 (loN b)]] W fun e w' => e = .returned (.agg #[.int .u64 (hiN (a - b)), .int .u64 (loN (a - b))]) ∧ Below W.heap.size W w') := Lib.hid (fun W h => sless_any a b h (by omega) W)
  have HL2 : Hid (∀ W, a ≤ b → Calls Tryz.prog 93 #[.agg #[.int .u64 (hiN b), .int .u64 (loN b)], .agg #[.int .u64 (hiN a), .int .u64 (loN a)]] W fun e w' => e = .returned (.agg #[.int .u64 (hiN (b - a)), .int .u64 (loN (b - a))]) ∧ Below W.heap.size W w') := Lib.hid (fun W h => sless_any b a h (by omega) W)
  clear ha hb
  have HW0 := Lib.hid (Wr.made w a b sa sb)
  unfold sgV
  go_enter Tryz.func58, Tryz.ntmps58
  go_upto_region 1 with fail
  generalize (((w.alloc (.cells #[.int .u64 (hiN a), .int .u64 (loN a), .bool sa] 92)).alloc (.cells #[.int .u64 (hiN b), .int .u64 (loN b), .bool sb] 92)).alloc (.cells #[.int .u64 0, .int .u64 0, .bool false] 92)) = w1 at *
  have kc := HW0.out.cells
  unfold WrS at kc
  obtain ⟨k1, k2, k3, k4, k5, k6, k7, k8, k9, k10, k11, k12⟩ := kc
  by_cases hs : sa = sb
  · have HS := Lib.hid (show sumW a b sa sb = sgV (a + b) sa by unfold sumW; rw [if_pos hs])
    have hs2 : (sa == sb) = true := by simp [hs]
    clear hs
    go_upto_region 2 with fail
    have kb := HW0.out.drew
    clear k1 k2 k3 k4 k5 k6 k7 k8 k9 k10 k11 k12
    go_region_held3 (fun wr => wr.cell? ⟨w.heap.size, 0, none⟩ = some (.int .u64 (hiN a)) ∧ wr.cell? ⟨w.heap.size, 1, none⟩ = some (.int .u64 (loN a)) ∧ wr.cell? ⟨w.heap.size, 2, none⟩ = some (.bool sa) ∧
      wr.cell? ⟨w.heap.size + 1, 0, none⟩ = some (.int .u64 (hiN b)) ∧ wr.cell? ⟨w.heap.size + 1, 1, none⟩ = some (.int .u64 (loN b)) ∧ wr.cell? ⟨w.heap.size + 1, 2, none⟩ = some (.bool sb))
      (first | exact kb.six | exact kb.sixT _ _ _ | go_keep)
      (first | (go_at_call 91; refine (HP.out _).mono ?_; rintro e w3 ⟨rfl, hb⟩; have kb := kb.step hb; clear hb; have kc := kb.three; obtain ⟨k7, k8, k9, k10, k11, k12⟩ := kc))
    obtain ⟨t1, t2⟩ := kb.told (.int .u64 (hiN (a + b))) (.int .u64 (loN (a + b))) (.bool sa)
    have T1 := Lib.hid t1
    have T2 := Lib.hid t2
    generalize ((w3.setCell ⟨w.heap.size + 1 + 1, 0, none⟩ (.int .u64 (hiN (a + b)))).setCell ⟨w.heap.size + 1 + 1, 1, none⟩ (.int .u64 (loN (a + b)))).setCell ⟨w.heap.size + 1 + 1, 2, none⟩ (.bool sa) = w4 at *
    clear t1 t2 k7 k8 k9 k10 k11 k12
    go_wp2
    refine bodyPost_ret (results_cell_row (fn := Tryz.f58) rfl _ _ (w.heap.size + 1 + 1) _ _ _ _ rfl T1.out Tryz.underlying92 rfl (by kernel_rfl)) rfl ?_
    exact ⟨by rw [HS.out]; rfl, T2.out⟩
  · have hs2 : (sa == sb) = false := by simp [hs]
    by_cases h1 : a < b
    · have HS := Lib.hid (show sumW a b sa sb = sgV (b - a) sb by unfold sumW; rw [if_neg hs, if_pos h1])
      have HCM := Lib.hid (show cmpN a b = -1 by unfold cmpN; rw [if_pos h1])
      have hle : a ≤ b := by omega
      clear hs h1
      go_wp2_with fail
      refine (HC.out _).mono ?_
      rintro e w2 ⟨rfl, hb⟩
      rw [HCM.out]
      have HW2 := Lib.hid (HW0.out.step hb)
      clear hb HW0 k1 k2 k3 k4 k5 k6 k7 k8 k9 k10 k11 k12
      go_upto_region 8 with fail
      have kb := HW2.out.drew
      go_region_held3 (fun wr => wr.cell? ⟨w.heap.size, 0, none⟩ = some (.int .u64 (hiN a)) ∧ wr.cell? ⟨w.heap.size, 1, none⟩ = some (.int .u64 (loN a)) ∧ wr.cell? ⟨w.heap.size, 2, none⟩ = some (.bool sa) ∧
        wr.cell? ⟨w.heap.size + 1, 0, none⟩ = some (.int .u64 (hiN b)) ∧ wr.cell? ⟨w.heap.size + 1, 1, none⟩ = some (.int .u64 (loN b)) ∧ wr.cell? ⟨w.heap.size + 1, 2, none⟩ = some (.bool sb))
        (first | exact kb.six | exact kb.sixT _ _ _ | go_keep)
        (first | (go_at_call 93; refine (HL2.out _ hle).mono ?_; rintro e w3 ⟨rfl, hb⟩; have kb := kb.step hb; clear hb; have kc := kb.three; obtain ⟨k7, k8, k9, k10, k11, k12⟩ := kc))
      obtain ⟨t1, t2⟩ := kb.told (.int .u64 (hiN (b - a))) (.int .u64 (loN (b - a))) (.bool sb)
      have T1 := Lib.hid t1
      have T2 := Lib.hid t2
      generalize ((w3.setCell ⟨w.heap.size + 1 + 1, 0, none⟩ (.int .u64 (hiN (b - a)))).setCell ⟨w.heap.size + 1 + 1, 1, none⟩ (.int .u64 (loN (b - a)))).setCell ⟨w.heap.size + 1 + 1, 2, none⟩ (.bool sb) = w4 at *
      clear t1 t2 k7 k8 k9 k10 k11 k12
      go_wp2
      refine bodyPost_ret (results_cell_row (fn := Tryz.f58) rfl _ _ (w.heap.size + 1 + 1) _ _ _ _ rfl T1.out Tryz.underlying92 rfl (by kernel_rfl)) rfl ?_
      exact ⟨by rw [HS.out]; rfl, T2.out⟩
    · by_cases h2 : a = b
      · have HS := Lib.hid (show sumW a b sa sb = sgV 0 false by unfold sumW; rw [if_neg hs, if_neg h1, if_pos h2])
        have HCM := Lib.hid (show cmpN a b = 0 by unfold cmpN; rw [if_neg h1, if_pos h2])
        clear hs h1 h2
        go_wp2_with fail
        refine (HC.out _).mono ?_
        rintro e w2 ⟨rfl, hb⟩
        rw [HCM.out]
        have HW2 := Lib.hid (HW0.out.step hb)
        clear hb HW0 k1 k2 k3 k4 k5 k6 k7 k8 k9 k10 k11 k12
        obtain ⟨k7, k8, k9, k10, k11, k12⟩ := HW2.out.three
        go_wp2
        obtain ⟨t1, t2⟩ := HW2.out.told (.int .u64 0) (.int .u64 0) (.bool false)
        refine bodyPost_ret (results_cell_row (fn := Tryz.f58) rfl _ _ (w.heap.size + 1 + 1) _ _ _ _ rfl t1 Tryz.underlying92 rfl (by kernel_rfl)) rfl ?_
        exact ⟨by rw [HS.out]; rfl, t2⟩
      · have HS := Lib.hid (show sumW a b sa sb = sgV (a - b) sa by unfold sumW; rw [if_neg hs, if_neg h1, if_neg h2])
        have HCM := Lib.hid (show cmpN a b = 1 by unfold cmpN; rw [if_neg h1, if_neg h2])
        have hle : b ≤ a := by omega
        clear hs h1 h2
        go_wp2_with fail
        refine (HC.out _).mono ?_
        rintro e w2 ⟨rfl, hb⟩
        rw [HCM.out]
        have HW2 := Lib.hid (HW0.out.step hb)
        clear hb HW0 k1 k2 k3 k4 k5 k6 k7 k8 k9 k10 k11 k12
        go_upto_region 7 with fail
        have kb := HW2.out.drew
        go_region_held3 (fun wr => wr.cell? ⟨w.heap.size, 0, none⟩ = some (.int .u64 (hiN a)) ∧ wr.cell? ⟨w.heap.size, 1, none⟩ = some (.int .u64 (loN a)) ∧ wr.cell? ⟨w.heap.size, 2, none⟩ = some (.bool sa) ∧
          wr.cell? ⟨w.heap.size + 1, 0, none⟩ = some (.int .u64 (hiN b)) ∧ wr.cell? ⟨w.heap.size + 1, 1, none⟩ = some (.int .u64 (loN b)) ∧ wr.cell? ⟨w.heap.size + 1, 2, none⟩ = some (.bool sb))
          (first | exact kb.six | exact kb.sixT _ _ _ | go_keep)
          (first | (go_at_call 93; refine (HL1.out _ hle).mono ?_; rintro e w3 ⟨rfl, hb⟩; have kb := kb.step hb; clear hb; have kc := kb.three; obtain ⟨k7, k8, k9, k10, k11, k12⟩ := kc))
        obtain ⟨t1, t2⟩ := kb.told (.int .u64 (hiN (a - b))) (.int .u64 (loN (a - b))) (.bool sa)
        have T1 := Lib.hid t1
        have T2 := Lib.hid t2
        generalize ((w3.setCell ⟨w.heap.size + 1 + 1, 0, none⟩ (.int .u64 (hiN (a - b)))).setCell ⟨w.heap.size + 1 + 1, 1, none⟩ (.int .u64 (loN (a - b)))).setCell ⟨w.heap.size + 1 + 1, 2, none⟩ (.bool sa) = w4 at *
        clear t1 t2 k7 k8 k9 k10 k11 k12
        go_wp2
        refine bodyPost_ret (results_cell_row (fn := Tryz.f58) rfl _ _ (w.heap.size + 1 + 1) _ _ _ _ rfl T1.out Tryz.underlying92 rfl (by kernel_rfl)) rfl ?_
        exact ⟨by rw [HS.out]; rfl, T2.out⟩

end Go.Proofs.YtmelblnflalanaaGreat

/- Opposites and numbers of 128 bits with a sign, and the fraction of two. -/
namespace Go.Proofs.YtmelblnflalanaaGreat
open Go Go.RowKit
set_option linter.unusedVariables false
set_option linter.unusedSimpArgs false

theorem sum_wd (X Y : Int) : sumW X.natAbs Y.natAbs (decide (X < 0)) (decide (Y < 0)) = wdV (X + Y) := by
  rw [wd_sg]
  unfold sumW
  by_cases hx : X < 0 <;> by_cases hy : Y < 0
  · rw [decide_eq_true hx, decide_eq_true hy, if_pos rfl, decide_eq_true (by omega), show (X + Y).natAbs = X.natAbs + Y.natAbs by omega]
  · rw [decide_eq_true hx, decide_eq_false hy, if_neg (by decide)]
    by_cases h : X.natAbs < Y.natAbs
    · rw [if_pos h, decide_eq_false (by omega), show (X + Y).natAbs = Y.natAbs - X.natAbs by omega]
    · by_cases h' : X.natAbs = Y.natAbs
      · rw [if_neg h, if_pos h', decide_eq_false (by omega), show (X + Y).natAbs = 0 by omega]
      · rw [if_neg h, if_neg h', decide_eq_true (by omega), show (X + Y).natAbs = X.natAbs - Y.natAbs by omega]
  · rw [decide_eq_false hx, decide_eq_true hy, if_neg (by decide)]
    by_cases h : X.natAbs < Y.natAbs
    · rw [if_pos h, decide_eq_true (by omega), show (X + Y).natAbs = Y.natAbs - X.natAbs by omega]
    · by_cases h' : X.natAbs = Y.natAbs
      · rw [if_neg h, if_pos h', decide_eq_false (by omega), show (X + Y).natAbs = 0 by omega]
      · rw [if_neg h, if_neg h', decide_eq_false (by omega), show (X + Y).natAbs = X.natAbs - Y.natAbs by omega]
  · rw [decide_eq_false hx, decide_eq_false hy, if_pos rfl, decide_eq_false (by omega), show (X + Y).natAbs = X.natAbs + Y.natAbs by omega]
theorem sumq_any (X Y : Int) (w : World) (hX : X.natAbs ≤ 85070591730234615865843651857942052864) (hY : Y.natAbs ≤ 85070591730234615865843651857942052864) :
    Calls Tryz.prog 58 #[wdV X, wdV Y] w fun e w' => e = .returned (wdV (X + Y)) ∧ Below w.heap.size w w' := by
  rw [← sum_wd]
  exact sum_sg _ _ _ _ w hX hY

set_option maxRecDepth 100000 in
set_option maxHeartbeats 2000000 in
theorem number_sg (n : Nat) (s : Bool) (hn : n < 340282366920938463463374607431768211456) (w : World) :
    Calls Tryz.prog 89 #[sgV n s] w fun e w' => e = .returned (.tuple #[.int .i64 (if fitsI (sgnI s n) = true then sgnI s n else 0), .bool (fitsI (sgnI s n))]) ∧ Below w.heap.size w w' := by
  have HB := Lib.hid (below_one w (.cells #[.int .u64 (hiN n), .int .u64 (loN n), .bool s] 92))
  unfold sgV
  by_cases h1 : 18446744073709551616 ≤ n
  · have e : fitsI (sgnI s n) = false := by cases s <;> exact decide_eq_false (by simp [sgnI]; omega)
    rw [e, if_neg (by decide)]
    have g1 : 0 < hiN n := by unfold hiN; omega
    have g2 : decide (0 < hiN n) = true := decide_eq_true g1
    generalize hiN n = a at *
    generalize loN n = b at *
    go_enter Tryz.func89, Tryz.ntmps89
    go_wp2
    go_ret2
    exact ⟨rfl, HB.out⟩
  · have g1 : hiN n = 0 := small_hi (by omega)
    have g2 : loN n = (n : Int) := small_lo (by omega)
    rw [g1, g2]
    rw [g1, g2] at HB
    clear g1 g2
    by_cases h2 : 9223372036854775808 < n
    · have e : fitsI (sgnI s n) = false := by cases s <;> exact decide_eq_false (by simp [sgnI]; omega)
      rw [e, if_neg (by decide)]
      have g3 : (9223372036854775808 : Int) < n := by omega
      have g4 : decide ((9223372036854775808 : Int) < n) = true := decide_eq_true g3
      go_enter Tryz.func89, Tryz.ntmps89
      go_wp2
      go_ret2
      exact ⟨rfl, HB.out⟩
    · have g3 : ¬ (9223372036854775808 : Int) < n := by omega
      have g4 : decide ((9223372036854775808 : Int) < n) = false := decide_eq_false g3
      have g5 : IntKind.i64.wrap (IntKind.u64.wrap (-(n : Int))) = -(n : Int) := by rw [IntKind.wrap_u64, IntKind.wrap_i64]; omega
      cases s with
      | true =>
        have e : fitsI (sgnI true n) = true := decide_eq_true (by simp [sgnI]; omega)
        rw [e, if_pos rfl]
        by_cases h3 : n = 9223372036854775808
        · subst h3
          go_enter Tryz.func89, Tryz.ntmps89
          go_wp2
          go_ret2
          exact ⟨by simp [sgnI]; rw [IntKind.wrap_u64]; unfold wrap64; omega, HB.out⟩
        · have g6 : ((n : Int) == 9223372036854775808) = false := by simp; omega
          go_enter Tryz.func89, Tryz.ntmps89
          go_wp2
          go_ret2
          exact ⟨by first | rfl | simp [sgnI], HB.out⟩
      | false =>
        by_cases h3 : n = 9223372036854775808
        · have e : fitsI (sgnI false n) = false := decide_eq_false (by simp [sgnI]; omega)
          rw [e, if_neg (by decide)]
          subst h3
          go_enter Tryz.func89, Tryz.ntmps89
          go_wp2
          go_ret2
          exact ⟨rfl, HB.out⟩
        · have e : fitsI (sgnI false n) = true := decide_eq_true (by simp [sgnI]; omega)
          rw [e, if_pos rfl]
          have g6 : ((n : Int) == 9223372036854775808) = false := by simp; omega
          have g7 : IntKind.i64.wrap (n : Int) = (n : Int) := IntWalk.i64_in _ (by omega)
          go_enter Tryz.func89, Tryz.ntmps89
          go_wp2
          go_ret2
          exact ⟨by first | rfl | simp [sgnI], HB.out⟩

/-- One number with a sign in a block, and one that is still 0. -/
structure W1r (w0 : World) (a : Nat) (sa : Bool) (wr : World) : Prop where
  below : Below w0.heap.size w0 wr
  ha : wr.heap[w0.heap.size]? = some (.cells #[.int .u64 (hiN a), .int .u64 (loN a), .bool sa] 92)
  h0 : wr.heap[w0.heap.size + 1]? = some (.cells #[.int .u64 0, .int .u64 0, .bool false] 92)
theorem W1r.step {w0 wr w' : World} {a : Nat} {sa : Bool} (h : W1r w0 a sa wr) (hb : Below wr.heap.size wr w') : W1r w0 a sa w' :=
  ⟨h.below.trans (hb.mono h.below.size), heap_keep h.ha hb, heap_keep h.h0 hb⟩
theorem W1r.drew {w0 wr : World} {a : Nat} {sa : Bool} (h : W1r w0 a sa wr) : W1r w0 a sa wr.drew := ⟨Below.drew h.below, h.ha, h.h0⟩
theorem W1r.one {w0 wr : World} {a : Nat} {sa : Bool} (h : W1r w0 a sa wr) :
    wr.cell? ⟨w0.heap.size, 0, none⟩ = some (.int .u64 (hiN a)) ∧ wr.cell? ⟨w0.heap.size, 1, none⟩ = some (.int .u64 (loN a)) ∧ wr.cell? ⟨w0.heap.size, 2, none⟩ = some (.bool sa) := by
  obtain ⟨a1, a2, a3, _⟩ := cell_three h.ha
  exact ⟨a1, a2, a3⟩
theorem W1r.zero {w0 wr : World} {a : Nat} {sa : Bool} (h : W1r w0 a sa wr) :
    wr.cell? ⟨w0.heap.size + 1, 0, none⟩ = some (.int .u64 0) ∧ wr.cell? ⟨w0.heap.size + 1, 1, none⟩ = some (.int .u64 0) ∧ wr.cell? ⟨w0.heap.size + 1, 2, none⟩ = some (.bool false) ∧
    wr.frozen? ⟨w0.heap.size + 1, 0, none⟩ = false ∧ wr.frozen? ⟨w0.heap.size + 1, 1, none⟩ = false ∧ wr.frozen? ⟨w0.heap.size + 1, 2, none⟩ = false := by
  obtain ⟨c1, c2, c3, _⟩ := cell_three h.h0
  obtain ⟨f1, f2, f3⟩ := three_frozen h.h0
  exact ⟨c1, c2, c3, f1, f2, f3⟩
theorem W1r.told {w0 wr : World} {a : Nat} {sa : Bool} (h : W1r w0 a sa wr) (x y z : Value) :
    (((wr.setCell ⟨w0.heap.size + 1, 0, none⟩ x).setCell ⟨w0.heap.size + 1, 1, none⟩ y).setCell ⟨w0.heap.size + 1, 2, none⟩ z).heap[w0.heap.size + 1]? = some (.cells #[x, y, z] 92) ∧
    Below w0.heap.size w0 (((wr.setCell ⟨w0.heap.size + 1, 0, none⟩ x).setCell ⟨w0.heap.size + 1, 1, none⟩ y).setCell ⟨w0.heap.size + 1, 2, none⟩ z) := by
  have hl : w0.heap.size ≤ w0.heap.size + 1 := by omega
  exact ⟨three_set h.h0 x y z, ((h.below.setCell (p := ⟨w0.heap.size + 1, 0, none⟩) hl _).setCell (p := ⟨w0.heap.size + 1, 1, none⟩) hl _).setCell (p := ⟨w0.heap.size + 1, 2, none⟩) hl _⟩
theorem W1r.oneT {w0 wr : World} {a : Nat} {sa : Bool} (h : W1r w0 a sa wr) (x y z : Value) :
    (((wr.setCell ⟨w0.heap.size + 1, 0, none⟩ x).setCell ⟨w0.heap.size + 1, 1, none⟩ y).setCell ⟨w0.heap.size + 1, 2, none⟩ z).cell? ⟨w0.heap.size, 0, none⟩ = some (.int .u64 (hiN a)) ∧ (((wr.setCell ⟨w0.heap.size + 1, 0, none⟩ x).setCell ⟨w0.heap.size + 1, 1, none⟩ y).setCell ⟨w0.heap.size + 1, 2, none⟩ z).cell? ⟨w0.heap.size, 1, none⟩ = some (.int .u64 (loN a)) ∧ (((wr.setCell ⟨w0.heap.size + 1, 0, none⟩ x).setCell ⟨w0.heap.size + 1, 1, none⟩ y).setCell ⟨w0.heap.size + 1, 2, none⟩ z).cell? ⟨w0.heap.size, 2, none⟩ = some (.bool sa) := by
  have e1 := heap_other (c := 2) (g := w0.heap.size + 1) z (heap_other (c := 1) (g := w0.heap.size + 1) y (heap_other (c := 0) (g := w0.heap.size + 1) x h.ha (by omega)) (by omega)) (by omega)
  obtain ⟨a1, a2, a3, _⟩ := cell_three e1
  exact ⟨a1, a2, a3⟩
theorem W1r.made (w : World) (a : Nat) (sa : Bool) : W1r w a sa ((w.alloc (.cells #[.int .u64 (hiN a), .int .u64 (loN a), .bool sa] 92)).alloc (.cells #[.int .u64 0, .int .u64 0, .bool false] 92)) := by
  obtain ⟨h1, h2⟩ := two_fr w (.cells #[.int .u64 (hiN a), .int .u64 (loN a), .bool sa] 92) (.cells #[.int .u64 0, .int .u64 0, .bool false] 92)
  exact ⟨below_two _ _ _, h1, h2⟩

set_option maxRecDepth 100000 in
set_option maxHeartbeats 4000000 in
theorem opposite_sg (a : Nat) (s : Bool) (w : World) : Calls Tryz.prog 100 #[sgV a s] w fun e w' => e = .returned (sgV a (!s && !decide (a = 0))) ∧ Below w.heap.size w w' := by
  have HS : Hid (∀ W, Calls Tryz.prog 88 #[.agg #[.int .u64 (hiN a), .int .u64 (loN a)]] W fun e w' => e = .returned (.bool (decide (a = 0))) ∧ Below W.heap.size W w') := Lib.hid (fun W => szero_any a W)
  have HW0 := Lib.hid (W1r.made w a s)
  obtain ⟨z, hz⟩ : ∃ z, decide (a = 0) = z := ⟨_, rfl⟩
  rw [hz] at HS
  rw [hz]
  clear hz
  unfold sgV
  go_enter Tryz.func100, Tryz.ntmps100
  go_upto_region 1 with fail
  generalize (w.alloc (.cells #[.int .u64 (hiN a), .int .u64 (loN a), .bool s] 92)).alloc (.cells #[.int .u64 0, .int .u64 0, .bool false] 92) = w1 at *
  have kb := HW0.out.drew
  cases s with
  | true =>
    obtain ⟨k1, k2, k3⟩ := HW0.out.one
    obtain ⟨k7, k8, k9, k10, k11, k12⟩ := HW0.out.zero
    obtain ⟨t1, t2⟩ := HW0.out.told (.int .u64 (hiN a)) (.int .u64 (loN a)) (.bool false)
    have T1 := Lib.hid t1
    have T2 := Lib.hid (Below.drew t2)
    clear t1 t2 kb
    go_region
    go_wp2
    refine bodyPost_ret (results_cell_row (fn := Tryz.f100) rfl _ _ (w.heap.size + 1) _ _ _ _ rfl T1.out Tryz.underlying92 rfl (by kernel_rfl)) rfl ?_
    exact ⟨rfl, T2.out⟩
  | false =>
    go_region_held3 (fun wr => wr.cell? ⟨w.heap.size, 0, none⟩ = some (.int .u64 (hiN a)) ∧ wr.cell? ⟨w.heap.size, 1, none⟩ = some (.int .u64 (loN a)) ∧ wr.cell? ⟨w.heap.size, 2, none⟩ = some (.bool false))
      (first | exact kb.one | exact kb.oneT _ _ _ | go_keep)
      (first | (go_at_call 88; refine (HS.out _).mono ?_; rintro e w3 ⟨rfl, hb⟩; have kb := kb.step hb; clear hb; have kc := kb.zero; obtain ⟨k7, k8, k9, k10, k11, k12⟩ := kc))
    obtain ⟨t1, t2⟩ := kb.told (.int .u64 (hiN a)) (.int .u64 (loN a)) (.bool (!z))
    have T1 := Lib.hid t1
    have T2 := Lib.hid t2
    clear t1 t2 k7 k8 k9 k10 k11 k12
    go_wp2
    refine bodyPost_ret (results_cell_row (fn := Tryz.f100) rfl _ _ (w.heap.size + 1) _ _ _ _ rfl T1.out Tryz.underlying92 rfl (by kernel_rfl)) rfl ?_
    exact ⟨by simp, T2.out⟩
theorem opposite_any (X : Int) (w : World) : Calls Tryz.prog 100 #[wdV X] w fun e w' => e = .returned (wdV (-X)) ∧ Below w.heap.size w w' := by
  have e : wdV (-X) = sgV X.natAbs (!decide (X < 0) && !decide (X.natAbs = 0)) := by
    rw [wd_sg, Int.natAbs_neg]
    congr 1
    rcases Int.lt_trichotomy X 0 with h | h | h
    · rw [decide_eq_true h, decide_eq_false (by omega)]; rfl
    · subst h; rfl
    · rw [decide_eq_false (show ¬ X < 0 by omega), decide_eq_true (show -X < 0 by omega), decide_eq_false (show ¬ X.natAbs = 0 by omega)]; rfl
  rw [e]
  exact opposite_sg _ _ w

end Go.Proofs.YtmelblnflalanaaGreat

/- The fraction of two numbers with a sign, as rat makes it. -/
namespace Go.Proofs.YtmelblnflalanaaGreat
open Go Go.RowKit
set_option linter.unusedVariables false
set_option linter.unusedSimpArgs false

def rtV (r : Int × Int) : Value := .agg #[.int .i64 r.1, .int .i64 r.2]
theorem cell_two2 {wr : World} {g : Nat} {a b : Value} {T : TypeId} (h : wr.heap[g]? = some (.cells #[a, b] T)) : wr.cell? ⟨g, 0, none⟩ = some a ∧ wr.cell? ⟨g, 1, none⟩ = some b ∧ wr.frozen? ⟨g, 0, none⟩ = false ∧ wr.frozen? ⟨g, 1, none⟩ = false := cell_two h
theorem rat_cells {wr : World} {g : Nat} {a b : Value} {T : TypeId} (h : wr.heap[g]? = some (.cells #[a, b] T)) (x y : Value) : ((wr.setCell ⟨g, 0, none⟩ x).setCell ⟨g, 1, none⟩ y).heap[g]? = some (.cells #[x, y] T) := by
  simp only [World.setCell, Array.getElem?_modify, if_true, h, Option.map_some]; rfl
/-- What made makes of a fraction's sizes. -/
def madeP (n d : Nat) (s : Bool) : (Int × Int) × Int := if fitsI (sgnI s n) = true ∧ fitsI (sgnI false d) = true then ((sgnI s n, sgnI false d), 0) else ((0, 0), 20)
theorem made_is (X D : Int) : madeP (X.natAbs / Nat.gcd X.natAbs D.natAbs) (D.natAbs / Nat.gcd X.natAbs D.natAbs) ((decide (X < 0) != decide (D < 0)) && !decide (X.natAbs / Nat.gcd X.natAbs D.natAbs = 0)) = fracP X D := by
  unfold madeP fracP
  generalize X.natAbs / Nat.gcd X.natAbs D.natAbs = n
  generalize D.natAbs / Nat.gcd X.natAbs D.natAbs = d
  generalize (decide (X < 0) != decide (D < 0)) = s
  have e : sgnI (s && !decide (n = 0)) n = sgnI s n := by
    by_cases h : n = 0
    · subst h; cases s <;> rfl
    · rw [decide_eq_false h]; simp
  have e2 : (fitsI (sgnI false d) = true) ↔ d ≤ 9223372036854775807 := by
    show decide (_ ∧ _) = true ↔ _
    rw [decide_eq_true_iff]
    show (-9223372036854775808 ≤ (d : Int) ∧ (d : Int) ≤ 9223372036854775807) ↔ _
    omega
  rw [e]
  by_cases h1 : fitsI (sgnI s n) = true
  · by_cases h2 : d ≤ 9223372036854775807
    · rw [if_pos ⟨h1, e2.2 h2⟩, if_pos ⟨h1, h2⟩]; rfl
    · rw [if_neg (fun h => h2 (e2.1 h.2)), if_neg (fun h => h2 h.2)]
  · rw [if_neg (fun h => h1 h.1), if_neg (fun h => h1 h.1)]

set_option maxRecDepth 100000 in
set_option maxHeartbeats 8000000 in
theorem made_sg (a b : Nat) (sa sb : Bool) (w : World) (ha : a ≤ 170141183460469231731687303715884105728) (hb0 : 0 < b) (hb : b ≤ 170141183460469231731687303715884105728) :
    Calls Tryz.prog 56 #[sgV a sa, sgV b sb] w fun e w' => e = .returned (.tuple #[rtV (madeP (a / Nat.gcd a b) (b / Nat.gcd a b) ((sa != sb) && !decide (a / Nat.gcd a b = 0))).1, .int .i64 (madeP (a / Nat.gcd a b) (b / Nat.gcd a b) ((sa != sb) && !decide (a / Nat.gcd a b = 0))).2]) ∧ Below w.heap.size w w' := by
  have hg : 0 < Nat.gcd a b := Nat.gcd_pos_of_pos_right _ hb0
  have hgb : Nat.gcd a b ≤ b := Nat.le_of_dvd hb0 (Nat.gcd_dvd_right _ _)
  have HC : Hid (∀ W, Calls Tryz.prog 86 #[.agg #[.int .u64 (hiN a), .int .u64 (loN a)], .agg #[.int .u64 (hiN b), .int .u64 (loN b)]] W fun e w' => e = .returned (.agg #[.int .u64 (hiN (Nat.gcd a b)), .int .u64 (loN (Nat.gcd a b))]) ∧ Below W.heap.size W w') := Lib.hid (fun W => common_any a b ha hb W)
  obtain ⟨G, hG⟩ : ∃ G, G = Nat.gcd a b := ⟨_, rfl⟩
  rw [← hG] at hg hgb HC ⊢
  clear hG
  have HO1 : Hid (∀ W, Calls Tryz.prog 87 #[.agg #[.int .u64 (hiN a), .int .u64 (loN a)], .agg #[.int .u64 (hiN G), .int .u64 (loN G)]] W fun e w' => e = .returned (.tuple #[.agg #[.int .u64 (hiN (a / G)), .int .u64 (loN (a / G))], .agg #[.int .u64 (hiN (a % G)), .int .u64 (loN (a % G))]]) ∧ Below W.heap.size W w') := Lib.hid (fun W => over_any a G (by omega) hg (by omega) W)
  have HO2 : Hid (∀ W, Calls Tryz.prog 87 #[.agg #[.int .u64 (hiN b), .int .u64 (loN b)], .agg #[.int .u64 (hiN G), .int .u64 (loN G)]] W fun e w' => e = .returned (.tuple #[.agg #[.int .u64 (hiN (b / G)), .int .u64 (loN (b / G))], .agg #[.int .u64 (hiN (b % G)), .int .u64 (loN (b % G))]]) ∧ Below W.heap.size W w') := Lib.hid (fun W => over_any b G (by omega) hg (by omega) W)
  have hn1 : a / G ≤ a := Nat.div_le_self _ _
  have hd1 : b / G ≤ b := Nat.div_le_self _ _
  obtain ⟨n, hn⟩ : ∃ n, n = a / G := ⟨_, rfl⟩
  obtain ⟨d, hd⟩ : ∃ d, d = b / G := ⟨_, rfl⟩
  obtain ⟨m1, hm1⟩ : ∃ m, m = a % G := ⟨_, rfl⟩
  obtain ⟨m2, hm2⟩ : ∃ m, m = b % G := ⟨_, rfl⟩
  rw [← hn] at HO1 hn1 ⊢
  rw [← hd] at HO2 hd1 ⊢
  rw [← hm1] at HO1
  rw [← hm2] at HO2
  clear hn hd hm1 hm2
  have HZ : Hid (∀ W, Calls Tryz.prog 88 #[.agg #[.int .u64 (hiN n), .int .u64 (loN n)]] W fun e w' => e = .returned (.bool (decide (n = 0))) ∧ Below W.heap.size W w') := Lib.hid (fun W => szero_any n W)
  obtain ⟨z, hz⟩ : ∃ z, decide (n = 0) = z := ⟨_, rfl⟩
  obtain ⟨sx, hsx⟩ : ∃ sx, (!(sa == sb)) = sx := ⟨_, rfl⟩
  rw [hz] at HZ
  rw [hz, show (sa != sb) = sx from hsx]
  clear hz
  obtain ⟨sg, hsg⟩ : ∃ sg, (sx && !z) = sg := ⟨_, rfl⟩
  rw [hsg]
  have HN1 : Hid (∀ W, Calls Tryz.prog 89 #[.agg #[.int .u64 (hiN n), .int .u64 (loN n), .bool sg]] W fun e w' => e = .returned (.tuple #[.int .i64 (if fitsI (sgnI sg n) = true then sgnI sg n else 0), .bool (fitsI (sgnI sg n))]) ∧ Below W.heap.size W w') := Lib.hid (fun W => number_sg n sg (by omega) W)
  have HN2 : Hid (∀ W, Calls Tryz.prog 89 #[.agg #[.int .u64 (hiN d), .int .u64 (loN d), .bool false]] W fun e w' => e = .returned (.tuple #[.int .i64 (if fitsI (sgnI false d) = true then sgnI false d else 0), .bool (fitsI (sgnI false d))]) ∧ Below W.heap.size W w') := Lib.hid (fun W => number_sg d false (by omega) W)
  have HMP := Lib.hid (show madeP n d sg = if fitsI (sgnI sg n) = true ∧ fitsI (sgnI false d) = true then ((sgnI sg n, sgnI false d), 0) else ((0, 0), 20) from rfl)
  obtain ⟨f1, hf1⟩ : ∃ f, f = fitsI (sgnI sg n) := ⟨_, rfl⟩
  obtain ⟨f2, hf2⟩ : ∃ f, f = fitsI (sgnI false d) := ⟨_, rfl⟩
  obtain ⟨x, hx⟩ : ∃ x, x = sgnI sg n := ⟨_, rfl⟩
  obtain ⟨y, hy⟩ : ∃ y, y = sgnI false d := ⟨_, rfl⟩
  rw [← hf1, ← hx] at HN1
  rw [← hf2, ← hy] at HN2
  rw [← hf1, ← hf2, ← hx, ← hy] at HMP
  obtain ⟨MP, hMP⟩ : ∃ MP, MP = madeP n d sg := ⟨_, rfl⟩
  rw [← hMP]
  have HM := Lib.hid (hMP.trans HMP.out)
  clear hMP
  obtain ⟨x1, hx1⟩ : ∃ t, t = if f1 = true then x else 0 := ⟨_, rfl⟩
  obtain ⟨y1, hy1⟩ : ∃ t, t = if f2 = true then y else 0 := ⟨_, rfl⟩
  rw [← hx1] at HN1
  rw [← hy1] at HN2
  have HX1 := Lib.hid hx1
  have HY1 := Lib.hid hy1
  clear hf1 hf2 hx hy HMP hg hgb hn1 hd1 ha hb0 hb hx1 hy1
  have hz3 : ∀ (w : World) (o : Obj), (w.alloc o).heap.size = w.heap.size + 1 := fun w o => by simp
  obtain ⟨q1, q2⟩ := two_fr w (.cells #[.int .u64 (hiN a), .int .u64 (loN a), .bool sa] 92) (.cells #[.int .u64 (hiN b), .int .u64 (loN b), .bool sb] 92)
  have q3 := heap_alloc_new ((w.alloc (.cells #[.int .u64 (hiN a), .int .u64 (loN a), .bool sa] 92)).alloc (.cells #[.int .u64 (hiN b), .int .u64 (loN b), .bool sb] 92)) (.cells #[.int .i64 0, .int .i64 0] 24)
  simp only [hz3] at q3
  have H2 := Lib.hid ((heap_alloc_old _ (.cells #[.int .i64 0, .int .i64 0] 24) (heap_lt2 q1)).trans q1)
  have H3 := Lib.hid ((heap_alloc_old _ (.cells #[.int .i64 0, .int .i64 0] 24) (heap_lt2 q2)).trans q2)
  have H4 := Lib.hid q3
  have HB := Lib.hid (below_three w (.cells #[.int .u64 (hiN a), .int .u64 (loN a), .bool sa] 92) (.cells #[.int .u64 (hiN b), .int .u64 (loN b), .bool sb] 92) (.cells #[.int .i64 0, .int .i64 0] 24))
  clear q1 q2 q3 hz3
  unfold sgV
  go_enter Tryz.func56, Tryz.ntmps56
  go_upto_region 1 with fail
  generalize ((w.alloc (.cells #[.int .u64 (hiN a), .int .u64 (loN a), .bool sa] 92)).alloc (.cells #[.int .u64 (hiN b), .int .u64 (loN b), .bool sb] 92)).alloc (.cells #[.int .i64 0, .int .i64 0] 24) = w1 at *
  obtain ⟨g4, hg4⟩ : ∃ g, g = w.heap.size + 1 + 1 := ⟨_, rfl⟩
  rw [← hg4] at H4 ⊢
  obtain ⟨g3, hg3⟩ : ∃ g, g = w.heap.size + 1 := ⟨_, rfl⟩
  rw [← hg3] at H3 ⊢
  have hle : w.heap.size ≤ g4 := by omega
  clear hg4 hg3
  obtain ⟨k20, k21, k22, _⟩ := cell_three H2.out
  obtain ⟨k30, k31, k32, _⟩ := cell_three H3.out
  go_wp2_with fail
  refine (HC.out _).mono ?_
  rintro e w2 ⟨rfl, hb⟩
  clear k20 k21 k22 k30 k31 k32
  have H2' := Lib.hid (heap_keep H2.out hb)
  have H3' := Lib.hid (heap_keep H3.out hb)
  have H4' := Lib.hid (heap_keep H4.out hb)
  have HB' := Lib.hid (HB.out.trans (hb.mono HB.out.size))
  clear HB H2 H3 H4
  have H2 := H2'
  have H3 := H3'
  have H4 := H4'
  have HB := HB'
  clear HB' H2' H3' H4'
  clear hb
  go_upto_region 2 with fail
  have hb := below_one w2 (.cells #[.int .u64 (hiN G), .int .u64 (loN G)] 90)
  have q := heap_alloc_new w2 (.cells #[.int .u64 (hiN G), .int .u64 (loN G)] 90)
  have H6 := Lib.hid q
  have H2' := Lib.hid (heap_keep H2.out hb)
  have H3' := Lib.hid (heap_keep H3.out hb)
  have H4' := Lib.hid (heap_keep H4.out hb)
  have HB' := Lib.hid (HB.out.trans (hb.mono HB.out.size))
  clear HB H2 H3 H4
  have H2 := H2'
  have H3 := H3'
  have H4 := H4'
  have HB := HB'
  clear HB' H2' H3' H4'
  generalize w2.alloc (.cells #[.int .u64 (hiN G), .int .u64 (loN G)] 90) = w3 at *
  obtain ⟨g6, hg6⟩ : ∃ g, g = w2.heap.size := ⟨_, rfl⟩
  rw [← hg6] at H6 ⊢
  clear hb q hg6
  obtain ⟨k20, k21, k22, _⟩ := cell_three H2.out
  obtain ⟨k60, k61, k62, k63⟩ := cell_two2 H6.out
  go_wp2_with fail
  refine (HO1.out _).mono ?_
  rintro e w4 ⟨rfl, hb⟩
  clear k20 k21 k22 k60 k61 k62 k63
  have H2' := Lib.hid (heap_keep H2.out hb)
  have H3' := Lib.hid (heap_keep H3.out hb)
  have H4' := Lib.hid (heap_keep H4.out hb)
  have H6' := Lib.hid (heap_keep H6.out hb)
  have HB' := Lib.hid (HB.out.trans (hb.mono HB.out.size))
  clear HB H2 H3 H4 H6
  have H2 := H2'
  have H3 := H3'
  have H4 := H4'
  have H6 := H6'
  have HB := HB'
  clear HB' H2' H3' H4' H6'
  clear hb
  have HF := Lib.hid (two_fr w4 (.cells #[.int .u64 0, .int .u64 0] 90) (.cells #[.int .u64 0, .int .u64 0] 90))
  go_upto_region 3 with (first | (refine wpList_store_row rfl 90 _ _ rfl w4.heap.size _ rfl rfl 90 _ HF.out.1 (by kernel_rfl) rfl (by kernel_rfl) ?_) | (refine wpList_store_row rfl 90 _ _ rfl (w4.heap.size + 1) _ rfl rfl 90 _ (second_fr _ HF.out.2) (by kernel_rfl) rfl (by kernel_rfl) ?_))
  obtain ⟨hb, q, _⟩ := pair_st w4 90 90 #[.int .u64 0, .int .u64 0] #[.int .u64 0, .int .u64 0] #[.int .u64 (hiN n), .int .u64 (loN n)] #[.int .u64 (hiN m1), .int .u64 (loN m1)]
  have H7 := Lib.hid q
  have H2' := Lib.hid (heap_keep H2.out hb)
  have H3' := Lib.hid (heap_keep H3.out hb)
  have H4' := Lib.hid (heap_keep H4.out hb)
  have H6' := Lib.hid (heap_keep H6.out hb)
  have HB' := Lib.hid (HB.out.trans (hb.mono HB.out.size))
  clear HB H2 H3 H4 H6
  have H2 := H2'
  have H3 := H3'
  have H4 := H4'
  have H6 := H6'
  have HB := HB'
  clear HB' H2' H3' H4' H6'
  generalize (((w4.alloc (.cells #[.int .u64 0, .int .u64 0] 90)).alloc (.cells #[.int .u64 0, .int .u64 0] 90)).setRow w4.heap.size #[.int .u64 (hiN n), .int .u64 (loN n)]).setRow (w4.heap.size + 1) #[.int .u64 (hiN m1), .int .u64 (loN m1)] = w5 at *
  obtain ⟨g7, hg7⟩ : ∃ g, g = w4.heap.size := ⟨_, rfl⟩
  rw [← hg7] at H7 ⊢
  clear hb q hg7 HF
  obtain ⟨k30, k31, k32, _⟩ := cell_three H3.out
  obtain ⟨k60, k61, k62, k63⟩ := cell_two2 H6.out
  go_wp2_with fail
  refine (HO2.out _).mono ?_
  rintro e w6 ⟨rfl, hb⟩
  clear k30 k31 k32 k60 k61 k62 k63
  have H2' := Lib.hid (heap_keep H2.out hb)
  have H3' := Lib.hid (heap_keep H3.out hb)
  have H4' := Lib.hid (heap_keep H4.out hb)
  have H6' := Lib.hid (heap_keep H6.out hb)
  have H7' := Lib.hid (heap_keep H7.out hb)
  have HB' := Lib.hid (HB.out.trans (hb.mono HB.out.size))
  clear HB H2 H3 H4 H6 H7
  have H2 := H2'
  have H3 := H3'
  have H4 := H4'
  have H6 := H6'
  have H7 := H7'
  have HB := HB'
  clear HB' H2' H3' H4' H6' H7'
  clear hb
  have HF := Lib.hid (two_fr w6 (.cells #[.int .u64 0, .int .u64 0] 90) (.cells #[.int .u64 0, .int .u64 0] 90))
  go_upto_region 4 with (first | (refine wpList_store_row rfl 90 _ _ rfl w6.heap.size _ rfl rfl 90 _ HF.out.1 (by kernel_rfl) rfl (by kernel_rfl) ?_) | (refine wpList_store_row rfl 90 _ _ rfl (w6.heap.size + 1) _ rfl rfl 90 _ (second_fr _ HF.out.2) (by kernel_rfl) rfl (by kernel_rfl) ?_))
  obtain ⟨hb, q, _⟩ := pair_st w6 90 90 #[.int .u64 0, .int .u64 0] #[.int .u64 0, .int .u64 0] #[.int .u64 (hiN d), .int .u64 (loN d)] #[.int .u64 (hiN m2), .int .u64 (loN m2)]
  have H9 := Lib.hid q
  have H2' := Lib.hid (heap_keep H2.out hb)
  have H3' := Lib.hid (heap_keep H3.out hb)
  have H4' := Lib.hid (heap_keep H4.out hb)
  have H6' := Lib.hid (heap_keep H6.out hb)
  have H7' := Lib.hid (heap_keep H7.out hb)
  have HB' := Lib.hid (HB.out.trans (hb.mono HB.out.size))
  clear HB H2 H3 H4 H6 H7
  have H2 := H2'
  have H3 := H3'
  have H4 := H4'
  have H6 := H6'
  have H7 := H7'
  have HB := HB'
  clear HB' H2' H3' H4' H6' H7'
  generalize (((w6.alloc (.cells #[.int .u64 0, .int .u64 0] 90)).alloc (.cells #[.int .u64 0, .int .u64 0] 90)).setRow w6.heap.size #[.int .u64 (hiN d), .int .u64 (loN d)]).setRow (w6.heap.size + 1) #[.int .u64 (hiN m2), .int .u64 (loN m2)] = w7 at *
  obtain ⟨g9, hg9⟩ : ∃ g, g = w6.heap.size := ⟨_, rfl⟩
  rw [← hg9] at H9 ⊢
  clear hb q hg9 HF
  cases sx with
  | false =>
    obtain rfl : false = sg := hsg
    obtain ⟨k20, k21, k22, _⟩ := cell_three H2.out
    obtain ⟨k30, k31, k32, _⟩ := cell_three H3.out
    obtain ⟨k70, k71, k72, k73⟩ := cell_two2 H7.out
    obtain ⟨k90, k91, k92, k93⟩ := cell_two2 H9.out
    go_wp2_with fail
    refine (HN1.out _).mono ?_
    rintro e w8 ⟨rfl, hb⟩
    clear k20 k21 k22 k30 k31 k32 k70 k71 k72 k73 k90 k91 k92 k93
    have H2' := Lib.hid (heap_keep H2.out hb)
    have H3' := Lib.hid (heap_keep H3.out hb)
    have H4' := Lib.hid (heap_keep H4.out hb)
    have H6' := Lib.hid (heap_keep H6.out hb)
    have H7' := Lib.hid (heap_keep H7.out hb)
    have H9' := Lib.hid (heap_keep H9.out hb)
    have HB' := Lib.hid (HB.out.trans (hb.mono HB.out.size))
    clear HB H2 H3 H4 H6 H7 H9
    have H2 := H2'
    have H3 := H3'
    have H4 := H4'
    have H6 := H6'
    have H7 := H7'
    have H9 := H9'
    have HB := HB'
    clear HB' H2' H3' H4' H6' H7' H9'
    clear hb
    obtain ⟨k90, k91, k92, k93⟩ := cell_two2 H9.out
    go_wp2_with fail
    refine (HN2.out _).mono ?_
    rintro e w9 ⟨rfl, hb⟩
    clear k90 k91 k92 k93
    have H2' := Lib.hid (heap_keep H2.out hb)
    have H3' := Lib.hid (heap_keep H3.out hb)
    have H4' := Lib.hid (heap_keep H4.out hb)
    have H6' := Lib.hid (heap_keep H6.out hb)
    have H7' := Lib.hid (heap_keep H7.out hb)
    have H9' := Lib.hid (heap_keep H9.out hb)
    have HB' := Lib.hid (HB.out.trans (hb.mono HB.out.size))
    clear HB H2 H3 H4 H6 H7 H9
    have H2 := H2'
    have H3 := H3'
    have H4 := H4'
    have H6 := H6'
    have H7 := H7'
    have H9 := H9'
    have HB := HB'
    clear HB' H2' H3' H4' H6' H7' H9'
    clear hb
    cases f1 with
    | false =>
      obtain ⟨k40, k41, k42, k43⟩ := cell_two2 H4.out
      have T1 := Lib.hid (rat_cells H4.out (.int .i64 0) (.int .i64 0))
      have T2 := Lib.hid ((HB.out.setCell (p := ⟨g4, 0, none⟩) hle (.int .i64 0)).setCell (p := ⟨g4, 1, none⟩) hle (.int .i64 0))
      go_wp2
      refine bodyPost_ret (results_row_tmp (fn := Tryz.f56) rfl _ _ g4 _ _ _ _ rfl T1.out Tryz.underlying24 rfl (by kernel_rfl)) rfl ?_
      exact ⟨by rw [HM.out, if_neg (by simp)]; rfl, T2.out⟩
    | true =>
      cases f2 with
      | false =>
        obtain ⟨k40, k41, k42, k43⟩ := cell_two2 H4.out
        have T1 := Lib.hid (rat_cells H4.out (.int .i64 0) (.int .i64 0))
        have T2 := Lib.hid ((HB.out.setCell (p := ⟨g4, 0, none⟩) hle (.int .i64 0)).setCell (p := ⟨g4, 1, none⟩) hle (.int .i64 0))
        go_wp2
        refine bodyPost_ret (results_row_tmp (fn := Tryz.f56) rfl _ _ g4 _ _ _ _ rfl T1.out Tryz.underlying24 rfl (by kernel_rfl)) rfl ?_
        exact ⟨by rw [HM.out, if_neg (by simp)]; rfl, T2.out⟩
      | true =>
        obtain rfl : x1 = x := HX1.out.trans (if_pos rfl)
        obtain rfl : y1 = y := HY1.out.trans (if_pos rfl)
        obtain ⟨k40, k41, k42, k43⟩ := cell_two2 H4.out
        have T1 := Lib.hid (rat_cells H4.out (.int .i64 x1) (.int .i64 y1))
        have T2 := Lib.hid ((HB.out.setCell (p := ⟨g4, 0, none⟩) hle (.int .i64 x1)).setCell (p := ⟨g4, 1, none⟩) hle (.int .i64 y1))
        go_wp2
        refine bodyPost_ret (results_row_tmp (fn := Tryz.f56) rfl _ _ g4 _ _ _ _ rfl T1.out Tryz.underlying24 rfl (by kernel_rfl)) rfl ?_
        exact ⟨by rw [HM.out, if_pos (by simp)]; rfl, T2.out⟩
  | true =>
    obtain rfl : (!z) = sg := hsg
    obtain ⟨k20, k21, k22, _⟩ := cell_three H2.out
    obtain ⟨k30, k31, k32, _⟩ := cell_three H3.out
    obtain ⟨k70, k71, k72, k73⟩ := cell_two2 H7.out
    obtain ⟨k90, k91, k92, k93⟩ := cell_two2 H9.out
    go_wp2_with fail
    refine (HZ.out _).mono ?_
    rintro e w8 ⟨rfl, hb⟩
    clear k20 k21 k22 k30 k31 k32 k70 k71 k72 k73 k90 k91 k92 k93
    have H2' := Lib.hid (heap_keep H2.out hb)
    have H3' := Lib.hid (heap_keep H3.out hb)
    have H4' := Lib.hid (heap_keep H4.out hb)
    have H6' := Lib.hid (heap_keep H6.out hb)
    have H7' := Lib.hid (heap_keep H7.out hb)
    have H9' := Lib.hid (heap_keep H9.out hb)
    have HB' := Lib.hid (HB.out.trans (hb.mono HB.out.size))
    clear HB H2 H3 H4 H6 H7 H9
    have H2 := H2'
    have H3 := H3'
    have H4 := H4'
    have H6 := H6'
    have H7 := H7'
    have H9 := H9'
    have HB := HB'
    clear HB' H2' H3' H4' H6' H7' H9'
    clear hb
    obtain ⟨k70, k71, k72, k73⟩ := cell_two2 H7.out
    go_wp2_with fail
    refine (HN1.out _).mono ?_
    rintro e w9 ⟨rfl, hb⟩
    clear k70 k71 k72 k73
    have H2' := Lib.hid (heap_keep H2.out hb)
    have H3' := Lib.hid (heap_keep H3.out hb)
    have H4' := Lib.hid (heap_keep H4.out hb)
    have H6' := Lib.hid (heap_keep H6.out hb)
    have H7' := Lib.hid (heap_keep H7.out hb)
    have H9' := Lib.hid (heap_keep H9.out hb)
    have HB' := Lib.hid (HB.out.trans (hb.mono HB.out.size))
    clear HB H2 H3 H4 H6 H7 H9
    have H2 := H2'
    have H3 := H3'
    have H4 := H4'
    have H6 := H6'
    have H7 := H7'
    have H9 := H9'
    have HB := HB'
    clear HB' H2' H3' H4' H6' H7' H9'
    clear hb
    obtain ⟨k90, k91, k92, k93⟩ := cell_two2 H9.out
    go_wp2_with fail
    refine (HN2.out _).mono ?_
    rintro e w10 ⟨rfl, hb⟩
    clear k90 k91 k92 k93
    have H2' := Lib.hid (heap_keep H2.out hb)
    have H3' := Lib.hid (heap_keep H3.out hb)
    have H4' := Lib.hid (heap_keep H4.out hb)
    have H6' := Lib.hid (heap_keep H6.out hb)
    have H7' := Lib.hid (heap_keep H7.out hb)
    have H9' := Lib.hid (heap_keep H9.out hb)
    have HB' := Lib.hid (HB.out.trans (hb.mono HB.out.size))
    clear HB H2 H3 H4 H6 H7 H9
    have H2 := H2'
    have H3 := H3'
    have H4 := H4'
    have H6 := H6'
    have H7 := H7'
    have H9 := H9'
    have HB := HB'
    clear HB' H2' H3' H4' H6' H7' H9'
    clear hb
    cases f1 with
    | false =>
      obtain ⟨k40, k41, k42, k43⟩ := cell_two2 H4.out
      have T1 := Lib.hid (rat_cells H4.out (.int .i64 0) (.int .i64 0))
      have T2 := Lib.hid ((HB.out.setCell (p := ⟨g4, 0, none⟩) hle (.int .i64 0)).setCell (p := ⟨g4, 1, none⟩) hle (.int .i64 0))
      go_wp2
      refine bodyPost_ret (results_row_tmp (fn := Tryz.f56) rfl _ _ g4 _ _ _ _ rfl T1.out Tryz.underlying24 rfl (by kernel_rfl)) rfl ?_
      exact ⟨by rw [HM.out, if_neg (by simp)]; rfl, T2.out⟩
    | true =>
      cases f2 with
      | false =>
        obtain ⟨k40, k41, k42, k43⟩ := cell_two2 H4.out
        have T1 := Lib.hid (rat_cells H4.out (.int .i64 0) (.int .i64 0))
        have T2 := Lib.hid ((HB.out.setCell (p := ⟨g4, 0, none⟩) hle (.int .i64 0)).setCell (p := ⟨g4, 1, none⟩) hle (.int .i64 0))
        go_wp2
        refine bodyPost_ret (results_row_tmp (fn := Tryz.f56) rfl _ _ g4 _ _ _ _ rfl T1.out Tryz.underlying24 rfl (by kernel_rfl)) rfl ?_
        exact ⟨by rw [HM.out, if_neg (by simp)]; rfl, T2.out⟩
      | true =>
        obtain rfl : x1 = x := HX1.out.trans (if_pos rfl)
        obtain rfl : y1 = y := HY1.out.trans (if_pos rfl)
        obtain ⟨k40, k41, k42, k43⟩ := cell_two2 H4.out
        have T1 := Lib.hid (rat_cells H4.out (.int .i64 x1) (.int .i64 y1))
        have T2 := Lib.hid ((HB.out.setCell (p := ⟨g4, 0, none⟩) hle (.int .i64 x1)).setCell (p := ⟨g4, 1, none⟩) hle (.int .i64 y1))
        go_wp2
        refine bodyPost_ret (results_row_tmp (fn := Tryz.f56) rfl _ _ g4 _ _ _ _ rfl T1.out Tryz.underlying24 rfl (by kernel_rfl)) rfl ?_
        exact ⟨by rw [HM.out, if_pos (by simp)]; rfl, T2.out⟩

theorem madeq_any (X D : Int) (w : World) (hX : X.natAbs ≤ 170141183460469231731687303715884105728) (hD0 : D ≠ 0) (hD : D.natAbs ≤ 170141183460469231731687303715884105728) :
    Calls Tryz.prog 56 #[wdV X, wdV D] w fun e w' => e = .returned (.tuple #[rtV (fracP X D).1, .int .i64 (fracP X D).2]) ∧ Below w.heap.size w w' := by
  rw [← made_is]
  exact made_sg _ _ _ _ w hX (by omega) hD

end Go.Proofs.YtmelblnflalanaaGreat

/- New, Right and both of rat. -/
namespace Go.Proofs.YtmelblnflalanaaGreat
open Go Go.RowKit
set_option linter.unusedVariables false
set_option linter.unusedSimpArgs false

theorem abs_small {n : Int} (h : I64 n) : n.natAbs ≤ 170141183460469231731687303715884105728 := Nat.le_trans (abs64 h) (by omega)
set_option maxRecDepth 100000 in
set_option maxHeartbeats 2000000 in
theorem new_any (n d : Int) (hn : I64 n) (hd : I64 d) (w : World) : Calls Tryz.prog 54 #[.int .i64 n, .int .i64 d] w fun e w' => e = .returned (.tuple #[rtV (newP n d).1, .int .i64 (newP n d).2]) ∧ Below w.heap.size w w' := by
  have h1 := heap_alloc_new w (.cells #[.int .i64 0, .int .i64 0] 24)
  have H1 := Lib.hid h1
  have HB := Lib.hid (below_one w (.cells #[.int .i64 0, .int .i64 0] 24))
  have hle : w.heap.size ≤ w.heap.size := Nat.le_refl _
  clear h1
  by_cases h0 : d = 0
  · have e : newP n d = ((0, 0), 21) := by unfold newP; rw [if_pos h0]
    rw [e]
    subst h0
    clear e
    go_enter Tryz.func54, Tryz.ntmps54
    go_upto_region 1 with fail
    generalize w.alloc (.cells #[.int .i64 0, .int .i64 0] 24) = w1 at *
    obtain ⟨k1, k2, k3, k4⟩ := cell_two H1.out
    have T1 := Lib.hid (rat_cells H1.out (.int .i64 0) (.int .i64 0))
    have T2 := Lib.hid ((HB.out.setCell (p := ⟨w.heap.size, 0, none⟩) hle (.int .i64 0)).setCell (p := ⟨w.heap.size, 1, none⟩) hle (.int .i64 0))
    go_wp2
    refine bodyPost_ret (results_row_tmp (fn := Tryz.f54) rfl _ _ w.heap.size _ _ _ _ rfl T1.out Tryz.underlying24 rfl (by kernel_rfl)) rfl ?_
    exact ⟨rfl, T2.out⟩
  · have e : newP n d = fracP n d := by unfold newP; rw [if_neg h0]
    have e0 : (d == 0) = false := by simp [h0]
    have HO1 := Lib.hid (fun W => of_any2 n hn W)
    have HO2 := Lib.hid (fun W => of_any2 d hd W)
    rw [← ofq_is hn] at HO1
    rw [← ofq_is hd] at HO2
    have HM := Lib.hid (fun W => madeq_any n d W (abs_small hn) h0 (abs_small hd))
    rw [e]
    obtain ⟨M, hM⟩ : ∃ M, M = fracP n d := ⟨_, rfl⟩
    rw [← hM] at HM ⊢
    have HM : Hid (∀ W, Calls Tryz.prog 56 #[wdV n, wdV d] W fun e w' => e = .returned (.tuple #[.agg #[.int .i64 M.1.1, .int .i64 M.1.2], .int .i64 M.2]) ∧ Below W.heap.size W w') := HM
    clear e hM hn hd h0
    go_enter Tryz.func54, Tryz.ntmps54
    go_upto_region 1 with fail
    generalize w.alloc (.cells #[.int .i64 0, .int .i64 0] 24) = w1 at *
    go_wp2_with fail
    refine (HO1.out _).mono ?_
    rintro e w2 ⟨rfl, hb⟩
    have H2 := Lib.hid (heap_keep H1.out hb)
    have HB2 := Lib.hid (HB.out.trans (hb.mono HB.out.size))
    clear hb H1 HB
    go_wp2_with fail
    refine (HO2.out _).mono ?_
    rintro e w3 ⟨rfl, hb⟩
    have H3 := Lib.hid (heap_keep H2.out hb)
    have HB3 := Lib.hid (HB2.out.trans (hb.mono HB2.out.size))
    clear hb H2 HB2
    go_wp2_with fail
    refine (HM.out _).mono ?_
    rintro e w4 ⟨rfl, hb⟩
    have H4 := Lib.hid (heap_keep H3.out hb)
    have HB4 := Lib.hid (HB3.out.trans (hb.mono HB3.out.size))
    clear hb H3 HB3
    obtain ⟨k1, k2, k3, k4⟩ := cell_two H4.out
    have T1 := Lib.hid (rat_cells H4.out (.int .i64 M.1.1) (.int .i64 M.1.2))
    have T2 := Lib.hid ((HB4.out.setCell (p := ⟨w.heap.size, 0, none⟩) hle (.int .i64 M.1.1)).setCell (p := ⟨w.heap.size, 1, none⟩) hle (.int .i64 M.1.2))
    go_wp2
    refine bodyPost_ret (results_row_tmp (fn := Tryz.f54) rfl _ _ w.heap.size _ _ _ _ rfl T1.out Tryz.underlying24 rfl (by kernel_rfl)) rfl ?_
    exact ⟨rfl, T2.out⟩

/-- What Right tells of two words. -/
theorem right_is {x y : Int} (hx : I64 x) (hy : I64 y) : rightR (x, y) = if y < 1 then false else (decide ((newP x y).2 = 0) && (decide ((newP x y).1.1 = x) && decide ((newP x y).1.2 = y))) := by
  by_cases h : y < 1
  · rw [if_pos h]; exact decide_eq_false (fun h' => by have : (0 : Int) < y := h'.1; omega)
  · rw [if_neg h]
    have h0 : y ≠ 0 := by omega
    have e : newP x y = fracP x y := by unfold newP; rw [if_neg h0]
    rw [e, Bool.eq_iff_iff, Bool.and_eq_true, Bool.and_eq_true, decide_eq_true_iff, decide_eq_true_iff, decide_eq_true_iff]
    constructor
    · intro hr
      have h1 := right_frac (r := (x, y)) hr (decide_eq_true hx) hy.2
      rw [h1]
      exact ⟨rfl, rfl, rfl⟩
    · rintro ⟨h1, h2, h3⟩
      have h4 := (frac_right h0 h1).1
      have h5 : (fracP x y).1 = (x, y) := Prod.ext h2 h3
      rw [h5] at h4
      exact h4
set_option maxRecDepth 100000 in
set_option maxHeartbeats 2000000 in
theorem rightq_any (x y : Int) (hx : I64 x) (hy : I64 y) (w : World) : Calls Tryz.prog 19 #[.agg #[.int .i64 x, .int .i64 y]] w fun e w' => e = .returned (.bool (rightR (x, y))) ∧ Below w.heap.size w w' := by
  rw [right_is hx hy]
  have HN := Lib.hid (fun W => new_any x y hx hy W)
  have h1 := heap_alloc_new w (.cells #[.int .i64 x, .int .i64 y] 24)
  have H1 := Lib.hid h1
  have HB := Lib.hid (below_one w (.cells #[.int .i64 x, .int .i64 y] 24))
  clear h1
  by_cases h : y < 1
  · rw [if_pos h]
    have hd : decide (y < 1) = true := decide_eq_true h
    go_enter Tryz.func19, Tryz.ntmps19
    go_wp2
    go_ret
    exact ⟨rfl, HB.out⟩
  · rw [if_neg h]
    have hd : decide (y < 1) = false := decide_eq_false h
    obtain ⟨M, hM⟩ : ∃ M, M = newP x y := ⟨_, rfl⟩
    rw [← hM] at HN ⊢
    have HN : Hid (∀ W, Calls Tryz.prog 54 #[.int .i64 x, .int .i64 y] W fun e w' => e = .returned (.tuple #[.agg #[.int .i64 M.1.1, .int .i64 M.1.2], .int .i64 M.2]) ∧ Below W.heap.size W w') := HN
    clear hM
    obtain ⟨⟨m1, m2⟩, m3⟩ := M
    obtain ⟨R, hR⟩ : ∃ R, R = (decide (m3 = 0) && (decide (m1 = x) && decide (m2 = y))) := ⟨_, rfl⟩
    have HR := Lib.hid hR
    rw [← hR]
    clear hR
    go_enter Tryz.func19, Tryz.ntmps19
    go_upto_region 1 with fail
    generalize w.alloc (.cells #[.int .i64 x, .int .i64 y] 24) = w1 at *
    obtain ⟨k1, k2, _, _⟩ := cell_two H1.out
    go_wp2_with fail
    refine (HN.out _).mono ?_
    rintro e w2 ⟨rfl, hb⟩
    have H2 := Lib.hid (heap_keep H1.out hb)
    have HB2 := Lib.hid (HB.out.trans (hb.mono HB.out.size))
    clear hb H1 HB k1 k2
    go_upto_region 4 with fail
    have HB3 := Lib.hid (HB2.out.alloc HB2.out.size (.cells #[.int .i64 m1, .int .i64 m2] 24))
    have H3 := Lib.hid (heap_keep H2.out (below_one w2 (.cells #[.int .i64 m1, .int .i64 m2] 24)))
    have H4 := Lib.hid (heap_alloc_new w2 (.cells #[.int .i64 m1, .int .i64 m2] 24))
    generalize w2.alloc (.cells #[.int .i64 m1, .int .i64 m2] 24) = w3 at *
    obtain ⟨k1, k2, _, _⟩ := cell_two H3.out
    obtain ⟨k3, k4, _, _⟩ := cell_two H4.out
    clear H2 HB2 H3 H4
    by_cases e3 : m3 = 0
    · have f3 : (m3 == 0) = true := by simp [e3]
      by_cases e1 : m1 = x
      · have f1 : (m1 == x) = true := by simp [e1]
        by_cases e2 : m2 = y
        · have f2 : (m2 == y) = true := by simp [e2]
          have HR2 := Lib.hid (show R = true by rw [HR.out, e1, e2, e3]; simp)
          clear HR
          go_wp2
          go_ret
          exact ⟨by rw [HR2.out]; first | rfl | simp [e1, e2], HB3.out⟩
        · have f2 : (m2 == y) = false := by simp [e2]
          have HR2 := Lib.hid (show R = false by rw [HR.out]; simp [e2])
          clear HR
          go_wp2
          go_ret
          exact ⟨by rw [HR2.out]; first | rfl | simp [e1, e2], HB3.out⟩
      · have f1 : (m1 == x) = false := by simp [e1]
        have HR2 := Lib.hid (show R = false by rw [HR.out]; simp [e1])
        clear HR
        go_wp2
        go_ret
        exact ⟨by rw [HR2.out]; first | rfl | simp [e1], HB3.out⟩
    · have f3 : (m3 == 0) = false := by simp [e3]
      have HR2 := Lib.hid (show R = false by rw [HR.out]; simp [e3])
      clear HR
      go_wp2
      go_ret
      exact ⟨by rw [HR2.out]; rfl, HB3.out⟩

set_option maxRecDepth 100000 in
set_option maxHeartbeats 2000000 in
theorem both_any (x1 x2 y1 y2 : Int) (hx1 : I64 x1) (hx2 : I64 x2) (hy1 : I64 y1) (hy2 : I64 y2) (w : World) :
    Calls Tryz.prog 55 #[.agg #[.int .i64 x1, .int .i64 x2], .agg #[.int .i64 y1, .int .i64 y2]] w fun e w' => e = .returned (.bool (rightR (x1, x2) && rightR (y1, y2))) ∧ Below w.heap.size w w' := by
  have HA := Lib.hid (fun W => rightq_any x1 x2 hx1 hx2 W)
  have HC := Lib.hid (fun W => rightq_any y1 y2 hy1 hy2 W)
  obtain ⟨ra, hra⟩ : ∃ ra, ra = rightR (x1, x2) := ⟨_, rfl⟩
  obtain ⟨rb, hrb⟩ : ∃ rb, rb = rightR (y1, y2) := ⟨_, rfl⟩
  rw [← hra] at HA ⊢
  rw [← hrb] at HC ⊢
  clear hra hrb hx1 hx2 hy1 hy2
  obtain ⟨q1, q2⟩ := two_fr w (.cells #[.int .i64 x1, .int .i64 x2] 24) (.cells #[.int .i64 y1, .int .i64 y2] 24)
  have H1 := Lib.hid q1
  have H2 := Lib.hid q2
  have HB := Lib.hid (below_two w (.cells #[.int .i64 x1, .int .i64 x2] 24) (.cells #[.int .i64 y1, .int .i64 y2] 24))
  clear q1 q2
  go_enter Tryz.func55, Tryz.ntmps55
  go_upto_region 1 with fail
  generalize (w.alloc (.cells #[.int .i64 x1, .int .i64 x2] 24)).alloc (.cells #[.int .i64 y1, .int .i64 y2] 24) = w1 at *
  obtain ⟨k1, k2, _, _⟩ := cell_two H1.out
  go_wp2_with fail
  refine (HA.out _).mono ?_
  rintro e w2 ⟨rfl, hb⟩
  have H3 := Lib.hid (heap_keep H2.out hb)
  have HB2 := Lib.hid (HB.out.trans (hb.mono HB.out.size))
  clear hb H1 H2 HB k1 k2
  obtain ⟨k1, k2, _, _⟩ := cell_two H3.out
  cases ra with
  | false =>
    go_wp2
    go_ret
    exact ⟨rfl, HB2.out⟩
  | true =>
    go_wp2_with fail
    refine (HC.out _).mono ?_
    rintro e w3 ⟨rfl, hb⟩
    have HB3 := Lib.hid (HB2.out.trans (hb.mono HB2.out.size))
    clear hb k1 k2
    go_wp2
    go_ret
    exact ⟨by simp, HB3.out⟩

end Go.Proofs.YtmelblnflalanaaGreat
