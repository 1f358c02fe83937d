/- The lowest bit of numbers of 64 bits. -/
import Derived.WalkKit
namespace Go.Proofs.YtdeblempnmklfaaDoor
open Go Go.RowKit

theorem i64_and1 (x : Int) : bits .and .i64 x 1 = x % 2 := by
  show IntKind.i64.wrap ((BitVec.ofInt 64 x &&& BitVec.ofInt 64 1).toNat : Int) = _
  rw [BitVec.toNat_and]
  have e1 : (BitVec.ofInt 64 1).toNat = 1 := by decide
  rw [e1, Nat.and_one_is_mod, BitVec.toNat_ofInt, IntKind.wrap_i64]
  omega
theorem i64_and_and1 (x y : Int) : bits .and .i64 (bits .and .i64 x y) 1 = (x % 2) * (y % 2) := by
  rw [i64_and1]
  have h0 : bits .and .i64 x y = IntKind.i64.wrap ((BitVec.ofInt 64 x &&& BitVec.ofInt 64 y).toNat : Int) := rfl
  rw [h0, BitVec.toNat_and, IntKind.wrap_i64]
  have h := Nat.and_mod_two_pow (a := (BitVec.ofInt 64 x).toNat) (b := (BitVec.ofInt 64 y).toNat) (n := 1)
  simp only [Nat.pow_one] at h
  generalize hz : (BitVec.ofInt 64 x).toNat &&& (BitVec.ofInt 64 y).toNat = z at h ⊢
  have hx : (BitVec.ofInt 64 x).toNat % 2 = (x % 2).toNat := by rw [BitVec.toNat_ofInt]; omega
  have hy : (BitVec.ofInt 64 y).toNat % 2 = (y % 2).toNat := by rw [BitVec.toNat_ofInt]; omega
  rw [hx, hy] at h
  clear hx hy hz h0
  have cx : x % 2 = 0 ∨ x % 2 = 1 := by omega
  have cy : y % 2 = 0 ∨ y % 2 = 1 := by omega
  rcases cx with cx | cx <;> rcases cy with cy | cy <;> rw [cx, cy] at h ⊢
  · have h2 : z % 2 = 0 := h
    omega
  · have h2 : z % 2 = 0 := h
    omega
  · have h2 : z % 2 = 0 := h
    omega
  · have h2 : z % 2 = 1 := h
    omega
theorem i64_andNot1 (x : Int) (h0 : -9223372036854775808 ≤ x) (h1 : x ≤ 9223372036854775807) : bits .andNot .i64 x 1 = x - x % 2 := by
  show IntKind.i64.wrap ((BitVec.ofInt 64 x &&& ~~~ BitVec.ofInt 64 1).toNat : Int) = _
  have e : BitVec.ofInt 64 x &&& ~~~ BitVec.ofInt 64 1 = (BitVec.ofInt 64 x >>> 1) <<< 1 := by
    ext i hi
    simp only [BitVec.getElem_and, BitVec.getElem_not, BitVec.getElem_shiftLeft]
    by_cases h : i = 0
    · subst h; simp; 
    · have : (BitVec.ofInt 64 1)[i] = false := by
        have : BitVec.ofInt 64 1 = BitVec.twoPow 64 0 := by decide
        rw [this, BitVec.getElem_twoPow]; simp; omega
      rw [this]
      have : ¬ i < 1 := by omega
      simp [this]
      rw [← BitVec.getLsbD_eq_getElem]
      congr 1; omega
  rw [e, BitVec.toNat_shiftLeft, BitVec.toNat_ushiftRight, BitVec.toNat_ofInt, IntKind.wrap_i64, Nat.shiftLeft_eq, Nat.shiftRight_eq_div_pow]
  omega
end Go.Proofs.YtdeblempnmklfaaDoor
