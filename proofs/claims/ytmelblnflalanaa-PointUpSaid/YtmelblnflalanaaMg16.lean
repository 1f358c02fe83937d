/- Texts of ours, laid together: Ub. -/
import Derived.Test.YtmelblnflalanaaMg15
/- What PointUp tells. -/
namespace Go.Proofs.Ytmelblnflalanaa
open Go Go.RowKit
set_option linter.unusedVariables false
set_option linter.unusedSimpArgs false

theorem zsv_one {w : World} {v : Value} {z : Option (Nat × Mat)} (e : TypeId) (h : ZoneV 109 w v z) : ZsV (w.alloc (.cells #[v] e (0, 0))) (some ⟨w.heap.size, 0, none⟩) [v] [z] := by
  refine ⟨ptrs_new w e [v], rfl, fun j hj => ?_⟩
  have e0 : j = 0 := by simpa using hj
  subst e0
  exact h.below ((Below.refl _ _).alloc (Nat.le_refl _) _)
theorem zsv_of {w : World} {A : Option Addr} {v : Value} {z : Option (Nat × Mat)} (hp : Ptrs w A [v]) (h : ZoneV 109 w v z) : ZsV w A [v] [z] := ⟨hp, rfl, fun j hj => by
  have e0 : j = 0 := by simpa using hj
  subst e0
  exact h⟩
theorem inZ_some (k : Nat) (m : Mat) (l : List (Int × Int)) : inZ (some (k, m)) l = inP k m l := rfl
theorem set64 {l : List (Int × Int)} {c n : Int} (h : All64v l) (hn : I64 n) : All64v (setA l c n).1 := fun j hj => by
  unfold setA at hj ⊢
  split at hj
  · rename_i h1
    rw [if_pos h1]
    split at hj
    · exact absurd hj (by simp)
    · rename_i h2
      rw [if_neg h2]
      split at hj
      · exact absurd hj (by simp)
      · rename_i h3
        rw [if_neg h3]
        have hj : j < (setV l c.toNat n).length := hj
        rw [setV_length] at hj
        show I64 ((setV l c.toNat n).getD j (0, 0)).1 ∧ I64 ((setV l c.toNat n).getD j (0, 0)).2
        unfold setV
        by_cases e : c.toNat - 1 = j
        · rw [List.getD_eq_getElem?_getD, e, List.getElem?_set_self hj]
          exact ⟨hn, (⟨by decide, by decide⟩ : I64 1)⟩
        · rw [List.getD_eq_getElem?_getD, List.getElem?_set_ne e, ← List.getD_eq_getElem?_getD]
          exact h j hj
  · exact absurd hj (by simp)
theorem set_short (l : List (Int × Int)) (c n : Int) : (setA l c n).1.length ≤ l.length := by
  unfold setA
  split
  · split
    · exact Nat.zero_le _
    · split
      · exact Nat.zero_le _
      · exact Nat.le_of_eq (setV_length l c.toNat n)
  · exact Nat.zero_le _
theorem wait_short (l : List (Int × Int)) (d : Int × Int) : (waitA l d).1.length ≤ l.length := by
  unfold waitA
  split
  · split
    · exact Nat.le_of_eq (waitV_length l d)
    · exact Nat.zero_le _
  · exact Nat.zero_le _

def tbPa (b b0 : Nat) (A : Option Addr) (l : List (Int × Int)) (c : Nat) (rv : Bool) : List (Nat × Nat × Value) :=
  [(0, 48, .pointer (some ⟨b, 0, none⟩)), (1, 49, .bool false), (2, 50, .bool false), (3, 51, .pointer (some ⟨b0, 0, none⟩)), (4, 52, .slice A l.length c), (5, 53, .bool rv), (6, 54, .pointer (some ⟨b0, 0, none⟩)), (7, 55, .slice A l.length c), (8, 56, .bool rv), (9, 57, .bool true), (10, 58, .bool true), (11, 6, .bool true)]
def bsPa (b b0 : Nat) (A : Option Addr) (l : List (Int × Int)) (c : Nat) (rv : Bool) : List (Nat × Value) := [(7, .pointer (some ⟨b, 0, none⟩)), (5, .pointer (some ⟨b0, 0, none⟩))]

def tbPbTT (b b0 : Nat) (vr : Value) (A5 : Option Addr) (l sl : List (Int × Int)) (c c5 bv ov j : Nat) (nn : Int) : List (Nat × Nat × Value) :=
  [(0, 145, .int .i64 0), (1, 146, .bool true), (2, 147, .bool true), (3, 148, .int .i64 0), (4, 149, .bool true), (5, 150, .bool true), (6, 151, .bool true), (7, 152, .pointer (some ⟨b, 0, none⟩)), (8, 153, .pointer (some ⟨b0, 0, none⟩)), (9, 154, .slice (some ⟨bv, ov, none⟩) l.length c), (10, 155, .bool true), (11, 156, .bool true), (12, 157, vr), (13, 158, .slice A5 sl.length c5), (14, 159, .bool true), (15, 160, .bool false), (16, 161, .bool false), (17, 162, .bool false), (18, 163, vr), (19, 164, .pointer (some ⟨b0, 0, none⟩)), (20, 165, .slice (some ⟨bv, ov, none⟩) l.length c), (21, 166, .bool true), (22, 167, .bool true), (23, 168, .pointer (some ⟨b0, 0, none⟩)), (24, 169, .slice (some ⟨bv, ov, none⟩) l.length c), (25, 170, .pointer (some ⟨b0, 3, none⟩)), (26, 171, .int .i64 ((j : Int) + 1)), (27, 172, .int .i64 (j : Int)), (28, 173, .pointer (some ⟨bv, ov + j * 2, none⟩)), (29, 174, .agg #[.int .i64 nn, .int .i64 1]), (30, 175, .pointer (some ⟨b0, 4, none⟩)), (31, 176, .int .i64 nn), (32, 177, .agg #[.int .i64 nn, .int .i64 1]), (33, 178, .bool false), (34, 179, .bool false), (35, 180, .bool false), (36, 181, .bool false)]
def bsPbTT (b b0 : Nat) (vr : Value) (A5 : Option Addr) (l sl : List (Int × Int)) (c c5 bv ov j : Nat) (nn : Int) : List (Nat × Value) := [(7, .pointer (some ⟨b, 0, none⟩)), (5, .pointer (some ⟨b0, 0, none⟩)), (17, vr), (18, .slice A5 sl.length c5), (12, .int .i64 0), (19, .int .i64 0)]

def tbPbTF (b b0 : Nat) (vr : Value) (A A5 : Option Addr) (l sl : List (Int × Int)) (c c5 : Nat) : List (Nat × Nat × Value) :=
  [(0, 145, .int .i64 0), (1, 146, .bool true), (2, 147, .bool true), (3, 148, .int .i64 0), (4, 149, .bool true), (5, 150, .bool true), (6, 151, .bool true), (7, 152, .pointer (some ⟨b, 0, none⟩)), (8, 153, .pointer (some ⟨b0, 0, none⟩)), (9, 154, .slice A l.length c), (10, 155, .bool true), (11, 156, .bool true), (12, 157, vr), (13, 158, .slice A5 sl.length c5), (14, 159, .bool true), (15, 160, .bool false), (16, 161, .bool false), (17, 162, .bool false), (18, 163, vr), (19, 164, .pointer (some ⟨b0, 0, none⟩)), (20, 165, .slice A l.length c), (21, 166, .bool false), (22, 167, .bool false), (23, 168, undef), (24, 169, undef), (25, 170, undef), (26, 171, undef), (27, 172, undef), (28, 173, undef), (29, 174, undef), (30, 175, undef), (31, 176, undef), (32, 177, undef), (33, 178, undef), (34, 179, .bool false), (35, 180, .bool false), (36, 181, .bool false)]
def bsPbTF (b b0 : Nat) (vr : Value) (A A5 : Option Addr) (l sl : List (Int × Int)) (c c5 : Nat) : List (Nat × Value) := [(7, .pointer (some ⟨b, 0, none⟩)), (5, .pointer (some ⟨b0, 0, none⟩)), (17, vr), (18, .slice A5 sl.length c5), (12, .int .i64 0), (19, .int .i64 0)]

def tbPbFT (b b0 : Nat) (vr : Value) (A5 : Option Addr) (l sl : List (Int × Int)) (c c5 bv ov j : Nat) (nn : Int) : List (Nat × Nat × Value) :=
  [(0, 145, .int .i64 0), (1, 146, .bool true), (2, 147, .bool true), (3, 148, .int .i64 0), (4, 149, .bool true), (5, 150, .bool true), (6, 151, .bool true), (7, 152, .pointer (some ⟨b, 0, none⟩)), (8, 153, .pointer (some ⟨b0, 0, none⟩)), (9, 154, .slice (some ⟨bv, ov, none⟩) l.length c), (10, 155, .bool false), (11, 156, .bool false), (12, 157, undef), (13, 158, undef), (14, 159, undef), (15, 160, undef), (16, 161, .bool false), (17, 162, .bool false), (18, 163, vr), (19, 164, .pointer (some ⟨b0, 0, none⟩)), (20, 165, .slice (some ⟨bv, ov, none⟩) l.length c), (21, 166, .bool true), (22, 167, .bool true), (23, 168, .pointer (some ⟨b0, 0, none⟩)), (24, 169, .slice (some ⟨bv, ov, none⟩) l.length c), (25, 170, .pointer (some ⟨b0, 3, none⟩)), (26, 171, .int .i64 ((j : Int) + 1)), (27, 172, .int .i64 (j : Int)), (28, 173, .pointer (some ⟨bv, ov + j * 2, none⟩)), (29, 174, .agg #[.int .i64 nn, .int .i64 1]), (30, 175, .pointer (some ⟨b0, 4, none⟩)), (31, 176, .int .i64 nn), (32, 177, .agg #[.int .i64 nn, .int .i64 1]), (33, 178, .bool false), (34, 179, .bool false), (35, 180, .bool false), (36, 181, .bool false)]
def bsPbFT (b b0 : Nat) (vr : Value) (A5 : Option Addr) (l sl : List (Int × Int)) (c c5 bv ov j : Nat) (nn : Int) : List (Nat × Value) := [(7, .pointer (some ⟨b, 0, none⟩)), (5, .pointer (some ⟨b0, 0, none⟩)), (17, vr), (18, .slice A5 sl.length c5), (12, .int .i64 0), (19, .int .i64 0)]

def tbPbFF (b b0 : Nat) (vr : Value) (A A5 : Option Addr) (l sl : List (Int × Int)) (c c5 : Nat) : List (Nat × Nat × Value) :=
  [(0, 145, .int .i64 0), (1, 146, .bool true), (2, 147, .bool true), (3, 148, .int .i64 0), (4, 149, .bool true), (5, 150, .bool true), (6, 151, .bool true), (7, 152, .pointer (some ⟨b, 0, none⟩)), (8, 153, .pointer (some ⟨b0, 0, none⟩)), (9, 154, .slice A l.length c), (10, 155, .bool false), (11, 156, .bool false), (12, 157, undef), (13, 158, undef), (14, 159, undef), (15, 160, undef), (16, 161, .bool false), (17, 162, .bool false), (18, 163, vr), (19, 164, .pointer (some ⟨b0, 0, none⟩)), (20, 165, .slice A l.length c), (21, 166, .bool false), (22, 167, .bool false), (23, 168, undef), (24, 169, undef), (25, 170, undef), (26, 171, undef), (27, 172, undef), (28, 173, undef), (29, 174, undef), (30, 175, undef), (31, 176, undef), (32, 177, undef), (33, 178, undef), (34, 179, .bool false), (35, 180, .bool false), (36, 181, .bool false)]
def bsPbFF (b b0 : Nat) (vr : Value) (A A5 : Option Addr) (l sl : List (Int × Int)) (c c5 : Nat) : List (Nat × Value) := [(7, .pointer (some ⟨b, 0, none⟩)), (5, .pointer (some ⟨b0, 0, none⟩)), (17, vr), (18, .slice A5 sl.length c5), (12, .int .i64 0), (19, .int .i64 0)]

def tbPc (b b0 : Nat) (vr : Value) (A5 : Option Addr) (sl : List (Int × Int)) (c5 : Nat) (re se : Int) : List (Nat × Nat × Value) :=
  [(0, 145, .int .i64 re), (1, 146, .bool false), (2, 147, .bool false), (3, 148, undef), (4, 149, undef), (5, 150, .bool false), (6, 151, .bool false), (7, 152, undef), (8, 153, undef), (9, 154, undef), (10, 155, undef), (11, 156, undef), (12, 157, undef), (13, 158, undef), (14, 159, undef), (15, 160, undef), (16, 161, undef), (17, 162, undef), (18, 163, undef), (19, 164, undef), (20, 165, undef), (21, 166, undef), (22, 167, undef), (23, 168, undef), (24, 169, undef), (25, 170, undef), (26, 171, undef), (27, 172, undef), (28, 173, undef), (29, 174, undef), (30, 175, undef), (31, 176, undef), (32, 177, undef), (33, 178, undef), (34, 179, undef), (35, 180, undef), (36, 181, .bool false)]
def bsPc (b b0 : Nat) (vr : Value) (A5 : Option Addr) (sl : List (Int × Int)) (c5 : Nat) (re se : Int) : List (Nat × Value) := [(7, .pointer (some ⟨b, 0, none⟩)), (5, .pointer (some ⟨b0, 0, none⟩)), (17, vr), (18, .slice A5 sl.length c5), (12, .int .i64 re), (19, .int .i64 se)]

def tbPdTT (b b0 : Nat) (vg : Value) (A : Option Addr) (l : List (Int × Int)) (c : Nat) : List (Nat × Nat × Value) :=
  [(0, 222, .int .i64 0), (1, 223, .bool true), (2, 224, .bool true), (3, 225, .int .i64 0), (4, 226, .bool false), (5, 227, .bool false), (6, 228, vg), (7, 229, .pointer (some ⟨b0, 0, none⟩)), (8, 230, .slice A l.length c), (9, 231, .bool true), (10, 232, .pointer (some ⟨b, 0, none⟩)), (11, 233, .pointer (some ⟨b0, 0, none⟩)), (12, 234, .slice A l.length c), (13, 235, .bool true), (14, 236, .bool true), (15, 237, .bool true), (16, 238, .bool true), (17, 239, .bool false), (18, 240, .bool false), (19, 241, .bool false)]
def bsPdTT (b b0 : Nat) (vg : Value) (A : Option Addr) (l : List (Int × Int)) (c : Nat) : List (Nat × Value) := [(7, .pointer (some ⟨b, 0, none⟩)), (5, .pointer (some ⟨b0, 0, none⟩)), (12, .int .i64 0), (23, .int .i64 0), (21, vg), (22, .bool true)]

def tbPdTF (b b0 : Nat) (vg : Value) (A : Option Addr) (l : List (Int × Int)) (c : Nat) : List (Nat × Nat × Value) :=
  [(0, 222, .int .i64 0), (1, 223, .bool true), (2, 224, .bool true), (3, 225, .int .i64 0), (4, 226, .bool false), (5, 227, .bool false), (6, 228, vg), (7, 229, .pointer (some ⟨b0, 0, none⟩)), (8, 230, .slice A l.length c), (9, 231, .bool false), (10, 232, .pointer (some ⟨b, 0, none⟩)), (11, 233, .pointer (some ⟨b0, 0, none⟩)), (12, 234, .slice A l.length c), (13, 235, .bool true), (14, 236, .bool true), (15, 237, .bool false), (16, 238, .bool false), (17, 239, .bool false), (18, 240, .bool false), (19, 241, .bool false)]
def bsPdTF (b b0 : Nat) (vg : Value) (A : Option Addr) (l : List (Int × Int)) (c : Nat) : List (Nat × Value) := [(7, .pointer (some ⟨b, 0, none⟩)), (5, .pointer (some ⟨b0, 0, none⟩)), (12, .int .i64 0), (23, .int .i64 0), (21, vg), (22, .bool false)]

def tbPdFT (b b0 : Nat) (vg : Value) (A : Option Addr) (l : List (Int × Int)) (c : Nat) : List (Nat × Nat × Value) :=
  [(0, 222, .int .i64 0), (1, 223, .bool true), (2, 224, .bool true), (3, 225, .int .i64 0), (4, 226, .bool false), (5, 227, .bool false), (6, 228, vg), (7, 229, .pointer (some ⟨b0, 0, none⟩)), (8, 230, .slice A l.length c), (9, 231, .bool false), (10, 232, .pointer (some ⟨b, 0, none⟩)), (11, 233, .pointer (some ⟨b0, 0, none⟩)), (12, 234, .slice A l.length c), (13, 235, .bool false), (14, 236, .bool false), (15, 237, undef), (16, 238, .bool false), (17, 239, .bool false), (18, 240, .bool false), (19, 241, .bool false)]
def bsPdFT (b b0 : Nat) (vg : Value) (A : Option Addr) (l : List (Int × Int)) (c : Nat) : List (Nat × Value) := [(7, .pointer (some ⟨b, 0, none⟩)), (5, .pointer (some ⟨b0, 0, none⟩)), (12, .int .i64 0), (23, .int .i64 0), (21, vg), (22, .bool true)]

def tbPdFF (b b0 : Nat) (vg : Value) (A : Option Addr) (l : List (Int × Int)) (c : Nat) : List (Nat × Nat × Value) :=
  [(0, 222, .int .i64 0), (1, 223, .bool true), (2, 224, .bool true), (3, 225, .int .i64 0), (4, 226, .bool false), (5, 227, .bool false), (6, 228, vg), (7, 229, .pointer (some ⟨b0, 0, none⟩)), (8, 230, .slice A l.length c), (9, 231, .bool false), (10, 232, .pointer (some ⟨b, 0, none⟩)), (11, 233, .pointer (some ⟨b0, 0, none⟩)), (12, 234, .slice A l.length c), (13, 235, .bool false), (14, 236, .bool false), (15, 237, undef), (16, 238, .bool false), (17, 239, .bool false), (18, 240, .bool false), (19, 241, .bool false)]
def bsPdFF (b b0 : Nat) (vg : Value) (A : Option Addr) (l : List (Int × Int)) (c : Nat) : List (Nat × Value) := [(7, .pointer (some ⟨b, 0, none⟩)), (5, .pointer (some ⟨b0, 0, none⟩)), (12, .int .i64 0), (23, .int .i64 0), (21, vg), (22, .bool false)]

def tbPe (b b0 : Nat) (vg : Value) (ge he : Int) (hy : Bool) : List (Nat × Nat × Value) :=
  [(0, 222, .int .i64 ge), (1, 223, .bool false), (2, 224, .bool false), (3, 225, undef), (4, 226, undef), (5, 227, undef), (6, 228, undef), (7, 229, undef), (8, 230, undef), (9, 231, undef), (10, 232, undef), (11, 233, undef), (12, 234, undef), (13, 235, undef), (14, 236, undef), (15, 237, undef), (16, 238, undef), (17, 239, undef), (18, 240, undef), (19, 241, .bool false)]
def bsPe (b b0 : Nat) (vg : Value) (ge he : Int) (hy : Bool) : List (Nat × Value) := [(7, .pointer (some ⟨b, 0, none⟩)), (5, .pointer (some ⟨b0, 0, none⟩)), (12, .int .i64 ge), (23, .int .i64 he), (21, vg), (22, .bool hy)]

def tbPfT (b b0 : Nat) (vc : Value) (A : Option Addr) (l : List (Int × Int)) (c : Nat) : List (Nat × Nat × Value) :=
  [(0, 249, .int .i64 0), (1, 250, .bool true), (2, 251, .bool true), (3, 252, vc), (4, 253, .pointer (some ⟨b0, 0, none⟩)), (5, 254, .slice A l.length c), (6, 255, .bool true), (7, 256, .pointer (some ⟨b, 0, none⟩)), (8, 257, .pointer (some ⟨b0, 0, none⟩)), (9, 258, .slice A l.length c), (10, 259, .bool true), (11, 260, .bool true), (12, 261, .bool true), (13, 6, .bool true)]
def bsPfT (b b0 : Nat) (vc : Value) (A : Option Addr) (l : List (Int × Int)) (c : Nat) : List (Nat × Value) := [(7, .pointer (some ⟨b, 0, none⟩)), (5, .pointer (some ⟨b0, 0, none⟩)), (12, .int .i64 0), (24, vc)]

def tbPfF (b b0 : Nat) (vc : Value) (A : Option Addr) (l : List (Int × Int)) (c : Nat) : List (Nat × Nat × Value) :=
  [(0, 249, .int .i64 0), (1, 250, .bool true), (2, 251, .bool true), (3, 252, vc), (4, 253, .pointer (some ⟨b0, 0, none⟩)), (5, 254, .slice A l.length c), (6, 255, .bool false), (7, 256, .pointer (some ⟨b, 0, none⟩)), (8, 257, .pointer (some ⟨b0, 0, none⟩)), (9, 258, .slice A l.length c), (10, 259, .bool false), (11, 260, .bool true), (12, 261, .bool true), (13, 6, .bool true)]
def bsPfF (b b0 : Nat) (vc : Value) (A : Option Addr) (l : List (Int × Int)) (c : Nat) : List (Nat × Value) := [(7, .pointer (some ⟨b, 0, none⟩)), (5, .pointer (some ⟨b0, 0, none⟩)), (12, .int .i64 0), (24, vc)]

set_option maxRecDepth 100000 in
set_option maxHeartbeats 16000000 in
theorem pup_any (n : Int) (B : Option Addr) (d : Nat) (cells : List Int) (A : Option Addr) (c : Nat) (l : List (Int × Int)) (d1 d2 ck nn : Int) (G : Option Addr) (gc : Nat) (gs : List (Int × Int × Int × Int)) (w : World) (hJ : Ints w .i32 B cells) (hmax : cells.length ≤ 4611686018427387904)
    (hk : ∀ q, q < cells.length → -2147483648 ≤ cells.getD q 0 ∧ cells.getD q 0 ≤ 2147483647) (hI : RatsA w A l) (hmax' : l.length ≤ 8796093022000) (h64 : All64v l) (hd1 : I64 d1) (hd2 : I64 d2) (hck : I64 ck) (hnn : I64 nn)
    (hG : Gds w G gs) (hgm : gs.length ≤ 4398046510976) (hgk : ∀ p, p < gs.length → 0 ≤ (gs.getD p (0, 0, 0, 0)).2.2.1 ∧ (gs.getD p (0, 0, 0, 0)).2.2.1 ≤ 255) :
    Calls Try.prog 3 #[.int .i64 n, .slice B cells.length d, .agg #[.slice A l.length c, .int .i64 d1, .int .i64 d2, .int .i64 ck, .int .i64 nn, .slice G gs.length gc]] w fun e w' => e = .returned (.bool true) ∧ Below w.heap.size w w' := by
  have HLV := Lib.hid (fun W => live06_any W)
  have HOF := Lib.hid (fun W hI => of_any n B d cells W hI hmax hk)
  have HRT := Lib.hid (fun W hI => right_val A c l W hI hmax' h64)
  have HDR := Lib.hid (fun W hI => dpright_any A c l W hI hmax' h64)
  have HWT := Lib.hid (fun W hI => wait_any A c l d1 d2 W hI hmax' h64 hd1 hd2)
  have HST := Lib.hid (fun W hI => set_any A c l ck nn W hI hmax' h64 hck)
  have HHD := Lib.hid (fun W hI hG => pholds_any A c l G gc gs W hI hmax' h64 hG hgm hgk)
  have HGD := Lib.hid (fun v k m W hz hG => gds_any v (some (k, m)) G gc gs W hz hG hgm hgk)
  have HIV := Lib.hid (fun v z W hz hI => in_any v z A c l W hz hI hmax' h64)
  have HDL := Lib.hid (fun v k m W hz hk hI hv hl => delays_any v k m A c l W hz hk hI h64 hv hl)
  have HKI := Lib.hid (fun k m (h : (ofP n cells).1.map (fun m => (n.toNat, m)) = some (k, m)) => zone_closed (show zOf n cells = some (k, m) from h))
  have HKN := Lib.hid (fun k m (h : (ofP n cells).1.map (fun m => (n.toNat, m)) = some (k, m)) => (zone_kinds (show zOf n cells = some (k, m) from h)).1)
  have HW64 := Lib.hid (waitA64 (l := l) (d := (d1, d2)))
  have HWS := Lib.hid (Nat.le_trans (wait_short l (d1, d2)) hmax')
  have HS64 := Lib.hid (set64 (c := ck) h64 hnn)
  have HSS := Lib.hid (Nat.le_trans (set_short l ck nn) hmax')
  have HNI := Lib.hid hnn
  have HCI := Lib.hid hck
  have HLM := Lib.hid hmax'
  have hbw := below_one w (.cells #[.slice A l.length c, .int .i64 d1, .int .i64 d2, .int .i64 ck, .int .i64 nn, .slice G gs.length gc] 28)
  have HG := Lib.hid (((((Bag.start hbw).add (hJ.below hbw) (stable_ints _ _ _)).add (hI.below hbw) (stable_rats _ _)).add (hG.below hbw) (stable_gds _ _)).add (cs_new w #[.slice A l.length c, .int .i64 d1, .int .i64 d2, .int .i64 ck, .int .i64 nn, .slice G gs.length gc] 28) (stable_cs _ _))
  clear hJ hmax hk hI hmax' h64 hd1 hd2 hG hgm hgk hbw hck hnn
  go_enter Try.func3, Try.ntmps3
  go_upto_region 1 with fail
  generalize w.alloc (.cells #[.slice A l.length c, .int .i64 d1, .int .i64 d2, .int .i64 ck, .int .i64 nn, .slice G gs.length gc] 28) = w0 at *
  obtain ⟨b0, hb0⟩ : ∃ b, b = w.heap.size := ⟨_, rfl⟩
  have HB0 := Lib.hid hb0
  rw [← hb0] at HG ⊢
  clear hb0
  go_wp2_with fail
  refine (HLV.out _).mono ?_
  rintro e w1 ⟨rfl, hb⟩
  replace HG := Lib.hid (HG.out.step hb)
  clear hb HLV
  go_wp2_with fail
  refine (HOF.out _ (HG.out.at 3 rfl)).mono ?_
  rintro e w2 ⟨hb, v, rfl, hv⟩
  replace HG := Lib.hid (HG.out.step hb)
  clear hb HOF
  obtain ⟨z, hz⟩ : ∃ z, z = (ofP n cells).1.map (fun m => (n.toNat, m)) := ⟨_, rfl⟩
  rw [← hz] at hv
  simp only [← hz] at HKI HKN
  replace HG := Lib.hid (HG.out.add hv (stable_zone _ _ _))
  have HZ := Lib.hid hv
  clear hz hv
  match z, HZ, HG with
  | none, HZ, HG =>
    obtain rfl : v = .pointer none := HZ.out
    go_wp2_with fail
    go_quiet (fail)
    generalize nq = nq at *
    replace HG := Lib.hid (HG.out.drewN nq)
    generalize w2.drewN nq = w3 at *
    go_wp2
    go_ret
    exact ⟨rfl, HG.out.below⟩
  | some (k, m), HZ, HG =>
    obtain ⟨b, rfl, hk8, hr, hm⟩ := HZ.out
    obtain ⟨hn0, hn8, hkn⟩ := HKN.out k m rfl
    have en : n = (k : Int) := by omega
    subst en
    have HK8 := Lib.hid hk8
    have HKM := Lib.hid (HKI.out k m rfl)
    clear hn0 hn8 hkn hr hm HKI HKN HZ hk8
    obtain ⟨q47, hq47⟩ : ∃ q, q = !(rightV l && decide (l.length = k)) := ⟨_, rfl⟩
    have HQ := Lib.hid hq47
    clear hq47
    go_upto_region 4 with fail
    go_cut [47] (fun s47 wx => s47 = .bool q47 ∧ Hid (Below w2.heap.size w2 wx))
    case first =>
      as_aux_lemma =>
        have m0 := (HG.out.at 1 rfl : HasCs _ _ _) 0 (.slice A l.length c) rfl
        go_wp2_with fail
        refine (HRT.out _ (HG.out.at 3 rfl)).mono ?_
        rintro e w3 ⟨rfl, hb⟩
        have HX := Lib.hid hb
        have m0 := ((HG.out.step hb).at 1 rfl : HasCs _ _ _) 0 (.slice A l.length c) rfl
        clear hb
        cases hrv : rightV l with
        | false =>
          rw [hrv] at HQ
          have eq : q47 = true := HQ.out
          subst eq
          go_wp2
          go_meet
          exact ⟨rfl, HX⟩
        | true =>
          rw [hrv] at HQ
          by_cases hl : l.length = k
          · have hlen : ((l.length : Nat) : Int) = (k : Int) := by rw [hl]
            have eq : q47 = false := by rw [HQ.out, decide_eq_true hl]; rfl
            subst eq
            clear HQ hl HDR HWT HST HHD HGD HIV HDL HRT
            go_wp2
            go_meet
            exact ⟨rfl, HX⟩
          · have hlen : ¬ ((l.length : Nat) : Int) = (k : Int) := by omega
            have eq : q47 = true := by rw [HQ.out, decide_eq_false hl]; rfl
            subst eq
            have t1 : (((l.length : Nat) : Int) != (k : Int)) = true := by simp; omega
            clear HQ hl HDR HWT HST HHD HGD HIV HDL HRT
            go_wp2
            go_meet
            exact ⟨rfl, HX⟩
    case rest =>
      obtain ⟨rfl, hw⟩ := hcut
      replace HG := Lib.hid (HG.out.step hw.out)
      clear hw
      cases q47 with
      | true =>
        clear HWT HST HHD HGD HIV HDL HQ
        have HRT := Lib.hid (fun W (hb : Below wc.heap.size wc W) => HRT.out W ((HG.out.step hb).at 3 rfl))
        have HDR := Lib.hid (fun W (hb : Below wc.heap.size wc W) => HDR.out W ((HG.out.step hb).at 3 rfl))
        obtain ⟨rv, hrv⟩ : ∃ r, r = rightV l := ⟨_, rfl⟩
        rw [← hrv] at HRT HDR
        clear hrv
        go_upto_region 5 with fail
        refine wp_region_tab (by kernel_rfl) [7, 5, 48, 49, 50, 51, 52, 53, 54, 55, 56, 57, 58, 6] [[], [0], [1], [2], [2, 3], [2, 4], [2], [2, 6], [2, 5, 7], [2, 5, 8], [2, 9], [0, 1, 2, 3, 4, 5, 6, 7, 8, 9, 10]]
          (fun L vals wx => Below wc.heap.size wc wx ∧ TabR (tbPa b b0 A l c rv) (bsPa b b0 A l c rv) L vals) (by kernel_rfl) rfl ?_ ?_ ?_
        · exact ⟨Below.drew (Below.refl _ _), TabR.start (by simp [bsPa])⟩
        · intro i hi a L vals wx E hJ hLi hn K hK hK0
          obtain ⟨hI, hT⟩ := hJ
          match i, hi with
          | 0, _ => exact op_moveG rfl rfl rfl rfl ((E 7 (by decide)).trans (hT.rd 0 rfl)) (hK 48 _ _ (by decide) ⟨hI, hT.set 0 rfl (by kernel_rfl) (by kernel_rfl)⟩)
          | 1, _ =>
            have e1 := (E 48 (by decide)).trans (hT.val 0 rfl (hn 0 (by decide)))
            have c1 : a.eval (.const (Value.pointer none)) = Value.pointer none := rfl
            refine op_valueG (w' := wx) (v := .bool false) rfl rfl rfl ?_ (hK 49 _ _ (by decide) ⟨hI, hT.set 1 rfl (by kernel_rfl) (by kernel_rfl)⟩)
            clear hK hK0 hT E
            revert e1 c1
            generalize a.eval = ρ
            intro e1 c1
            go_simp
          | 2, _ => exact op_moveG rfl rfl rfl rfl ((E 49 (by decide)).trans (hT.val 1 rfl (hn 1 (by decide)))) (hK 50 _ _ (by decide) ⟨hI, hT.set 2 rfl (by kernel_rfl) (by kernel_rfl)⟩)
          | 3, _ =>
            have e1 := (E 5 (by decide)).trans (hT.rd 1 rfl)
            refine op_valueG (w' := wx) (v := .pointer (some ⟨b0, 0, none⟩)) rfl (want_on (d := 50) (b := false) rfl rfl ((E 50 (by decide)).trans (hT.val 2 rfl (hn 2 (by decide))))) rfl ?_ (hK 51 _ _ (by decide) ⟨hI, hT.set 3 rfl (by kernel_rfl) (by kernel_rfl)⟩)
            clear hK hK0 hT E
            revert e1
            generalize a.eval = ρ
            intro e1
            go_simp
          | 4, _ =>
            have e1 := (E 51 (by decide)).trans (hT.val 3 rfl (hn 3 (by decide)))
            have m0 := ((HG.out.step hI).at 1 rfl : HasCs _ _ _) 0 (.slice A l.length c) rfl
            refine op_valueG (w' := wx) (v := .slice A l.length c) rfl (want_on (d := 50) (b := false) rfl rfl ((E 50 (by decide)).trans (hT.val 2 rfl (hn 2 (by decide))))) rfl ?_ (hK 52 _ _ (by decide) ⟨hI, hT.set 4 rfl (by kernel_rfl) (by kernel_rfl)⟩)
            clear hK hK0 hT E
            revert e1
            generalize a.eval = ρ
            intro e1
            go_simp
          | 5, _ =>
            have e1 := (E 52 (by decide)).trans (hT.val 4 rfl (hn 4 (by decide)))
            exact op_goG rfl (want_on (d := 50) (b := false) rfl rfl ((E 50 (by decide)).trans (hT.val 2 rfl (hn 2 (by decide))))) rfl rfl Try.func6 (by kernel_rfl) rfl (by simp only [List.map_toArray, List.map_cons, List.map_nil, e1]) (HRT.out _ hI) (fun w' hb => hK 53 _ _ (by decide) ⟨hI.trans (hb.mono hI.size), hT.set 5 rfl (by kernel_rfl) (by kernel_rfl)⟩)
          | 6, _ =>
            have e1 := (E 5 (by decide)).trans (hT.rd 1 rfl)
            refine op_valueG (w' := wx) (v := .pointer (some ⟨b0, 0, none⟩)) rfl (want_on (d := 50) (b := false) rfl rfl ((E 50 (by decide)).trans (hT.val 2 rfl (hn 2 (by decide))))) rfl ?_ (hK 54 _ _ (by decide) ⟨hI, hT.set 6 rfl (by kernel_rfl) (by kernel_rfl)⟩)
            clear hK hK0 hT E
            revert e1
            generalize a.eval = ρ
            intro e1
            go_simp
          | 7, _ =>
            have e1 := (E 54 (by decide)).trans (hT.val 6 rfl (hn 6 (by decide)))
            have m0 := ((HG.out.step hI).at 1 rfl : HasCs _ _ _) 0 (.slice A l.length c) rfl
            refine op_valueG (w' := wx) (v := .slice A l.length c) rfl (want_on (d := 50) (b := false) rfl rfl ((E 50 (by decide)).trans (hT.val 2 rfl (hn 2 (by decide))))) rfl ?_ (hK 55 _ _ (by decide) ⟨hI, hT.set 7 rfl (by kernel_rfl) (by kernel_rfl)⟩)
            clear hK hK0 hT E
            revert e1
            generalize a.eval = ρ
            intro e1
            go_simp
          | 8, _ =>
            have e1 := (E 55 (by decide)).trans (hT.val 7 rfl (hn 7 (by decide)))
            exact op_goG rfl (want_on (d := 50) (b := false) rfl rfl ((E 50 (by decide)).trans (hT.val 2 rfl (hn 2 (by decide))))) rfl rfl Try.func7 (by kernel_rfl) rfl (by simp only [List.map_toArray, List.map_cons, List.map_nil, e1]) (HDR.out _ hI) (fun w' hb => hK 56 _ _ (by decide) ⟨hI.trans (hb.mono hI.size), hT.set 8 rfl (by kernel_rfl) (by kernel_rfl)⟩)
          | 9, _ =>
            have e1 := (E 53 (by decide)).trans (hT.val 5 rfl (hn 5 (by decide)))
            have e2 := (E 56 (by decide)).trans (hT.val 8 rfl (hn 8 (by decide)))
            refine op_valueG (w' := wx) (v := .bool true) rfl (want_on (d := 50) (b := false) rfl rfl ((E 50 (by decide)).trans (hT.val 2 rfl (hn 2 (by decide))))) rfl ?_ (hK 57 _ _ (by decide) ⟨hI, hT.set 9 rfl (by kernel_rfl) (by kernel_rfl)⟩)
            clear hK hK0 hT E
            revert e1 e2
            generalize a.eval = ρ
            intro e1 e2
            go_simp
          | 10, _ =>
            have e1 := (E 50 (by decide)).trans (hT.val 2 rfl (hn 2 (by decide)))
            have e2 := (E 57 (by decide)).trans (hT.val 9 rfl (hn 9 (by decide)))
            have c1 : a.eval (.const (Value.bool true)) = Value.bool true := rfl
            refine op_valueG (w' := wx) (v := .bool true) rfl rfl rfl ?_ (hK 58 _ _ (by decide) ⟨hI, hT.set 10 rfl (by kernel_rfl) (by kernel_rfl)⟩)
            clear hK hK0 hT E
            revert e1 e2 c1
            generalize a.eval = ρ
            intro e1 e2 c1
            go_simp
          | 11, _ => exact op_assignG rfl rfl rfl rfl ((E 58 (by decide)).trans (hT.val 10 rfl (hn 10 (by decide)))) (hK 6 _ _ (by decide) ⟨hI, hT.set 11 rfl (by kernel_rfl) (by kernel_rfl)⟩)
          | k + 12, h => exact absurd (show k + 12 < 12 from h) (by omega)
        · intro L vals wx hJ hall
          obtain ⟨hI, hT⟩ := hJ
          have HX := Lib.hid hI
          have v7 : vals 7 = .pointer (some ⟨b, 0, none⟩) := hT.rd 0 rfl
          have v5 : vals 5 = .pointer (some ⟨b0, 0, none⟩) := hT.rd 1 rfl
          have v6 : vals 6 = .bool true := hT.val 11 rfl (hall 11 (by decide))
          simp only [overA, Act.put, List.setIfInBounds_toArray, List.set_cons_zero, List.set_cons_succ]
          rw [v7, v5, v6]
          clear hI hT hall v7 v5 v6
          replace HG := Lib.hid (HG.out.step HX.out)
          go_wp2
          go_ret
          exact ⟨rfl, HG.out.below⟩
      | false =>
        obtain ⟨hv, hl⟩ : rightV l = true ∧ l.length = k := by
          have h := HQ.out
          cases h1 : rightV l with
          | false => rw [h1] at h; simp at h
          | true =>
            refine ⟨rfl, ?_⟩
            rw [h1] at h
            by_cases h2 : l.length = k
            · exact h2
            · rw [decide_eq_false h2] at h; simp at h
        obtain ⟨a, hu1, _, _⟩ := up_twice HK8.out HKM.out
        obtain ⟨dn, hd1, _, _⟩ := down_twice HK8.out HKM.out
        have HUP := Lib.hid (fun W hz => up_zone (.pointer (some ⟨b, 0, none⟩)) k m W hz)
        have HDW := Lib.hid (fun W hz => down_zone (.pointer (some ⟨b, 0, none⟩)) k m W hz)
        rw [hu1] at HUP
        rw [hd1] at HDW
        have HU1 := Lib.hid (fun (h1 : (waitA l (d1, d2)).2 = 0) (h2 : inP k m l = true) => up06 HK8.out HKM.out hu1 h1 hl h2)
        have HD1 := Lib.hid (fun s (hs : delaysP k m l = some s) => And.intro (down06 HK8.out HKM.out hd1 hs) (fun h1 h2 => delays_one hs h1 h2))
        have HR1 := Lib.hid (fun (h : (resetZ k m ck nn).2 = 0) => reset_told HK8.out HKM.out hv hl h)
        have HUN1 := Lib.hid (fun (h : (unsetZ k m ck nn).2 = 0) => unset_told HK8.out HKM.out hv hl h)
        have HGT := Lib.hid (fun (h : (gdA (some (k, m)) gs).2 = 0) => guards_told HK8.out HKM.out hv hl h)
        have HAN := Lib.hid (and06 HK8.out HKM.out hu1 hv hl)
        have HDL := Lib.hid (fun W hz hI => HDL.out (.pointer (some ⟨b, 0, none⟩)) k m W hz HKM.out hI hv hl)
        have HRS := Lib.hid (fun W hz => reset_all (.pointer (some ⟨b, 0, none⟩)) k m ck nn W hz)
        have HUS := Lib.hid (fun W hz => unset_all (.pointer (some ⟨b, 0, none⟩)) k m ck nn W hz)
        have HGD := Lib.hid (fun W hz hG => HGD.out (.pointer (some ⟨b, 0, none⟩)) k m W hz hG)
        have HIV0 := Lib.hid (fun W hz hI => HIV.out (.pointer (some ⟨b, 0, none⟩)) (some (k, m)) W hz hI)
        have HLN := Lib.hid hl
        have HRV := Lib.hid hv
        clear hv hl hu1 hd1 HRT HDR HQ
        obtain ⟨iz, hiz⟩ : ∃ q, q = inP k m l := ⟨_, rfl⟩
        rw [show inZ (some (k, m)) l = iz from hiz.symm] at HIV0
        simp only [← hiz] at HU1 HR1 HGT HAN
        clear hiz
        obtain ⟨ab, hab1, hab2⟩ := HAN.out
        have HAB := Lib.hid hab2
        have HAC := Lib.hid (fun A c vs W hz hvs hl => and_any (.pointer (some ⟨b, 0, none⟩)) (some (k, m)) A c vs [some (k, a)] W hz hvs hl)
        rw [hab1] at HAC
        clear hab1 hab2 HAN
        obtain ⟨wv, hwv⟩ : ∃ q, q = waitA l (d1, d2) := ⟨_, rfl⟩
        rw [← hwv] at HWT HU1 HW64 HWS
        clear hwv
        obtain ⟨wl, we⟩ := wv
        go_wp2_with fail
        refine (HUP.out _ (HG.out.at 0 rfl)).mono ?_
        rintro e w3 ⟨hb, va, rfl, ha⟩
        replace HG := Lib.hid ((HG.out.step hb).add (show ZoneV 109 w3 va (some (k, a)) from ha) (stable_zone _ _ _))
        clear hb ha HUP
        have m0 := (HG.out.at 2 rfl : HasCs _ _ _) 0 (.slice A l.length c) rfl
        have m1 := (HG.out.at 2 rfl : HasCs _ _ _) 1 (.int .i64 d1) rfl
        have m2 := (HG.out.at 2 rfl : HasCs _ _ _) 2 (.int .i64 d2) rfl
        go_wp2_with fail
        refine (HWT.out _ (HG.out.at 4 rfl)).mono ?_
        rintro e w4 ⟨v3, rfl, hq⟩
        have hb := hq.1
        obtain ⟨A3, c3, rfl, hr3⟩ := hq.rats
        replace HG := Lib.hid ((HG.out.step hb).add hr3 (stable_rats _ _))
        clear hb hq hr3 HWT m0 m1 m2
        have HIW := Lib.hid (fun W hz hI => in_any va (some (k, a)) A3 c3 wl W hz hI HWS.out HW64.out)
        go_upto_region 8 with fail
        go_cut [85] (fun s85 wx => s85 = .bool false ∧ Hid (Below w4.heap.size w4 wx))
        case first =>
          as_aux_lemma =>
            by_cases hwe : we = 0
            · subst hwe
              have m0 := (HG.out.at 3 rfl : HasCs _ _ _) 0 (.slice A l.length c) rfl
              go_wp2_with fail
              refine (HIV0.out _ (HG.out.at 2 rfl) (HG.out.at 5 rfl)).mono ?_
              rintro e w5 ⟨rfl, hb⟩
              cases iz with
              | false =>
                go_wp2
                go_meet
                exact ⟨rfl, Lib.hid hb⟩
              | true =>
                rw [show inZ (some (k, a)) wl = true from HU1.out (by simp) (by simp)] at HIW
                clear m0
                go_wp2_with fail
                refine (HIW.out _ ((HG.out.step hb).at 1 rfl) ((HG.out.step hb).at 0 rfl)).mono ?_
                rintro e w6 ⟨rfl, hb2⟩
                go_wp2
                go_meet
                exact ⟨rfl, Lib.hid (hb.trans (hb2.mono hb.size))⟩
            · have t1 : (we == 0) = false := by simp [hwe]
              clear hwe
              go_wp2
              go_meet
              exact ⟨rfl, Lib.hid (Below.refl _ _)⟩
        case rest =>
          obtain ⟨rfl, hw⟩ := hcut
          replace HG := Lib.hid (HG.out.step hw.out)
          clear hw
          clear HIW HU1 HW64 HWS
          have m0 := (HG.out.at 3 rfl : HasCs _ _ _) 0 (.slice A l.length c) rfl
          go_wp2_with fail
          refine (HDL.out _ (HG.out.at 2 rfl) (HG.out.at 5 rfl)).mono ?_
          rintro e w7 ⟨he, hb⟩
          have HHO : Hid ((delaysP k m l).isSome = true → inP k dn l = true ∧ (((delaysP k m l).getD spanZero).loIn = false → ((delaysP k m l).getD spanZero).lo = ((delaysP k m l).getD spanZero).hi → ((delaysP k m l).getD spanZero).ever = true)) := Lib.hid fun h => by
            cases e : delaysP k m l with
            | none => rw [e] at h; cases h
            | some s => exact HD1.out s e
          obtain ⟨od, hod⟩ : ∃ q, q = (delaysP k m l).isSome := ⟨_, rfl⟩
          obtain ⟨sp, hsp⟩ : ∃ q, q = (delaysP k m l).getD spanZero := ⟨_, rfl⟩
          rw [← hod, ← hsp] at HHO he
          clear hod hsp HD1 HDL m0
          obtain ⟨⟨a1, a2⟩, ⟨h1, h2⟩, li, hi', ev⟩ := sp
          simp only [spanCs] at he
          subst he
          replace HG := Lib.hid (HG.out.step hb)
          clear hb
          go_upto_region 11 with fail
          have hb5 := below_one w7 (.cells #[.int .i64 a1, .int .i64 a2, .int .i64 h1, .int .i64 h2, .bool li, .bool hi', .bool ev] 40)
          replace HG := Lib.hid ((HG.out.step hb5).add (cs_new w7 #[.int .i64 a1, .int .i64 a2, .int .i64 h1, .int .i64 h2, .bool li, .bool hi', .bool ev] 40) (stable_cs _ _))
          generalize w7.alloc (.cells #[.int .i64 a1, .int .i64 a2, .int .i64 h1, .int .i64 h2, .bool li, .bool hi', .bool ev] 40) = w8 at *
          generalize w7.heap.size = g7 at *
          clear hb5
          go_wp2_with fail
          refine (HDW.out _ (HG.out.at 3 rfl)).mono ?_
          rintro e w9 ⟨hb, vd, rfl, ha⟩
          replace HG := Lib.hid ((HG.out.step hb).add (show ZoneV 109 w9 vd (some (k, dn)) from ha) (stable_zone _ _ _))
          clear hb ha HDW
          have HID := Lib.hid (fun W hz hI => HIV.out vd (some (k, dn)) W hz hI)
          go_upto_region 12 with fail
          go_cut [125] (fun s125 wx => s125 = .bool false ∧ Hid (Below w9.heap.size w9 wx))
          case first =>
            as_aux_lemma =>
              cases od with
              | false =>
                go_wp2
                go_meet
                exact ⟨rfl, Lib.hid (Below.refl _ _)⟩
              | true =>
                obtain ⟨hin, hon⟩ := HHO.out rfl
                rw [show inZ (some (k, dn)) l = true from hin] at HID
                have HON := Lib.hid hon
                clear hin hon
                have m0 := (HG.out.at 5 rfl : HasCs _ _ _) 0 (.slice A l.length c) rfl
                go_wp2_with fail
                refine (HID.out _ (HG.out.at 0 rfl) (HG.out.at 7 rfl)).mono ?_
                rintro e w10 ⟨rfl, hb⟩
                clear m0
                cases li with
                | true =>
                  have s0 := ((HG.out.step hb).at 1 rfl : HasCs _ _ _) 0 (.int .i64 a1) rfl
                  have s1 := ((HG.out.step hb).at 1 rfl : HasCs _ _ _) 1 (.int .i64 a2) rfl
                  have s2 := ((HG.out.step hb).at 1 rfl : HasCs _ _ _) 2 (.int .i64 h1) rfl
                  have s3 := ((HG.out.step hb).at 1 rfl : HasCs _ _ _) 3 (.int .i64 h2) rfl
                  have s4 := ((HG.out.step hb).at 1 rfl : HasCs _ _ _) 4 (.bool true) rfl
                  have s6 := ((HG.out.step hb).at 1 rfl : HasCs _ _ _) 6 (.bool ev) rfl
                  go_wp2
                  go_meet
                  exact ⟨rfl, Lib.hid hb⟩
                | false =>
                  by_cases e1 : a1 = h1
                  · subst e1
                    by_cases e2 : a2 = h2
                    · subst e2
                      obtain rfl : ev = true := HON.out rfl rfl
                      have s0 := ((HG.out.step hb).at 1 rfl : HasCs _ _ _) 0 (.int .i64 a1) rfl
                      have s1 := ((HG.out.step hb).at 1 rfl : HasCs _ _ _) 1 (.int .i64 a2) rfl
                      have s2 := ((HG.out.step hb).at 1 rfl : HasCs _ _ _) 2 (.int .i64 a1) rfl
                      have s3 := ((HG.out.step hb).at 1 rfl : HasCs _ _ _) 3 (.int .i64 a2) rfl
                      have s4 := ((HG.out.step hb).at 1 rfl : HasCs _ _ _) 4 (.bool false) rfl
                      have s6 := ((HG.out.step hb).at 1 rfl : HasCs _ _ _) 6 (.bool true) rfl
                      go_wp2
                      go_meet
                      exact ⟨rfl, Lib.hid hb⟩
                    · skip
                      have s0 := ((HG.out.step hb).at 1 rfl : HasCs _ _ _) 0 (.int .i64 a1) rfl
                      have s1 := ((HG.out.step hb).at 1 rfl : HasCs _ _ _) 1 (.int .i64 a2) rfl
                      have s2 := ((HG.out.step hb).at 1 rfl : HasCs _ _ _) 2 (.int .i64 a1) rfl
                      have s3 := ((HG.out.step hb).at 1 rfl : HasCs _ _ _) 3 (.int .i64 h2) rfl
                      have s4 := ((HG.out.step hb).at 1 rfl : HasCs _ _ _) 4 (.bool false) rfl
                      have s6 := ((HG.out.step hb).at 1 rfl : HasCs _ _ _) 6 (.bool ev) rfl
                      have t1 : (a2 == h2) = false := by simp [e2]
                      go_wp2
                      go_meet
                      exact ⟨rfl, Lib.hid hb⟩
                  · skip
                    have s0 := ((HG.out.step hb).at 1 rfl : HasCs _ _ _) 0 (.int .i64 a1) rfl
                    have s1 := ((HG.out.step hb).at 1 rfl : HasCs _ _ _) 1 (.int .i64 a2) rfl
                    have s2 := ((HG.out.step hb).at 1 rfl : HasCs _ _ _) 2 (.int .i64 h1) rfl
                    have s3 := ((HG.out.step hb).at 1 rfl : HasCs _ _ _) 3 (.int .i64 h2) rfl
                    have s4 := ((HG.out.step hb).at 1 rfl : HasCs _ _ _) 4 (.bool false) rfl
                    have s6 := ((HG.out.step hb).at 1 rfl : HasCs _ _ _) 6 (.bool ev) rfl
                    have t1 : (a1 == h1) = false := by simp [e1]
                    go_wp2
                    go_meet
                    exact ⟨rfl, Lib.hid hb⟩
          case rest =>
            obtain ⟨rfl, hw⟩ := hcut
            replace HG := Lib.hid (HG.out.step hw.out)
            clear hw
            clear HHO HID
            have m3 := (HG.out.at 5 rfl : HasCs _ _ _) 3 (.int .i64 ck) rfl
            have m4 := (HG.out.at 5 rfl : HasCs _ _ _) 4 (.int .i64 nn) rfl
            obtain ⟨rz, hrz⟩ : ∃ q, q = resetZ k m ck nn := ⟨_, rfl⟩
            rw [← hrz] at HRS HR1
            clear hrz
            obtain ⟨ro, re⟩ := rz
            obtain ⟨sz, hsz⟩ : ∃ q, q = setA l ck nn := ⟨_, rfl⟩
            rw [← hsz] at HST HS64 HSS
            have HSZ := Lib.hid hsz
            clear hsz
            obtain ⟨sl, se⟩ := sz
            have HR2 : Hid (re = 0 → se = 0 ∧ (1 ≤ ck ∧ ck ≤ k) ∧ (iz = true → inZ (ro.map fun m => (k, m)) sl = true) ∧ (inZ (ro.map fun m => (k, m)) l = true → l.getD (ck.toNat - 1) (0, 0) = (nn, 1))) := Lib.hid fun h => by
              obtain ⟨a', e1, e2, e3, e4, e5⟩ := HR1.out h
              cases e1
              rw [← HSZ.out] at e2
              cases e2
              exact ⟨rfl, e3, e4, e5⟩
            obtain ⟨uz, huz⟩ : ∃ q, q = unsetZ k m ck nn := ⟨_, rfl⟩
            rw [← huz] at HUS HUN1
            clear huz
            obtain ⟨uo, ue⟩ := uz
            have HU2 : Hid (ue = 0 → se = 0 ∧ inZ (uo.map fun m => (k, m)) l = inZ (some (k, m)) sl) := Lib.hid fun h => by
              obtain ⟨a', e1, e2, e3⟩ := HUN1.out h
              cases e1
              rw [← HSZ.out] at e2
              cases e2
              exact ⟨rfl, e3⟩
            obtain ⟨gz, hgz⟩ : ∃ q, q = gdA (some (k, m)) gs := ⟨_, rfl⟩
            rw [← hgz] at HGD HGT
            clear hgz
            obtain ⟨go, ge⟩ := gz
            obtain ⟨hz', hhz⟩ : ∃ q, q = holdsA l gs := ⟨_, rfl⟩
            rw [← hhz] at HHD HGT
            clear hhz
            obtain ⟨hy, he⟩ := hz'
            have HG2 : Hid (ge = 0 → he = 0 ∧ inZ (go.map fun m => (k, m)) l = (iz && hy)) := Lib.hid fun h => by
              obtain ⟨a', e1, e2, e3⟩ := HGT.out h
              cases e1
              exact ⟨e2, e3⟩
            clear HR1 HUN1 HGT HSZ
            go_wp2_with fail
            refine (HRS.out _ (HG.out.at 4 rfl)).mono ?_
            rintro e w11 ⟨hb, vr, rfl, ha⟩
            obtain ⟨zr, hzr⟩ : ∃ q, q = ro.map fun m => (k, m) := ⟨_, rfl⟩
            rw [← hzr] at HR2
            have ha : ZoneV 109 w11 vr zr := by rw [hzr]; exact ha
            replace HG := Lib.hid ((HG.out.step hb).add ha (stable_zone _ _ _))
            clear hb ha HRS hzr m3 m4
            have m0 := (HG.out.at 6 rfl : HasCs _ _ _) 0 (.slice A l.length c) rfl
            have m3 := (HG.out.at 6 rfl : HasCs _ _ _) 3 (.int .i64 ck) rfl
            have m4 := (HG.out.at 6 rfl : HasCs _ _ _) 4 (.int .i64 nn) rfl
            go_wp2_with fail
            refine (HST.out _ (HG.out.at 8 rfl)).mono ?_
            rintro e w12 ⟨v5, rfl, hq⟩
            have hb := hq.1
            obtain ⟨A5, c5, rfl, hr5⟩ := hq.rats
            replace HG := Lib.hid ((HG.out.step hb).add hr5 (stable_rats _ _))
            clear hb hq hr5 HST m0 m3 m4
            have HIS := Lib.hid (fun v z W hz hI => in_any v z A5 c5 sl W hz hI HSS.out HS64.out)
            have HRO := Lib.hid (fun W => rof2_any nn W)
            go_upto_region 16 with fail
            go_cut [181] (fun s181 wx => s181 = .bool false ∧ Hid (Below w12.heap.size w12 wx))
            case first =>
              as_aux_lemma =>
                by_cases hre : re = 0
                · subst hre
                  obtain ⟨hse, hcr, hrs, hrv⟩ := HR2.out rfl
                  subst hse
                  have HI1 := Lib.hid (fun W (hb : Below w12.heap.size w12 W) => HIV0.out W ((HG.out.step hb).at 6 rfl) ((HG.out.step hb).at 9 rfl))
                  have HI2 := Lib.hid (fun W (hb : Below w12.heap.size w12 W) => HIS.out vr zr W ((HG.out.step hb).at 1 rfl) ((HG.out.step hb).at 0 rfl))
                  have HI3 := Lib.hid (fun W (hb : Below w12.heap.size w12 W) => HIV.out vr zr W ((HG.out.step hb).at 1 rfl) ((HG.out.step hb).at 9 rfl))
                  obtain ⟨ir, hir⟩ : ∃ q, q = inZ zr l := ⟨_, rfl⟩
                  rw [← hir] at HI3 hrv
                  clear hir HR2
                  cases iz with
                  | true =>
                    rw [show inZ zr sl = true from hrs (by simp)] at HI2
                    clear hrs
                    cases ir with
                    | true =>
                      as_aux_lemma =>
                        obtain ⟨j, rfl⟩ : ∃ j : Nat, ck = (j : Int) + 1 := ⟨(ck - 1).toNat, by omega⟩
                        have hj : j < l.length := by have := HLN.out; omega
                        have hx : l.getD j (0, 0) = (nn, 1) := by have h := hrv (by simp); rw [show ((j : Int) + 1).toNat - 1 = j by omega] at h; exact h
                        obtain ⟨bv, ov, rfl, e1, e2⟩ := (HG.out.at 9 rfl : RatsA _ _ _) j hj
                        rw [hx] at e1 e2
                        have HE1 := Lib.hid e1
                        have HE2 := Lib.hid e2
                        have HJL := Lib.hid (show (j : Int) < (l.length : Int) by omega)
                        have f2 : IntKind.i64.wrap ((j : Int) + 1 - 1) = (j : Int) := by rw [IntWalk.i64_in _ (by have := HLM.out; omega)]; omega
                        have f3 : IntKind.i64.wrap (j : Int) = (j : Int) := IntWalk.i64_in _ (by have := HLM.out; omega)
                        have HF2 := Lib.hid f2
                        have HF3 := Lib.hid f3
                        clear hj hx e1 e2 f2 f3 hcr hrv
                        refine wp_region_tab (by kernel_rfl) [7, 5, 17, 18, 12, 19, 145, 146, 147, 148, 149, 150, 151, 152, 153, 154, 155, 156, 157, 158, 159, 160, 161, 162, 163, 164, 165, 166, 167, 168, 169, 170, 171, 172, 173, 174, 175, 176, 177, 178, 179, 180, 181] [[], [0], [1], [2], [2, 3], [2, 4], [2, 5], [6], [6], [6, 8], [6, 7, 9], [6, 10], [11], [11], [11, 12, 13], [11, 14], [6, 11, 15], [6, 14, 16], [17], [17], [17, 19], [17, 18, 20], [17, 21], [22], [22, 23], [22], [22, 25], [22, 26], [22, 24, 27], [22, 28], [22], [22, 30], [22, 31], [22, 29, 32], [17, 22, 33], [6, 17, 34], [6, 35]]
                          (fun L vals wx => Below w12.heap.size w12 wx ∧ TabR (tbPbTT b b0 vr A5 l sl c c5 bv ov j nn) (bsPbTT b b0 vr A5 l sl c c5 bv ov j nn) L vals) (by kernel_rfl) rfl ?_ ?_ ?_
                        · exact ⟨Below.drew (Below.refl _ _), TabR.start (by simp [bsPbTT])⟩
                        · intro i hi a L vals wx E hJ hLi hn K hK hK0
                          obtain ⟨hI, hT⟩ := hJ
                          match i, hi with
                          | 0, _ => exact op_moveG rfl rfl rfl rfl ((E 12 (by decide)).trans (hT.rd 4 rfl)) (hK 145 _ _ (by decide) ⟨hI, hT.set 0 rfl (by kernel_rfl) (by kernel_rfl)⟩)
                          | 1, _ =>
                            have e1 := (E 145 (by decide)).trans (hT.val 0 rfl (hn 0 (by decide)))
                            have c1 : a.eval (.const (Value.int IntKind.i64 0)) = Value.int IntKind.i64 0 := rfl
                            refine op_valueG (w' := wx) (v := .bool true) rfl rfl rfl ?_ (hK 146 _ _ (by decide) ⟨hI, hT.set 1 rfl (by kernel_rfl) (by kernel_rfl)⟩)
                            clear hK hK0 hT E
                            revert e1 c1
                            generalize a.eval = ρ
                            intro e1 c1
                            go_simp
                          | 2, _ => exact op_moveG rfl rfl rfl rfl ((E 146 (by decide)).trans (hT.val 1 rfl (hn 1 (by decide)))) (hK 147 _ _ (by decide) ⟨hI, hT.set 2 rfl (by kernel_rfl) (by kernel_rfl)⟩)
                          | 3, _ => exact op_moveG rfl (want_on (d := 147) (b := true) rfl rfl ((E 147 (by decide)).trans (hT.val 2 rfl (hn 2 (by decide))))) rfl rfl ((E 19 (by decide)).trans (hT.rd 5 rfl)) (hK 148 _ _ (by decide) ⟨hI, hT.set 3 rfl (by kernel_rfl) (by kernel_rfl)⟩)
                          | 4, _ =>
                            have e1 := (E 148 (by decide)).trans (hT.val 3 rfl (hn 3 (by decide)))
                            have c1 : a.eval (.const (Value.int IntKind.i64 0)) = Value.int IntKind.i64 0 := rfl
                            refine op_valueG (w' := wx) (v := .bool true) rfl (want_on (d := 147) (b := true) rfl rfl ((E 147 (by decide)).trans (hT.val 2 rfl (hn 2 (by decide))))) rfl ?_ (hK 149 _ _ (by decide) ⟨hI, hT.set 4 rfl (by kernel_rfl) (by kernel_rfl)⟩)
                            clear hK hK0 hT E
                            revert e1 c1
                            generalize a.eval = ρ
                            intro e1 c1
                            go_simp
                          | 5, _ =>
                            have e1 := (E 147 (by decide)).trans (hT.val 2 rfl (hn 2 (by decide)))
                            have e2 := (E 149 (by decide)).trans (hT.val 4 rfl (hn 4 (by decide)))
                            have c1 : a.eval (.const (Value.bool false)) = Value.bool false := rfl
                            refine op_valueG (w' := wx) (v := .bool true) rfl rfl rfl ?_ (hK 150 _ _ (by decide) ⟨hI, hT.set 5 rfl (by kernel_rfl) (by kernel_rfl)⟩)
                            clear hK hK0 hT E
                            revert e1 e2 c1
                            generalize a.eval = ρ
                            intro e1 e2 c1
                            go_simp
                          | 6, _ => exact op_moveG rfl rfl rfl rfl ((E 150 (by decide)).trans (hT.val 5 rfl (hn 5 (by decide)))) (hK 151 _ _ (by decide) ⟨hI, hT.set 6 rfl (by kernel_rfl) (by kernel_rfl)⟩)
                          | 7, _ => exact op_moveG rfl (want_on (d := 151) (b := true) rfl rfl ((E 151 (by decide)).trans (hT.val 6 rfl (hn 6 (by decide))))) rfl rfl ((E 7 (by decide)).trans (hT.rd 0 rfl)) (hK 152 _ _ (by decide) ⟨hI, hT.set 7 rfl (by kernel_rfl) (by kernel_rfl)⟩)
                          | 8, _ =>
                            have e1 := (E 5 (by decide)).trans (hT.rd 1 rfl)
                            refine op_valueG (w' := wx) (v := .pointer (some ⟨b0, 0, none⟩)) rfl (want_on (d := 151) (b := true) rfl rfl ((E 151 (by decide)).trans (hT.val 6 rfl (hn 6 (by decide))))) rfl ?_ (hK 153 _ _ (by decide) ⟨hI, hT.set 8 rfl (by kernel_rfl) (by kernel_rfl)⟩)
                            clear hK hK0 hT E
                            revert e1
                            generalize a.eval = ρ
                            intro e1
                            go_simp
                          | 9, _ =>
                            have e1 := (E 153 (by decide)).trans (hT.val 8 rfl (hn 8 (by decide)))
                            have m0 := ((HG.out.step hI).at 7 rfl : HasCs _ _ _) 0 (.slice (some ⟨bv, ov, none⟩) l.length c) rfl
                            refine op_valueG (w' := wx) (v := .slice (some ⟨bv, ov, none⟩) l.length c) rfl (want_on (d := 151) (b := true) rfl rfl ((E 151 (by decide)).trans (hT.val 6 rfl (hn 6 (by decide))))) rfl ?_ (hK 154 _ _ (by decide) ⟨hI, hT.set 9 rfl (by kernel_rfl) (by kernel_rfl)⟩)
                            clear hK hK0 hT E
                            revert e1
                            generalize a.eval = ρ
                            intro e1
                            go_simp
                          | 10, _ =>
                            have e1 := (E 152 (by decide)).trans (hT.val 7 rfl (hn 7 (by decide)))
                            have e2 := (E 154 (by decide)).trans (hT.val 9 rfl (hn 9 (by decide)))
                            exact op_goG rfl (want_on (d := 151) (b := true) rfl rfl ((E 151 (by decide)).trans (hT.val 6 rfl (hn 6 (by decide))))) rfl rfl Try.func10 (by kernel_rfl) rfl (by simp only [List.map_toArray, List.map_cons, List.map_nil, e1, e2]) (HI1.out _ hI) (fun w' hb => hK 155 _ _ (by decide) ⟨hI.trans (hb.mono hI.size), hT.set 10 rfl (by kernel_rfl) (by kernel_rfl)⟩)
                          | 11, _ => exact op_moveG rfl (want_on (d := 151) (b := true) rfl rfl ((E 151 (by decide)).trans (hT.val 6 rfl (hn 6 (by decide))))) rfl rfl ((E 155 (by decide)).trans (hT.val 10 rfl (hn 10 (by decide)))) (hK 156 _ _ (by decide) ⟨hI, hT.set 11 rfl (by kernel_rfl) (by kernel_rfl)⟩)
                          | 12, _ => exact op_moveG rfl (want_on (d := 156) (b := true) rfl rfl ((E 156 (by decide)).trans (hT.val 11 rfl (hn 11 (by decide))))) rfl rfl ((E 17 (by decide)).trans (hT.rd 2 rfl)) (hK 157 _ _ (by decide) ⟨hI, hT.set 12 rfl (by kernel_rfl) (by kernel_rfl)⟩)
                          | 13, _ => exact op_moveG rfl (want_on (d := 156) (b := true) rfl rfl ((E 156 (by decide)).trans (hT.val 11 rfl (hn 11 (by decide))))) rfl rfl ((E 18 (by decide)).trans (hT.rd 3 rfl)) (hK 158 _ _ (by decide) ⟨hI, hT.set 13 rfl (by kernel_rfl) (by kernel_rfl)⟩)
                          | 14, _ =>
                            have e1 := (E 157 (by decide)).trans (hT.val 12 rfl (hn 12 (by decide)))
                            have e2 := (E 158 (by decide)).trans (hT.val 13 rfl (hn 13 (by decide)))
                            exact op_goG rfl (want_on (d := 156) (b := true) rfl rfl ((E 156 (by decide)).trans (hT.val 11 rfl (hn 11 (by decide))))) rfl rfl Try.func10 (by kernel_rfl) rfl (by simp only [List.map_toArray, List.map_cons, List.map_nil, e1, e2]) (HI2.out _ hI) (fun w' hb => hK 159 _ _ (by decide) ⟨hI.trans (hb.mono hI.size), hT.set 14 rfl (by kernel_rfl) (by kernel_rfl)⟩)
                          | 15, _ =>
                            have e1 := (E 159 (by decide)).trans (hT.val 14 rfl (hn 14 (by decide)))
                            refine op_valueG (w' := wx) (v := .bool false) rfl (want_on (d := 156) (b := true) rfl rfl ((E 156 (by decide)).trans (hT.val 11 rfl (hn 11 (by decide))))) rfl ?_ (hK 160 _ _ (by decide) ⟨hI, hT.set 15 rfl (by kernel_rfl) (by kernel_rfl)⟩)
                            clear hK hK0 hT E
                            revert e1
                            generalize a.eval = ρ
                            intro e1
                            go_simp
                          | 16, _ =>
                            have e1 := (E 156 (by decide)).trans (hT.val 11 rfl (hn 11 (by decide)))
                            have e2 := (E 160 (by decide)).trans (hT.val 15 rfl (hn 15 (by decide)))
                            have c1 : a.eval (.const (Value.bool false)) = Value.bool false := rfl
                            refine op_valueG (w' := wx) (v := .bool false) rfl (want_on (d := 151) (b := true) rfl rfl ((E 151 (by decide)).trans (hT.val 6 rfl (hn 6 (by decide))))) rfl ?_ (hK 161 _ _ (by decide) ⟨hI, hT.set 16 rfl (by kernel_rfl) (by kernel_rfl)⟩)
                            clear hK hK0 hT E
                            revert e1 e2 c1
                            generalize a.eval = ρ
                            intro e1 e2 c1
                            go_simp
                          | 17, _ => exact op_moveG rfl (want_on (d := 151) (b := true) rfl rfl ((E 151 (by decide)).trans (hT.val 6 rfl (hn 6 (by decide))))) rfl rfl ((E 161 (by decide)).trans (hT.val 16 rfl (hn 16 (by decide)))) (hK 162 _ _ (by decide) ⟨hI, hT.set 17 rfl (by kernel_rfl) (by kernel_rfl)⟩)
                          | 18, _ => exact op_moveG rfl (want_on (d := 162) (b := false) rfl rfl ((E 162 (by decide)).trans (hT.val 17 rfl (hn 17 (by decide))))) rfl rfl ((E 17 (by decide)).trans (hT.rd 2 rfl)) (hK 163 _ _ (by decide) ⟨hI, hT.set 18 rfl (by kernel_rfl) (by kernel_rfl)⟩)
                          | 19, _ =>
                            have e1 := (E 5 (by decide)).trans (hT.rd 1 rfl)
                            refine op_valueG (w' := wx) (v := .pointer (some ⟨b0, 0, none⟩)) rfl (want_on (d := 162) (b := false) rfl rfl ((E 162 (by decide)).trans (hT.val 17 rfl (hn 17 (by decide))))) rfl ?_ (hK 164 _ _ (by decide) ⟨hI, hT.set 19 rfl (by kernel_rfl) (by kernel_rfl)⟩)
                            clear hK hK0 hT E
                            revert e1
                            generalize a.eval = ρ
                            intro e1
                            go_simp
                          | 20, _ =>
                            have e1 := (E 164 (by decide)).trans (hT.val 19 rfl (hn 19 (by decide)))
                            have m0 := ((HG.out.step hI).at 7 rfl : HasCs _ _ _) 0 (.slice (some ⟨bv, ov, none⟩) l.length c) rfl
                            refine op_valueG (w' := wx) (v := .slice (some ⟨bv, ov, none⟩) l.length c) rfl (want_on (d := 162) (b := false) rfl rfl ((E 162 (by decide)).trans (hT.val 17 rfl (hn 17 (by decide))))) rfl ?_ (hK 165 _ _ (by decide) ⟨hI, hT.set 20 rfl (by kernel_rfl) (by kernel_rfl)⟩)
                            clear hK hK0 hT E
                            revert e1
                            generalize a.eval = ρ
                            intro e1
                            go_simp
                          | 21, _ =>
                            have e1 := (E 163 (by decide)).trans (hT.val 18 rfl (hn 18 (by decide)))
                            have e2 := (E 165 (by decide)).trans (hT.val 20 rfl (hn 20 (by decide)))
                            exact op_goG rfl (want_on (d := 162) (b := false) rfl rfl ((E 162 (by decide)).trans (hT.val 17 rfl (hn 17 (by decide))))) rfl rfl Try.func10 (by kernel_rfl) rfl (by simp only [List.map_toArray, List.map_cons, List.map_nil, e1, e2]) (HI3.out _ hI) (fun w' hb => hK 166 _ _ (by decide) ⟨hI.trans (hb.mono hI.size), hT.set 21 rfl (by kernel_rfl) (by kernel_rfl)⟩)
                          | 22, _ => exact op_moveG rfl (want_on (d := 162) (b := false) rfl rfl ((E 162 (by decide)).trans (hT.val 17 rfl (hn 17 (by decide))))) rfl rfl ((E 166 (by decide)).trans (hT.val 21 rfl (hn 21 (by decide)))) (hK 167 _ _ (by decide) ⟨hI, hT.set 22 rfl (by kernel_rfl) (by kernel_rfl)⟩)
                          | 23, _ =>
                            have e1 := (E 5 (by decide)).trans (hT.rd 1 rfl)
                            refine op_valueG (w' := wx) (v := .pointer (some ⟨b0, 0, none⟩)) rfl (want_on (d := 167) (b := true) rfl rfl ((E 167 (by decide)).trans (hT.val 22 rfl (hn 22 (by decide))))) rfl ?_ (hK 168 _ _ (by decide) ⟨hI, hT.set 23 rfl (by kernel_rfl) (by kernel_rfl)⟩)
                            clear hK hK0 hT E
                            revert e1
                            generalize a.eval = ρ
                            intro e1
                            go_simp
                          | 24, _ =>
                            have e1 := (E 168 (by decide)).trans (hT.val 23 rfl (hn 23 (by decide)))
                            have m0 := ((HG.out.step hI).at 7 rfl : HasCs _ _ _) 0 (.slice (some ⟨bv, ov, none⟩) l.length c) rfl
                            refine op_valueG (w' := wx) (v := .slice (some ⟨bv, ov, none⟩) l.length c) rfl (want_on (d := 167) (b := true) rfl rfl ((E 167 (by decide)).trans (hT.val 22 rfl (hn 22 (by decide))))) rfl ?_ (hK 169 _ _ (by decide) ⟨hI, hT.set 24 rfl (by kernel_rfl) (by kernel_rfl)⟩)
                            clear hK hK0 hT E
                            revert e1
                            generalize a.eval = ρ
                            intro e1
                            go_simp
                          | 25, _ =>
                            have e1 := (E 5 (by decide)).trans (hT.rd 1 rfl)
                            refine op_valueG (w' := wx) (v := .pointer (some ⟨b0, 3, none⟩)) rfl (want_on (d := 167) (b := true) rfl rfl ((E 167 (by decide)).trans (hT.val 22 rfl (hn 22 (by decide))))) rfl ?_ (hK 170 _ _ (by decide) ⟨hI, hT.set 25 rfl (by kernel_rfl) (by kernel_rfl)⟩)
                            clear hK hK0 hT E
                            revert e1
                            generalize a.eval = ρ
                            intro e1
                            go_simp
                          | 26, _ =>
                            have e1 := (E 170 (by decide)).trans (hT.val 25 rfl (hn 25 (by decide)))
                            have m3 := ((HG.out.step hI).at 7 rfl : HasCs _ _ _) 3 (.int .i64 ((j : Int) + 1)) rfl
                            refine op_valueG (w' := wx) (v := .int .i64 ((j : Int) + 1)) rfl (want_on (d := 167) (b := true) rfl rfl ((E 167 (by decide)).trans (hT.val 22 rfl (hn 22 (by decide))))) rfl ?_ (hK 171 _ _ (by decide) ⟨hI, hT.set 26 rfl (by kernel_rfl) (by kernel_rfl)⟩)
                            clear hK hK0 hT E
                            revert e1
                            generalize a.eval = ρ
                            intro e1
                            go_simp
                          | 27, _ =>
                            have e1 := (E 171 (by decide)).trans (hT.val 26 rfl (hn 26 (by decide)))
                            have c1 : a.eval (.const (Value.int IntKind.i64 1)) = Value.int IntKind.i64 1 := rfl
                            have f2 := HF2.out
                            have f3 := HF3.out
                            refine op_valueG (w' := wx) (v := .int .i64 (j : Int)) rfl (want_on (d := 167) (b := true) rfl rfl ((E 167 (by decide)).trans (hT.val 22 rfl (hn 22 (by decide))))) rfl ?_ (hK 172 _ _ (by decide) ⟨hI, hT.set 27 rfl (by kernel_rfl) (by kernel_rfl)⟩)
                            clear hK hK0 hT E
                            revert e1 c1
                            generalize a.eval = ρ
                            intro e1 c1
                            go_simp
                          | 28, _ =>
                            have e1 := (E 169 (by decide)).trans (hT.val 24 rfl (hn 24 (by decide)))
                            have e2 := (E 172 (by decide)).trans (hT.val 27 rfl (hn 27 (by decide)))
                            have f3 := HF3.out
                            have f4 := HJL.out
                            refine op_valueG (w' := wx) (v := .pointer (some ⟨bv, ov + j * 2, none⟩)) rfl (want_on (d := 167) (b := true) rfl rfl ((E 167 (by decide)).trans (hT.val 22 rfl (hn 22 (by decide))))) rfl ?_ (hK 173 _ _ (by decide) ⟨hI, hT.set 28 rfl (by kernel_rfl) (by kernel_rfl)⟩)
                            clear hK hK0 hT E
                            revert e1 e2
                            generalize a.eval = ρ
                            intro e1 e2
                            go_simp
                          | 29, _ =>
                            have e1 := (E 173 (by decide)).trans (hT.val 28 rfl (hn 28 (by decide)))
                            have g1 := (hI.cell (p := ⟨bv, ov + j * 2, none⟩) (World.block_lt_of_cell? w12 _ HE1.out)).trans HE1.out
                            have g2 := (hI.cell (p := ⟨bv, ov + j * 2 + 1, none⟩) (World.block_lt_of_cell? w12 _ HE2.out)).trans HE2.out
                            refine op_valueG (w' := wx) (v := .agg #[.int .i64 nn, .int .i64 1]) rfl (want_on (d := 167) (b := true) rfl rfl ((E 167 (by decide)).trans (hT.val 22 rfl (hn 22 (by decide))))) rfl ?_ (hK 174 _ _ (by decide) ⟨hI, hT.set 29 rfl (by kernel_rfl) (by kernel_rfl)⟩)
                            clear hK hK0 hT E
                            revert e1
                            generalize a.eval = ρ
                            intro e1
                            go_simp
                          | 30, _ =>
                            have e1 := (E 5 (by decide)).trans (hT.rd 1 rfl)
                            refine op_valueG (w' := wx) (v := .pointer (some ⟨b0, 4, none⟩)) rfl (want_on (d := 167) (b := true) rfl rfl ((E 167 (by decide)).trans (hT.val 22 rfl (hn 22 (by decide))))) rfl ?_ (hK 175 _ _ (by decide) ⟨hI, hT.set 30 rfl (by kernel_rfl) (by kernel_rfl)⟩)
                            clear hK hK0 hT E
                            revert e1
                            generalize a.eval = ρ
                            intro e1
                            go_simp
                          | 31, _ =>
                            have e1 := (E 175 (by decide)).trans (hT.val 30 rfl (hn 30 (by decide)))
                            have m4 := ((HG.out.step hI).at 7 rfl : HasCs _ _ _) 4 (.int .i64 nn) rfl
                            refine op_valueG (w' := wx) (v := .int .i64 nn) rfl (want_on (d := 167) (b := true) rfl rfl ((E 167 (by decide)).trans (hT.val 22 rfl (hn 22 (by decide))))) rfl ?_ (hK 176 _ _ (by decide) ⟨hI, hT.set 31 rfl (by kernel_rfl) (by kernel_rfl)⟩)
                            clear hK hK0 hT E
                            revert e1
                            generalize a.eval = ρ
                            intro e1
                            go_simp
                          | 32, _ =>
                            have e1 := (E 176 (by decide)).trans (hT.val 31 rfl (hn 31 (by decide)))
                            exact op_goG rfl (want_on (d := 167) (b := true) rfl rfl ((E 167 (by decide)).trans (hT.val 22 rfl (hn 22 (by decide))))) rfl rfl Try.func15 (by kernel_rfl) rfl (by simp only [List.map_toArray, List.map_cons, List.map_nil, e1]) (HRO.out _) (fun w' hb => hK 177 _ _ (by decide) ⟨hI.trans (hb.mono hI.size), hT.set 32 rfl (by kernel_rfl) (by kernel_rfl)⟩)
                          | 33, _ =>
                            have e1 := (E 174 (by decide)).trans (hT.val 29 rfl (hn 29 (by decide)))
                            have e2 := (E 177 (by decide)).trans (hT.val 32 rfl (hn 32 (by decide)))
                            refine op_valueG (w' := wx) (v := .bool false) rfl (want_on (d := 167) (b := true) rfl rfl ((E 167 (by decide)).trans (hT.val 22 rfl (hn 22 (by decide))))) rfl ?_ (hK 178 _ _ (by decide) ⟨hI, hT.set 33 rfl (by kernel_rfl) (by kernel_rfl)⟩)
                            clear hK hK0 hT E
                            revert e1 e2
                            generalize a.eval = ρ
                            intro e1 e2
                            go_simp
                          | 34, _ =>
                            have e1 := (E 167 (by decide)).trans (hT.val 22 rfl (hn 22 (by decide)))
                            have e2 := (E 178 (by decide)).trans (hT.val 33 rfl (hn 33 (by decide)))
                            have c1 : a.eval (.const (Value.bool false)) = Value.bool false := rfl
                            refine op_valueG (w' := wx) (v := .bool false) rfl (want_on (d := 162) (b := false) rfl rfl ((E 162 (by decide)).trans (hT.val 17 rfl (hn 17 (by decide))))) rfl ?_ (hK 179 _ _ (by decide) ⟨hI, hT.set 34 rfl (by kernel_rfl) (by kernel_rfl)⟩)
                            clear hK hK0 hT E
                            revert e1 e2 c1
                            generalize a.eval = ρ
                            intro e1 e2 c1
                            go_simp
                          | 35, _ =>
                            have e1 := (E 162 (by decide)).trans (hT.val 17 rfl (hn 17 (by decide)))
                            have e2 := (E 179 (by decide)).trans (hT.val 34 rfl (hn 34 (by decide)))
                            have c1 : a.eval (.const (Value.bool true)) = Value.bool true := rfl
                            refine op_valueG (w' := wx) (v := .bool false) rfl (want_on (d := 151) (b := true) rfl rfl ((E 151 (by decide)).trans (hT.val 6 rfl (hn 6 (by decide))))) rfl ?_ (hK 180 _ _ (by decide) ⟨hI, hT.set 35 rfl (by kernel_rfl) (by kernel_rfl)⟩)
                            clear hK hK0 hT E
                            revert e1 e2 c1
                            generalize a.eval = ρ
                            intro e1 e2 c1
                            go_simp
                          | 36, _ =>
                            have e1 := (E 151 (by decide)).trans (hT.val 6 rfl (hn 6 (by decide)))
                            have e2 := (E 180 (by decide)).trans (hT.val 35 rfl (hn 35 (by decide)))
                            have c1 : a.eval (.const (Value.bool false)) = Value.bool false := rfl
                            refine op_valueG (w' := wx) (v := .bool false) rfl rfl rfl ?_ (hK 181 _ _ (by decide) ⟨hI, hT.set 36 rfl (by kernel_rfl) (by kernel_rfl)⟩)
                            clear hK hK0 hT E
                            revert e1 e2 c1
                            generalize a.eval = ρ
                            intro e1 e2 c1
                            go_simp
                          | k + 37, h => exact absurd (show k + 37 < 37 from h) (by omega)
                        · intro L vals wx hJ hall
                          obtain ⟨hI, hT⟩ := hJ
                          have HX := Lib.hid hI
                          have v7 : vals 7 = .pointer (some ⟨b, 0, none⟩) := hT.rd 0 rfl
                          have v5 : vals 5 = .pointer (some ⟨b0, 0, none⟩) := hT.rd 1 rfl
                          have v17 : vals 17 = vr := hT.rd 2 rfl
                          have v18 : vals 18 = .slice A5 sl.length c5 := hT.rd 3 rfl
                          have v12 : vals 12 = .int .i64 0 := hT.rd 4 rfl
                          have v19 : vals 19 = .int .i64 0 := hT.rd 5 rfl
                          have v181 : vals 181 = .bool false := hT.val 36 rfl (hall 36 (by decide))
                          simp only [overA, Act.put, List.setIfInBounds_toArray, List.set_cons_zero, List.set_cons_succ]
                          rw [v7, v5, v17, v18, v12, v19, v181]
                          clear hI hT hall v7 v5 v17 v18 v12 v19 v181
                          go_wp2
                          go_meet
                          exact ⟨rfl, HX⟩
                    | false =>
                      as_aux_lemma =>
                        clear hrv hcr
                        refine wp_region_tab (by kernel_rfl) [7, 5, 17, 18, 12, 19, 145, 146, 147, 148, 149, 150, 151, 152, 153, 154, 155, 156, 157, 158, 159, 160, 161, 162, 163, 164, 165, 166, 167, 168, 169, 170, 171, 172, 173, 174, 175, 176, 177, 178, 179, 180, 181] [[], [0], [1], [2], [2, 3], [2, 4], [2, 5], [6], [6], [6, 8], [6, 7, 9], [6, 10], [11], [11], [11, 12, 13], [11, 14], [6, 11, 15], [6, 14, 16], [17], [17], [17, 19], [17, 18, 20], [17, 21], [22], [22, 23], [22], [22, 25], [22, 26], [22, 24, 27], [22, 28], [22], [22, 30], [22, 31], [22, 29, 32], [17, 22, 33], [6, 17, 34], [6, 35]]
                          (fun L vals wx => Below w12.heap.size w12 wx ∧ TabR (tbPbTF b b0 vr A A5 l sl c c5) (bsPbTF b b0 vr A A5 l sl c c5) L vals) (by kernel_rfl) rfl ?_ ?_ ?_
                        · exact ⟨Below.drew (Below.refl _ _), TabR.start (by simp [bsPbTF])⟩
                        · intro i hi a L vals wx E hJ hLi hn K hK hK0
                          obtain ⟨hI, hT⟩ := hJ
                          match i, hi with
                          | 0, _ => exact op_moveG rfl rfl rfl rfl ((E 12 (by decide)).trans (hT.rd 4 rfl)) (hK 145 _ _ (by decide) ⟨hI, hT.set 0 rfl (by kernel_rfl) (by kernel_rfl)⟩)
                          | 1, _ =>
                            have e1 := (E 145 (by decide)).trans (hT.val 0 rfl (hn 0 (by decide)))
                            have c1 : a.eval (.const (Value.int IntKind.i64 0)) = Value.int IntKind.i64 0 := rfl
                            refine op_valueG (w' := wx) (v := .bool true) rfl rfl rfl ?_ (hK 146 _ _ (by decide) ⟨hI, hT.set 1 rfl (by kernel_rfl) (by kernel_rfl)⟩)
                            clear hK hK0 hT E
                            revert e1 c1
                            generalize a.eval = ρ
                            intro e1 c1
                            go_simp
                          | 2, _ => exact op_moveG rfl rfl rfl rfl ((E 146 (by decide)).trans (hT.val 1 rfl (hn 1 (by decide)))) (hK 147 _ _ (by decide) ⟨hI, hT.set 2 rfl (by kernel_rfl) (by kernel_rfl)⟩)
                          | 3, _ => exact op_moveG rfl (want_on (d := 147) (b := true) rfl rfl ((E 147 (by decide)).trans (hT.val 2 rfl (hn 2 (by decide))))) rfl rfl ((E 19 (by decide)).trans (hT.rd 5 rfl)) (hK 148 _ _ (by decide) ⟨hI, hT.set 3 rfl (by kernel_rfl) (by kernel_rfl)⟩)
                          | 4, _ =>
                            have e1 := (E 148 (by decide)).trans (hT.val 3 rfl (hn 3 (by decide)))
                            have c1 : a.eval (.const (Value.int IntKind.i64 0)) = Value.int IntKind.i64 0 := rfl
                            refine op_valueG (w' := wx) (v := .bool true) rfl (want_on (d := 147) (b := true) rfl rfl ((E 147 (by decide)).trans (hT.val 2 rfl (hn 2 (by decide))))) rfl ?_ (hK 149 _ _ (by decide) ⟨hI, hT.set 4 rfl (by kernel_rfl) (by kernel_rfl)⟩)
                            clear hK hK0 hT E
                            revert e1 c1
                            generalize a.eval = ρ
                            intro e1 c1
                            go_simp
                          | 5, _ =>
                            have e1 := (E 147 (by decide)).trans (hT.val 2 rfl (hn 2 (by decide)))
                            have e2 := (E 149 (by decide)).trans (hT.val 4 rfl (hn 4 (by decide)))
                            have c1 : a.eval (.const (Value.bool false)) = Value.bool false := rfl
                            refine op_valueG (w' := wx) (v := .bool true) rfl rfl rfl ?_ (hK 150 _ _ (by decide) ⟨hI, hT.set 5 rfl (by kernel_rfl) (by kernel_rfl)⟩)
                            clear hK hK0 hT E
                            revert e1 e2 c1
                            generalize a.eval = ρ
                            intro e1 e2 c1
                            go_simp
                          | 6, _ => exact op_moveG rfl rfl rfl rfl ((E 150 (by decide)).trans (hT.val 5 rfl (hn 5 (by decide)))) (hK 151 _ _ (by decide) ⟨hI, hT.set 6 rfl (by kernel_rfl) (by kernel_rfl)⟩)
                          | 7, _ => exact op_moveG rfl (want_on (d := 151) (b := true) rfl rfl ((E 151 (by decide)).trans (hT.val 6 rfl (hn 6 (by decide))))) rfl rfl ((E 7 (by decide)).trans (hT.rd 0 rfl)) (hK 152 _ _ (by decide) ⟨hI, hT.set 7 rfl (by kernel_rfl) (by kernel_rfl)⟩)
                          | 8, _ =>
                            have e1 := (E 5 (by decide)).trans (hT.rd 1 rfl)
                            refine op_valueG (w' := wx) (v := .pointer (some ⟨b0, 0, none⟩)) rfl (want_on (d := 151) (b := true) rfl rfl ((E 151 (by decide)).trans (hT.val 6 rfl (hn 6 (by decide))))) rfl ?_ (hK 153 _ _ (by decide) ⟨hI, hT.set 8 rfl (by kernel_rfl) (by kernel_rfl)⟩)
                            clear hK hK0 hT E
                            revert e1
                            generalize a.eval = ρ
                            intro e1
                            go_simp
                          | 9, _ =>
                            have e1 := (E 153 (by decide)).trans (hT.val 8 rfl (hn 8 (by decide)))
                            have m0 := ((HG.out.step hI).at 7 rfl : HasCs _ _ _) 0 (.slice A l.length c) rfl
                            refine op_valueG (w' := wx) (v := .slice A l.length c) rfl (want_on (d := 151) (b := true) rfl rfl ((E 151 (by decide)).trans (hT.val 6 rfl (hn 6 (by decide))))) rfl ?_ (hK 154 _ _ (by decide) ⟨hI, hT.set 9 rfl (by kernel_rfl) (by kernel_rfl)⟩)
                            clear hK hK0 hT E
                            revert e1
                            generalize a.eval = ρ
                            intro e1
                            go_simp
                          | 10, _ =>
                            have e1 := (E 152 (by decide)).trans (hT.val 7 rfl (hn 7 (by decide)))
                            have e2 := (E 154 (by decide)).trans (hT.val 9 rfl (hn 9 (by decide)))
                            exact op_goG rfl (want_on (d := 151) (b := true) rfl rfl ((E 151 (by decide)).trans (hT.val 6 rfl (hn 6 (by decide))))) rfl rfl Try.func10 (by kernel_rfl) rfl (by simp only [List.map_toArray, List.map_cons, List.map_nil, e1, e2]) (HI1.out _ hI) (fun w' hb => hK 155 _ _ (by decide) ⟨hI.trans (hb.mono hI.size), hT.set 10 rfl (by kernel_rfl) (by kernel_rfl)⟩)
                          | 11, _ => exact op_moveG rfl (want_on (d := 151) (b := true) rfl rfl ((E 151 (by decide)).trans (hT.val 6 rfl (hn 6 (by decide))))) rfl rfl ((E 155 (by decide)).trans (hT.val 10 rfl (hn 10 (by decide)))) (hK 156 _ _ (by decide) ⟨hI, hT.set 11 rfl (by kernel_rfl) (by kernel_rfl)⟩)
                          | 12, _ => exact op_moveG rfl (want_on (d := 156) (b := true) rfl rfl ((E 156 (by decide)).trans (hT.val 11 rfl (hn 11 (by decide))))) rfl rfl ((E 17 (by decide)).trans (hT.rd 2 rfl)) (hK 157 _ _ (by decide) ⟨hI, hT.set 12 rfl (by kernel_rfl) (by kernel_rfl)⟩)
                          | 13, _ => exact op_moveG rfl (want_on (d := 156) (b := true) rfl rfl ((E 156 (by decide)).trans (hT.val 11 rfl (hn 11 (by decide))))) rfl rfl ((E 18 (by decide)).trans (hT.rd 3 rfl)) (hK 158 _ _ (by decide) ⟨hI, hT.set 13 rfl (by kernel_rfl) (by kernel_rfl)⟩)
                          | 14, _ =>
                            have e1 := (E 157 (by decide)).trans (hT.val 12 rfl (hn 12 (by decide)))
                            have e2 := (E 158 (by decide)).trans (hT.val 13 rfl (hn 13 (by decide)))
                            exact op_goG rfl (want_on (d := 156) (b := true) rfl rfl ((E 156 (by decide)).trans (hT.val 11 rfl (hn 11 (by decide))))) rfl rfl Try.func10 (by kernel_rfl) rfl (by simp only [List.map_toArray, List.map_cons, List.map_nil, e1, e2]) (HI2.out _ hI) (fun w' hb => hK 159 _ _ (by decide) ⟨hI.trans (hb.mono hI.size), hT.set 14 rfl (by kernel_rfl) (by kernel_rfl)⟩)
                          | 15, _ =>
                            have e1 := (E 159 (by decide)).trans (hT.val 14 rfl (hn 14 (by decide)))
                            refine op_valueG (w' := wx) (v := .bool false) rfl (want_on (d := 156) (b := true) rfl rfl ((E 156 (by decide)).trans (hT.val 11 rfl (hn 11 (by decide))))) rfl ?_ (hK 160 _ _ (by decide) ⟨hI, hT.set 15 rfl (by kernel_rfl) (by kernel_rfl)⟩)
                            clear hK hK0 hT E
                            revert e1
                            generalize a.eval = ρ
                            intro e1
                            go_simp
                          | 16, _ =>
                            have e1 := (E 156 (by decide)).trans (hT.val 11 rfl (hn 11 (by decide)))
                            have e2 := (E 160 (by decide)).trans (hT.val 15 rfl (hn 15 (by decide)))
                            have c1 : a.eval (.const (Value.bool false)) = Value.bool false := rfl
                            refine op_valueG (w' := wx) (v := .bool false) rfl (want_on (d := 151) (b := true) rfl rfl ((E 151 (by decide)).trans (hT.val 6 rfl (hn 6 (by decide))))) rfl ?_ (hK 161 _ _ (by decide) ⟨hI, hT.set 16 rfl (by kernel_rfl) (by kernel_rfl)⟩)
                            clear hK hK0 hT E
                            revert e1 e2 c1
                            generalize a.eval = ρ
                            intro e1 e2 c1
                            go_simp
                          | 17, _ => exact op_moveG rfl (want_on (d := 151) (b := true) rfl rfl ((E 151 (by decide)).trans (hT.val 6 rfl (hn 6 (by decide))))) rfl rfl ((E 161 (by decide)).trans (hT.val 16 rfl (hn 16 (by decide)))) (hK 162 _ _ (by decide) ⟨hI, hT.set 17 rfl (by kernel_rfl) (by kernel_rfl)⟩)
                          | 18, _ => exact op_moveG rfl (want_on (d := 162) (b := false) rfl rfl ((E 162 (by decide)).trans (hT.val 17 rfl (hn 17 (by decide))))) rfl rfl ((E 17 (by decide)).trans (hT.rd 2 rfl)) (hK 163 _ _ (by decide) ⟨hI, hT.set 18 rfl (by kernel_rfl) (by kernel_rfl)⟩)
                          | 19, _ =>
                            have e1 := (E 5 (by decide)).trans (hT.rd 1 rfl)
                            refine op_valueG (w' := wx) (v := .pointer (some ⟨b0, 0, none⟩)) rfl (want_on (d := 162) (b := false) rfl rfl ((E 162 (by decide)).trans (hT.val 17 rfl (hn 17 (by decide))))) rfl ?_ (hK 164 _ _ (by decide) ⟨hI, hT.set 19 rfl (by kernel_rfl) (by kernel_rfl)⟩)
                            clear hK hK0 hT E
                            revert e1
                            generalize a.eval = ρ
                            intro e1
                            go_simp
                          | 20, _ =>
                            have e1 := (E 164 (by decide)).trans (hT.val 19 rfl (hn 19 (by decide)))
                            have m0 := ((HG.out.step hI).at 7 rfl : HasCs _ _ _) 0 (.slice A l.length c) rfl
                            refine op_valueG (w' := wx) (v := .slice A l.length c) rfl (want_on (d := 162) (b := false) rfl rfl ((E 162 (by decide)).trans (hT.val 17 rfl (hn 17 (by decide))))) rfl ?_ (hK 165 _ _ (by decide) ⟨hI, hT.set 20 rfl (by kernel_rfl) (by kernel_rfl)⟩)
                            clear hK hK0 hT E
                            revert e1
                            generalize a.eval = ρ
                            intro e1
                            go_simp
                          | 21, _ =>
                            have e1 := (E 163 (by decide)).trans (hT.val 18 rfl (hn 18 (by decide)))
                            have e2 := (E 165 (by decide)).trans (hT.val 20 rfl (hn 20 (by decide)))
                            exact op_goG rfl (want_on (d := 162) (b := false) rfl rfl ((E 162 (by decide)).trans (hT.val 17 rfl (hn 17 (by decide))))) rfl rfl Try.func10 (by kernel_rfl) rfl (by simp only [List.map_toArray, List.map_cons, List.map_nil, e1, e2]) (HI3.out _ hI) (fun w' hb => hK 166 _ _ (by decide) ⟨hI.trans (hb.mono hI.size), hT.set 21 rfl (by kernel_rfl) (by kernel_rfl)⟩)
                          | 22, _ => exact op_moveG rfl (want_on (d := 162) (b := false) rfl rfl ((E 162 (by decide)).trans (hT.val 17 rfl (hn 17 (by decide))))) rfl rfl ((E 166 (by decide)).trans (hT.val 21 rfl (hn 21 (by decide)))) (hK 167 _ _ (by decide) ⟨hI, hT.set 22 rfl (by kernel_rfl) (by kernel_rfl)⟩)
                          | 23, _ => exact op_skip rfl (want_off (d := 167) (b := true) rfl rfl ((E 167 (by decide)).trans (hT.val 22 rfl (hn 22 (by decide))))) rfl (hK 168 _ _ (by decide) ⟨hI, hT.set 23 rfl (by kernel_rfl) (by kernel_rfl)⟩)
                          | 24, _ => exact op_skip rfl (want_off (d := 167) (b := true) rfl rfl ((E 167 (by decide)).trans (hT.val 22 rfl (hn 22 (by decide))))) rfl (hK 169 _ _ (by decide) ⟨hI, hT.set 24 rfl (by kernel_rfl) (by kernel_rfl)⟩)
                          | 25, _ => exact op_skip rfl (want_off (d := 167) (b := true) rfl rfl ((E 167 (by decide)).trans (hT.val 22 rfl (hn 22 (by decide))))) rfl (hK 170 _ _ (by decide) ⟨hI, hT.set 25 rfl (by kernel_rfl) (by kernel_rfl)⟩)
                          | 26, _ => exact op_skip rfl (want_off (d := 167) (b := true) rfl rfl ((E 167 (by decide)).trans (hT.val 22 rfl (hn 22 (by decide))))) rfl (hK 171 _ _ (by decide) ⟨hI, hT.set 26 rfl (by kernel_rfl) (by kernel_rfl)⟩)
                          | 27, _ => exact op_skip rfl (want_off (d := 167) (b := true) rfl rfl ((E 167 (by decide)).trans (hT.val 22 rfl (hn 22 (by decide))))) rfl (hK 172 _ _ (by decide) ⟨hI, hT.set 27 rfl (by kernel_rfl) (by kernel_rfl)⟩)
                          | 28, _ => exact op_skip rfl (want_off (d := 167) (b := true) rfl rfl ((E 167 (by decide)).trans (hT.val 22 rfl (hn 22 (by decide))))) rfl (hK 173 _ _ (by decide) ⟨hI, hT.set 28 rfl (by kernel_rfl) (by kernel_rfl)⟩)
                          | 29, _ => exact op_skip rfl (want_off (d := 167) (b := true) rfl rfl ((E 167 (by decide)).trans (hT.val 22 rfl (hn 22 (by decide))))) rfl (hK 174 _ _ (by decide) ⟨hI, hT.set 29 rfl (by kernel_rfl) (by kernel_rfl)⟩)
                          | 30, _ => exact op_skip rfl (want_off (d := 167) (b := true) rfl rfl ((E 167 (by decide)).trans (hT.val 22 rfl (hn 22 (by decide))))) rfl (hK 175 _ _ (by decide) ⟨hI, hT.set 30 rfl (by kernel_rfl) (by kernel_rfl)⟩)
                          | 31, _ => exact op_skip rfl (want_off (d := 167) (b := true) rfl rfl ((E 167 (by decide)).trans (hT.val 22 rfl (hn 22 (by decide))))) rfl (hK 176 _ _ (by decide) ⟨hI, hT.set 31 rfl (by kernel_rfl) (by kernel_rfl)⟩)
                          | 32, _ => exact op_skip rfl (want_off (d := 167) (b := true) rfl rfl ((E 167 (by decide)).trans (hT.val 22 rfl (hn 22 (by decide))))) rfl (hK 177 _ _ (by decide) ⟨hI, hT.set 32 rfl (by kernel_rfl) (by kernel_rfl)⟩)
                          | 33, _ => exact op_skip rfl (want_off (d := 167) (b := true) rfl rfl ((E 167 (by decide)).trans (hT.val 22 rfl (hn 22 (by decide))))) rfl (hK 178 _ _ (by decide) ⟨hI, hT.set 33 rfl (by kernel_rfl) (by kernel_rfl)⟩)
                          | 34, _ =>
                            have e1 := (E 167 (by decide)).trans (hT.val 22 rfl (hn 22 (by decide)))
                            have e2 := (E 178 (by decide)).trans (hT.val 33 rfl (hn 33 (by decide)))
                            have c1 : a.eval (.const (Value.bool false)) = Value.bool false := rfl
                            refine op_valueG (w' := wx) (v := .bool false) rfl (want_on (d := 162) (b := false) rfl rfl ((E 162 (by decide)).trans (hT.val 17 rfl (hn 17 (by decide))))) rfl ?_ (hK 179 _ _ (by decide) ⟨hI, hT.set 34 rfl (by kernel_rfl) (by kernel_rfl)⟩)
                            clear hK hK0 hT E
                            revert e1 e2 c1
                            generalize a.eval = ρ
                            intro e1 e2 c1
                            go_simp
                          | 35, _ =>
                            have e1 := (E 162 (by decide)).trans (hT.val 17 rfl (hn 17 (by decide)))
                            have e2 := (E 179 (by decide)).trans (hT.val 34 rfl (hn 34 (by decide)))
                            have c1 : a.eval (.const (Value.bool true)) = Value.bool true := rfl
                            refine op_valueG (w' := wx) (v := .bool false) rfl (want_on (d := 151) (b := true) rfl rfl ((E 151 (by decide)).trans (hT.val 6 rfl (hn 6 (by decide))))) rfl ?_ (hK 180 _ _ (by decide) ⟨hI, hT.set 35 rfl (by kernel_rfl) (by kernel_rfl)⟩)
                            clear hK hK0 hT E
                            revert e1 e2 c1
                            generalize a.eval = ρ
                            intro e1 e2 c1
                            go_simp
                          | 36, _ =>
                            have e1 := (E 151 (by decide)).trans (hT.val 6 rfl (hn 6 (by decide)))
                            have e2 := (E 180 (by decide)).trans (hT.val 35 rfl (hn 35 (by decide)))
                            have c1 : a.eval (.const (Value.bool false)) = Value.bool false := rfl
                            refine op_valueG (w' := wx) (v := .bool false) rfl rfl rfl ?_ (hK 181 _ _ (by decide) ⟨hI, hT.set 36 rfl (by kernel_rfl) (by kernel_rfl)⟩)
                            clear hK hK0 hT E
                            revert e1 e2 c1
                            generalize a.eval = ρ
                            intro e1 e2 c1
                            go_simp
                          | k + 37, h => exact absurd (show k + 37 < 37 from h) (by omega)
                        · intro L vals wx hJ hall
                          obtain ⟨hI, hT⟩ := hJ
                          have HX := Lib.hid hI
                          have v7 : vals 7 = .pointer (some ⟨b, 0, none⟩) := hT.rd 0 rfl
                          have v5 : vals 5 = .pointer (some ⟨b0, 0, none⟩) := hT.rd 1 rfl
                          have v17 : vals 17 = vr := hT.rd 2 rfl
                          have v18 : vals 18 = .slice A5 sl.length c5 := hT.rd 3 rfl
                          have v12 : vals 12 = .int .i64 0 := hT.rd 4 rfl
                          have v19 : vals 19 = .int .i64 0 := hT.rd 5 rfl
                          have v181 : vals 181 = .bool false := hT.val 36 rfl (hall 36 (by decide))
                          simp only [overA, Act.put, List.setIfInBounds_toArray, List.set_cons_zero, List.set_cons_succ]
                          rw [v7, v5, v17, v18, v12, v19, v181]
                          clear hI hT hall v7 v5 v17 v18 v12 v19 v181
                          go_wp2
                          go_meet
                          exact ⟨rfl, HX⟩
                  | false =>
                    clear hrs
                    cases ir with
                    | true =>
                      as_aux_lemma =>
                        obtain ⟨j, rfl⟩ : ∃ j : Nat, ck = (j : Int) + 1 := ⟨(ck - 1).toNat, by omega⟩
                        have hj : j < l.length := by have := HLN.out; omega
                        have hx : l.getD j (0, 0) = (nn, 1) := by have h := hrv (by simp); rw [show ((j : Int) + 1).toNat - 1 = j by omega] at h; exact h
                        obtain ⟨bv, ov, rfl, e1, e2⟩ := (HG.out.at 9 rfl : RatsA _ _ _) j hj
                        rw [hx] at e1 e2
                        have HE1 := Lib.hid e1
                        have HE2 := Lib.hid e2
                        have HJL := Lib.hid (show (j : Int) < (l.length : Int) by omega)
                        have f2 : IntKind.i64.wrap ((j : Int) + 1 - 1) = (j : Int) := by rw [IntWalk.i64_in _ (by have := HLM.out; omega)]; omega
                        have f3 : IntKind.i64.wrap (j : Int) = (j : Int) := IntWalk.i64_in _ (by have := HLM.out; omega)
                        have HF2 := Lib.hid f2
                        have HF3 := Lib.hid f3
                        clear hj hx e1 e2 f2 f3 hcr hrv
                        refine wp_region_tab (by kernel_rfl) [7, 5, 17, 18, 12, 19, 145, 146, 147, 148, 149, 150, 151, 152, 153, 154, 155, 156, 157, 158, 159, 160, 161, 162, 163, 164, 165, 166, 167, 168, 169, 170, 171, 172, 173, 174, 175, 176, 177, 178, 179, 180, 181] [[], [0], [1], [2], [2, 3], [2, 4], [2, 5], [6], [6], [6, 8], [6, 7, 9], [6, 10], [11], [11], [11, 12, 13], [11, 14], [6, 11, 15], [6, 14, 16], [17], [17], [17, 19], [17, 18, 20], [17, 21], [22], [22, 23], [22], [22, 25], [22, 26], [22, 24, 27], [22, 28], [22], [22, 30], [22, 31], [22, 29, 32], [17, 22, 33], [6, 17, 34], [6, 35]]
                          (fun L vals wx => Below w12.heap.size w12 wx ∧ TabR (tbPbFT b b0 vr A5 l sl c c5 bv ov j nn) (bsPbFT b b0 vr A5 l sl c c5 bv ov j nn) L vals) (by kernel_rfl) rfl ?_ ?_ ?_
                        · exact ⟨Below.drew (Below.refl _ _), TabR.start (by simp [bsPbFT])⟩
                        · intro i hi a L vals wx E hJ hLi hn K hK hK0
                          obtain ⟨hI, hT⟩ := hJ
                          match i, hi with
                          | 0, _ => exact op_moveG rfl rfl rfl rfl ((E 12 (by decide)).trans (hT.rd 4 rfl)) (hK 145 _ _ (by decide) ⟨hI, hT.set 0 rfl (by kernel_rfl) (by kernel_rfl)⟩)
                          | 1, _ =>
                            have e1 := (E 145 (by decide)).trans (hT.val 0 rfl (hn 0 (by decide)))
                            have c1 : a.eval (.const (Value.int IntKind.i64 0)) = Value.int IntKind.i64 0 := rfl
                            refine op_valueG (w' := wx) (v := .bool true) rfl rfl rfl ?_ (hK 146 _ _ (by decide) ⟨hI, hT.set 1 rfl (by kernel_rfl) (by kernel_rfl)⟩)
                            clear hK hK0 hT E
                            revert e1 c1
                            generalize a.eval = ρ
                            intro e1 c1
                            go_simp
                          | 2, _ => exact op_moveG rfl rfl rfl rfl ((E 146 (by decide)).trans (hT.val 1 rfl (hn 1 (by decide)))) (hK 147 _ _ (by decide) ⟨hI, hT.set 2 rfl (by kernel_rfl) (by kernel_rfl)⟩)
                          | 3, _ => exact op_moveG rfl (want_on (d := 147) (b := true) rfl rfl ((E 147 (by decide)).trans (hT.val 2 rfl (hn 2 (by decide))))) rfl rfl ((E 19 (by decide)).trans (hT.rd 5 rfl)) (hK 148 _ _ (by decide) ⟨hI, hT.set 3 rfl (by kernel_rfl) (by kernel_rfl)⟩)
                          | 4, _ =>
                            have e1 := (E 148 (by decide)).trans (hT.val 3 rfl (hn 3 (by decide)))
                            have c1 : a.eval (.const (Value.int IntKind.i64 0)) = Value.int IntKind.i64 0 := rfl
                            refine op_valueG (w' := wx) (v := .bool true) rfl (want_on (d := 147) (b := true) rfl rfl ((E 147 (by decide)).trans (hT.val 2 rfl (hn 2 (by decide))))) rfl ?_ (hK 149 _ _ (by decide) ⟨hI, hT.set 4 rfl (by kernel_rfl) (by kernel_rfl)⟩)
                            clear hK hK0 hT E
                            revert e1 c1
                            generalize a.eval = ρ
                            intro e1 c1
                            go_simp
                          | 5, _ =>
                            have e1 := (E 147 (by decide)).trans (hT.val 2 rfl (hn 2 (by decide)))
                            have e2 := (E 149 (by decide)).trans (hT.val 4 rfl (hn 4 (by decide)))
                            have c1 : a.eval (.const (Value.bool false)) = Value.bool false := rfl
                            refine op_valueG (w' := wx) (v := .bool true) rfl rfl rfl ?_ (hK 150 _ _ (by decide) ⟨hI, hT.set 5 rfl (by kernel_rfl) (by kernel_rfl)⟩)
                            clear hK hK0 hT E
                            revert e1 e2 c1
                            generalize a.eval = ρ
                            intro e1 e2 c1
                            go_simp
                          | 6, _ => exact op_moveG rfl rfl rfl rfl ((E 150 (by decide)).trans (hT.val 5 rfl (hn 5 (by decide)))) (hK 151 _ _ (by decide) ⟨hI, hT.set 6 rfl (by kernel_rfl) (by kernel_rfl)⟩)
                          | 7, _ => exact op_moveG rfl (want_on (d := 151) (b := true) rfl rfl ((E 151 (by decide)).trans (hT.val 6 rfl (hn 6 (by decide))))) rfl rfl ((E 7 (by decide)).trans (hT.rd 0 rfl)) (hK 152 _ _ (by decide) ⟨hI, hT.set 7 rfl (by kernel_rfl) (by kernel_rfl)⟩)
                          | 8, _ =>
                            have e1 := (E 5 (by decide)).trans (hT.rd 1 rfl)
                            refine op_valueG (w' := wx) (v := .pointer (some ⟨b0, 0, none⟩)) rfl (want_on (d := 151) (b := true) rfl rfl ((E 151 (by decide)).trans (hT.val 6 rfl (hn 6 (by decide))))) rfl ?_ (hK 153 _ _ (by decide) ⟨hI, hT.set 8 rfl (by kernel_rfl) (by kernel_rfl)⟩)
                            clear hK hK0 hT E
                            revert e1
                            generalize a.eval = ρ
                            intro e1
                            go_simp
                          | 9, _ =>
                            have e1 := (E 153 (by decide)).trans (hT.val 8 rfl (hn 8 (by decide)))
                            have m0 := ((HG.out.step hI).at 7 rfl : HasCs _ _ _) 0 (.slice (some ⟨bv, ov, none⟩) l.length c) rfl
                            refine op_valueG (w' := wx) (v := .slice (some ⟨bv, ov, none⟩) l.length c) rfl (want_on (d := 151) (b := true) rfl rfl ((E 151 (by decide)).trans (hT.val 6 rfl (hn 6 (by decide))))) rfl ?_ (hK 154 _ _ (by decide) ⟨hI, hT.set 9 rfl (by kernel_rfl) (by kernel_rfl)⟩)
                            clear hK hK0 hT E
                            revert e1
                            generalize a.eval = ρ
                            intro e1
                            go_simp
                          | 10, _ =>
                            have e1 := (E 152 (by decide)).trans (hT.val 7 rfl (hn 7 (by decide)))
                            have e2 := (E 154 (by decide)).trans (hT.val 9 rfl (hn 9 (by decide)))
                            exact op_goG rfl (want_on (d := 151) (b := true) rfl rfl ((E 151 (by decide)).trans (hT.val 6 rfl (hn 6 (by decide))))) rfl rfl Try.func10 (by kernel_rfl) rfl (by simp only [List.map_toArray, List.map_cons, List.map_nil, e1, e2]) (HI1.out _ hI) (fun w' hb => hK 155 _ _ (by decide) ⟨hI.trans (hb.mono hI.size), hT.set 10 rfl (by kernel_rfl) (by kernel_rfl)⟩)
                          | 11, _ => exact op_moveG rfl (want_on (d := 151) (b := true) rfl rfl ((E 151 (by decide)).trans (hT.val 6 rfl (hn 6 (by decide))))) rfl rfl ((E 155 (by decide)).trans (hT.val 10 rfl (hn 10 (by decide)))) (hK 156 _ _ (by decide) ⟨hI, hT.set 11 rfl (by kernel_rfl) (by kernel_rfl)⟩)
                          | 12, _ => exact op_skip rfl (want_off (d := 156) (b := true) rfl rfl ((E 156 (by decide)).trans (hT.val 11 rfl (hn 11 (by decide))))) rfl (hK 157 _ _ (by decide) ⟨hI, hT.set 12 rfl (by kernel_rfl) (by kernel_rfl)⟩)
                          | 13, _ => exact op_skip rfl (want_off (d := 156) (b := true) rfl rfl ((E 156 (by decide)).trans (hT.val 11 rfl (hn 11 (by decide))))) rfl (hK 158 _ _ (by decide) ⟨hI, hT.set 13 rfl (by kernel_rfl) (by kernel_rfl)⟩)
                          | 14, _ => exact op_skip rfl (want_off (d := 156) (b := true) rfl rfl ((E 156 (by decide)).trans (hT.val 11 rfl (hn 11 (by decide))))) rfl (hK 159 _ _ (by decide) ⟨hI, hT.set 14 rfl (by kernel_rfl) (by kernel_rfl)⟩)
                          | 15, _ => exact op_skip rfl (want_off (d := 156) (b := true) rfl rfl ((E 156 (by decide)).trans (hT.val 11 rfl (hn 11 (by decide))))) rfl (hK 160 _ _ (by decide) ⟨hI, hT.set 15 rfl (by kernel_rfl) (by kernel_rfl)⟩)
                          | 16, _ =>
                            have e1 := (E 156 (by decide)).trans (hT.val 11 rfl (hn 11 (by decide)))
                            have e2 := (E 160 (by decide)).trans (hT.val 15 rfl (hn 15 (by decide)))
                            have c1 : a.eval (.const (Value.bool false)) = Value.bool false := rfl
                            refine op_valueG (w' := wx) (v := .bool false) rfl (want_on (d := 151) (b := true) rfl rfl ((E 151 (by decide)).trans (hT.val 6 rfl (hn 6 (by decide))))) rfl ?_ (hK 161 _ _ (by decide) ⟨hI, hT.set 16 rfl (by kernel_rfl) (by kernel_rfl)⟩)
                            clear hK hK0 hT E
                            revert e1 e2 c1
                            generalize a.eval = ρ
                            intro e1 e2 c1
                            go_simp
                          | 17, _ => exact op_moveG rfl (want_on (d := 151) (b := true) rfl rfl ((E 151 (by decide)).trans (hT.val 6 rfl (hn 6 (by decide))))) rfl rfl ((E 161 (by decide)).trans (hT.val 16 rfl (hn 16 (by decide)))) (hK 162 _ _ (by decide) ⟨hI, hT.set 17 rfl (by kernel_rfl) (by kernel_rfl)⟩)
                          | 18, _ => exact op_moveG rfl (want_on (d := 162) (b := false) rfl rfl ((E 162 (by decide)).trans (hT.val 17 rfl (hn 17 (by decide))))) rfl rfl ((E 17 (by decide)).trans (hT.rd 2 rfl)) (hK 163 _ _ (by decide) ⟨hI, hT.set 18 rfl (by kernel_rfl) (by kernel_rfl)⟩)
                          | 19, _ =>
                            have e1 := (E 5 (by decide)).trans (hT.rd 1 rfl)
                            refine op_valueG (w' := wx) (v := .pointer (some ⟨b0, 0, none⟩)) rfl (want_on (d := 162) (b := false) rfl rfl ((E 162 (by decide)).trans (hT.val 17 rfl (hn 17 (by decide))))) rfl ?_ (hK 164 _ _ (by decide) ⟨hI, hT.set 19 rfl (by kernel_rfl) (by kernel_rfl)⟩)
                            clear hK hK0 hT E
                            revert e1
                            generalize a.eval = ρ
                            intro e1
                            go_simp
                          | 20, _ =>
                            have e1 := (E 164 (by decide)).trans (hT.val 19 rfl (hn 19 (by decide)))
                            have m0 := ((HG.out.step hI).at 7 rfl : HasCs _ _ _) 0 (.slice (some ⟨bv, ov, none⟩) l.length c) rfl
                            refine op_valueG (w' := wx) (v := .slice (some ⟨bv, ov, none⟩) l.length c) rfl (want_on (d := 162) (b := false) rfl rfl ((E 162 (by decide)).trans (hT.val 17 rfl (hn 17 (by decide))))) rfl ?_ (hK 165 _ _ (by decide) ⟨hI, hT.set 20 rfl (by kernel_rfl) (by kernel_rfl)⟩)
                            clear hK hK0 hT E
                            revert e1
                            generalize a.eval = ρ
                            intro e1
                            go_simp
                          | 21, _ =>
                            have e1 := (E 163 (by decide)).trans (hT.val 18 rfl (hn 18 (by decide)))
                            have e2 := (E 165 (by decide)).trans (hT.val 20 rfl (hn 20 (by decide)))
                            exact op_goG rfl (want_on (d := 162) (b := false) rfl rfl ((E 162 (by decide)).trans (hT.val 17 rfl (hn 17 (by decide))))) rfl rfl Try.func10 (by kernel_rfl) rfl (by simp only [List.map_toArray, List.map_cons, List.map_nil, e1, e2]) (HI3.out _ hI) (fun w' hb => hK 166 _ _ (by decide) ⟨hI.trans (hb.mono hI.size), hT.set 21 rfl (by kernel_rfl) (by kernel_rfl)⟩)
                          | 22, _ => exact op_moveG rfl (want_on (d := 162) (b := false) rfl rfl ((E 162 (by decide)).trans (hT.val 17 rfl (hn 17 (by decide))))) rfl rfl ((E 166 (by decide)).trans (hT.val 21 rfl (hn 21 (by decide)))) (hK 167 _ _ (by decide) ⟨hI, hT.set 22 rfl (by kernel_rfl) (by kernel_rfl)⟩)
                          | 23, _ =>
                            have e1 := (E 5 (by decide)).trans (hT.rd 1 rfl)
                            refine op_valueG (w' := wx) (v := .pointer (some ⟨b0, 0, none⟩)) rfl (want_on (d := 167) (b := true) rfl rfl ((E 167 (by decide)).trans (hT.val 22 rfl (hn 22 (by decide))))) rfl ?_ (hK 168 _ _ (by decide) ⟨hI, hT.set 23 rfl (by kernel_rfl) (by kernel_rfl)⟩)
                            clear hK hK0 hT E
                            revert e1
                            generalize a.eval = ρ
                            intro e1
                            go_simp
                          | 24, _ =>
                            have e1 := (E 168 (by decide)).trans (hT.val 23 rfl (hn 23 (by decide)))
                            have m0 := ((HG.out.step hI).at 7 rfl : HasCs _ _ _) 0 (.slice (some ⟨bv, ov, none⟩) l.length c) rfl
                            refine op_valueG (w' := wx) (v := .slice (some ⟨bv, ov, none⟩) l.length c) rfl (want_on (d := 167) (b := true) rfl rfl ((E 167 (by decide)).trans (hT.val 22 rfl (hn 22 (by decide))))) rfl ?_ (hK 169 _ _ (by decide) ⟨hI, hT.set 24 rfl (by kernel_rfl) (by kernel_rfl)⟩)
                            clear hK hK0 hT E
                            revert e1
                            generalize a.eval = ρ
                            intro e1
                            go_simp
                          | 25, _ =>
                            have e1 := (E 5 (by decide)).trans (hT.rd 1 rfl)
                            refine op_valueG (w' := wx) (v := .pointer (some ⟨b0, 3, none⟩)) rfl (want_on (d := 167) (b := true) rfl rfl ((E 167 (by decide)).trans (hT.val 22 rfl (hn 22 (by decide))))) rfl ?_ (hK 170 _ _ (by decide) ⟨hI, hT.set 25 rfl (by kernel_rfl) (by kernel_rfl)⟩)
                            clear hK hK0 hT E
                            revert e1
                            generalize a.eval = ρ
                            intro e1
                            go_simp
                          | 26, _ =>
                            have e1 := (E 170 (by decide)).trans (hT.val 25 rfl (hn 25 (by decide)))
                            have m3 := ((HG.out.step hI).at 7 rfl : HasCs _ _ _) 3 (.int .i64 ((j : Int) + 1)) rfl
                            refine op_valueG (w' := wx) (v := .int .i64 ((j : Int) + 1)) rfl (want_on (d := 167) (b := true) rfl rfl ((E 167 (by decide)).trans (hT.val 22 rfl (hn 22 (by decide))))) rfl ?_ (hK 171 _ _ (by decide) ⟨hI, hT.set 26 rfl (by kernel_rfl) (by kernel_rfl)⟩)
                            clear hK hK0 hT E
                            revert e1
                            generalize a.eval = ρ
                            intro e1
                            go_simp
                          | 27, _ =>
                            have e1 := (E 171 (by decide)).trans (hT.val 26 rfl (hn 26 (by decide)))
                            have c1 : a.eval (.const (Value.int IntKind.i64 1)) = Value.int IntKind.i64 1 := rfl
                            have f2 := HF2.out
                            have f3 := HF3.out
                            refine op_valueG (w' := wx) (v := .int .i64 (j : Int)) rfl (want_on (d := 167) (b := true) rfl rfl ((E 167 (by decide)).trans (hT.val 22 rfl (hn 22 (by decide))))) rfl ?_ (hK 172 _ _ (by decide) ⟨hI, hT.set 27 rfl (by kernel_rfl) (by kernel_rfl)⟩)
                            clear hK hK0 hT E
                            revert e1 c1
                            generalize a.eval = ρ
                            intro e1 c1
                            go_simp
                          | 28, _ =>
                            have e1 := (E 169 (by decide)).trans (hT.val 24 rfl (hn 24 (by decide)))
                            have e2 := (E 172 (by decide)).trans (hT.val 27 rfl (hn 27 (by decide)))
                            have f3 := HF3.out
                            have f4 := HJL.out
                            refine op_valueG (w' := wx) (v := .pointer (some ⟨bv, ov + j * 2, none⟩)) rfl (want_on (d := 167) (b := true) rfl rfl ((E 167 (by decide)).trans (hT.val 22 rfl (hn 22 (by decide))))) rfl ?_ (hK 173 _ _ (by decide) ⟨hI, hT.set 28 rfl (by kernel_rfl) (by kernel_rfl)⟩)
                            clear hK hK0 hT E
                            revert e1 e2
                            generalize a.eval = ρ
                            intro e1 e2
                            go_simp
                          | 29, _ =>
                            have e1 := (E 173 (by decide)).trans (hT.val 28 rfl (hn 28 (by decide)))
                            have g1 := (hI.cell (p := ⟨bv, ov + j * 2, none⟩) (World.block_lt_of_cell? w12 _ HE1.out)).trans HE1.out
                            have g2 := (hI.cell (p := ⟨bv, ov + j * 2 + 1, none⟩) (World.block_lt_of_cell? w12 _ HE2.out)).trans HE2.out
                            refine op_valueG (w' := wx) (v := .agg #[.int .i64 nn, .int .i64 1]) rfl (want_on (d := 167) (b := true) rfl rfl ((E 167 (by decide)).trans (hT.val 22 rfl (hn 22 (by decide))))) rfl ?_ (hK 174 _ _ (by decide) ⟨hI, hT.set 29 rfl (by kernel_rfl) (by kernel_rfl)⟩)
                            clear hK hK0 hT E
                            revert e1
                            generalize a.eval = ρ
                            intro e1
                            go_simp
                          | 30, _ =>
                            have e1 := (E 5 (by decide)).trans (hT.rd 1 rfl)
                            refine op_valueG (w' := wx) (v := .pointer (some ⟨b0, 4, none⟩)) rfl (want_on (d := 167) (b := true) rfl rfl ((E 167 (by decide)).trans (hT.val 22 rfl (hn 22 (by decide))))) rfl ?_ (hK 175 _ _ (by decide) ⟨hI, hT.set 30 rfl (by kernel_rfl) (by kernel_rfl)⟩)
                            clear hK hK0 hT E
                            revert e1
                            generalize a.eval = ρ
                            intro e1
                            go_simp
                          | 31, _ =>
                            have e1 := (E 175 (by decide)).trans (hT.val 30 rfl (hn 30 (by decide)))
                            have m4 := ((HG.out.step hI).at 7 rfl : HasCs _ _ _) 4 (.int .i64 nn) rfl
                            refine op_valueG (w' := wx) (v := .int .i64 nn) rfl (want_on (d := 167) (b := true) rfl rfl ((E 167 (by decide)).trans (hT.val 22 rfl (hn 22 (by decide))))) rfl ?_ (hK 176 _ _ (by decide) ⟨hI, hT.set 31 rfl (by kernel_rfl) (by kernel_rfl)⟩)
                            clear hK hK0 hT E
                            revert e1
                            generalize a.eval = ρ
                            intro e1
                            go_simp
                          | 32, _ =>
                            have e1 := (E 176 (by decide)).trans (hT.val 31 rfl (hn 31 (by decide)))
                            exact op_goG rfl (want_on (d := 167) (b := true) rfl rfl ((E 167 (by decide)).trans (hT.val 22 rfl (hn 22 (by decide))))) rfl rfl Try.func15 (by kernel_rfl) rfl (by simp only [List.map_toArray, List.map_cons, List.map_nil, e1]) (HRO.out _) (fun w' hb => hK 177 _ _ (by decide) ⟨hI.trans (hb.mono hI.size), hT.set 32 rfl (by kernel_rfl) (by kernel_rfl)⟩)
                          | 33, _ =>
                            have e1 := (E 174 (by decide)).trans (hT.val 29 rfl (hn 29 (by decide)))
                            have e2 := (E 177 (by decide)).trans (hT.val 32 rfl (hn 32 (by decide)))
                            refine op_valueG (w' := wx) (v := .bool false) rfl (want_on (d := 167) (b := true) rfl rfl ((E 167 (by decide)).trans (hT.val 22 rfl (hn 22 (by decide))))) rfl ?_ (hK 178 _ _ (by decide) ⟨hI, hT.set 33 rfl (by kernel_rfl) (by kernel_rfl)⟩)
                            clear hK hK0 hT E
                            revert e1 e2
                            generalize a.eval = ρ
                            intro e1 e2
                            go_simp
                          | 34, _ =>
                            have e1 := (E 167 (by decide)).trans (hT.val 22 rfl (hn 22 (by decide)))
                            have e2 := (E 178 (by decide)).trans (hT.val 33 rfl (hn 33 (by decide)))
                            have c1 : a.eval (.const (Value.bool false)) = Value.bool false := rfl
                            refine op_valueG (w' := wx) (v := .bool false) rfl (want_on (d := 162) (b := false) rfl rfl ((E 162 (by decide)).trans (hT.val 17 rfl (hn 17 (by decide))))) rfl ?_ (hK 179 _ _ (by decide) ⟨hI, hT.set 34 rfl (by kernel_rfl) (by kernel_rfl)⟩)
                            clear hK hK0 hT E
                            revert e1 e2 c1
                            generalize a.eval = ρ
                            intro e1 e2 c1
                            go_simp
                          | 35, _ =>
                            have e1 := (E 162 (by decide)).trans (hT.val 17 rfl (hn 17 (by decide)))
                            have e2 := (E 179 (by decide)).trans (hT.val 34 rfl (hn 34 (by decide)))
                            have c1 : a.eval (.const (Value.bool true)) = Value.bool true := rfl
                            refine op_valueG (w' := wx) (v := .bool false) rfl (want_on (d := 151) (b := true) rfl rfl ((E 151 (by decide)).trans (hT.val 6 rfl (hn 6 (by decide))))) rfl ?_ (hK 180 _ _ (by decide) ⟨hI, hT.set 35 rfl (by kernel_rfl) (by kernel_rfl)⟩)
                            clear hK hK0 hT E
                            revert e1 e2 c1
                            generalize a.eval = ρ
                            intro e1 e2 c1
                            go_simp
                          | 36, _ =>
                            have e1 := (E 151 (by decide)).trans (hT.val 6 rfl (hn 6 (by decide)))
                            have e2 := (E 180 (by decide)).trans (hT.val 35 rfl (hn 35 (by decide)))
                            have c1 : a.eval (.const (Value.bool false)) = Value.bool false := rfl
                            refine op_valueG (w' := wx) (v := .bool false) rfl rfl rfl ?_ (hK 181 _ _ (by decide) ⟨hI, hT.set 36 rfl (by kernel_rfl) (by kernel_rfl)⟩)
                            clear hK hK0 hT E
                            revert e1 e2 c1
                            generalize a.eval = ρ
                            intro e1 e2 c1
                            go_simp
                          | k + 37, h => exact absurd (show k + 37 < 37 from h) (by omega)
                        · intro L vals wx hJ hall
                          obtain ⟨hI, hT⟩ := hJ
                          have HX := Lib.hid hI
                          have v7 : vals 7 = .pointer (some ⟨b, 0, none⟩) := hT.rd 0 rfl
                          have v5 : vals 5 = .pointer (some ⟨b0, 0, none⟩) := hT.rd 1 rfl
                          have v17 : vals 17 = vr := hT.rd 2 rfl
                          have v18 : vals 18 = .slice A5 sl.length c5 := hT.rd 3 rfl
                          have v12 : vals 12 = .int .i64 0 := hT.rd 4 rfl
                          have v19 : vals 19 = .int .i64 0 := hT.rd 5 rfl
                          have v181 : vals 181 = .bool false := hT.val 36 rfl (hall 36 (by decide))
                          simp only [overA, Act.put, List.setIfInBounds_toArray, List.set_cons_zero, List.set_cons_succ]
                          rw [v7, v5, v17, v18, v12, v19, v181]
                          clear hI hT hall v7 v5 v17 v18 v12 v19 v181
                          go_wp2
                          go_meet
                          exact ⟨rfl, HX⟩
                    | false =>
                      as_aux_lemma =>
                        clear hrv hcr
                        refine wp_region_tab (by kernel_rfl) [7, 5, 17, 18, 12, 19, 145, 146, 147, 148, 149, 150, 151, 152, 153, 154, 155, 156, 157, 158, 159, 160, 161, 162, 163, 164, 165, 166, 167, 168, 169, 170, 171, 172, 173, 174, 175, 176, 177, 178, 179, 180, 181] [[], [0], [1], [2], [2, 3], [2, 4], [2, 5], [6], [6], [6, 8], [6, 7, 9], [6, 10], [11], [11], [11, 12, 13], [11, 14], [6, 11, 15], [6, 14, 16], [17], [17], [17, 19], [17, 18, 20], [17, 21], [22], [22, 23], [22], [22, 25], [22, 26], [22, 24, 27], [22, 28], [22], [22, 30], [22, 31], [22, 29, 32], [17, 22, 33], [6, 17, 34], [6, 35]]
                          (fun L vals wx => Below w12.heap.size w12 wx ∧ TabR (tbPbFF b b0 vr A A5 l sl c c5) (bsPbFF b b0 vr A A5 l sl c c5) L vals) (by kernel_rfl) rfl ?_ ?_ ?_
                        · exact ⟨Below.drew (Below.refl _ _), TabR.start (by simp [bsPbFF])⟩
                        · intro i hi a L vals wx E hJ hLi hn K hK hK0
                          obtain ⟨hI, hT⟩ := hJ
                          match i, hi with
                          | 0, _ => exact op_moveG rfl rfl rfl rfl ((E 12 (by decide)).trans (hT.rd 4 rfl)) (hK 145 _ _ (by decide) ⟨hI, hT.set 0 rfl (by kernel_rfl) (by kernel_rfl)⟩)
                          | 1, _ =>
                            have e1 := (E 145 (by decide)).trans (hT.val 0 rfl (hn 0 (by decide)))
                            have c1 : a.eval (.const (Value.int IntKind.i64 0)) = Value.int IntKind.i64 0 := rfl
                            refine op_valueG (w' := wx) (v := .bool true) rfl rfl rfl ?_ (hK 146 _ _ (by decide) ⟨hI, hT.set 1 rfl (by kernel_rfl) (by kernel_rfl)⟩)
                            clear hK hK0 hT E
                            revert e1 c1
                            generalize a.eval = ρ
                            intro e1 c1
                            go_simp
                          | 2, _ => exact op_moveG rfl rfl rfl rfl ((E 146 (by decide)).trans (hT.val 1 rfl (hn 1 (by decide)))) (hK 147 _ _ (by decide) ⟨hI, hT.set 2 rfl (by kernel_rfl) (by kernel_rfl)⟩)
                          | 3, _ => exact op_moveG rfl (want_on (d := 147) (b := true) rfl rfl ((E 147 (by decide)).trans (hT.val 2 rfl (hn 2 (by decide))))) rfl rfl ((E 19 (by decide)).trans (hT.rd 5 rfl)) (hK 148 _ _ (by decide) ⟨hI, hT.set 3 rfl (by kernel_rfl) (by kernel_rfl)⟩)
                          | 4, _ =>
                            have e1 := (E 148 (by decide)).trans (hT.val 3 rfl (hn 3 (by decide)))
                            have c1 : a.eval (.const (Value.int IntKind.i64 0)) = Value.int IntKind.i64 0 := rfl
                            refine op_valueG (w' := wx) (v := .bool true) rfl (want_on (d := 147) (b := true) rfl rfl ((E 147 (by decide)).trans (hT.val 2 rfl (hn 2 (by decide))))) rfl ?_ (hK 149 _ _ (by decide) ⟨hI, hT.set 4 rfl (by kernel_rfl) (by kernel_rfl)⟩)
                            clear hK hK0 hT E
                            revert e1 c1
                            generalize a.eval = ρ
                            intro e1 c1
                            go_simp
                          | 5, _ =>
                            have e1 := (E 147 (by decide)).trans (hT.val 2 rfl (hn 2 (by decide)))
                            have e2 := (E 149 (by decide)).trans (hT.val 4 rfl (hn 4 (by decide)))
                            have c1 : a.eval (.const (Value.bool false)) = Value.bool false := rfl
                            refine op_valueG (w' := wx) (v := .bool true) rfl rfl rfl ?_ (hK 150 _ _ (by decide) ⟨hI, hT.set 5 rfl (by kernel_rfl) (by kernel_rfl)⟩)
                            clear hK hK0 hT E
                            revert e1 e2 c1
                            generalize a.eval = ρ
                            intro e1 e2 c1
                            go_simp
                          | 6, _ => exact op_moveG rfl rfl rfl rfl ((E 150 (by decide)).trans (hT.val 5 rfl (hn 5 (by decide)))) (hK 151 _ _ (by decide) ⟨hI, hT.set 6 rfl (by kernel_rfl) (by kernel_rfl)⟩)
                          | 7, _ => exact op_moveG rfl (want_on (d := 151) (b := true) rfl rfl ((E 151 (by decide)).trans (hT.val 6 rfl (hn 6 (by decide))))) rfl rfl ((E 7 (by decide)).trans (hT.rd 0 rfl)) (hK 152 _ _ (by decide) ⟨hI, hT.set 7 rfl (by kernel_rfl) (by kernel_rfl)⟩)
                          | 8, _ =>
                            have e1 := (E 5 (by decide)).trans (hT.rd 1 rfl)
                            refine op_valueG (w' := wx) (v := .pointer (some ⟨b0, 0, none⟩)) rfl (want_on (d := 151) (b := true) rfl rfl ((E 151 (by decide)).trans (hT.val 6 rfl (hn 6 (by decide))))) rfl ?_ (hK 153 _ _ (by decide) ⟨hI, hT.set 8 rfl (by kernel_rfl) (by kernel_rfl)⟩)
                            clear hK hK0 hT E
                            revert e1
                            generalize a.eval = ρ
                            intro e1
                            go_simp
                          | 9, _ =>
                            have e1 := (E 153 (by decide)).trans (hT.val 8 rfl (hn 8 (by decide)))
                            have m0 := ((HG.out.step hI).at 7 rfl : HasCs _ _ _) 0 (.slice A l.length c) rfl
                            refine op_valueG (w' := wx) (v := .slice A l.length c) rfl (want_on (d := 151) (b := true) rfl rfl ((E 151 (by decide)).trans (hT.val 6 rfl (hn 6 (by decide))))) rfl ?_ (hK 154 _ _ (by decide) ⟨hI, hT.set 9 rfl (by kernel_rfl) (by kernel_rfl)⟩)
                            clear hK hK0 hT E
                            revert e1
                            generalize a.eval = ρ
                            intro e1
                            go_simp
                          | 10, _ =>
                            have e1 := (E 152 (by decide)).trans (hT.val 7 rfl (hn 7 (by decide)))
                            have e2 := (E 154 (by decide)).trans (hT.val 9 rfl (hn 9 (by decide)))
                            exact op_goG rfl (want_on (d := 151) (b := true) rfl rfl ((E 151 (by decide)).trans (hT.val 6 rfl (hn 6 (by decide))))) rfl rfl Try.func10 (by kernel_rfl) rfl (by simp only [List.map_toArray, List.map_cons, List.map_nil, e1, e2]) (HI1.out _ hI) (fun w' hb => hK 155 _ _ (by decide) ⟨hI.trans (hb.mono hI.size), hT.set 10 rfl (by kernel_rfl) (by kernel_rfl)⟩)
                          | 11, _ => exact op_moveG rfl (want_on (d := 151) (b := true) rfl rfl ((E 151 (by decide)).trans (hT.val 6 rfl (hn 6 (by decide))))) rfl rfl ((E 155 (by decide)).trans (hT.val 10 rfl (hn 10 (by decide)))) (hK 156 _ _ (by decide) ⟨hI, hT.set 11 rfl (by kernel_rfl) (by kernel_rfl)⟩)
                          | 12, _ => exact op_skip rfl (want_off (d := 156) (b := true) rfl rfl ((E 156 (by decide)).trans (hT.val 11 rfl (hn 11 (by decide))))) rfl (hK 157 _ _ (by decide) ⟨hI, hT.set 12 rfl (by kernel_rfl) (by kernel_rfl)⟩)
                          | 13, _ => exact op_skip rfl (want_off (d := 156) (b := true) rfl rfl ((E 156 (by decide)).trans (hT.val 11 rfl (hn 11 (by decide))))) rfl (hK 158 _ _ (by decide) ⟨hI, hT.set 13 rfl (by kernel_rfl) (by kernel_rfl)⟩)
                          | 14, _ => exact op_skip rfl (want_off (d := 156) (b := true) rfl rfl ((E 156 (by decide)).trans (hT.val 11 rfl (hn 11 (by decide))))) rfl (hK 159 _ _ (by decide) ⟨hI, hT.set 14 rfl (by kernel_rfl) (by kernel_rfl)⟩)
                          | 15, _ => exact op_skip rfl (want_off (d := 156) (b := true) rfl rfl ((E 156 (by decide)).trans (hT.val 11 rfl (hn 11 (by decide))))) rfl (hK 160 _ _ (by decide) ⟨hI, hT.set 15 rfl (by kernel_rfl) (by kernel_rfl)⟩)
                          | 16, _ =>
                            have e1 := (E 156 (by decide)).trans (hT.val 11 rfl (hn 11 (by decide)))
                            have e2 := (E 160 (by decide)).trans (hT.val 15 rfl (hn 15 (by decide)))
                            have c1 : a.eval (.const (Value.bool false)) = Value.bool false := rfl
                            refine op_valueG (w' := wx) (v := .bool false) rfl (want_on (d := 151) (b := true) rfl rfl ((E 151 (by decide)).trans (hT.val 6 rfl (hn 6 (by decide))))) rfl ?_ (hK 161 _ _ (by decide) ⟨hI, hT.set 16 rfl (by kernel_rfl) (by kernel_rfl)⟩)
                            clear hK hK0 hT E
                            revert e1 e2 c1
                            generalize a.eval = ρ
                            intro e1 e2 c1
                            go_simp
                          | 17, _ => exact op_moveG rfl (want_on (d := 151) (b := true) rfl rfl ((E 151 (by decide)).trans (hT.val 6 rfl (hn 6 (by decide))))) rfl rfl ((E 161 (by decide)).trans (hT.val 16 rfl (hn 16 (by decide)))) (hK 162 _ _ (by decide) ⟨hI, hT.set 17 rfl (by kernel_rfl) (by kernel_rfl)⟩)
                          | 18, _ => exact op_moveG rfl (want_on (d := 162) (b := false) rfl rfl ((E 162 (by decide)).trans (hT.val 17 rfl (hn 17 (by decide))))) rfl rfl ((E 17 (by decide)).trans (hT.rd 2 rfl)) (hK 163 _ _ (by decide) ⟨hI, hT.set 18 rfl (by kernel_rfl) (by kernel_rfl)⟩)
                          | 19, _ =>
                            have e1 := (E 5 (by decide)).trans (hT.rd 1 rfl)
                            refine op_valueG (w' := wx) (v := .pointer (some ⟨b0, 0, none⟩)) rfl (want_on (d := 162) (b := false) rfl rfl ((E 162 (by decide)).trans (hT.val 17 rfl (hn 17 (by decide))))) rfl ?_ (hK 164 _ _ (by decide) ⟨hI, hT.set 19 rfl (by kernel_rfl) (by kernel_rfl)⟩)
                            clear hK hK0 hT E
                            revert e1
                            generalize a.eval = ρ
                            intro e1
                            go_simp
                          | 20, _ =>
                            have e1 := (E 164 (by decide)).trans (hT.val 19 rfl (hn 19 (by decide)))
                            have m0 := ((HG.out.step hI).at 7 rfl : HasCs _ _ _) 0 (.slice A l.length c) rfl
                            refine op_valueG (w' := wx) (v := .slice A l.length c) rfl (want_on (d := 162) (b := false) rfl rfl ((E 162 (by decide)).trans (hT.val 17 rfl (hn 17 (by decide))))) rfl ?_ (hK 165 _ _ (by decide) ⟨hI, hT.set 20 rfl (by kernel_rfl) (by kernel_rfl)⟩)
                            clear hK hK0 hT E
                            revert e1
                            generalize a.eval = ρ
                            intro e1
                            go_simp
                          | 21, _ =>
                            have e1 := (E 163 (by decide)).trans (hT.val 18 rfl (hn 18 (by decide)))
                            have e2 := (E 165 (by decide)).trans (hT.val 20 rfl (hn 20 (by decide)))
                            exact op_goG rfl (want_on (d := 162) (b := false) rfl rfl ((E 162 (by decide)).trans (hT.val 17 rfl (hn 17 (by decide))))) rfl rfl Try.func10 (by kernel_rfl) rfl (by simp only [List.map_toArray, List.map_cons, List.map_nil, e1, e2]) (HI3.out _ hI) (fun w' hb => hK 166 _ _ (by decide) ⟨hI.trans (hb.mono hI.size), hT.set 21 rfl (by kernel_rfl) (by kernel_rfl)⟩)
                          | 22, _ => exact op_moveG rfl (want_on (d := 162) (b := false) rfl rfl ((E 162 (by decide)).trans (hT.val 17 rfl (hn 17 (by decide))))) rfl rfl ((E 166 (by decide)).trans (hT.val 21 rfl (hn 21 (by decide)))) (hK 167 _ _ (by decide) ⟨hI, hT.set 22 rfl (by kernel_rfl) (by kernel_rfl)⟩)
                          | 23, _ => exact op_skip rfl (want_off (d := 167) (b := true) rfl rfl ((E 167 (by decide)).trans (hT.val 22 rfl (hn 22 (by decide))))) rfl (hK 168 _ _ (by decide) ⟨hI, hT.set 23 rfl (by kernel_rfl) (by kernel_rfl)⟩)
                          | 24, _ => exact op_skip rfl (want_off (d := 167) (b := true) rfl rfl ((E 167 (by decide)).trans (hT.val 22 rfl (hn 22 (by decide))))) rfl (hK 169 _ _ (by decide) ⟨hI, hT.set 24 rfl (by kernel_rfl) (by kernel_rfl)⟩)
                          | 25, _ => exact op_skip rfl (want_off (d := 167) (b := true) rfl rfl ((E 167 (by decide)).trans (hT.val 22 rfl (hn 22 (by decide))))) rfl (hK 170 _ _ (by decide) ⟨hI, hT.set 25 rfl (by kernel_rfl) (by kernel_rfl)⟩)
                          | 26, _ => exact op_skip rfl (want_off (d := 167) (b := true) rfl rfl ((E 167 (by decide)).trans (hT.val 22 rfl (hn 22 (by decide))))) rfl (hK 171 _ _ (by decide) ⟨hI, hT.set 26 rfl (by kernel_rfl) (by kernel_rfl)⟩)
                          | 27, _ => exact op_skip rfl (want_off (d := 167) (b := true) rfl rfl ((E 167 (by decide)).trans (hT.val 22 rfl (hn 22 (by decide))))) rfl (hK 172 _ _ (by decide) ⟨hI, hT.set 27 rfl (by kernel_rfl) (by kernel_rfl)⟩)
                          | 28, _ => exact op_skip rfl (want_off (d := 167) (b := true) rfl rfl ((E 167 (by decide)).trans (hT.val 22 rfl (hn 22 (by decide))))) rfl (hK 173 _ _ (by decide) ⟨hI, hT.set 28 rfl (by kernel_rfl) (by kernel_rfl)⟩)
                          | 29, _ => exact op_skip rfl (want_off (d := 167) (b := true) rfl rfl ((E 167 (by decide)).trans (hT.val 22 rfl (hn 22 (by decide))))) rfl (hK 174 _ _ (by decide) ⟨hI, hT.set 29 rfl (by kernel_rfl) (by kernel_rfl)⟩)
                          | 30, _ => exact op_skip rfl (want_off (d := 167) (b := true) rfl rfl ((E 167 (by decide)).trans (hT.val 22 rfl (hn 22 (by decide))))) rfl (hK 175 _ _ (by decide) ⟨hI, hT.set 30 rfl (by kernel_rfl) (by kernel_rfl)⟩)
                          | 31, _ => exact op_skip rfl (want_off (d := 167) (b := true) rfl rfl ((E 167 (by decide)).trans (hT.val 22 rfl (hn 22 (by decide))))) rfl (hK 176 _ _ (by decide) ⟨hI, hT.set 31 rfl (by kernel_rfl) (by kernel_rfl)⟩)
                          | 32, _ => exact op_skip rfl (want_off (d := 167) (b := true) rfl rfl ((E 167 (by decide)).trans (hT.val 22 rfl (hn 22 (by decide))))) rfl (hK 177 _ _ (by decide) ⟨hI, hT.set 32 rfl (by kernel_rfl) (by kernel_rfl)⟩)
                          | 33, _ => exact op_skip rfl (want_off (d := 167) (b := true) rfl rfl ((E 167 (by decide)).trans (hT.val 22 rfl (hn 22 (by decide))))) rfl (hK 178 _ _ (by decide) ⟨hI, hT.set 33 rfl (by kernel_rfl) (by kernel_rfl)⟩)
                          | 34, _ =>
                            have e1 := (E 167 (by decide)).trans (hT.val 22 rfl (hn 22 (by decide)))
                            have e2 := (E 178 (by decide)).trans (hT.val 33 rfl (hn 33 (by decide)))
                            have c1 : a.eval (.const (Value.bool false)) = Value.bool false := rfl
                            refine op_valueG (w' := wx) (v := .bool false) rfl (want_on (d := 162) (b := false) rfl rfl ((E 162 (by decide)).trans (hT.val 17 rfl (hn 17 (by decide))))) rfl ?_ (hK 179 _ _ (by decide) ⟨hI, hT.set 34 rfl (by kernel_rfl) (by kernel_rfl)⟩)
                            clear hK hK0 hT E
                            revert e1 e2 c1
                            generalize a.eval = ρ
                            intro e1 e2 c1
                            go_simp
                          | 35, _ =>
                            have e1 := (E 162 (by decide)).trans (hT.val 17 rfl (hn 17 (by decide)))
                            have e2 := (E 179 (by decide)).trans (hT.val 34 rfl (hn 34 (by decide)))
                            have c1 : a.eval (.const (Value.bool true)) = Value.bool true := rfl
                            refine op_valueG (w' := wx) (v := .bool false) rfl (want_on (d := 151) (b := true) rfl rfl ((E 151 (by decide)).trans (hT.val 6 rfl (hn 6 (by decide))))) rfl ?_ (hK 180 _ _ (by decide) ⟨hI, hT.set 35 rfl (by kernel_rfl) (by kernel_rfl)⟩)
                            clear hK hK0 hT E
                            revert e1 e2 c1
                            generalize a.eval = ρ
                            intro e1 e2 c1
                            go_simp
                          | 36, _ =>
                            have e1 := (E 151 (by decide)).trans (hT.val 6 rfl (hn 6 (by decide)))
                            have e2 := (E 180 (by decide)).trans (hT.val 35 rfl (hn 35 (by decide)))
                            have c1 : a.eval (.const (Value.bool false)) = Value.bool false := rfl
                            refine op_valueG (w' := wx) (v := .bool false) rfl rfl rfl ?_ (hK 181 _ _ (by decide) ⟨hI, hT.set 36 rfl (by kernel_rfl) (by kernel_rfl)⟩)
                            clear hK hK0 hT E
                            revert e1 e2 c1
                            generalize a.eval = ρ
                            intro e1 e2 c1
                            go_simp
                          | k + 37, h => exact absurd (show k + 37 < 37 from h) (by omega)
                        · intro L vals wx hJ hall
                          obtain ⟨hI, hT⟩ := hJ
                          have HX := Lib.hid hI
                          have v7 : vals 7 = .pointer (some ⟨b, 0, none⟩) := hT.rd 0 rfl
                          have v5 : vals 5 = .pointer (some ⟨b0, 0, none⟩) := hT.rd 1 rfl
                          have v17 : vals 17 = vr := hT.rd 2 rfl
                          have v18 : vals 18 = .slice A5 sl.length c5 := hT.rd 3 rfl
                          have v12 : vals 12 = .int .i64 0 := hT.rd 4 rfl
                          have v19 : vals 19 = .int .i64 0 := hT.rd 5 rfl
                          have v181 : vals 181 = .bool false := hT.val 36 rfl (hall 36 (by decide))
                          simp only [overA, Act.put, List.setIfInBounds_toArray, List.set_cons_zero, List.set_cons_succ]
                          rw [v7, v5, v17, v18, v12, v19, v181]
                          clear hI hT hall v7 v5 v17 v18 v12 v19 v181
                          go_wp2
                          go_meet
                          exact ⟨rfl, HX⟩
                · skip
                  have HT1 := Lib.hid (show (re == 0) = false by simp [hre])
                  clear hre HR2
                  as_aux_lemma =>
                    refine wp_region_tab (by kernel_rfl) [7, 5, 17, 18, 12, 19, 145, 146, 147, 148, 149, 150, 151, 152, 153, 154, 155, 156, 157, 158, 159, 160, 161, 162, 163, 164, 165, 166, 167, 168, 169, 170, 171, 172, 173, 174, 175, 176, 177, 178, 179, 180, 181] [[], [0], [1], [2], [2, 3], [2, 4], [2, 5], [6], [6], [6, 8], [6, 7, 9], [6, 10], [11], [11], [11, 12, 13], [11, 14], [6, 11, 15], [6, 14, 16], [17], [17], [17, 19], [17, 18, 20], [17, 21], [22], [22, 23], [22], [22, 25], [22, 26], [22, 24, 27], [22, 28], [22], [22, 30], [22, 31], [22, 29, 32], [17, 22, 33], [6, 17, 34], [6, 35]]
                      (fun L vals wx => Below w12.heap.size w12 wx ∧ TabR (tbPc b b0 vr A5 sl c5 re se) (bsPc b b0 vr A5 sl c5 re se) L vals) (by kernel_rfl) rfl ?_ ?_ ?_
                    · exact ⟨Below.drew (Below.refl _ _), TabR.start (by simp [bsPc])⟩
                    · intro i hi a L vals wx E hJ hLi hn K hK hK0
                      obtain ⟨hI, hT⟩ := hJ
                      match i, hi with
                      | 0, _ => exact op_moveG rfl rfl rfl rfl ((E 12 (by decide)).trans (hT.rd 4 rfl)) (hK 145 _ _ (by decide) ⟨hI, hT.set 0 rfl (by kernel_rfl) (by kernel_rfl)⟩)
                      | 1, _ =>
                        have e1 := (E 145 (by decide)).trans (hT.val 0 rfl (hn 0 (by decide)))
                        have c1 : a.eval (.const (Value.int IntKind.i64 0)) = Value.int IntKind.i64 0 := rfl
                        have t1 := HT1.out
                        refine op_valueG (w' := wx) (v := .bool false) rfl rfl rfl ?_ (hK 146 _ _ (by decide) ⟨hI, hT.set 1 rfl (by kernel_rfl) (by kernel_rfl)⟩)
                        clear hK hK0 hT E
                        revert e1 c1
                        generalize a.eval = ρ
                        intro e1 c1
                        go_simp
                      | 2, _ => exact op_moveG rfl rfl rfl rfl ((E 146 (by decide)).trans (hT.val 1 rfl (hn 1 (by decide)))) (hK 147 _ _ (by decide) ⟨hI, hT.set 2 rfl (by kernel_rfl) (by kernel_rfl)⟩)
                      | 3, _ => exact op_skip rfl (want_off (d := 147) (b := true) rfl rfl ((E 147 (by decide)).trans (hT.val 2 rfl (hn 2 (by decide))))) rfl (hK 148 _ _ (by decide) ⟨hI, hT.set 3 rfl (by kernel_rfl) (by kernel_rfl)⟩)
                      | 4, _ => exact op_skip rfl (want_off (d := 147) (b := true) rfl rfl ((E 147 (by decide)).trans (hT.val 2 rfl (hn 2 (by decide))))) rfl (hK 149 _ _ (by decide) ⟨hI, hT.set 4 rfl (by kernel_rfl) (by kernel_rfl)⟩)
                      | 5, _ =>
                        have e1 := (E 147 (by decide)).trans (hT.val 2 rfl (hn 2 (by decide)))
                        have e2 := (E 149 (by decide)).trans (hT.val 4 rfl (hn 4 (by decide)))
                        have c1 : a.eval (.const (Value.bool false)) = Value.bool false := rfl
                        refine op_valueG (w' := wx) (v := .bool false) rfl rfl rfl ?_ (hK 150 _ _ (by decide) ⟨hI, hT.set 5 rfl (by kernel_rfl) (by kernel_rfl)⟩)
                        clear hK hK0 hT E
                        revert e1 e2 c1
                        generalize a.eval = ρ
                        intro e1 e2 c1
                        go_simp
                      | 6, _ => exact op_moveG rfl rfl rfl rfl ((E 150 (by decide)).trans (hT.val 5 rfl (hn 5 (by decide)))) (hK 151 _ _ (by decide) ⟨hI, hT.set 6 rfl (by kernel_rfl) (by kernel_rfl)⟩)
                      | 7, _ => exact op_skip rfl (want_off (d := 151) (b := true) rfl rfl ((E 151 (by decide)).trans (hT.val 6 rfl (hn 6 (by decide))))) rfl (hK 152 _ _ (by decide) ⟨hI, hT.set 7 rfl (by kernel_rfl) (by kernel_rfl)⟩)
                      | 8, _ => exact op_skip rfl (want_off (d := 151) (b := true) rfl rfl ((E 151 (by decide)).trans (hT.val 6 rfl (hn 6 (by decide))))) rfl (hK 153 _ _ (by decide) ⟨hI, hT.set 8 rfl (by kernel_rfl) (by kernel_rfl)⟩)
                      | 9, _ => exact op_skip rfl (want_off (d := 151) (b := true) rfl rfl ((E 151 (by decide)).trans (hT.val 6 rfl (hn 6 (by decide))))) rfl (hK 154 _ _ (by decide) ⟨hI, hT.set 9 rfl (by kernel_rfl) (by kernel_rfl)⟩)
                      | 10, _ => exact op_skip rfl (want_off (d := 151) (b := true) rfl rfl ((E 151 (by decide)).trans (hT.val 6 rfl (hn 6 (by decide))))) rfl (hK 155 _ _ (by decide) ⟨hI, hT.set 10 rfl (by kernel_rfl) (by kernel_rfl)⟩)
                      | 11, _ => exact op_skip rfl (want_off (d := 151) (b := true) rfl rfl ((E 151 (by decide)).trans (hT.val 6 rfl (hn 6 (by decide))))) rfl (hK 156 _ _ (by decide) ⟨hI, hT.set 11 rfl (by kernel_rfl) (by kernel_rfl)⟩)
                      | 12, _ => exact op_skip rfl (want_undef (d := 156) (b := true) rfl rfl ((E 156 (by decide)).trans (hT.val 11 rfl (hn 11 (by decide))))) rfl (hK 157 _ _ (by decide) ⟨hI, hT.set 12 rfl (by kernel_rfl) (by kernel_rfl)⟩)
                      | 13, _ => exact op_skip rfl (want_undef (d := 156) (b := true) rfl rfl ((E 156 (by decide)).trans (hT.val 11 rfl (hn 11 (by decide))))) rfl (hK 158 _ _ (by decide) ⟨hI, hT.set 13 rfl (by kernel_rfl) (by kernel_rfl)⟩)
                      | 14, _ => exact op_skip rfl (want_undef (d := 156) (b := true) rfl rfl ((E 156 (by decide)).trans (hT.val 11 rfl (hn 11 (by decide))))) rfl (hK 159 _ _ (by decide) ⟨hI, hT.set 14 rfl (by kernel_rfl) (by kernel_rfl)⟩)
                      | 15, _ => exact op_skip rfl (want_undef (d := 156) (b := true) rfl rfl ((E 156 (by decide)).trans (hT.val 11 rfl (hn 11 (by decide))))) rfl (hK 160 _ _ (by decide) ⟨hI, hT.set 15 rfl (by kernel_rfl) (by kernel_rfl)⟩)
                      | 16, _ => exact op_skip rfl (want_off (d := 151) (b := true) rfl rfl ((E 151 (by decide)).trans (hT.val 6 rfl (hn 6 (by decide))))) rfl (hK 161 _ _ (by decide) ⟨hI, hT.set 16 rfl (by kernel_rfl) (by kernel_rfl)⟩)
                      | 17, _ => exact op_skip rfl (want_off (d := 151) (b := true) rfl rfl ((E 151 (by decide)).trans (hT.val 6 rfl (hn 6 (by decide))))) rfl (hK 162 _ _ (by decide) ⟨hI, hT.set 17 rfl (by kernel_rfl) (by kernel_rfl)⟩)
                      | 18, _ => exact op_skip rfl (want_undef (d := 162) (b := false) rfl rfl ((E 162 (by decide)).trans (hT.val 17 rfl (hn 17 (by decide))))) rfl (hK 163 _ _ (by decide) ⟨hI, hT.set 18 rfl (by kernel_rfl) (by kernel_rfl)⟩)
                      | 19, _ => exact op_skip rfl (want_undef (d := 162) (b := false) rfl rfl ((E 162 (by decide)).trans (hT.val 17 rfl (hn 17 (by decide))))) rfl (hK 164 _ _ (by decide) ⟨hI, hT.set 19 rfl (by kernel_rfl) (by kernel_rfl)⟩)
                      | 20, _ => exact op_skip rfl (want_undef (d := 162) (b := false) rfl rfl ((E 162 (by decide)).trans (hT.val 17 rfl (hn 17 (by decide))))) rfl (hK 165 _ _ (by decide) ⟨hI, hT.set 20 rfl (by kernel_rfl) (by kernel_rfl)⟩)
                      | 21, _ => exact op_skip rfl (want_undef (d := 162) (b := false) rfl rfl ((E 162 (by decide)).trans (hT.val 17 rfl (hn 17 (by decide))))) rfl (hK 166 _ _ (by decide) ⟨hI, hT.set 21 rfl (by kernel_rfl) (by kernel_rfl)⟩)
                      | 22, _ => exact op_skip rfl (want_undef (d := 162) (b := false) rfl rfl ((E 162 (by decide)).trans (hT.val 17 rfl (hn 17 (by decide))))) rfl (hK 167 _ _ (by decide) ⟨hI, hT.set 22 rfl (by kernel_rfl) (by kernel_rfl)⟩)
                      | 23, _ => exact op_skip rfl (want_undef (d := 167) (b := true) rfl rfl ((E 167 (by decide)).trans (hT.val 22 rfl (hn 22 (by decide))))) rfl (hK 168 _ _ (by decide) ⟨hI, hT.set 23 rfl (by kernel_rfl) (by kernel_rfl)⟩)
                      | 24, _ => exact op_skip rfl (want_undef (d := 167) (b := true) rfl rfl ((E 167 (by decide)).trans (hT.val 22 rfl (hn 22 (by decide))))) rfl (hK 169 _ _ (by decide) ⟨hI, hT.set 24 rfl (by kernel_rfl) (by kernel_rfl)⟩)
                      | 25, _ => exact op_skip rfl (want_undef (d := 167) (b := true) rfl rfl ((E 167 (by decide)).trans (hT.val 22 rfl (hn 22 (by decide))))) rfl (hK 170 _ _ (by decide) ⟨hI, hT.set 25 rfl (by kernel_rfl) (by kernel_rfl)⟩)
                      | 26, _ => exact op_skip rfl (want_undef (d := 167) (b := true) rfl rfl ((E 167 (by decide)).trans (hT.val 22 rfl (hn 22 (by decide))))) rfl (hK 171 _ _ (by decide) ⟨hI, hT.set 26 rfl (by kernel_rfl) (by kernel_rfl)⟩)
                      | 27, _ => exact op_skip rfl (want_undef (d := 167) (b := true) rfl rfl ((E 167 (by decide)).trans (hT.val 22 rfl (hn 22 (by decide))))) rfl (hK 172 _ _ (by decide) ⟨hI, hT.set 27 rfl (by kernel_rfl) (by kernel_rfl)⟩)
                      | 28, _ => exact op_skip rfl (want_undef (d := 167) (b := true) rfl rfl ((E 167 (by decide)).trans (hT.val 22 rfl (hn 22 (by decide))))) rfl (hK 173 _ _ (by decide) ⟨hI, hT.set 28 rfl (by kernel_rfl) (by kernel_rfl)⟩)
                      | 29, _ => exact op_skip rfl (want_undef (d := 167) (b := true) rfl rfl ((E 167 (by decide)).trans (hT.val 22 rfl (hn 22 (by decide))))) rfl (hK 174 _ _ (by decide) ⟨hI, hT.set 29 rfl (by kernel_rfl) (by kernel_rfl)⟩)
                      | 30, _ => exact op_skip rfl (want_undef (d := 167) (b := true) rfl rfl ((E 167 (by decide)).trans (hT.val 22 rfl (hn 22 (by decide))))) rfl (hK 175 _ _ (by decide) ⟨hI, hT.set 30 rfl (by kernel_rfl) (by kernel_rfl)⟩)
                      | 31, _ => exact op_skip rfl (want_undef (d := 167) (b := true) rfl rfl ((E 167 (by decide)).trans (hT.val 22 rfl (hn 22 (by decide))))) rfl (hK 176 _ _ (by decide) ⟨hI, hT.set 31 rfl (by kernel_rfl) (by kernel_rfl)⟩)
                      | 32, _ => exact op_skip rfl (want_undef (d := 167) (b := true) rfl rfl ((E 167 (by decide)).trans (hT.val 22 rfl (hn 22 (by decide))))) rfl (hK 177 _ _ (by decide) ⟨hI, hT.set 32 rfl (by kernel_rfl) (by kernel_rfl)⟩)
                      | 33, _ => exact op_skip rfl (want_undef (d := 167) (b := true) rfl rfl ((E 167 (by decide)).trans (hT.val 22 rfl (hn 22 (by decide))))) rfl (hK 178 _ _ (by decide) ⟨hI, hT.set 33 rfl (by kernel_rfl) (by kernel_rfl)⟩)
                      | 34, _ => exact op_skip rfl (want_undef (d := 162) (b := false) rfl rfl ((E 162 (by decide)).trans (hT.val 17 rfl (hn 17 (by decide))))) rfl (hK 179 _ _ (by decide) ⟨hI, hT.set 34 rfl (by kernel_rfl) (by kernel_rfl)⟩)
                      | 35, _ => exact op_skip rfl (want_off (d := 151) (b := true) rfl rfl ((E 151 (by decide)).trans (hT.val 6 rfl (hn 6 (by decide))))) rfl (hK 180 _ _ (by decide) ⟨hI, hT.set 35 rfl (by kernel_rfl) (by kernel_rfl)⟩)
                      | 36, _ =>
                        have e1 := (E 151 (by decide)).trans (hT.val 6 rfl (hn 6 (by decide)))
                        have e2 := (E 180 (by decide)).trans (hT.val 35 rfl (hn 35 (by decide)))
                        have c1 : a.eval (.const (Value.bool false)) = Value.bool false := rfl
                        refine op_valueG (w' := wx) (v := .bool false) rfl rfl rfl ?_ (hK 181 _ _ (by decide) ⟨hI, hT.set 36 rfl (by kernel_rfl) (by kernel_rfl)⟩)
                        clear hK hK0 hT E
                        revert e1 e2 c1
                        generalize a.eval = ρ
                        intro e1 e2 c1
                        go_simp
                      | k + 37, h => exact absurd (show k + 37 < 37 from h) (by omega)
                    · intro L vals wx hJ hall
                      obtain ⟨hI, hT⟩ := hJ
                      have HX := Lib.hid hI
                      have v7 : vals 7 = .pointer (some ⟨b, 0, none⟩) := hT.rd 0 rfl
                      have v5 : vals 5 = .pointer (some ⟨b0, 0, none⟩) := hT.rd 1 rfl
                      have v17 : vals 17 = vr := hT.rd 2 rfl
                      have v18 : vals 18 = .slice A5 sl.length c5 := hT.rd 3 rfl
                      have v12 : vals 12 = .int .i64 re := hT.rd 4 rfl
                      have v19 : vals 19 = .int .i64 se := hT.rd 5 rfl
                      have v181 : vals 181 = .bool false := hT.val 36 rfl (hall 36 (by decide))
                      simp only [overA, Act.put, List.setIfInBounds_toArray, List.set_cons_zero, List.set_cons_succ]
                      rw [v7, v5, v17, v18, v12, v19, v181]
                      clear hI hT hall v7 v5 v17 v18 v12 v19 v181
                      go_wp2
                      go_meet
                      exact ⟨rfl, HX⟩
            case rest =>
              obtain ⟨rfl, hw⟩ := hcut
              replace HG := Lib.hid (HG.out.step hw.out)
              clear hw
              clear HRO HR2
              have m3 := (HG.out.at 7 rfl : HasCs _ _ _) 3 (.int .i64 ck) rfl
              have m4 := (HG.out.at 7 rfl : HasCs _ _ _) 4 (.int .i64 nn) rfl
              go_wp2_with fail
              refine (HUS.out _ (HG.out.at 6 rfl)).mono ?_
              rintro e w14 ⟨hb, vu, rfl, ha⟩
              obtain ⟨zu, hzu⟩ : ∃ q, q = uo.map fun m => (k, m) := ⟨_, rfl⟩
              rw [← hzu] at HU2
              have ha : ZoneV 109 w14 vu zu := by rw [hzu]; exact ha
              replace HG := Lib.hid ((HG.out.step hb).add ha (stable_zone _ _ _))
              clear hb ha HUS hzu m3 m4
              go_upto_region 19 with fail
              go_cut [206] (fun s206 wx => s206 = .bool false ∧ Hid (Below w14.heap.size w14 wx))
              case first =>
                as_aux_lemma =>
                  by_cases hue : ue = 0
                  · subst hue
                    obtain ⟨hse, hui⟩ := HU2.out rfl
                    subst hse
                    have HI1 := Lib.hid (fun W (hb : Below w14.heap.size w14 W) => HIV.out vu zu W ((HG.out.step hb).at 0 rfl) ((HG.out.step hb).at 10 rfl))
                    have HI2 := Lib.hid (fun W (hb : Below w14.heap.size w14 W) => HIS.out (.pointer (some ⟨b, 0, none⟩)) (some (k, m)) W ((HG.out.step hb).at 7 rfl) ((HG.out.step hb).at 1 rfl))
                    rw [hui] at HI1
                    obtain ⟨iu, hiu⟩ : ∃ q, q = inZ (some (k, m)) sl := ⟨_, rfl⟩
                    rw [← hiu] at HI1 HI2
                    clear hiu hui HU2
                    have m0 := (HG.out.at 8 rfl : HasCs _ _ _) 0 (.slice A l.length c) rfl
                    clear HHD HGD HG2 HAC HIV HIS HIV0 HAB
                    go_wp2_with fail
                    refine (HI1.out _ (Below.refl _ _)).mono ?_
                    rintro e w15 ⟨rfl, hb⟩
                    go_wp2_with fail
                    refine (HI2.out _ hb).mono ?_
                    rintro e w16 ⟨rfl, hb2⟩
                    clear m0 HI1 HI2
                    cases iu <;>
                      (go_wp2; go_meet; exact ⟨rfl, Lib.hid (hb.trans (hb2.mono hb.size))⟩)
                  · have t1 : (ue == 0) = false := by simp [hue]
                    clear hue HU2 HHD HGD HG2 HAC HIV HIS HIV0 HAB
                    go_wp2
                    go_meet
                    exact ⟨rfl, Lib.hid (Below.refl _ _)⟩
              case rest =>
                obtain ⟨rfl, hw⟩ := hcut
                replace HG := Lib.hid (HG.out.step hw.out)
                clear hw
                clear HU2 HIS
                have m5 := (HG.out.at 8 rfl : HasCs _ _ _) 5 (.slice G gs.length gc) rfl
                go_wp2_with fail
                refine (HGD.out _ (HG.out.at 7 rfl) (HG.out.at 9 rfl)).mono ?_
                rintro e w17 ⟨hb, vg, rfl, ha⟩
                obtain ⟨zg, hzg⟩ : ∃ q, q = go.map fun m => (k, m) := ⟨_, rfl⟩
                rw [← hzg] at HG2
                have ha : ZoneV 109 w17 vg zg := by rw [hzg]; exact ha
                replace HG := Lib.hid ((HG.out.step hb).add ha (stable_zone _ _ _))
                clear hb ha HGD hzg m5
                have m0 := (HG.out.at 9 rfl : HasCs _ _ _) 0 (.slice A l.length c) rfl
                have m5 := (HG.out.at 9 rfl : HasCs _ _ _) 5 (.slice G gs.length gc) rfl
                go_wp2_with fail
                refine (HHD.out _ (HG.out.at 11 rfl) (HG.out.at 10 rfl)).mono ?_
                rintro e w18 ⟨rfl, hb⟩
                replace HG := Lib.hid (HG.out.step hb)
                clear hb HHD m0 m5
                go_upto_region 23 with fail
                go_cut [241] (fun s241 wx => s241 = .bool false ∧ Hid (Below w18.heap.size w18 wx))
                case first =>
                  as_aux_lemma =>
                    clear HAC HAB
                    by_cases hge : ge = 0
                    · subst hge
                      obtain ⟨hhe, hgi⟩ := HG2.out rfl
                      subst hhe
                      have HI1 := Lib.hid (fun W (hb : Below w18.heap.size w18 W) => HIV.out vg zg W ((HG.out.step hb).at 0 rfl) ((HG.out.step hb).at 11 rfl))
                      have HI2 := Lib.hid (fun W (hb : Below w18.heap.size w18 W) => HIV0.out W ((HG.out.step hb).at 8 rfl) ((HG.out.step hb).at 11 rfl))
                      rw [hgi] at HI1
                      clear hgi HG2 HIV HIV0
                      cases iz with
                      | true =>
                        cases hy with
                        | true =>
                          as_aux_lemma =>
                            rw [show (true && true) = true from rfl] at HI1
                            refine wp_region_tab (by kernel_rfl) [7, 5, 12, 23, 21, 22, 222, 223, 224, 225, 226, 227, 228, 229, 230, 231, 232, 233, 234, 235, 236, 237, 238, 239, 240, 241] [[], [0], [1], [2], [2, 3], [2, 4], [5], [5], [5, 7], [5, 6, 8], [5], [5], [5, 11], [5, 9, 10, 12], [5, 13], [14], [5, 14, 15], [5, 9, 16], [2, 5, 17], [2, 18]]
                              (fun L vals wx => Below w18.heap.size w18 wx ∧ TabR (tbPdTT b b0 vg A l c) (bsPdTT b b0 vg A l c) L vals) (by kernel_rfl) rfl ?_ ?_ ?_
                            · exact ⟨Below.drew (Below.refl _ _), TabR.start (by simp [bsPdTT])⟩
                            · intro i hi a L vals wx E hJ hLi hn K hK hK0
                              obtain ⟨hI, hT⟩ := hJ
                              match i, hi with
                              | 0, _ => exact op_moveG rfl rfl rfl rfl ((E 12 (by decide)).trans (hT.rd 2 rfl)) (hK 222 _ _ (by decide) ⟨hI, hT.set 0 rfl (by kernel_rfl) (by kernel_rfl)⟩)
                              | 1, _ =>
                                have e1 := (E 222 (by decide)).trans (hT.val 0 rfl (hn 0 (by decide)))
                                have c1 : a.eval (.const (Value.int IntKind.i64 0)) = Value.int IntKind.i64 0 := rfl
                                refine op_valueG (w' := wx) (v := .bool true) rfl rfl rfl ?_ (hK 223 _ _ (by decide) ⟨hI, hT.set 1 rfl (by kernel_rfl) (by kernel_rfl)⟩)
                                clear hK hK0 hT E
                                revert e1 c1
                                generalize a.eval = ρ
                                intro e1 c1
                                go_simp
                              | 2, _ => exact op_moveG rfl rfl rfl rfl ((E 223 (by decide)).trans (hT.val 1 rfl (hn 1 (by decide)))) (hK 224 _ _ (by decide) ⟨hI, hT.set 2 rfl (by kernel_rfl) (by kernel_rfl)⟩)
                              | 3, _ => exact op_moveG rfl (want_on (d := 224) (b := true) rfl rfl ((E 224 (by decide)).trans (hT.val 2 rfl (hn 2 (by decide))))) rfl rfl ((E 23 (by decide)).trans (hT.rd 3 rfl)) (hK 225 _ _ (by decide) ⟨hI, hT.set 3 rfl (by kernel_rfl) (by kernel_rfl)⟩)
                              | 4, _ =>
                                have e1 := (E 225 (by decide)).trans (hT.val 3 rfl (hn 3 (by decide)))
                                have c1 : a.eval (.const (Value.int IntKind.i64 0)) = Value.int IntKind.i64 0 := rfl
                                refine op_valueG (w' := wx) (v := .bool false) rfl (want_on (d := 224) (b := true) rfl rfl ((E 224 (by decide)).trans (hT.val 2 rfl (hn 2 (by decide))))) rfl ?_ (hK 226 _ _ (by decide) ⟨hI, hT.set 4 rfl (by kernel_rfl) (by kernel_rfl)⟩)
                                clear hK hK0 hT E
                                revert e1 c1
                                generalize a.eval = ρ
                                intro e1 c1
                                go_simp
                              | 5, _ => exact op_moveG rfl (want_on (d := 224) (b := true) rfl rfl ((E 224 (by decide)).trans (hT.val 2 rfl (hn 2 (by decide))))) rfl rfl ((E 226 (by decide)).trans (hT.val 4 rfl (hn 4 (by decide)))) (hK 227 _ _ (by decide) ⟨hI, hT.set 5 rfl (by kernel_rfl) (by kernel_rfl)⟩)
                              | 6, _ => exact op_moveG rfl (want_on (d := 227) (b := false) rfl rfl ((E 227 (by decide)).trans (hT.val 5 rfl (hn 5 (by decide))))) rfl rfl ((E 21 (by decide)).trans (hT.rd 4 rfl)) (hK 228 _ _ (by decide) ⟨hI, hT.set 6 rfl (by kernel_rfl) (by kernel_rfl)⟩)
                              | 7, _ =>
                                have e1 := (E 5 (by decide)).trans (hT.rd 1 rfl)
                                refine op_valueG (w' := wx) (v := .pointer (some ⟨b0, 0, none⟩)) rfl (want_on (d := 227) (b := false) rfl rfl ((E 227 (by decide)).trans (hT.val 5 rfl (hn 5 (by decide))))) rfl ?_ (hK 229 _ _ (by decide) ⟨hI, hT.set 7 rfl (by kernel_rfl) (by kernel_rfl)⟩)
                                clear hK hK0 hT E
                                revert e1
                                generalize a.eval = ρ
                                intro e1
                                go_simp
                              | 8, _ =>
                                have e1 := (E 229 (by decide)).trans (hT.val 7 rfl (hn 7 (by decide)))
                                have m0 := ((HG.out.step hI).at 9 rfl : HasCs _ _ _) 0 (.slice A l.length c) rfl
                                refine op_valueG (w' := wx) (v := .slice A l.length c) rfl (want_on (d := 227) (b := false) rfl rfl ((E 227 (by decide)).trans (hT.val 5 rfl (hn 5 (by decide))))) rfl ?_ (hK 230 _ _ (by decide) ⟨hI, hT.set 8 rfl (by kernel_rfl) (by kernel_rfl)⟩)
                                clear hK hK0 hT E
                                revert e1
                                generalize a.eval = ρ
                                intro e1
                                go_simp
                              | 9, _ =>
                                have e1 := (E 228 (by decide)).trans (hT.val 6 rfl (hn 6 (by decide)))
                                have e2 := (E 230 (by decide)).trans (hT.val 8 rfl (hn 8 (by decide)))
                                exact op_goG rfl (want_on (d := 227) (b := false) rfl rfl ((E 227 (by decide)).trans (hT.val 5 rfl (hn 5 (by decide))))) rfl rfl Try.func10 (by kernel_rfl) rfl (by simp only [List.map_toArray, List.map_cons, List.map_nil, e1, e2]) (HI1.out _ hI) (fun w' hb => hK 231 _ _ (by decide) ⟨hI.trans (hb.mono hI.size), hT.set 9 rfl (by kernel_rfl) (by kernel_rfl)⟩)
                              | 10, _ => exact op_moveG rfl (want_on (d := 227) (b := false) rfl rfl ((E 227 (by decide)).trans (hT.val 5 rfl (hn 5 (by decide))))) rfl rfl ((E 7 (by decide)).trans (hT.rd 0 rfl)) (hK 232 _ _ (by decide) ⟨hI, hT.set 10 rfl (by kernel_rfl) (by kernel_rfl)⟩)
                              | 11, _ =>
                                have e1 := (E 5 (by decide)).trans (hT.rd 1 rfl)
                                refine op_valueG (w' := wx) (v := .pointer (some ⟨b0, 0, none⟩)) rfl (want_on (d := 227) (b := false) rfl rfl ((E 227 (by decide)).trans (hT.val 5 rfl (hn 5 (by decide))))) rfl ?_ (hK 233 _ _ (by decide) ⟨hI, hT.set 11 rfl (by kernel_rfl) (by kernel_rfl)⟩)
                                clear hK hK0 hT E
                                revert e1
                                generalize a.eval = ρ
                                intro e1
                                go_simp
                              | 12, _ =>
                                have e1 := (E 233 (by decide)).trans (hT.val 11 rfl (hn 11 (by decide)))
                                have m0 := ((HG.out.step hI).at 9 rfl : HasCs _ _ _) 0 (.slice A l.length c) rfl
                                refine op_valueG (w' := wx) (v := .slice A l.length c) rfl (want_on (d := 227) (b := false) rfl rfl ((E 227 (by decide)).trans (hT.val 5 rfl (hn 5 (by decide))))) rfl ?_ (hK 234 _ _ (by decide) ⟨hI, hT.set 12 rfl (by kernel_rfl) (by kernel_rfl)⟩)
                                clear hK hK0 hT E
                                revert e1
                                generalize a.eval = ρ
                                intro e1
                                go_simp
                              | 13, _ =>
                                have e1 := (E 232 (by decide)).trans (hT.val 10 rfl (hn 10 (by decide)))
                                have e2 := (E 234 (by decide)).trans (hT.val 12 rfl (hn 12 (by decide)))
                                exact op_goG rfl (want_on (d := 227) (b := false) rfl rfl ((E 227 (by decide)).trans (hT.val 5 rfl (hn 5 (by decide))))) rfl rfl Try.func10 (by kernel_rfl) rfl (by simp only [List.map_toArray, List.map_cons, List.map_nil, e1, e2]) (HI2.out _ hI) (fun w' hb => hK 235 _ _ (by decide) ⟨hI.trans (hb.mono hI.size), hT.set 13 rfl (by kernel_rfl) (by kernel_rfl)⟩)
                              | 14, _ => exact op_moveG rfl (want_on (d := 227) (b := false) rfl rfl ((E 227 (by decide)).trans (hT.val 5 rfl (hn 5 (by decide))))) rfl rfl ((E 235 (by decide)).trans (hT.val 13 rfl (hn 13 (by decide)))) (hK 236 _ _ (by decide) ⟨hI, hT.set 14 rfl (by kernel_rfl) (by kernel_rfl)⟩)
                              | 15, _ => exact op_moveG rfl (want_on (d := 236) (b := true) rfl rfl ((E 236 (by decide)).trans (hT.val 14 rfl (hn 14 (by decide))))) rfl rfl ((E 22 (by decide)).trans (hT.rd 5 rfl)) (hK 237 _ _ (by decide) ⟨hI, hT.set 15 rfl (by kernel_rfl) (by kernel_rfl)⟩)
                              | 16, _ =>
                                have e1 := (E 236 (by decide)).trans (hT.val 14 rfl (hn 14 (by decide)))
                                have e2 := (E 237 (by decide)).trans (hT.val 15 rfl (hn 15 (by decide)))
                                have c1 : a.eval (.const (Value.bool false)) = Value.bool false := rfl
                                refine op_valueG (w' := wx) (v := .bool true) rfl (want_on (d := 227) (b := false) rfl rfl ((E 227 (by decide)).trans (hT.val 5 rfl (hn 5 (by decide))))) rfl ?_ (hK 238 _ _ (by decide) ⟨hI, hT.set 16 rfl (by kernel_rfl) (by kernel_rfl)⟩)
                                clear hK hK0 hT E
                                revert e1 e2 c1
                                generalize a.eval = ρ
                                intro e1 e2 c1
                                go_simp
                              | 17, _ =>
                                have e1 := (E 231 (by decide)).trans (hT.val 9 rfl (hn 9 (by decide)))
                                have e2 := (E 238 (by decide)).trans (hT.val 16 rfl (hn 16 (by decide)))
                                refine op_valueG (w' := wx) (v := .bool false) rfl (want_on (d := 227) (b := false) rfl rfl ((E 227 (by decide)).trans (hT.val 5 rfl (hn 5 (by decide))))) rfl ?_ (hK 239 _ _ (by decide) ⟨hI, hT.set 17 rfl (by kernel_rfl) (by kernel_rfl)⟩)
                                clear hK hK0 hT E
                                revert e1 e2
                                generalize a.eval = ρ
                                intro e1 e2
                                go_simp
                              | 18, _ =>
                                have e1 := (E 227 (by decide)).trans (hT.val 5 rfl (hn 5 (by decide)))
                                have e2 := (E 239 (by decide)).trans (hT.val 17 rfl (hn 17 (by decide)))
                                have c1 : a.eval (.const (Value.bool true)) = Value.bool true := rfl
                                refine op_valueG (w' := wx) (v := .bool false) rfl (want_on (d := 224) (b := true) rfl rfl ((E 224 (by decide)).trans (hT.val 2 rfl (hn 2 (by decide))))) rfl ?_ (hK 240 _ _ (by decide) ⟨hI, hT.set 18 rfl (by kernel_rfl) (by kernel_rfl)⟩)
                                clear hK hK0 hT E
                                revert e1 e2 c1
                                generalize a.eval = ρ
                                intro e1 e2 c1
                                go_simp
                              | 19, _ =>
                                have e1 := (E 224 (by decide)).trans (hT.val 2 rfl (hn 2 (by decide)))
                                have e2 := (E 240 (by decide)).trans (hT.val 18 rfl (hn 18 (by decide)))
                                have c1 : a.eval (.const (Value.bool false)) = Value.bool false := rfl
                                refine op_valueG (w' := wx) (v := .bool false) rfl rfl rfl ?_ (hK 241 _ _ (by decide) ⟨hI, hT.set 19 rfl (by kernel_rfl) (by kernel_rfl)⟩)
                                clear hK hK0 hT E
                                revert e1 e2 c1
                                generalize a.eval = ρ
                                intro e1 e2 c1
                                go_simp
                              | k + 20, h => exact absurd (show k + 20 < 20 from h) (by omega)
                            · intro L vals wx hJ hall
                              obtain ⟨hI, hT⟩ := hJ
                              have HX := Lib.hid hI
                              have v7 : vals 7 = .pointer (some ⟨b, 0, none⟩) := hT.rd 0 rfl
                              have v5 : vals 5 = .pointer (some ⟨b0, 0, none⟩) := hT.rd 1 rfl
                              have v12 : vals 12 = .int .i64 0 := hT.rd 2 rfl
                              have v23 : vals 23 = .int .i64 0 := hT.rd 3 rfl
                              have v21 : vals 21 = vg := hT.rd 4 rfl
                              have v22 : vals 22 = .bool true := hT.rd 5 rfl
                              have v241 : vals 241 = .bool false := hT.val 19 rfl (hall 19 (by decide))
                              simp only [overA, Act.put, List.setIfInBounds_toArray, List.set_cons_zero, List.set_cons_succ]
                              rw [v7, v5, v12, v23, v21, v22, v241]
                              clear hI hT hall v7 v5 v12 v23 v21 v22 v241
                              go_wp2
                              go_meet
                              exact ⟨rfl, HX⟩
                        | false =>
                          as_aux_lemma =>
                            rw [show (true && false) = false from rfl] at HI1
                            refine wp_region_tab (by kernel_rfl) [7, 5, 12, 23, 21, 22, 222, 223, 224, 225, 226, 227, 228, 229, 230, 231, 232, 233, 234, 235, 236, 237, 238, 239, 240, 241] [[], [0], [1], [2], [2, 3], [2, 4], [5], [5], [5, 7], [5, 6, 8], [5], [5], [5, 11], [5, 9, 10, 12], [5, 13], [14], [5, 14, 15], [5, 9, 16], [2, 5, 17], [2, 18]]
                              (fun L vals wx => Below w18.heap.size w18 wx ∧ TabR (tbPdTF b b0 vg A l c) (bsPdTF b b0 vg A l c) L vals) (by kernel_rfl) rfl ?_ ?_ ?_
                            · exact ⟨Below.drew (Below.refl _ _), TabR.start (by simp [bsPdTF])⟩
                            · intro i hi a L vals wx E hJ hLi hn K hK hK0
                              obtain ⟨hI, hT⟩ := hJ
                              match i, hi with
                              | 0, _ => exact op_moveG rfl rfl rfl rfl ((E 12 (by decide)).trans (hT.rd 2 rfl)) (hK 222 _ _ (by decide) ⟨hI, hT.set 0 rfl (by kernel_rfl) (by kernel_rfl)⟩)
                              | 1, _ =>
                                have e1 := (E 222 (by decide)).trans (hT.val 0 rfl (hn 0 (by decide)))
                                have c1 : a.eval (.const (Value.int IntKind.i64 0)) = Value.int IntKind.i64 0 := rfl
                                refine op_valueG (w' := wx) (v := .bool true) rfl rfl rfl ?_ (hK 223 _ _ (by decide) ⟨hI, hT.set 1 rfl (by kernel_rfl) (by kernel_rfl)⟩)
                                clear hK hK0 hT E
                                revert e1 c1
                                generalize a.eval = ρ
                                intro e1 c1
                                go_simp
                              | 2, _ => exact op_moveG rfl rfl rfl rfl ((E 223 (by decide)).trans (hT.val 1 rfl (hn 1 (by decide)))) (hK 224 _ _ (by decide) ⟨hI, hT.set 2 rfl (by kernel_rfl) (by kernel_rfl)⟩)
                              | 3, _ => exact op_moveG rfl (want_on (d := 224) (b := true) rfl rfl ((E 224 (by decide)).trans (hT.val 2 rfl (hn 2 (by decide))))) rfl rfl ((E 23 (by decide)).trans (hT.rd 3 rfl)) (hK 225 _ _ (by decide) ⟨hI, hT.set 3 rfl (by kernel_rfl) (by kernel_rfl)⟩)
                              | 4, _ =>
                                have e1 := (E 225 (by decide)).trans (hT.val 3 rfl (hn 3 (by decide)))
                                have c1 : a.eval (.const (Value.int IntKind.i64 0)) = Value.int IntKind.i64 0 := rfl
                                refine op_valueG (w' := wx) (v := .bool false) rfl (want_on (d := 224) (b := true) rfl rfl ((E 224 (by decide)).trans (hT.val 2 rfl (hn 2 (by decide))))) rfl ?_ (hK 226 _ _ (by decide) ⟨hI, hT.set 4 rfl (by kernel_rfl) (by kernel_rfl)⟩)
                                clear hK hK0 hT E
                                revert e1 c1
                                generalize a.eval = ρ
                                intro e1 c1
                                go_simp
                              | 5, _ => exact op_moveG rfl (want_on (d := 224) (b := true) rfl rfl ((E 224 (by decide)).trans (hT.val 2 rfl (hn 2 (by decide))))) rfl rfl ((E 226 (by decide)).trans (hT.val 4 rfl (hn 4 (by decide)))) (hK 227 _ _ (by decide) ⟨hI, hT.set 5 rfl (by kernel_rfl) (by kernel_rfl)⟩)
                              | 6, _ => exact op_moveG rfl (want_on (d := 227) (b := false) rfl rfl ((E 227 (by decide)).trans (hT.val 5 rfl (hn 5 (by decide))))) rfl rfl ((E 21 (by decide)).trans (hT.rd 4 rfl)) (hK 228 _ _ (by decide) ⟨hI, hT.set 6 rfl (by kernel_rfl) (by kernel_rfl)⟩)
                              | 7, _ =>
                                have e1 := (E 5 (by decide)).trans (hT.rd 1 rfl)
                                refine op_valueG (w' := wx) (v := .pointer (some ⟨b0, 0, none⟩)) rfl (want_on (d := 227) (b := false) rfl rfl ((E 227 (by decide)).trans (hT.val 5 rfl (hn 5 (by decide))))) rfl ?_ (hK 229 _ _ (by decide) ⟨hI, hT.set 7 rfl (by kernel_rfl) (by kernel_rfl)⟩)
                                clear hK hK0 hT E
                                revert e1
                                generalize a.eval = ρ
                                intro e1
                                go_simp
                              | 8, _ =>
                                have e1 := (E 229 (by decide)).trans (hT.val 7 rfl (hn 7 (by decide)))
                                have m0 := ((HG.out.step hI).at 9 rfl : HasCs _ _ _) 0 (.slice A l.length c) rfl
                                refine op_valueG (w' := wx) (v := .slice A l.length c) rfl (want_on (d := 227) (b := false) rfl rfl ((E 227 (by decide)).trans (hT.val 5 rfl (hn 5 (by decide))))) rfl ?_ (hK 230 _ _ (by decide) ⟨hI, hT.set 8 rfl (by kernel_rfl) (by kernel_rfl)⟩)
                                clear hK hK0 hT E
                                revert e1
                                generalize a.eval = ρ
                                intro e1
                                go_simp
                              | 9, _ =>
                                have e1 := (E 228 (by decide)).trans (hT.val 6 rfl (hn 6 (by decide)))
                                have e2 := (E 230 (by decide)).trans (hT.val 8 rfl (hn 8 (by decide)))
                                exact op_goG rfl (want_on (d := 227) (b := false) rfl rfl ((E 227 (by decide)).trans (hT.val 5 rfl (hn 5 (by decide))))) rfl rfl Try.func10 (by kernel_rfl) rfl (by simp only [List.map_toArray, List.map_cons, List.map_nil, e1, e2]) (HI1.out _ hI) (fun w' hb => hK 231 _ _ (by decide) ⟨hI.trans (hb.mono hI.size), hT.set 9 rfl (by kernel_rfl) (by kernel_rfl)⟩)
                              | 10, _ => exact op_moveG rfl (want_on (d := 227) (b := false) rfl rfl ((E 227 (by decide)).trans (hT.val 5 rfl (hn 5 (by decide))))) rfl rfl ((E 7 (by decide)).trans (hT.rd 0 rfl)) (hK 232 _ _ (by decide) ⟨hI, hT.set 10 rfl (by kernel_rfl) (by kernel_rfl)⟩)
                              | 11, _ =>
                                have e1 := (E 5 (by decide)).trans (hT.rd 1 rfl)
                                refine op_valueG (w' := wx) (v := .pointer (some ⟨b0, 0, none⟩)) rfl (want_on (d := 227) (b := false) rfl rfl ((E 227 (by decide)).trans (hT.val 5 rfl (hn 5 (by decide))))) rfl ?_ (hK 233 _ _ (by decide) ⟨hI, hT.set 11 rfl (by kernel_rfl) (by kernel_rfl)⟩)
                                clear hK hK0 hT E
                                revert e1
                                generalize a.eval = ρ
                                intro e1
                                go_simp
                              | 12, _ =>
                                have e1 := (E 233 (by decide)).trans (hT.val 11 rfl (hn 11 (by decide)))
                                have m0 := ((HG.out.step hI).at 9 rfl : HasCs _ _ _) 0 (.slice A l.length c) rfl
                                refine op_valueG (w' := wx) (v := .slice A l.length c) rfl (want_on (d := 227) (b := false) rfl rfl ((E 227 (by decide)).trans (hT.val 5 rfl (hn 5 (by decide))))) rfl ?_ (hK 234 _ _ (by decide) ⟨hI, hT.set 12 rfl (by kernel_rfl) (by kernel_rfl)⟩)
                                clear hK hK0 hT E
                                revert e1
                                generalize a.eval = ρ
                                intro e1
                                go_simp
                              | 13, _ =>
                                have e1 := (E 232 (by decide)).trans (hT.val 10 rfl (hn 10 (by decide)))
                                have e2 := (E 234 (by decide)).trans (hT.val 12 rfl (hn 12 (by decide)))
                                exact op_goG rfl (want_on (d := 227) (b := false) rfl rfl ((E 227 (by decide)).trans (hT.val 5 rfl (hn 5 (by decide))))) rfl rfl Try.func10 (by kernel_rfl) rfl (by simp only [List.map_toArray, List.map_cons, List.map_nil, e1, e2]) (HI2.out _ hI) (fun w' hb => hK 235 _ _ (by decide) ⟨hI.trans (hb.mono hI.size), hT.set 13 rfl (by kernel_rfl) (by kernel_rfl)⟩)
                              | 14, _ => exact op_moveG rfl (want_on (d := 227) (b := false) rfl rfl ((E 227 (by decide)).trans (hT.val 5 rfl (hn 5 (by decide))))) rfl rfl ((E 235 (by decide)).trans (hT.val 13 rfl (hn 13 (by decide)))) (hK 236 _ _ (by decide) ⟨hI, hT.set 14 rfl (by kernel_rfl) (by kernel_rfl)⟩)
                              | 15, _ => exact op_moveG rfl (want_on (d := 236) (b := true) rfl rfl ((E 236 (by decide)).trans (hT.val 14 rfl (hn 14 (by decide))))) rfl rfl ((E 22 (by decide)).trans (hT.rd 5 rfl)) (hK 237 _ _ (by decide) ⟨hI, hT.set 15 rfl (by kernel_rfl) (by kernel_rfl)⟩)
                              | 16, _ =>
                                have e1 := (E 236 (by decide)).trans (hT.val 14 rfl (hn 14 (by decide)))
                                have e2 := (E 237 (by decide)).trans (hT.val 15 rfl (hn 15 (by decide)))
                                have c1 : a.eval (.const (Value.bool false)) = Value.bool false := rfl
                                refine op_valueG (w' := wx) (v := .bool false) rfl (want_on (d := 227) (b := false) rfl rfl ((E 227 (by decide)).trans (hT.val 5 rfl (hn 5 (by decide))))) rfl ?_ (hK 238 _ _ (by decide) ⟨hI, hT.set 16 rfl (by kernel_rfl) (by kernel_rfl)⟩)
                                clear hK hK0 hT E
                                revert e1 e2 c1
                                generalize a.eval = ρ
                                intro e1 e2 c1
                                go_simp
                              | 17, _ =>
                                have e1 := (E 231 (by decide)).trans (hT.val 9 rfl (hn 9 (by decide)))
                                have e2 := (E 238 (by decide)).trans (hT.val 16 rfl (hn 16 (by decide)))
                                refine op_valueG (w' := wx) (v := .bool false) rfl (want_on (d := 227) (b := false) rfl rfl ((E 227 (by decide)).trans (hT.val 5 rfl (hn 5 (by decide))))) rfl ?_ (hK 239 _ _ (by decide) ⟨hI, hT.set 17 rfl (by kernel_rfl) (by kernel_rfl)⟩)
                                clear hK hK0 hT E
                                revert e1 e2
                                generalize a.eval = ρ
                                intro e1 e2
                                go_simp
                              | 18, _ =>
                                have e1 := (E 227 (by decide)).trans (hT.val 5 rfl (hn 5 (by decide)))
                                have e2 := (E 239 (by decide)).trans (hT.val 17 rfl (hn 17 (by decide)))
                                have c1 : a.eval (.const (Value.bool true)) = Value.bool true := rfl
                                refine op_valueG (w' := wx) (v := .bool false) rfl (want_on (d := 224) (b := true) rfl rfl ((E 224 (by decide)).trans (hT.val 2 rfl (hn 2 (by decide))))) rfl ?_ (hK 240 _ _ (by decide) ⟨hI, hT.set 18 rfl (by kernel_rfl) (by kernel_rfl)⟩)
                                clear hK hK0 hT E
                                revert e1 e2 c1
                                generalize a.eval = ρ
                                intro e1 e2 c1
                                go_simp
                              | 19, _ =>
                                have e1 := (E 224 (by decide)).trans (hT.val 2 rfl (hn 2 (by decide)))
                                have e2 := (E 240 (by decide)).trans (hT.val 18 rfl (hn 18 (by decide)))
                                have c1 : a.eval (.const (Value.bool false)) = Value.bool false := rfl
                                refine op_valueG (w' := wx) (v := .bool false) rfl rfl rfl ?_ (hK 241 _ _ (by decide) ⟨hI, hT.set 19 rfl (by kernel_rfl) (by kernel_rfl)⟩)
                                clear hK hK0 hT E
                                revert e1 e2 c1
                                generalize a.eval = ρ
                                intro e1 e2 c1
                                go_simp
                              | k + 20, h => exact absurd (show k + 20 < 20 from h) (by omega)
                            · intro L vals wx hJ hall
                              obtain ⟨hI, hT⟩ := hJ
                              have HX := Lib.hid hI
                              have v7 : vals 7 = .pointer (some ⟨b, 0, none⟩) := hT.rd 0 rfl
                              have v5 : vals 5 = .pointer (some ⟨b0, 0, none⟩) := hT.rd 1 rfl
                              have v12 : vals 12 = .int .i64 0 := hT.rd 2 rfl
                              have v23 : vals 23 = .int .i64 0 := hT.rd 3 rfl
                              have v21 : vals 21 = vg := hT.rd 4 rfl
                              have v22 : vals 22 = .bool false := hT.rd 5 rfl
                              have v241 : vals 241 = .bool false := hT.val 19 rfl (hall 19 (by decide))
                              simp only [overA, Act.put, List.setIfInBounds_toArray, List.set_cons_zero, List.set_cons_succ]
                              rw [v7, v5, v12, v23, v21, v22, v241]
                              clear hI hT hall v7 v5 v12 v23 v21 v22 v241
                              go_wp2
                              go_meet
                              exact ⟨rfl, HX⟩
                      | false =>
                        cases hy with
                        | true =>
                          as_aux_lemma =>
                            rw [show (false && true) = false from rfl] at HI1
                            refine wp_region_tab (by kernel_rfl) [7, 5, 12, 23, 21, 22, 222, 223, 224, 225, 226, 227, 228, 229, 230, 231, 232, 233, 234, 235, 236, 237, 238, 239, 240, 241] [[], [0], [1], [2], [2, 3], [2, 4], [5], [5], [5, 7], [5, 6, 8], [5], [5], [5, 11], [5, 9, 10, 12], [5, 13], [14], [5, 14, 15], [5, 9, 16], [2, 5, 17], [2, 18]]
                              (fun L vals wx => Below w18.heap.size w18 wx ∧ TabR (tbPdFT b b0 vg A l c) (bsPdFT b b0 vg A l c) L vals) (by kernel_rfl) rfl ?_ ?_ ?_
                            · exact ⟨Below.drew (Below.refl _ _), TabR.start (by simp [bsPdFT])⟩
                            · intro i hi a L vals wx E hJ hLi hn K hK hK0
                              obtain ⟨hI, hT⟩ := hJ
                              match i, hi with
                              | 0, _ => exact op_moveG rfl rfl rfl rfl ((E 12 (by decide)).trans (hT.rd 2 rfl)) (hK 222 _ _ (by decide) ⟨hI, hT.set 0 rfl (by kernel_rfl) (by kernel_rfl)⟩)
                              | 1, _ =>
                                have e1 := (E 222 (by decide)).trans (hT.val 0 rfl (hn 0 (by decide)))
                                have c1 : a.eval (.const (Value.int IntKind.i64 0)) = Value.int IntKind.i64 0 := rfl
                                refine op_valueG (w' := wx) (v := .bool true) rfl rfl rfl ?_ (hK 223 _ _ (by decide) ⟨hI, hT.set 1 rfl (by kernel_rfl) (by kernel_rfl)⟩)
                                clear hK hK0 hT E
                                revert e1 c1
                                generalize a.eval = ρ
                                intro e1 c1
                                go_simp
                              | 2, _ => exact op_moveG rfl rfl rfl rfl ((E 223 (by decide)).trans (hT.val 1 rfl (hn 1 (by decide)))) (hK 224 _ _ (by decide) ⟨hI, hT.set 2 rfl (by kernel_rfl) (by kernel_rfl)⟩)
                              | 3, _ => exact op_moveG rfl (want_on (d := 224) (b := true) rfl rfl ((E 224 (by decide)).trans (hT.val 2 rfl (hn 2 (by decide))))) rfl rfl ((E 23 (by decide)).trans (hT.rd 3 rfl)) (hK 225 _ _ (by decide) ⟨hI, hT.set 3 rfl (by kernel_rfl) (by kernel_rfl)⟩)
                              | 4, _ =>
                                have e1 := (E 225 (by decide)).trans (hT.val 3 rfl (hn 3 (by decide)))
                                have c1 : a.eval (.const (Value.int IntKind.i64 0)) = Value.int IntKind.i64 0 := rfl
                                refine op_valueG (w' := wx) (v := .bool false) rfl (want_on (d := 224) (b := true) rfl rfl ((E 224 (by decide)).trans (hT.val 2 rfl (hn 2 (by decide))))) rfl ?_ (hK 226 _ _ (by decide) ⟨hI, hT.set 4 rfl (by kernel_rfl) (by kernel_rfl)⟩)
                                clear hK hK0 hT E
                                revert e1 c1
                                generalize a.eval = ρ
                                intro e1 c1
                                go_simp
                              | 5, _ => exact op_moveG rfl (want_on (d := 224) (b := true) rfl rfl ((E 224 (by decide)).trans (hT.val 2 rfl (hn 2 (by decide))))) rfl rfl ((E 226 (by decide)).trans (hT.val 4 rfl (hn 4 (by decide)))) (hK 227 _ _ (by decide) ⟨hI, hT.set 5 rfl (by kernel_rfl) (by kernel_rfl)⟩)
                              | 6, _ => exact op_moveG rfl (want_on (d := 227) (b := false) rfl rfl ((E 227 (by decide)).trans (hT.val 5 rfl (hn 5 (by decide))))) rfl rfl ((E 21 (by decide)).trans (hT.rd 4 rfl)) (hK 228 _ _ (by decide) ⟨hI, hT.set 6 rfl (by kernel_rfl) (by kernel_rfl)⟩)
                              | 7, _ =>
                                have e1 := (E 5 (by decide)).trans (hT.rd 1 rfl)
                                refine op_valueG (w' := wx) (v := .pointer (some ⟨b0, 0, none⟩)) rfl (want_on (d := 227) (b := false) rfl rfl ((E 227 (by decide)).trans (hT.val 5 rfl (hn 5 (by decide))))) rfl ?_ (hK 229 _ _ (by decide) ⟨hI, hT.set 7 rfl (by kernel_rfl) (by kernel_rfl)⟩)
                                clear hK hK0 hT E
                                revert e1
                                generalize a.eval = ρ
                                intro e1
                                go_simp
                              | 8, _ =>
                                have e1 := (E 229 (by decide)).trans (hT.val 7 rfl (hn 7 (by decide)))
                                have m0 := ((HG.out.step hI).at 9 rfl : HasCs _ _ _) 0 (.slice A l.length c) rfl
                                refine op_valueG (w' := wx) (v := .slice A l.length c) rfl (want_on (d := 227) (b := false) rfl rfl ((E 227 (by decide)).trans (hT.val 5 rfl (hn 5 (by decide))))) rfl ?_ (hK 230 _ _ (by decide) ⟨hI, hT.set 8 rfl (by kernel_rfl) (by kernel_rfl)⟩)
                                clear hK hK0 hT E
                                revert e1
                                generalize a.eval = ρ
                                intro e1
                                go_simp
                              | 9, _ =>
                                have e1 := (E 228 (by decide)).trans (hT.val 6 rfl (hn 6 (by decide)))
                                have e2 := (E 230 (by decide)).trans (hT.val 8 rfl (hn 8 (by decide)))
                                exact op_goG rfl (want_on (d := 227) (b := false) rfl rfl ((E 227 (by decide)).trans (hT.val 5 rfl (hn 5 (by decide))))) rfl rfl Try.func10 (by kernel_rfl) rfl (by simp only [List.map_toArray, List.map_cons, List.map_nil, e1, e2]) (HI1.out _ hI) (fun w' hb => hK 231 _ _ (by decide) ⟨hI.trans (hb.mono hI.size), hT.set 9 rfl (by kernel_rfl) (by kernel_rfl)⟩)
                              | 10, _ => exact op_moveG rfl (want_on (d := 227) (b := false) rfl rfl ((E 227 (by decide)).trans (hT.val 5 rfl (hn 5 (by decide))))) rfl rfl ((E 7 (by decide)).trans (hT.rd 0 rfl)) (hK 232 _ _ (by decide) ⟨hI, hT.set 10 rfl (by kernel_rfl) (by kernel_rfl)⟩)
                              | 11, _ =>
                                have e1 := (E 5 (by decide)).trans (hT.rd 1 rfl)
                                refine op_valueG (w' := wx) (v := .pointer (some ⟨b0, 0, none⟩)) rfl (want_on (d := 227) (b := false) rfl rfl ((E 227 (by decide)).trans (hT.val 5 rfl (hn 5 (by decide))))) rfl ?_ (hK 233 _ _ (by decide) ⟨hI, hT.set 11 rfl (by kernel_rfl) (by kernel_rfl)⟩)
                                clear hK hK0 hT E
                                revert e1
                                generalize a.eval = ρ
                                intro e1
                                go_simp
                              | 12, _ =>
                                have e1 := (E 233 (by decide)).trans (hT.val 11 rfl (hn 11 (by decide)))
                                have m0 := ((HG.out.step hI).at 9 rfl : HasCs _ _ _) 0 (.slice A l.length c) rfl
                                refine op_valueG (w' := wx) (v := .slice A l.length c) rfl (want_on (d := 227) (b := false) rfl rfl ((E 227 (by decide)).trans (hT.val 5 rfl (hn 5 (by decide))))) rfl ?_ (hK 234 _ _ (by decide) ⟨hI, hT.set 12 rfl (by kernel_rfl) (by kernel_rfl)⟩)
                                clear hK hK0 hT E
                                revert e1
                                generalize a.eval = ρ
                                intro e1
                                go_simp
                              | 13, _ =>
                                have e1 := (E 232 (by decide)).trans (hT.val 10 rfl (hn 10 (by decide)))
                                have e2 := (E 234 (by decide)).trans (hT.val 12 rfl (hn 12 (by decide)))
                                exact op_goG rfl (want_on (d := 227) (b := false) rfl rfl ((E 227 (by decide)).trans (hT.val 5 rfl (hn 5 (by decide))))) rfl rfl Try.func10 (by kernel_rfl) rfl (by simp only [List.map_toArray, List.map_cons, List.map_nil, e1, e2]) (HI2.out _ hI) (fun w' hb => hK 235 _ _ (by decide) ⟨hI.trans (hb.mono hI.size), hT.set 13 rfl (by kernel_rfl) (by kernel_rfl)⟩)
                              | 14, _ => exact op_moveG rfl (want_on (d := 227) (b := false) rfl rfl ((E 227 (by decide)).trans (hT.val 5 rfl (hn 5 (by decide))))) rfl rfl ((E 235 (by decide)).trans (hT.val 13 rfl (hn 13 (by decide)))) (hK 236 _ _ (by decide) ⟨hI, hT.set 14 rfl (by kernel_rfl) (by kernel_rfl)⟩)
                              | 15, _ => exact op_skip rfl (want_off (d := 236) (b := true) rfl rfl ((E 236 (by decide)).trans (hT.val 14 rfl (hn 14 (by decide))))) rfl (hK 237 _ _ (by decide) ⟨hI, hT.set 15 rfl (by kernel_rfl) (by kernel_rfl)⟩)
                              | 16, _ =>
                                have e1 := (E 236 (by decide)).trans (hT.val 14 rfl (hn 14 (by decide)))
                                have e2 := (E 237 (by decide)).trans (hT.val 15 rfl (hn 15 (by decide)))
                                have c1 : a.eval (.const (Value.bool false)) = Value.bool false := rfl
                                refine op_valueG (w' := wx) (v := .bool false) rfl (want_on (d := 227) (b := false) rfl rfl ((E 227 (by decide)).trans (hT.val 5 rfl (hn 5 (by decide))))) rfl ?_ (hK 238 _ _ (by decide) ⟨hI, hT.set 16 rfl (by kernel_rfl) (by kernel_rfl)⟩)
                                clear hK hK0 hT E
                                revert e1 e2 c1
                                generalize a.eval = ρ
                                intro e1 e2 c1
                                go_simp
                              | 17, _ =>
                                have e1 := (E 231 (by decide)).trans (hT.val 9 rfl (hn 9 (by decide)))
                                have e2 := (E 238 (by decide)).trans (hT.val 16 rfl (hn 16 (by decide)))
                                refine op_valueG (w' := wx) (v := .bool false) rfl (want_on (d := 227) (b := false) rfl rfl ((E 227 (by decide)).trans (hT.val 5 rfl (hn 5 (by decide))))) rfl ?_ (hK 239 _ _ (by decide) ⟨hI, hT.set 17 rfl (by kernel_rfl) (by kernel_rfl)⟩)
                                clear hK hK0 hT E
                                revert e1 e2
                                generalize a.eval = ρ
                                intro e1 e2
                                go_simp
                              | 18, _ =>
                                have e1 := (E 227 (by decide)).trans (hT.val 5 rfl (hn 5 (by decide)))
                                have e2 := (E 239 (by decide)).trans (hT.val 17 rfl (hn 17 (by decide)))
                                have c1 : a.eval (.const (Value.bool true)) = Value.bool true := rfl
                                refine op_valueG (w' := wx) (v := .bool false) rfl (want_on (d := 224) (b := true) rfl rfl ((E 224 (by decide)).trans (hT.val 2 rfl (hn 2 (by decide))))) rfl ?_ (hK 240 _ _ (by decide) ⟨hI, hT.set 18 rfl (by kernel_rfl) (by kernel_rfl)⟩)
                                clear hK hK0 hT E
                                revert e1 e2 c1
                                generalize a.eval = ρ
                                intro e1 e2 c1
                                go_simp
                              | 19, _ =>
                                have e1 := (E 224 (by decide)).trans (hT.val 2 rfl (hn 2 (by decide)))
                                have e2 := (E 240 (by decide)).trans (hT.val 18 rfl (hn 18 (by decide)))
                                have c1 : a.eval (.const (Value.bool false)) = Value.bool false := rfl
                                refine op_valueG (w' := wx) (v := .bool false) rfl rfl rfl ?_ (hK 241 _ _ (by decide) ⟨hI, hT.set 19 rfl (by kernel_rfl) (by kernel_rfl)⟩)
                                clear hK hK0 hT E
                                revert e1 e2 c1
                                generalize a.eval = ρ
                                intro e1 e2 c1
                                go_simp
                              | k + 20, h => exact absurd (show k + 20 < 20 from h) (by omega)
                            · intro L vals wx hJ hall
                              obtain ⟨hI, hT⟩ := hJ
                              have HX := Lib.hid hI
                              have v7 : vals 7 = .pointer (some ⟨b, 0, none⟩) := hT.rd 0 rfl
                              have v5 : vals 5 = .pointer (some ⟨b0, 0, none⟩) := hT.rd 1 rfl
                              have v12 : vals 12 = .int .i64 0 := hT.rd 2 rfl
                              have v23 : vals 23 = .int .i64 0 := hT.rd 3 rfl
                              have v21 : vals 21 = vg := hT.rd 4 rfl
                              have v22 : vals 22 = .bool true := hT.rd 5 rfl
                              have v241 : vals 241 = .bool false := hT.val 19 rfl (hall 19 (by decide))
                              simp only [overA, Act.put, List.setIfInBounds_toArray, List.set_cons_zero, List.set_cons_succ]
                              rw [v7, v5, v12, v23, v21, v22, v241]
                              clear hI hT hall v7 v5 v12 v23 v21 v22 v241
                              go_wp2
                              go_meet
                              exact ⟨rfl, HX⟩
                        | false =>
                          as_aux_lemma =>
                            rw [show (false && false) = false from rfl] at HI1
                            refine wp_region_tab (by kernel_rfl) [7, 5, 12, 23, 21, 22, 222, 223, 224, 225, 226, 227, 228, 229, 230, 231, 232, 233, 234, 235, 236, 237, 238, 239, 240, 241] [[], [0], [1], [2], [2, 3], [2, 4], [5], [5], [5, 7], [5, 6, 8], [5], [5], [5, 11], [5, 9, 10, 12], [5, 13], [14], [5, 14, 15], [5, 9, 16], [2, 5, 17], [2, 18]]
                              (fun L vals wx => Below w18.heap.size w18 wx ∧ TabR (tbPdFF b b0 vg A l c) (bsPdFF b b0 vg A l c) L vals) (by kernel_rfl) rfl ?_ ?_ ?_
                            · exact ⟨Below.drew (Below.refl _ _), TabR.start (by simp [bsPdFF])⟩
                            · intro i hi a L vals wx E hJ hLi hn K hK hK0
                              obtain ⟨hI, hT⟩ := hJ
                              match i, hi with
                              | 0, _ => exact op_moveG rfl rfl rfl rfl ((E 12 (by decide)).trans (hT.rd 2 rfl)) (hK 222 _ _ (by decide) ⟨hI, hT.set 0 rfl (by kernel_rfl) (by kernel_rfl)⟩)
                              | 1, _ =>
                                have e1 := (E 222 (by decide)).trans (hT.val 0 rfl (hn 0 (by decide)))
                                have c1 : a.eval (.const (Value.int IntKind.i64 0)) = Value.int IntKind.i64 0 := rfl
                                refine op_valueG (w' := wx) (v := .bool true) rfl rfl rfl ?_ (hK 223 _ _ (by decide) ⟨hI, hT.set 1 rfl (by kernel_rfl) (by kernel_rfl)⟩)
                                clear hK hK0 hT E
                                revert e1 c1
                                generalize a.eval = ρ
                                intro e1 c1
                                go_simp
                              | 2, _ => exact op_moveG rfl rfl rfl rfl ((E 223 (by decide)).trans (hT.val 1 rfl (hn 1 (by decide)))) (hK 224 _ _ (by decide) ⟨hI, hT.set 2 rfl (by kernel_rfl) (by kernel_rfl)⟩)
                              | 3, _ => exact op_moveG rfl (want_on (d := 224) (b := true) rfl rfl ((E 224 (by decide)).trans (hT.val 2 rfl (hn 2 (by decide))))) rfl rfl ((E 23 (by decide)).trans (hT.rd 3 rfl)) (hK 225 _ _ (by decide) ⟨hI, hT.set 3 rfl (by kernel_rfl) (by kernel_rfl)⟩)
                              | 4, _ =>
                                have e1 := (E 225 (by decide)).trans (hT.val 3 rfl (hn 3 (by decide)))
                                have c1 : a.eval (.const (Value.int IntKind.i64 0)) = Value.int IntKind.i64 0 := rfl
                                refine op_valueG (w' := wx) (v := .bool false) rfl (want_on (d := 224) (b := true) rfl rfl ((E 224 (by decide)).trans (hT.val 2 rfl (hn 2 (by decide))))) rfl ?_ (hK 226 _ _ (by decide) ⟨hI, hT.set 4 rfl (by kernel_rfl) (by kernel_rfl)⟩)
                                clear hK hK0 hT E
                                revert e1 c1
                                generalize a.eval = ρ
                                intro e1 c1
                                go_simp
                              | 5, _ => exact op_moveG rfl (want_on (d := 224) (b := true) rfl rfl ((E 224 (by decide)).trans (hT.val 2 rfl (hn 2 (by decide))))) rfl rfl ((E 226 (by decide)).trans (hT.val 4 rfl (hn 4 (by decide)))) (hK 227 _ _ (by decide) ⟨hI, hT.set 5 rfl (by kernel_rfl) (by kernel_rfl)⟩)
                              | 6, _ => exact op_moveG rfl (want_on (d := 227) (b := false) rfl rfl ((E 227 (by decide)).trans (hT.val 5 rfl (hn 5 (by decide))))) rfl rfl ((E 21 (by decide)).trans (hT.rd 4 rfl)) (hK 228 _ _ (by decide) ⟨hI, hT.set 6 rfl (by kernel_rfl) (by kernel_rfl)⟩)
                              | 7, _ =>
                                have e1 := (E 5 (by decide)).trans (hT.rd 1 rfl)
                                refine op_valueG (w' := wx) (v := .pointer (some ⟨b0, 0, none⟩)) rfl (want_on (d := 227) (b := false) rfl rfl ((E 227 (by decide)).trans (hT.val 5 rfl (hn 5 (by decide))))) rfl ?_ (hK 229 _ _ (by decide) ⟨hI, hT.set 7 rfl (by kernel_rfl) (by kernel_rfl)⟩)
                                clear hK hK0 hT E
                                revert e1
                                generalize a.eval = ρ
                                intro e1
                                go_simp
                              | 8, _ =>
                                have e1 := (E 229 (by decide)).trans (hT.val 7 rfl (hn 7 (by decide)))
                                have m0 := ((HG.out.step hI).at 9 rfl : HasCs _ _ _) 0 (.slice A l.length c) rfl
                                refine op_valueG (w' := wx) (v := .slice A l.length c) rfl (want_on (d := 227) (b := false) rfl rfl ((E 227 (by decide)).trans (hT.val 5 rfl (hn 5 (by decide))))) rfl ?_ (hK 230 _ _ (by decide) ⟨hI, hT.set 8 rfl (by kernel_rfl) (by kernel_rfl)⟩)
                                clear hK hK0 hT E
                                revert e1
                                generalize a.eval = ρ
                                intro e1
                                go_simp
                              | 9, _ =>
                                have e1 := (E 228 (by decide)).trans (hT.val 6 rfl (hn 6 (by decide)))
                                have e2 := (E 230 (by decide)).trans (hT.val 8 rfl (hn 8 (by decide)))
                                exact op_goG rfl (want_on (d := 227) (b := false) rfl rfl ((E 227 (by decide)).trans (hT.val 5 rfl (hn 5 (by decide))))) rfl rfl Try.func10 (by kernel_rfl) rfl (by simp only [List.map_toArray, List.map_cons, List.map_nil, e1, e2]) (HI1.out _ hI) (fun w' hb => hK 231 _ _ (by decide) ⟨hI.trans (hb.mono hI.size), hT.set 9 rfl (by kernel_rfl) (by kernel_rfl)⟩)
                              | 10, _ => exact op_moveG rfl (want_on (d := 227) (b := false) rfl rfl ((E 227 (by decide)).trans (hT.val 5 rfl (hn 5 (by decide))))) rfl rfl ((E 7 (by decide)).trans (hT.rd 0 rfl)) (hK 232 _ _ (by decide) ⟨hI, hT.set 10 rfl (by kernel_rfl) (by kernel_rfl)⟩)
                              | 11, _ =>
                                have e1 := (E 5 (by decide)).trans (hT.rd 1 rfl)
                                refine op_valueG (w' := wx) (v := .pointer (some ⟨b0, 0, none⟩)) rfl (want_on (d := 227) (b := false) rfl rfl ((E 227 (by decide)).trans (hT.val 5 rfl (hn 5 (by decide))))) rfl ?_ (hK 233 _ _ (by decide) ⟨hI, hT.set 11 rfl (by kernel_rfl) (by kernel_rfl)⟩)
                                clear hK hK0 hT E
                                revert e1
                                generalize a.eval = ρ
                                intro e1
                                go_simp
                              | 12, _ =>
                                have e1 := (E 233 (by decide)).trans (hT.val 11 rfl (hn 11 (by decide)))
                                have m0 := ((HG.out.step hI).at 9 rfl : HasCs _ _ _) 0 (.slice A l.length c) rfl
                                refine op_valueG (w' := wx) (v := .slice A l.length c) rfl (want_on (d := 227) (b := false) rfl rfl ((E 227 (by decide)).trans (hT.val 5 rfl (hn 5 (by decide))))) rfl ?_ (hK 234 _ _ (by decide) ⟨hI, hT.set 12 rfl (by kernel_rfl) (by kernel_rfl)⟩)
                                clear hK hK0 hT E
                                revert e1
                                generalize a.eval = ρ
                                intro e1
                                go_simp
                              | 13, _ =>
                                have e1 := (E 232 (by decide)).trans (hT.val 10 rfl (hn 10 (by decide)))
                                have e2 := (E 234 (by decide)).trans (hT.val 12 rfl (hn 12 (by decide)))
                                exact op_goG rfl (want_on (d := 227) (b := false) rfl rfl ((E 227 (by decide)).trans (hT.val 5 rfl (hn 5 (by decide))))) rfl rfl Try.func10 (by kernel_rfl) rfl (by simp only [List.map_toArray, List.map_cons, List.map_nil, e1, e2]) (HI2.out _ hI) (fun w' hb => hK 235 _ _ (by decide) ⟨hI.trans (hb.mono hI.size), hT.set 13 rfl (by kernel_rfl) (by kernel_rfl)⟩)
                              | 14, _ => exact op_moveG rfl (want_on (d := 227) (b := false) rfl rfl ((E 227 (by decide)).trans (hT.val 5 rfl (hn 5 (by decide))))) rfl rfl ((E 235 (by decide)).trans (hT.val 13 rfl (hn 13 (by decide)))) (hK 236 _ _ (by decide) ⟨hI, hT.set 14 rfl (by kernel_rfl) (by kernel_rfl)⟩)
                              | 15, _ => exact op_skip rfl (want_off (d := 236) (b := true) rfl rfl ((E 236 (by decide)).trans (hT.val 14 rfl (hn 14 (by decide))))) rfl (hK 237 _ _ (by decide) ⟨hI, hT.set 15 rfl (by kernel_rfl) (by kernel_rfl)⟩)
                              | 16, _ =>
                                have e1 := (E 236 (by decide)).trans (hT.val 14 rfl (hn 14 (by decide)))
                                have e2 := (E 237 (by decide)).trans (hT.val 15 rfl (hn 15 (by decide)))
                                have c1 : a.eval (.const (Value.bool false)) = Value.bool false := rfl
                                refine op_valueG (w' := wx) (v := .bool false) rfl (want_on (d := 227) (b := false) rfl rfl ((E 227 (by decide)).trans (hT.val 5 rfl (hn 5 (by decide))))) rfl ?_ (hK 238 _ _ (by decide) ⟨hI, hT.set 16 rfl (by kernel_rfl) (by kernel_rfl)⟩)
                                clear hK hK0 hT E
                                revert e1 e2 c1
                                generalize a.eval = ρ
                                intro e1 e2 c1
                                go_simp
                              | 17, _ =>
                                have e1 := (E 231 (by decide)).trans (hT.val 9 rfl (hn 9 (by decide)))
                                have e2 := (E 238 (by decide)).trans (hT.val 16 rfl (hn 16 (by decide)))
                                refine op_valueG (w' := wx) (v := .bool false) rfl (want_on (d := 227) (b := false) rfl rfl ((E 227 (by decide)).trans (hT.val 5 rfl (hn 5 (by decide))))) rfl ?_ (hK 239 _ _ (by decide) ⟨hI, hT.set 17 rfl (by kernel_rfl) (by kernel_rfl)⟩)
                                clear hK hK0 hT E
                                revert e1 e2
                                generalize a.eval = ρ
                                intro e1 e2
                                go_simp
                              | 18, _ =>
                                have e1 := (E 227 (by decide)).trans (hT.val 5 rfl (hn 5 (by decide)))
                                have e2 := (E 239 (by decide)).trans (hT.val 17 rfl (hn 17 (by decide)))
                                have c1 : a.eval (.const (Value.bool true)) = Value.bool true := rfl
                                refine op_valueG (w' := wx) (v := .bool false) rfl (want_on (d := 224) (b := true) rfl rfl ((E 224 (by decide)).trans (hT.val 2 rfl (hn 2 (by decide))))) rfl ?_ (hK 240 _ _ (by decide) ⟨hI, hT.set 18 rfl (by kernel_rfl) (by kernel_rfl)⟩)
                                clear hK hK0 hT E
                                revert e1 e2 c1
                                generalize a.eval = ρ
                                intro e1 e2 c1
                                go_simp
                              | 19, _ =>
                                have e1 := (E 224 (by decide)).trans (hT.val 2 rfl (hn 2 (by decide)))
                                have e2 := (E 240 (by decide)).trans (hT.val 18 rfl (hn 18 (by decide)))
                                have c1 : a.eval (.const (Value.bool false)) = Value.bool false := rfl
                                refine op_valueG (w' := wx) (v := .bool false) rfl rfl rfl ?_ (hK 241 _ _ (by decide) ⟨hI, hT.set 19 rfl (by kernel_rfl) (by kernel_rfl)⟩)
                                clear hK hK0 hT E
                                revert e1 e2 c1
                                generalize a.eval = ρ
                                intro e1 e2 c1
                                go_simp
                              | k + 20, h => exact absurd (show k + 20 < 20 from h) (by omega)
                            · intro L vals wx hJ hall
                              obtain ⟨hI, hT⟩ := hJ
                              have HX := Lib.hid hI
                              have v7 : vals 7 = .pointer (some ⟨b, 0, none⟩) := hT.rd 0 rfl
                              have v5 : vals 5 = .pointer (some ⟨b0, 0, none⟩) := hT.rd 1 rfl
                              have v12 : vals 12 = .int .i64 0 := hT.rd 2 rfl
                              have v23 : vals 23 = .int .i64 0 := hT.rd 3 rfl
                              have v21 : vals 21 = vg := hT.rd 4 rfl
                              have v22 : vals 22 = .bool false := hT.rd 5 rfl
                              have v241 : vals 241 = .bool false := hT.val 19 rfl (hall 19 (by decide))
                              simp only [overA, Act.put, List.setIfInBounds_toArray, List.set_cons_zero, List.set_cons_succ]
                              rw [v7, v5, v12, v23, v21, v22, v241]
                              clear hI hT hall v7 v5 v12 v23 v21 v22 v241
                              go_wp2
                              go_meet
                              exact ⟨rfl, HX⟩
                    · skip
                      have HT1 := Lib.hid (show (ge == 0) = false by simp [hge])
                      clear hge HG2 HIV HIV0
                      as_aux_lemma =>
                        refine wp_region_tab (by kernel_rfl) [7, 5, 12, 23, 21, 22, 222, 223, 224, 225, 226, 227, 228, 229, 230, 231, 232, 233, 234, 235, 236, 237, 238, 239, 240, 241] [[], [0], [1], [2], [2, 3], [2, 4], [5], [5], [5, 7], [5, 6, 8], [5], [5], [5, 11], [5, 9, 10, 12], [5, 13], [14], [5, 14, 15], [5, 9, 16], [2, 5, 17], [2, 18]]
                          (fun L vals wx => Below w18.heap.size w18 wx ∧ TabR (tbPe b b0 vg ge he hy) (bsPe b b0 vg ge he hy) L vals) (by kernel_rfl) rfl ?_ ?_ ?_
                        · exact ⟨Below.drew (Below.refl _ _), TabR.start (by simp [bsPe])⟩
                        · intro i hi a L vals wx E hJ hLi hn K hK hK0
                          obtain ⟨hI, hT⟩ := hJ
                          match i, hi with
                          | 0, _ => exact op_moveG rfl rfl rfl rfl ((E 12 (by decide)).trans (hT.rd 2 rfl)) (hK 222 _ _ (by decide) ⟨hI, hT.set 0 rfl (by kernel_rfl) (by kernel_rfl)⟩)
                          | 1, _ =>
                            have e1 := (E 222 (by decide)).trans (hT.val 0 rfl (hn 0 (by decide)))
                            have c1 : a.eval (.const (Value.int IntKind.i64 0)) = Value.int IntKind.i64 0 := rfl
                            have t1 := HT1.out
                            refine op_valueG (w' := wx) (v := .bool false) rfl rfl rfl ?_ (hK 223 _ _ (by decide) ⟨hI, hT.set 1 rfl (by kernel_rfl) (by kernel_rfl)⟩)
                            clear hK hK0 hT E
                            revert e1 c1
                            generalize a.eval = ρ
                            intro e1 c1
                            go_simp
                          | 2, _ => exact op_moveG rfl rfl rfl rfl ((E 223 (by decide)).trans (hT.val 1 rfl (hn 1 (by decide)))) (hK 224 _ _ (by decide) ⟨hI, hT.set 2 rfl (by kernel_rfl) (by kernel_rfl)⟩)
                          | 3, _ => exact op_skip rfl (want_off (d := 224) (b := true) rfl rfl ((E 224 (by decide)).trans (hT.val 2 rfl (hn 2 (by decide))))) rfl (hK 225 _ _ (by decide) ⟨hI, hT.set 3 rfl (by kernel_rfl) (by kernel_rfl)⟩)
                          | 4, _ => exact op_skip rfl (want_off (d := 224) (b := true) rfl rfl ((E 224 (by decide)).trans (hT.val 2 rfl (hn 2 (by decide))))) rfl (hK 226 _ _ (by decide) ⟨hI, hT.set 4 rfl (by kernel_rfl) (by kernel_rfl)⟩)
                          | 5, _ => exact op_skip rfl (want_off (d := 224) (b := true) rfl rfl ((E 224 (by decide)).trans (hT.val 2 rfl (hn 2 (by decide))))) rfl (hK 227 _ _ (by decide) ⟨hI, hT.set 5 rfl (by kernel_rfl) (by kernel_rfl)⟩)
                          | 6, _ => exact op_skip rfl (want_undef (d := 227) (b := false) rfl rfl ((E 227 (by decide)).trans (hT.val 5 rfl (hn 5 (by decide))))) rfl (hK 228 _ _ (by decide) ⟨hI, hT.set 6 rfl (by kernel_rfl) (by kernel_rfl)⟩)
                          | 7, _ => exact op_skip rfl (want_undef (d := 227) (b := false) rfl rfl ((E 227 (by decide)).trans (hT.val 5 rfl (hn 5 (by decide))))) rfl (hK 229 _ _ (by decide) ⟨hI, hT.set 7 rfl (by kernel_rfl) (by kernel_rfl)⟩)
                          | 8, _ => exact op_skip rfl (want_undef (d := 227) (b := false) rfl rfl ((E 227 (by decide)).trans (hT.val 5 rfl (hn 5 (by decide))))) rfl (hK 230 _ _ (by decide) ⟨hI, hT.set 8 rfl (by kernel_rfl) (by kernel_rfl)⟩)
                          | 9, _ => exact op_skip rfl (want_undef (d := 227) (b := false) rfl rfl ((E 227 (by decide)).trans (hT.val 5 rfl (hn 5 (by decide))))) rfl (hK 231 _ _ (by decide) ⟨hI, hT.set 9 rfl (by kernel_rfl) (by kernel_rfl)⟩)
                          | 10, _ => exact op_skip rfl (want_undef (d := 227) (b := false) rfl rfl ((E 227 (by decide)).trans (hT.val 5 rfl (hn 5 (by decide))))) rfl (hK 232 _ _ (by decide) ⟨hI, hT.set 10 rfl (by kernel_rfl) (by kernel_rfl)⟩)
                          | 11, _ => exact op_skip rfl (want_undef (d := 227) (b := false) rfl rfl ((E 227 (by decide)).trans (hT.val 5 rfl (hn 5 (by decide))))) rfl (hK 233 _ _ (by decide) ⟨hI, hT.set 11 rfl (by kernel_rfl) (by kernel_rfl)⟩)
                          | 12, _ => exact op_skip rfl (want_undef (d := 227) (b := false) rfl rfl ((E 227 (by decide)).trans (hT.val 5 rfl (hn 5 (by decide))))) rfl (hK 234 _ _ (by decide) ⟨hI, hT.set 12 rfl (by kernel_rfl) (by kernel_rfl)⟩)
                          | 13, _ => exact op_skip rfl (want_undef (d := 227) (b := false) rfl rfl ((E 227 (by decide)).trans (hT.val 5 rfl (hn 5 (by decide))))) rfl (hK 235 _ _ (by decide) ⟨hI, hT.set 13 rfl (by kernel_rfl) (by kernel_rfl)⟩)
                          | 14, _ => exact op_skip rfl (want_undef (d := 227) (b := false) rfl rfl ((E 227 (by decide)).trans (hT.val 5 rfl (hn 5 (by decide))))) rfl (hK 236 _ _ (by decide) ⟨hI, hT.set 14 rfl (by kernel_rfl) (by kernel_rfl)⟩)
                          | 15, _ => exact op_skip rfl (want_undef (d := 236) (b := true) rfl rfl ((E 236 (by decide)).trans (hT.val 14 rfl (hn 14 (by decide))))) rfl (hK 237 _ _ (by decide) ⟨hI, hT.set 15 rfl (by kernel_rfl) (by kernel_rfl)⟩)
                          | 16, _ => exact op_skip rfl (want_undef (d := 227) (b := false) rfl rfl ((E 227 (by decide)).trans (hT.val 5 rfl (hn 5 (by decide))))) rfl (hK 238 _ _ (by decide) ⟨hI, hT.set 16 rfl (by kernel_rfl) (by kernel_rfl)⟩)
                          | 17, _ => exact op_skip rfl (want_undef (d := 227) (b := false) rfl rfl ((E 227 (by decide)).trans (hT.val 5 rfl (hn 5 (by decide))))) rfl (hK 239 _ _ (by decide) ⟨hI, hT.set 17 rfl (by kernel_rfl) (by kernel_rfl)⟩)
                          | 18, _ => exact op_skip rfl (want_off (d := 224) (b := true) rfl rfl ((E 224 (by decide)).trans (hT.val 2 rfl (hn 2 (by decide))))) rfl (hK 240 _ _ (by decide) ⟨hI, hT.set 18 rfl (by kernel_rfl) (by kernel_rfl)⟩)
                          | 19, _ =>
                            have e1 := (E 224 (by decide)).trans (hT.val 2 rfl (hn 2 (by decide)))
                            have e2 := (E 240 (by decide)).trans (hT.val 18 rfl (hn 18 (by decide)))
                            have c1 : a.eval (.const (Value.bool false)) = Value.bool false := rfl
                            refine op_valueG (w' := wx) (v := .bool false) rfl rfl rfl ?_ (hK 241 _ _ (by decide) ⟨hI, hT.set 19 rfl (by kernel_rfl) (by kernel_rfl)⟩)
                            clear hK hK0 hT E
                            revert e1 e2 c1
                            generalize a.eval = ρ
                            intro e1 e2 c1
                            go_simp
                          | k + 20, h => exact absurd (show k + 20 < 20 from h) (by omega)
                        · intro L vals wx hJ hall
                          obtain ⟨hI, hT⟩ := hJ
                          have HX := Lib.hid hI
                          have v7 : vals 7 = .pointer (some ⟨b, 0, none⟩) := hT.rd 0 rfl
                          have v5 : vals 5 = .pointer (some ⟨b0, 0, none⟩) := hT.rd 1 rfl
                          have v12 : vals 12 = .int .i64 ge := hT.rd 2 rfl
                          have v23 : vals 23 = .int .i64 he := hT.rd 3 rfl
                          have v21 : vals 21 = vg := hT.rd 4 rfl
                          have v22 : vals 22 = .bool hy := hT.rd 5 rfl
                          have v241 : vals 241 = .bool false := hT.val 19 rfl (hall 19 (by decide))
                          simp only [overA, Act.put, List.setIfInBounds_toArray, List.set_cons_zero, List.set_cons_succ]
                          rw [v7, v5, v12, v23, v21, v22, v241]
                          clear hI hT hall v7 v5 v12 v23 v21 v22 v241
                          go_wp2
                          go_meet
                          exact ⟨rfl, HX⟩
                case rest =>
                  obtain ⟨rfl, hw⟩ := hcut
                  replace HG := Lib.hid (HG.out.step hw.out)
                  clear hw
                  clear HG2
                  obtain ⟨bu, rfl, hx1, hx2, hx3⟩ := (HG.out.at 7 rfl : ZoneV 109 wc va (some (k, a)))
                  clear hx1 hx2 hx3
                  go_wp2_with fail
                  have HGA := Lib.hid (HG.out.alloc (.cells #[.pointer (some ⟨bu, 0, none⟩)] 30 (0, 0)))
                  have hz1 : ZoneV 109 (wc.alloc (.cells #[.pointer (some ⟨bu, 0, none⟩)] 30 (0, 0))) (.pointer (some ⟨b, 0, none⟩)) (some (k, m)) := HGA.out.at 8 rfl
                  have hz2 : ZoneV 109 (wc.alloc (.cells #[.pointer (some ⟨bu, 0, none⟩)] 30 (0, 0))) (.pointer (some ⟨bu, 0, none⟩)) (some (k, a)) := HGA.out.at 7 rfl
                  have hzs := zsv_of (ptrs_new wc 30 [.pointer (some ⟨bu, 0, none⟩)]) hz2
                  have HAX := HAC.out (some ⟨wc.heap.size, 0, none⟩) 1 [.pointer (some ⟨bu, 0, none⟩)] _ hz1 hzs (by simp)
                  clear hz1 hz2 hzs
                  refine HAX.mono ?_
                  rintro e w19 ⟨hb, vc, rfl, ha⟩
                  have HG9 := Lib.hid ((HGA.out.step hb).add (show ZoneV 109 w19 vc (some (k, ab)) from ha) (stable_zone _ _ _))
                  clear hb ha HGA HG HAC HAX
                  have HG := HG9
                  clear HG9
                  go_upto_region 26 with fail
                  have HI1 := Lib.hid (fun W (hb : Below w19.heap.size w19 W) => HIV.out vc (some (k, ab)) W ((HG.out.step hb).at 0 rfl) ((HG.out.step hb).at 12 rfl))
                  have HI2 := Lib.hid (fun W (hb : Below w19.heap.size w19 W) => HIV0.out W ((HG.out.step hb).at 9 rfl) ((HG.out.step hb).at 12 rfl))
                  rw [show inZ (some (k, ab)) l = iz from HAB.out] at HI1
                  clear HIV HIV0 HAB
                  cases iz with
                  | true =>
                    refine wp_region_tab (by kernel_rfl) [7, 5, 12, 24, 249, 250, 251, 252, 253, 254, 255, 256, 257, 258, 259, 260, 261, 6] [[], [0], [1], [2], [2], [2, 4], [2, 3, 5], [2], [2], [2, 8], [2, 6, 7, 9], [2, 6, 10], [2, 11], [0, 1, 2, 3, 4, 5, 6, 7, 8, 9, 10, 11, 12]]
                      (fun L vals wx => Below w19.heap.size w19 wx ∧ TabR (tbPfT b b0 vc A l c) (bsPfT b b0 vc A l c) L vals) (by kernel_rfl) rfl ?_ ?_ ?_
                    · exact ⟨Below.drew (Below.refl _ _), TabR.start (by simp [bsPfT])⟩
                    · intro i hi a L vals wx E hJ hLi hn K hK hK0
                      obtain ⟨hI, hT⟩ := hJ
                      match i, hi with
                      | 0, _ => exact op_moveG rfl rfl rfl rfl ((E 12 (by decide)).trans (hT.rd 2 rfl)) (hK 249 _ _ (by decide) ⟨hI, hT.set 0 rfl (by kernel_rfl) (by kernel_rfl)⟩)
                      | 1, _ =>
                        have e1 := (E 249 (by decide)).trans (hT.val 0 rfl (hn 0 (by decide)))
                        have c1 : a.eval (.const (Value.int IntKind.i64 0)) = Value.int IntKind.i64 0 := rfl
                        refine op_valueG (w' := wx) (v := .bool true) rfl rfl rfl ?_ (hK 250 _ _ (by decide) ⟨hI, hT.set 1 rfl (by kernel_rfl) (by kernel_rfl)⟩)
                        clear hK hK0 hT E
                        revert e1 c1
                        generalize a.eval = ρ
                        intro e1 c1
                        go_simp
                      | 2, _ => exact op_moveG rfl rfl rfl rfl ((E 250 (by decide)).trans (hT.val 1 rfl (hn 1 (by decide)))) (hK 251 _ _ (by decide) ⟨hI, hT.set 2 rfl (by kernel_rfl) (by kernel_rfl)⟩)
                      | 3, _ => exact op_moveG rfl (want_on (d := 251) (b := true) rfl rfl ((E 251 (by decide)).trans (hT.val 2 rfl (hn 2 (by decide))))) rfl rfl ((E 24 (by decide)).trans (hT.rd 3 rfl)) (hK 252 _ _ (by decide) ⟨hI, hT.set 3 rfl (by kernel_rfl) (by kernel_rfl)⟩)
                      | 4, _ =>
                        have e1 := (E 5 (by decide)).trans (hT.rd 1 rfl)
                        refine op_valueG (w' := wx) (v := .pointer (some ⟨b0, 0, none⟩)) rfl (want_on (d := 251) (b := true) rfl rfl ((E 251 (by decide)).trans (hT.val 2 rfl (hn 2 (by decide))))) rfl ?_ (hK 253 _ _ (by decide) ⟨hI, hT.set 4 rfl (by kernel_rfl) (by kernel_rfl)⟩)
                        clear hK hK0 hT E
                        revert e1
                        generalize a.eval = ρ
                        intro e1
                        go_simp
                      | 5, _ =>
                        have e1 := (E 253 (by decide)).trans (hT.val 4 rfl (hn 4 (by decide)))
                        have m0 := ((HG.out.step hI).at 10 rfl : HasCs _ _ _) 0 (.slice A l.length c) rfl
                        refine op_valueG (w' := wx) (v := .slice A l.length c) rfl (want_on (d := 251) (b := true) rfl rfl ((E 251 (by decide)).trans (hT.val 2 rfl (hn 2 (by decide))))) rfl ?_ (hK 254 _ _ (by decide) ⟨hI, hT.set 5 rfl (by kernel_rfl) (by kernel_rfl)⟩)
                        clear hK hK0 hT E
                        revert e1
                        generalize a.eval = ρ
                        intro e1
                        go_simp
                      | 6, _ =>
                        have e1 := (E 252 (by decide)).trans (hT.val 3 rfl (hn 3 (by decide)))
                        have e2 := (E 254 (by decide)).trans (hT.val 5 rfl (hn 5 (by decide)))
                        exact op_goG rfl (want_on (d := 251) (b := true) rfl rfl ((E 251 (by decide)).trans (hT.val 2 rfl (hn 2 (by decide))))) rfl rfl Try.func10 (by kernel_rfl) rfl (by simp only [List.map_toArray, List.map_cons, List.map_nil, e1, e2]) (HI1.out _ hI) (fun w' hb => hK 255 _ _ (by decide) ⟨hI.trans (hb.mono hI.size), hT.set 6 rfl (by kernel_rfl) (by kernel_rfl)⟩)
                      | 7, _ => exact op_moveG rfl (want_on (d := 251) (b := true) rfl rfl ((E 251 (by decide)).trans (hT.val 2 rfl (hn 2 (by decide))))) rfl rfl ((E 7 (by decide)).trans (hT.rd 0 rfl)) (hK 256 _ _ (by decide) ⟨hI, hT.set 7 rfl (by kernel_rfl) (by kernel_rfl)⟩)
                      | 8, _ =>
                        have e1 := (E 5 (by decide)).trans (hT.rd 1 rfl)
                        refine op_valueG (w' := wx) (v := .pointer (some ⟨b0, 0, none⟩)) rfl (want_on (d := 251) (b := true) rfl rfl ((E 251 (by decide)).trans (hT.val 2 rfl (hn 2 (by decide))))) rfl ?_ (hK 257 _ _ (by decide) ⟨hI, hT.set 8 rfl (by kernel_rfl) (by kernel_rfl)⟩)
                        clear hK hK0 hT E
                        revert e1
                        generalize a.eval = ρ
                        intro e1
                        go_simp
                      | 9, _ =>
                        have e1 := (E 257 (by decide)).trans (hT.val 8 rfl (hn 8 (by decide)))
                        have m0 := ((HG.out.step hI).at 10 rfl : HasCs _ _ _) 0 (.slice A l.length c) rfl
                        refine op_valueG (w' := wx) (v := .slice A l.length c) rfl (want_on (d := 251) (b := true) rfl rfl ((E 251 (by decide)).trans (hT.val 2 rfl (hn 2 (by decide))))) rfl ?_ (hK 258 _ _ (by decide) ⟨hI, hT.set 9 rfl (by kernel_rfl) (by kernel_rfl)⟩)
                        clear hK hK0 hT E
                        revert e1
                        generalize a.eval = ρ
                        intro e1
                        go_simp
                      | 10, _ =>
                        have e1 := (E 256 (by decide)).trans (hT.val 7 rfl (hn 7 (by decide)))
                        have e2 := (E 258 (by decide)).trans (hT.val 9 rfl (hn 9 (by decide)))
                        exact op_goG rfl (want_on (d := 251) (b := true) rfl rfl ((E 251 (by decide)).trans (hT.val 2 rfl (hn 2 (by decide))))) rfl rfl Try.func10 (by kernel_rfl) rfl (by simp only [List.map_toArray, List.map_cons, List.map_nil, e1, e2]) (HI2.out _ hI) (fun w' hb => hK 259 _ _ (by decide) ⟨hI.trans (hb.mono hI.size), hT.set 10 rfl (by kernel_rfl) (by kernel_rfl)⟩)
                      | 11, _ =>
                        have e1 := (E 255 (by decide)).trans (hT.val 6 rfl (hn 6 (by decide)))
                        have e2 := (E 259 (by decide)).trans (hT.val 10 rfl (hn 10 (by decide)))
                        refine op_valueG (w' := wx) (v := .bool true) rfl (want_on (d := 251) (b := true) rfl rfl ((E 251 (by decide)).trans (hT.val 2 rfl (hn 2 (by decide))))) rfl ?_ (hK 260 _ _ (by decide) ⟨hI, hT.set 11 rfl (by kernel_rfl) (by kernel_rfl)⟩)
                        clear hK hK0 hT E
                        revert e1 e2
                        generalize a.eval = ρ
                        intro e1 e2
                        go_simp
                      | 12, _ =>
                        have e1 := (E 251 (by decide)).trans (hT.val 2 rfl (hn 2 (by decide)))
                        have e2 := (E 260 (by decide)).trans (hT.val 11 rfl (hn 11 (by decide)))
                        have c1 : a.eval (.const (Value.bool false)) = Value.bool false := rfl
                        refine op_valueG (w' := wx) (v := .bool true) rfl rfl rfl ?_ (hK 261 _ _ (by decide) ⟨hI, hT.set 12 rfl (by kernel_rfl) (by kernel_rfl)⟩)
                        clear hK hK0 hT E
                        revert e1 e2 c1
                        generalize a.eval = ρ
                        intro e1 e2 c1
                        go_simp
                      | 13, _ => exact op_assignG rfl rfl rfl rfl ((E 261 (by decide)).trans (hT.val 12 rfl (hn 12 (by decide)))) (hK 6 _ _ (by decide) ⟨hI, hT.set 13 rfl (by kernel_rfl) (by kernel_rfl)⟩)
                      | k + 14, h => exact absurd (show k + 14 < 14 from h) (by omega)
                    · intro L vals wx hJ hall
                      obtain ⟨hI, hT⟩ := hJ
                      have HX := Lib.hid hI
                      have v7 : vals 7 = .pointer (some ⟨b, 0, none⟩) := hT.rd 0 rfl
                      have v5 : vals 5 = .pointer (some ⟨b0, 0, none⟩) := hT.rd 1 rfl
                      have v12 : vals 12 = .int .i64 0 := hT.rd 2 rfl
                      have v24 : vals 24 = vc := hT.rd 3 rfl
                      have v6 : vals 6 = .bool true := hT.val 13 rfl (hall 13 (by decide))
                      simp only [overA, Act.put, List.setIfInBounds_toArray, List.set_cons_zero, List.set_cons_succ]
                      rw [v7, v5, v12, v24, v6]
                      clear hI hT hall v7 v5 v12 v24 v6
                      replace HG := Lib.hid (HG.out.step HX.out)
                      go_wp2
                      go_ret
                      exact ⟨rfl, HG.out.below⟩
                  | false =>
                    refine wp_region_tab (by kernel_rfl) [7, 5, 12, 24, 249, 250, 251, 252, 253, 254, 255, 256, 257, 258, 259, 260, 261, 6] [[], [0], [1], [2], [2], [2, 4], [2, 3, 5], [2], [2], [2, 8], [2, 6, 7, 9], [2, 6, 10], [2, 11], [0, 1, 2, 3, 4, 5, 6, 7, 8, 9, 10, 11, 12]]
                      (fun L vals wx => Below w19.heap.size w19 wx ∧ TabR (tbPfF b b0 vc A l c) (bsPfF b b0 vc A l c) L vals) (by kernel_rfl) rfl ?_ ?_ ?_
                    · exact ⟨Below.drew (Below.refl _ _), TabR.start (by simp [bsPfF])⟩
                    · intro i hi a L vals wx E hJ hLi hn K hK hK0
                      obtain ⟨hI, hT⟩ := hJ
                      match i, hi with
                      | 0, _ => exact op_moveG rfl rfl rfl rfl ((E 12 (by decide)).trans (hT.rd 2 rfl)) (hK 249 _ _ (by decide) ⟨hI, hT.set 0 rfl (by kernel_rfl) (by kernel_rfl)⟩)
                      | 1, _ =>
                        have e1 := (E 249 (by decide)).trans (hT.val 0 rfl (hn 0 (by decide)))
                        have c1 : a.eval (.const (Value.int IntKind.i64 0)) = Value.int IntKind.i64 0 := rfl
                        refine op_valueG (w' := wx) (v := .bool true) rfl rfl rfl ?_ (hK 250 _ _ (by decide) ⟨hI, hT.set 1 rfl (by kernel_rfl) (by kernel_rfl)⟩)
                        clear hK hK0 hT E
                        revert e1 c1
                        generalize a.eval = ρ
                        intro e1 c1
                        go_simp
                      | 2, _ => exact op_moveG rfl rfl rfl rfl ((E 250 (by decide)).trans (hT.val 1 rfl (hn 1 (by decide)))) (hK 251 _ _ (by decide) ⟨hI, hT.set 2 rfl (by kernel_rfl) (by kernel_rfl)⟩)
                      | 3, _ => exact op_moveG rfl (want_on (d := 251) (b := true) rfl rfl ((E 251 (by decide)).trans (hT.val 2 rfl (hn 2 (by decide))))) rfl rfl ((E 24 (by decide)).trans (hT.rd 3 rfl)) (hK 252 _ _ (by decide) ⟨hI, hT.set 3 rfl (by kernel_rfl) (by kernel_rfl)⟩)
                      | 4, _ =>
                        have e1 := (E 5 (by decide)).trans (hT.rd 1 rfl)
                        refine op_valueG (w' := wx) (v := .pointer (some ⟨b0, 0, none⟩)) rfl (want_on (d := 251) (b := true) rfl rfl ((E 251 (by decide)).trans (hT.val 2 rfl (hn 2 (by decide))))) rfl ?_ (hK 253 _ _ (by decide) ⟨hI, hT.set 4 rfl (by kernel_rfl) (by kernel_rfl)⟩)
                        clear hK hK0 hT E
                        revert e1
                        generalize a.eval = ρ
                        intro e1
                        go_simp
                      | 5, _ =>
                        have e1 := (E 253 (by decide)).trans (hT.val 4 rfl (hn 4 (by decide)))
                        have m0 := ((HG.out.step hI).at 10 rfl : HasCs _ _ _) 0 (.slice A l.length c) rfl
                        refine op_valueG (w' := wx) (v := .slice A l.length c) rfl (want_on (d := 251) (b := true) rfl rfl ((E 251 (by decide)).trans (hT.val 2 rfl (hn 2 (by decide))))) rfl ?_ (hK 254 _ _ (by decide) ⟨hI, hT.set 5 rfl (by kernel_rfl) (by kernel_rfl)⟩)
                        clear hK hK0 hT E
                        revert e1
                        generalize a.eval = ρ
                        intro e1
                        go_simp
                      | 6, _ =>
                        have e1 := (E 252 (by decide)).trans (hT.val 3 rfl (hn 3 (by decide)))
                        have e2 := (E 254 (by decide)).trans (hT.val 5 rfl (hn 5 (by decide)))
                        exact op_goG rfl (want_on (d := 251) (b := true) rfl rfl ((E 251 (by decide)).trans (hT.val 2 rfl (hn 2 (by decide))))) rfl rfl Try.func10 (by kernel_rfl) rfl (by simp only [List.map_toArray, List.map_cons, List.map_nil, e1, e2]) (HI1.out _ hI) (fun w' hb => hK 255 _ _ (by decide) ⟨hI.trans (hb.mono hI.size), hT.set 6 rfl (by kernel_rfl) (by kernel_rfl)⟩)
                      | 7, _ => exact op_moveG rfl (want_on (d := 251) (b := true) rfl rfl ((E 251 (by decide)).trans (hT.val 2 rfl (hn 2 (by decide))))) rfl rfl ((E 7 (by decide)).trans (hT.rd 0 rfl)) (hK 256 _ _ (by decide) ⟨hI, hT.set 7 rfl (by kernel_rfl) (by kernel_rfl)⟩)
                      | 8, _ =>
                        have e1 := (E 5 (by decide)).trans (hT.rd 1 rfl)
                        refine op_valueG (w' := wx) (v := .pointer (some ⟨b0, 0, none⟩)) rfl (want_on (d := 251) (b := true) rfl rfl ((E 251 (by decide)).trans (hT.val 2 rfl (hn 2 (by decide))))) rfl ?_ (hK 257 _ _ (by decide) ⟨hI, hT.set 8 rfl (by kernel_rfl) (by kernel_rfl)⟩)
                        clear hK hK0 hT E
                        revert e1
                        generalize a.eval = ρ
                        intro e1
                        go_simp
                      | 9, _ =>
                        have e1 := (E 257 (by decide)).trans (hT.val 8 rfl (hn 8 (by decide)))
                        have m0 := ((HG.out.step hI).at 10 rfl : HasCs _ _ _) 0 (.slice A l.length c) rfl
                        refine op_valueG (w' := wx) (v := .slice A l.length c) rfl (want_on (d := 251) (b := true) rfl rfl ((E 251 (by decide)).trans (hT.val 2 rfl (hn 2 (by decide))))) rfl ?_ (hK 258 _ _ (by decide) ⟨hI, hT.set 9 rfl (by kernel_rfl) (by kernel_rfl)⟩)
                        clear hK hK0 hT E
                        revert e1
                        generalize a.eval = ρ
                        intro e1
                        go_simp
                      | 10, _ =>
                        have e1 := (E 256 (by decide)).trans (hT.val 7 rfl (hn 7 (by decide)))
                        have e2 := (E 258 (by decide)).trans (hT.val 9 rfl (hn 9 (by decide)))
                        exact op_goG rfl (want_on (d := 251) (b := true) rfl rfl ((E 251 (by decide)).trans (hT.val 2 rfl (hn 2 (by decide))))) rfl rfl Try.func10 (by kernel_rfl) rfl (by simp only [List.map_toArray, List.map_cons, List.map_nil, e1, e2]) (HI2.out _ hI) (fun w' hb => hK 259 _ _ (by decide) ⟨hI.trans (hb.mono hI.size), hT.set 10 rfl (by kernel_rfl) (by kernel_rfl)⟩)
                      | 11, _ =>
                        have e1 := (E 255 (by decide)).trans (hT.val 6 rfl (hn 6 (by decide)))
                        have e2 := (E 259 (by decide)).trans (hT.val 10 rfl (hn 10 (by decide)))
                        refine op_valueG (w' := wx) (v := .bool true) rfl (want_on (d := 251) (b := true) rfl rfl ((E 251 (by decide)).trans (hT.val 2 rfl (hn 2 (by decide))))) rfl ?_ (hK 260 _ _ (by decide) ⟨hI, hT.set 11 rfl (by kernel_rfl) (by kernel_rfl)⟩)
                        clear hK hK0 hT E
                        revert e1 e2
                        generalize a.eval = ρ
                        intro e1 e2
                        go_simp
                      | 12, _ =>
                        have e1 := (E 251 (by decide)).trans (hT.val 2 rfl (hn 2 (by decide)))
                        have e2 := (E 260 (by decide)).trans (hT.val 11 rfl (hn 11 (by decide)))
                        have c1 : a.eval (.const (Value.bool false)) = Value.bool false := rfl
                        refine op_valueG (w' := wx) (v := .bool true) rfl rfl rfl ?_ (hK 261 _ _ (by decide) ⟨hI, hT.set 12 rfl (by kernel_rfl) (by kernel_rfl)⟩)
                        clear hK hK0 hT E
                        revert e1 e2 c1
                        generalize a.eval = ρ
                        intro e1 e2 c1
                        go_simp
                      | 13, _ => exact op_assignG rfl rfl rfl rfl ((E 261 (by decide)).trans (hT.val 12 rfl (hn 12 (by decide)))) (hK 6 _ _ (by decide) ⟨hI, hT.set 13 rfl (by kernel_rfl) (by kernel_rfl)⟩)
                      | k + 14, h => exact absurd (show k + 14 < 14 from h) (by omega)
                    · intro L vals wx hJ hall
                      obtain ⟨hI, hT⟩ := hJ
                      have HX := Lib.hid hI
                      have v7 : vals 7 = .pointer (some ⟨b, 0, none⟩) := hT.rd 0 rfl
                      have v5 : vals 5 = .pointer (some ⟨b0, 0, none⟩) := hT.rd 1 rfl
                      have v12 : vals 12 = .int .i64 0 := hT.rd 2 rfl
                      have v24 : vals 24 = vc := hT.rd 3 rfl
                      have v6 : vals 6 = .bool true := hT.val 13 rfl (hall 13 (by decide))
                      simp only [overA, Act.put, List.setIfInBounds_toArray, List.set_cons_zero, List.set_cons_succ]
                      rw [v7, v5, v12, v24, v6]
                      clear hI hT hall v7 v5 v12 v24 v6
                      replace HG := Lib.hid (HG.out.step HX.out)
                      go_wp2
                      go_ret
                      exact ⟨rfl, HG.out.below⟩

end Go.Proofs.Ytmelblnflalanaa
