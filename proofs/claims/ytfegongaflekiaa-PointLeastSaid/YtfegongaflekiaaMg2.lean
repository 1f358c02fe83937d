/- Texts of ours, laid together: Mem, Vg, Vh, Vi, Hm, Vj, Bag. -/
import Derived.WalkKit
import Derived.WalkSpells
import Derived.WalkLawsBesides
import Derived.Test.YtfegongaflekiaaShelf
import Derived.Shelf.Spec.BitsCarry
import Derived.Lib.Hide
import Derived.Deep.LoopGhost
import Derived.Deep.QuietTactic
import Derived.BigQuiet
import Derived.BigRegion
import Derived.StillTailTactics
import Derived.KernelRfl
import Derived.Deep.DeepCutAuto
import Derived.Deep.CutBlock
import Derived.Test.YtfegongaflekiaaProg
import Derived.Shelf.Bits.Mul64
import Derived.Deep.RegionHeld3
import Derived.Deep.Draws
import Derived.Test.YtfegongaflekiaaMg1
/- Words for matrices that lie in memory: a block that holds a number and 81 cells. -/
namespace Go.Proofs.Ytfegongaflekiaa
open Go.RowKit

/-- The cells of a block: the number of clocks, then nine rows of nine. -/
def matCells (k : IntKind) (n : Nat) (m : Mat) : Array Value :=
  (Value.int .i64 n :: (List.range 81).map fun p => Value.int k (m (p / 9) (p % 9))).toArray

/-- Block b holds a matrix. -/
def MatAt (w : World) (b : Nat) (T : TypeId) (k : IntKind) (n : Nat) (m : Mat) : Prop :=
  w.heap[b]? = some (.cells (matCells k n m) T (0, 0))

theorem matCells_size (k : IntKind) (n : Nat) (m : Mat) : (matCells k n m).size = 82 := by simp [matCells]

theorem matCells_head (k : IntKind) (n : Nat) (m : Mat) : (matCells k n m)[0]? = some (.int .i64 n) := by simp [matCells]

theorem matCells_get (k : IntKind) (n : Nat) (m : Mat) (p : Nat) (hp : p < 81) : (matCells k n m)[p + 1]? = some (.int k (m (p / 9) (p % 9))) := by
  simp [matCells, hp]

theorem matCells_set (k : IntKind) (n : Nat) (m : Mat) (i j : Nat) (hi : i < 9) (hj : j < 9) (v : Int) :
    (matCells k n m).setIfInBounds (1 + i * 9 + j) (.int k v) = matCells k n (upd m i j v) := by
  apply Array.ext_getElem?
  intro q
  rw [Array.getElem?_setIfInBounds]
  match q with
  | 0 => rw [if_neg (by omega), matCells_head, matCells_head]
  | p + 1 =>
    by_cases hp : p < 81
    · rw [matCells_get _ _ _ _ hp, matCells_get _ _ _ _ hp]
      by_cases e : 1 + i * 9 + j = p + 1
      · rw [if_pos e, if_pos (by rw [matCells_size]; omega)]
        have h1 : p / 9 = i := by omega
        have h2 : p % 9 = j := by omega
        simp [upd, h1, h2]
      · rw [if_neg e]
        have : ¬ (p / 9 = i ∧ p % 9 = j) := by omega
        simp [upd, this]
    · rw [if_neg (by omega), Array.getElem?_eq_none (by rw [matCells_size]; omega), Array.getElem?_eq_none (by rw [matCells_size]; omega)]

section
variable {w : World} {b : Nat} {T : TypeId} {k : IntKind} {n : Nat} {m : Mat}
theorem MatAt.lt (h : MatAt w b T k n m) : b < w.heap.size := (Array.getElem?_eq_some_iff.1 h).1
theorem MatAt.head (h : MatAt w b T k n m) : w.cell? ⟨b, 0, none⟩ = some (.int .i64 n) := by
  unfold MatAt at h
  simp [World.cell?, h, matCells_head]
theorem MatAt.cell (h : MatAt w b T k n m) (i j : Nat) (hi : i < 9) (hj : j < 9) : w.cell? ⟨b, 1 + i * 9 + j, none⟩ = some (.int k (m i j)) := by
  unfold MatAt at h
  have e : 1 + i * 9 + j = (i * 9 + j) + 1 := by omega
  have h1 : (i * 9 + j) / 9 = i := by omega
  have h2 : (i * 9 + j) % 9 = j := by omega
  simp [World.cell?, h, e, matCells_get _ _ _ _ (show i * 9 + j < 81 by omega), h1, h2]
theorem MatAt.frozen (h : MatAt w b T k n m) (o : Nat) : w.frozen? ⟨b, o, none⟩ = false := by
  unfold MatAt at h
  simp [World.frozen?, h]
theorem MatAt.set (h : MatAt w b T k n m) (i j : Nat) (hi : i < 9) (hj : j < 9) (v : Int) : MatAt (w.setCell ⟨b, 1 + i * 9 + j, none⟩ (.int k v)) b T k n (upd m i j v) := by
  unfold MatAt at h ⊢
  simp only [World.setCell, Array.getElem?_modify, if_true, h, Option.map_some]
  simp [matCells_set, hi, hj]
theorem MatAt.below {B : Nat} {w' : World} (h : MatAt w b T k n m) (hb : Below B w w') (hB : b < B) : MatAt w' b T k n m := (hb.block b hB).trans h
theorem MatAt.later {w' : World} (h : MatAt w b T k n m) (hb : Below w.heap.size w w') : MatAt w' b T k n m := h.below hb h.lt
theorem MatAt.drew (h : MatAt w b T k n m) : MatAt w.drew b T k n m := h
theorem MatAt.drewN (h : MatAt w b T k n m) (q : Nat) : MatAt (w.drewN q) b T k n m := h
theorem MatAt.alloc (h : MatAt w b T k n m) (o : Obj) : MatAt (w.alloc o) b T k n m := h.later ((Below.refl _ _).alloc (Nat.le_refl _) o)
end

/-- What was there is as it was, but for block b. -/
def Only (b : Nat) (w w' : World) : Prop := w.grownBy w' (some b)
theorem Only.refl (b : Nat) (w : World) : Only b w w := ⟨rfl, rfl, rfl, Nat.le_refl _, fun _ _ _ => rfl⟩
theorem Only.trans {b : Nat} {w w1 w2 : World} (h : Only b w w1) (k : Only b w1 w2) : Only b w w2 :=
  ⟨k.os.trans h.os, k.tape.trans h.tape, k.output.trans h.output, Nat.le_trans h.size k.size, fun i hi hne => (k.block i (Nat.lt_of_lt_of_le hi h.size) hne).trans (h.block i hi hne)⟩
theorem Only.setCell {b : Nat} {w w' : World} (h : Only b w w') (o : Nat) (v : Value) : Only b w (w'.setCell ⟨b, o, none⟩ v) :=
  h.trans ⟨rfl, rfl, rfl, by simp [World.setCell], fun k _ hk => Below.heap_setCell _ _ _ _ (fun e => hk (by rw [e]))⟩
theorem Only.drew {b : Nat} {w w' : World} (h : Only b w w') : Only b w w'.drew := ⟨h.os, h.tape, h.output, h.size, h.block⟩
theorem Only.drewN {b : Nat} {w w' : World} (h : Only b w w') (q : Nat) : Only b w (w'.drewN q) := ⟨h.os, h.tape, h.output, h.size, h.block⟩
theorem Only.alloc {b : Nat} {w w' : World} (h : Only b w w') (o : Obj) : Only b w (w'.alloc o) := h.trans (World.grownBy_alloc _ _ _)
theorem Only.andThen {b c : Nat} {w w1 w2 : World} (h : Only b w w1) (k : Only c w1 w2) (hc : w.heap.size ≤ c) : Only b w w2 :=
  ⟨k.os.trans h.os, k.tape.trans h.tape, k.output.trans h.output, Nat.le_trans h.size k.size, fun i hi hne => (k.block i (Nat.lt_of_lt_of_le hi h.size) (by simp; omega)).trans (h.block i hi hne)⟩
theorem Only.below {b B : Nat} {w w' : World} (h : Only b w w') (hb : B ≤ b) (hB : B ≤ w.heap.size) : Below B w w' :=
  ⟨h.os, h.tape, h.output, h.size, fun k hk => h.block k (by omega) (by simp; omega)⟩
theorem belowN {B : Nat} {w w' : World} (h : Below B w w') (q : Nat) : Below B w (w'.drewN q) := ⟨h.os, h.tape, h.output, h.size, h.block⟩
theorem MatAt.only {w w' : World} {b c : Nat} {T : TypeId} {k : IntKind} {n : Nat} {m : Mat} (h : MatAt w c T k n m) (ho : Only b w w') (hne : c ≠ b) : MatAt w' c T k n m :=
  (ho.block c h.lt (by simp [hne])).trans h

/-- A zone, or nil. -/
def ZoneV (T : TypeId) (w : World) (v : Value) : Option (Nat × Mat) → Prop
  | none => v = .pointer none
  | some (n, m) => ∃ b, v = .pointer (some ⟨b, 0, none⟩) ∧ n ≤ 8 ∧ RightM n m ∧ MatAt w b T .i32 n m
theorem ZoneV.below {T : TypeId} {w w' : World} {v : Value} {z : Option (Nat × Mat)} (h : ZoneV T w v z) (hb : Below w.heap.size w w') : ZoneV T w' v z := by
  match z, h with
  | none, h => exact h
  | some (n, m), ⟨b, h1, hn, hr, h2⟩ => exact ⟨b, h1, hn, hr, h2.later hb⟩

/-- One part laid over all cells. -/
theorem foldl_set (l : List Value) : ∀ (o : Nat) (z : Array Value), o + l.length = z.size →
    ((l.zipIdx o).foldl (fun cs (c : Value × Nat) => cs.setIfInBounds (0 + c.2) c.1) z).toList = z.toList.take o ++ l := by
  induction l with
  | nil => intro o z h; simp at h; subst h; simp [← Array.length_toList]
  | cons x l ih =>
    intro o z h
    simp only [List.length_cons] at h
    simp only [List.zipIdx_cons, List.foldl_cons]
    rw [ih (o + 1) _ (by simp; omega)]
    simp only [Nat.zero_add, Array.toList_setIfInBounds]
    rw [List.take_set, List.take_add_one, List.set_append_right _ _ (by simp; omega)]
    have e : z.toList[o]? = some z[o] := by simp
    simp [e, Nat.min_eq_left (show o ≤ z.size by omega)]
theorem fill_whole (c z : Array Value) (h : c.size = z.size) : Instr.fill (fun i => (#[(0, z.size)] : Array (Nat × Nat))[i]?) z [(0, .agg c)] = some c := by
  have e : (Value.agg c).cells = c := rfl
  have hf := foldl_set c.toList 0 z (by simpa using h)
  simp only [Instr.fill, List.getElem?_toArray, List.getElem?_cons_zero, e]
  rw [if_neg (by simp [h])]
  congr 1
  rw [← Array.toList_inj, ← Array.foldl_toList, Array.toList_zipIdx]
  simpa using hf
theorem lay_whole (c z : Array Value) (h : c.size = z.size) : Array.foldl (fun (cs : Array Value) (x : Value × Nat) => cs.setIfInBounds x.snd x.fst) z c.zipIdx 0 c.size = c := by
  have hf := foldl_set c.toList 0 z (by simpa using h)
  have e : c.size = c.zipIdx.size := by simp
  rw [e, ← Array.toList_inj, ← Array.foldl_toList, Array.toList_zipIdx]
  simpa using hf
theorem build_whole {P : Program} (t : TypeId) (z c : Array Value) (fs : Array Field) (w : World) (hz : (zeroValue t).run P w = .ok (.agg z) w) (hu : P.underlying t = some (.struct fs))
    (hp : (fs.mapM fun (f : Field) => (do pure (f.offset, ← sizeOf f.type) : Sem (Nat × Nat))).run P w = .ok #[(0, z.size)] w) (hc : c.size = z.size) : (Instr.build t #[(0, .agg c)]).run P w = .ok (.agg c) w := by
  have e : (Value.agg z).cells = z := rfl
  have hf := fill_whole c z hc
  simp only [Instr.build, Sem.run_bind, hz, e, run_underlying hu, Result.andThen_ok, hp, hf, Sem.run_pure]

/-- A slice of numbers that can be read. -/
def Ints (w : World) (k : IntKind) (A : Option Addr) (xs : List Int) : Prop :=
  ∀ j, j < xs.length → ∃ b off, A = some ⟨b, off, none⟩ ∧ w.cell? ⟨b, off + j, none⟩ = some (.int k (xs.getD j 0))
theorem Ints.below {w w' : World} {k : IntKind} {A : Option Addr} {xs : List Int} (h : Ints w k A xs) (hb : Below w.heap.size w w') : Ints w' k A xs := fun j hj => by
  obtain ⟨b, off, e, hc⟩ := h j hj
  exact ⟨b, off, e, (hb.cell (p := ⟨b, off + j, none⟩) (World.block_lt_of_cell? w _ hc)).trans hc⟩
/-- A slice of bounds of differences that can be read: three cells each. -/
def Lims (w : World) (A : Option Addr) (xs : List (Int × Int × Int)) : Prop :=
  ∀ j, j < xs.length → ∃ b off, A = some ⟨b, off, none⟩ ∧ w.cell? ⟨b, off + j * 3, none⟩ = some (.int .i64 (xs.getD j (0, 0, 0)).1) ∧
    w.cell? ⟨b, off + j * 3 + 1, none⟩ = some (.int .i64 (xs.getD j (0, 0, 0)).2.1) ∧ w.cell? ⟨b, off + j * 3 + 2, none⟩ = some (.int .i32 (xs.getD j (0, 0, 0)).2.2)
theorem Lims.below {w w' : World} {A : Option Addr} {xs : List (Int × Int × Int)} (h : Lims w A xs) (hb : Below w.heap.size w w') : Lims w' A xs := fun j hj => by
  obtain ⟨b, off, e, h1, h2, h3⟩ := h j hj
  exact ⟨b, off, e, (hb.cell (p := ⟨b, _, none⟩) (World.block_lt_of_cell? w _ h1)).trans h1, (hb.cell (p := ⟨b, _, none⟩) (World.block_lt_of_cell? w _ h2)).trans h2, (hb.cell (p := ⟨b, _, none⟩) (World.block_lt_of_cell? w _ h3)).trans h3⟩
theorem idx_div (p n : Nat) : (p : Int) / ((n : Int) + 1) = ((p / (n + 1) : Nat) : Int) := by simp
theorem idx_mod (p n : Nat) : (p : Int) % ((n : Int) + 1) = ((p % (n + 1) : Nat) : Int) := by simp

theorem wrap_tdiv (p n : Nat) (hp : p ≤ 1000000) : IntKind.i64.wrap ((p : Int).tdiv ((n : Int) + 1)) = ((p / (n + 1) : Nat) : Int) := by
  have e : (p : Int).tdiv ((n : Int) + 1) = ((p / (n + 1) : Nat) : Int) := by
    rw [Int.tdiv_eq_ediv_of_nonneg (by omega), idx_div]
  rw [e, IntKind.wrap_i64]
  have : p / (n + 1) ≤ p := Nat.div_le_self _ _
  generalize p / (n + 1) = q at this ⊢
  omega
theorem wrap_tmod (p n : Nat) (hp : p ≤ 1000000) : IntKind.i64.wrap ((p : Int).tmod ((n : Int) + 1)) = ((p % (n + 1) : Nat) : Int) := by
  have e : (p : Int).tmod ((n : Int) + 1) = ((p % (n + 1) : Nat) : Int) := by
    rw [Int.tmod_eq_emod_of_nonneg (by omega), idx_mod]
  rw [e, IntKind.wrap_i64]
  have : p % (n + 1) ≤ p := Nat.mod_le _ _
  generalize p % (n + 1) = q at this ⊢
  omega

def vals (k : IntKind) (xs : List Int) : List Value := xs.map fun x => .int k x
/-- A row of numbers of the call's own. -/
def OwnI (w : World) (base : Nat) (e : TypeId) (k : IntKind) (v : Value) (xs : List Int) : Prop := w.ownsRow base e 1 v xs.length (vals k xs)
/-- Block g begins with these numbers. -/
def RowAt (w : World) (g : Nat) (e : TypeId) (k : IntKind) (xs : List Int) : Prop :=
  ∃ cur : Array Value, w.heap[g]? = some (.cells cur e (0, 0)) ∧ cur.toList.take xs.length = vals k xs
section
variable {w : World} {g : Nat} {e : TypeId} {k : IntKind} {xs : List Int}
theorem RowAt.lt (h : RowAt w g e k xs) : g < w.heap.size := by obtain ⟨cur, h1, _⟩ := h; exact (Array.getElem?_eq_some_iff.1 h1).1
theorem RowAt.cell (h : RowAt w g e k xs) (p : Nat) (hp : p < xs.length) : w.cell? ⟨g, p, none⟩ = some (.int k (xs.getD p 0)) := by
  obtain ⟨cur, h1, h2⟩ := h
  have e1 : cur.toList[p]? = (vals k xs)[p]? := by rw [← h2, List.getElem?_take, if_pos hp]
  have e2 : (vals k xs)[p]? = some (.int k (xs.getD p 0)) := by
    simp [vals, List.getElem?_eq_getElem hp, List.getD_eq_getElem?_getD]
  rw [World.cell?, h1]
  simp only [Option.isSome_none, Bool.false_eq_true, if_false]
  rw [← Array.getElem?_toList, e1, e2]
theorem RowAt.frozen (h : RowAt w g e k xs) (o : Nat) : w.frozen? ⟨g, o, none⟩ = false := by
  obtain ⟨cur, h1, _⟩ := h
  simp [World.frozen?, h1]
theorem RowAt.set (h : RowAt w g e k xs) (p : Nat) (v : Int) : RowAt (w.setCell ⟨g, p, none⟩ (.int k v)) g e k (xs.set p v) := by
  obtain ⟨cur, h1, h2⟩ := h
  refine ⟨cur.setIfInBounds p (.int k v), ?_, ?_⟩
  · simp only [World.setCell, Array.getElem?_modify, if_true, h1, Option.map_some]
    simp
  · rw [Array.toList_setIfInBounds, List.length_set, List.take_set, h2]
    simp [vals, List.map_set]
theorem RowAt.below {B : Nat} {w' : World} (h : RowAt w g e k xs) (hb : Below B w w') (hB : g < B) : RowAt w' g e k xs := by
  obtain ⟨cur, h1, h2⟩ := h
  exact ⟨cur, (hb.block g hB).trans h1, h2⟩
theorem RowAt.later {w' : World} (h : RowAt w g e k xs) (hb : Below w.heap.size w w') : RowAt w' g e k xs := h.below hb h.lt
theorem RowAt.only {w' : World} {c : Nat} (h : RowAt w g e k xs) (ho : Only c w w') (hne : g ≠ c) : RowAt w' g e k xs := by
  have hlt := h.lt
  obtain ⟨cur, h1, h2⟩ := h
  exact ⟨cur, (ho.block g hlt (by simp [hne])).trans h1, h2⟩
theorem RowAt.drewN (h : RowAt w g e k xs) (q : Nat) : RowAt (w.drewN q) g e k xs := h
theorem RowAt.drew (h : RowAt w g e k xs) : RowAt w.drew g e k xs := h
theorem RowAt.ints (h : RowAt w g e k xs) : Ints w k (some ⟨g, 0, none⟩) xs := fun j hj => ⟨g, 0, rfl, by rw [Nat.zero_add]; exact h.cell j hj⟩
end
theorem row_vals {w : World} {g : Nat} {e : TypeId} {k : IntKind} {xs : List Int} (h : RowAt w g e k xs) : ∀ j u, (vals k xs)[j]? = some u → w.cell? ((⟨g, 0, none⟩ : Addr).add j) = some u := by
  intro j u hu
  have ha : (⟨g, 0, none⟩ : Addr).add j = ⟨g, j, none⟩ := by unfold Addr.add; split <;> simp_all
  rw [ha]
  by_cases hj : j < xs.length
  · rw [h.cell j hj, ← hu]
    simp [vals, List.getElem?_eq_getElem hj, List.getD_eq_getElem?_getD]
  · simp [vals, hj] at hu

/-- A row of the call's own that is not empty. -/
theorem OwnI.row {w : World} {base : Nat} {e : TypeId} {k : IntKind} {v : Value} {xs : List Int} (h : OwnI w base e k v xs) (hne : 0 < xs.length) :
    ∃ g cap, v = .slice (some ⟨g, 0, none⟩) xs.length cap ∧ base ≤ g ∧ RowAt w g e k xs := by
  rcases h.2 with ⟨_, h0⟩ | ⟨g, cap, cur, hv, hg, hh, _, _, _, ht⟩
  · omega
  · exact ⟨g, cap, hv, hg, cur, hh, by simpa using ht⟩
theorem OwnI.later {w w' : World} {base : Nat} {e : TypeId} {k : IntKind} {v : Value} {xs : List Int} (h : OwnI w base e k v xs) (hb : Below w.heap.size w w') : OwnI w' base e k v xs := by
  have hg : w.grownBy w' none := ⟨hb.os, hb.tape, hb.output, hb.size, fun i hi _ => hb.block i hi⟩
  exact World.ownsRow.kept h hg (by cases v.ownBlock <;> simp)
/-- Any row of the call's own is a slice that can be read. -/
theorem OwnI.slice {w : World} {base : Nat} {e : TypeId} {k : IntKind} {v : Value} {xs : List Int} (h : OwnI w base e k v xs) : ∃ A cap, v = .slice A xs.length cap ∧ Ints w k A xs := by
  by_cases hne : 0 < xs.length
  · obtain ⟨g, cap, hv, _, hr⟩ := h.row hne
    exact ⟨_, cap, hv, hr.ints⟩
  · have e0 : xs = [] := List.eq_nil_of_length_eq_zero (by omega)
    subst e0
    rcases h.2 with ⟨hv, _⟩ | ⟨g, cap, cur, hv, _⟩
    · exact ⟨none, 0, hv, fun j hj => by simp at hj⟩
    · exact ⟨_, cap, hv, fun j hj => by simp at hj⟩

theorem min_ints (ats : Array TypeId) (ty : TypeId) (k k' : IntKind) (x y : Int) : Builtin.min_ ats ty #[.int k x, .int k' y] = pure (.int k (min x y)) := by
  simp only [Builtin.min_, List.foldlM_cons, List.foldlM_nil, Builtin.min2]
  by_cases h : y < x
  · simp [h, Int.min_def, show ¬ x ≤ y by omega]
  · simp [h, Int.min_def, show x ≤ y by omega]
theorem max_ints (ats : Array TypeId) (ty : TypeId) (k k' : IntKind) (x y : Int) : Builtin.max_ ats ty #[.int k x, .int k' y] = pure (.int k (max x y)) := by
  simp only [Builtin.max_, List.foldlM_cons, List.foldlM_nil, Builtin.max2]
  by_cases h : x < y
  · simp [h, Int.max_def, show x ≤ y by omega]
  · by_cases e : x = y
    · simp [e]
    · simp [h, Int.max_def, show ¬ x ≤ y by omega]

end Go.Proofs.Ytfegongaflekiaa

/- Numbers of two words, as rat reckons with them. -/
namespace Go.Proofs.Ytfegongaflekiaa
open Go Go.RowKit
set_option linter.unusedVariables false
set_option linter.unusedSimpArgs false

def szV (n : Nat) : Value := .agg #[.int .u64 (hiN n), .int .u64 (loN n)]

theorem add64 (x y c : Int) (hx : 0 ≤ x) (hy : 0 ≤ y) (hc0 : 0 ≤ c) (hc : c ≤ 1) (w : World) : (callFunc 125 #[.int .u64 x, .int .u64 y, .int .u64 c]).run Try.prog w =
    .ok (.value (.tuple #[.int .u64 ((x + y + c) % 18446744073709551616), .int .u64 ((x + y + c) / 18446744073709551616)])) w := by
  rw [run_callFunc_extern Try.func125 (by kernel_rfl) (by kernel_rfl) (by kernel_rfl) (e := add64Entry) (by kernel_rfl), run_add64 x y c hx hy hc0 hc]
  rfl
theorem add64_0 (x y : Int) (hx : 0 ≤ x) (hy : 0 ≤ y) (w : World) : (callFunc 125 #[.int .u64 x, .int .u64 y, .int .u64 0]).run Try.prog w =
    .ok (.value (.tuple #[.int .u64 ((x + y) % 18446744073709551616), .int .u64 ((x + y) / 18446744073709551616)])) w := by
  simpa using add64 x y 0 hx hy (Int.le_refl 0) (by decide) w
theorem sub64 (x y b : Int) (hx : 0 ≤ x) (hy : 0 ≤ y) (hy' : y ≤ 18446744073709551615) (hb0 : 0 ≤ b) (hb : b ≤ 1) (w : World) : (callFunc 128 #[.int .u64 x, .int .u64 y, .int .u64 b]).run Try.prog w =
    .ok (.value (.tuple #[.int .u64 ((x - y - b) % 18446744073709551616), .int .u64 (borN x (y + b))])) w := by
  unfold borN
  obtain ⟨x, rfl⟩ := Int.eq_ofNat_of_zero_le hx
  obtain ⟨y, rfl⟩ := Int.eq_ofNat_of_zero_le hy
  obtain ⟨b, rfl⟩ := Int.eq_ofNat_of_zero_le hb0
  have e1 : (((x + 18446744073709551616 - y - b) % 18446744073709551616 : Nat) : Int) = ((x : Int) - y - b) % 18446744073709551616 := by omega
  have e2 : ((if x < y + b then 1 else 0 : Nat) : Int) = if (x : Int) < y + b then 1 else 0 := by split <;> split <;> omega
  rw [← e1, ← e2, run_callFunc_extern Try.func128 (by kernel_rfl) (by kernel_rfl) (by kernel_rfl) (e := sub64Entry) (by kernel_rfl), run_sub64 x y b (by omega)]
  rfl
theorem sub64_0 (x y : Int) (hx : 0 ≤ x) (hy : 0 ≤ y) (hy' : y ≤ 18446744073709551615) (w : World) : (callFunc 128 #[.int .u64 x, .int .u64 y, .int .u64 0]).run Try.prog w =
    .ok (.value (.tuple #[.int .u64 ((x - y) % 18446744073709551616), .int .u64 (borN x y)])) w := by
  simpa using sub64 x y 0 hx hy hy' (Int.le_refl 0) (by decide) w

theorem backR {P : Program} {f : FuncId} {args : Array Value} {w : World} {e0 : Ending} (h : Calls P f args w fun e w' => e = e0 ∧ w = w') : Calls P f args w fun e w' => e = e0 ∧ w' = w := h.mono fun _ _ ⟨a, b⟩ => ⟨a, b.symm⟩
theorem results_cells2 {P : Program} {fn : Func} {p p2 : Tmp} {ty : TypeId} (h : fn.results = #[.cell p ty, .cell p2 ty]) (tmps : Array Value) (w : World) (g g2 : Nat) (t : TypeId) (cs cs2 : Array Value) (fr fr2 : Nat × Nat) (d : TypeDesc)
    (hp : tmps.getD p undef = .pointer (some ⟨g, 0, none⟩)) (hp2 : tmps.getD p2 undef = .pointer (some ⟨g2, 0, none⟩)) (hg : w.heap[g]? = some (.cells cs t fr)) (hg2 : w.heap[g2]? = some (.cells cs2 t fr2))
    (hu : P.underlying ty = some d) (hd : (match d with | .struct _ | .array _ _ => true | _ => false) = true) (hi : (P.info? ty).map (·.size) = some cs.size) (hi2 : (P.info? ty).map (·.size) = some cs2.size) :
    (results fn tmps).run P w = .ok (.tuple #[.agg cs, .agg cs2]) w := by
  have hp' : tmps[p]?.getD undef = .pointer (some ⟨g, 0, none⟩) := by simpa using hp
  have hp2' : tmps[p2]?.getD undef = .pointer (some ⟨g2, 0, none⟩) := by simpa using hp2
  simp [results, h, hp', hp2', asAddr, run_loadVar_row w g t ty cs fr d hg hu hd hi, run_loadVar_row w g2 t ty cs2 fr2 d hg2 hu hd hi2]
theorem results_row_tmp {P : Program} {fn : Func} {p u : Tmp} {ty : TypeId} (h : fn.results = #[.cell p ty, .tmp u]) (tmps : Array Value) (w : World) (g : Nat) (t : TypeId) (cs : Array Value) (fr : Nat × Nat) (d : TypeDesc)
    (hp : tmps.getD p undef = .pointer (some ⟨g, 0, none⟩)) (hg : w.heap[g]? = some (.cells cs t fr))
    (hu : P.underlying ty = some d) (hd : (match d with | .struct _ | .array _ _ => true | _ => false) = true) (hi : (P.info? ty).map (·.size) = some cs.size) :
    (results fn tmps).run P w = .ok (.tuple #[.agg cs, tmps.getD u undef]) w := by
  have hp' : tmps[p]?.getD undef = .pointer (some ⟨g, 0, none⟩) := by simpa using hp
  simp [results, h, hp', asAddr, run_loadVar_row w g t ty cs fr d hg hu hd hi]
theorem below_one (w : World) (a : Obj) : Below w.heap.size w (w.alloc a) := (Below.refl _ _).alloc (Nat.le_refl _) _
theorem below_two (w : World) (a b : Obj) : Below w.heap.size w ((w.alloc a).alloc b) := (below_one w a).alloc (below_one w a).size _
theorem below_three (w : World) (a b c : Obj) : Below w.heap.size w (((w.alloc a).alloc b).alloc c) := (below_two w a b).alloc (below_two w a b).size _

set_option maxRecDepth 100000 in
set_option maxHeartbeats 1000000 in
theorem szero_any (n : Nat) (w : World) : Calls Try.prog 73 #[szV n] w fun e w' => e = .returned (.bool (decide (n = 0))) ∧ Below w.heap.size w w' := by
  have hz := hilo_zero (n := n)
  unfold szV
  by_cases h1 : hiN n = 0
  · have e1 : (hiN n == 0) = true := by simp [h1]
    by_cases h2 : loN n = 0
    · have e2 : (loN n == 0) = true := by simp [h2]
      have hn : n = 0 := hz.1 ⟨h1, h2⟩
      generalize hiN n = a at *
      generalize loN n = b at *
      go_enter Try.func73, Try.ntmps73
      go_wp2
      go_ret
      exact ⟨by simp [hn], (Below.refl _ _).alloc (Nat.le_refl _) _⟩
    · have e2 : (loN n == 0) = false := by simp [h2]
      have hn : ¬ n = 0 := fun h => h2 (hz.2 h).2
      generalize hiN n = a at *
      generalize loN n = b at *
      go_enter Try.func73, Try.ntmps73
      go_wp2
      go_ret
      exact ⟨by simp [hn], (Below.refl _ _).alloc (Nat.le_refl _) _⟩
  · have e1 : (hiN n == 0) = false := by simp [h1]
    have hn : ¬ n = 0 := fun h => h1 (hz.2 h).1
    generalize hiN n = a at *
    generalize loN n = b at *
    go_enter Try.func73, Try.ntmps73
    go_wp2
    go_ret
    exact ⟨by simp [hn], (Below.refl _ _).alloc (Nat.le_refl _) _⟩

set_option maxRecDepth 100000 in
set_option maxHeartbeats 1000000 in
theorem splus_any (s t : Nat) (h : s + t < 340282366920938463463374607431768211456) (w : World) : Calls Try.prog 110 #[szV s, szV t] w fun e w' => e = .returned (szV (s + t)) ∧ Below w.heap.size w w' := by
  obtain ⟨a1, a2⟩ := hi_range (n := s) (by omega)
  obtain ⟨b1, b2⟩ := hi_range (n := t) (by omega)
  obtain ⟨c1, c2⟩ := lo_range s
  obtain ⟨d1, d2⟩ := lo_range t
  have e1 := plus_lo s t
  have e2 := plus_hi s t h
  have k0 : 0 ≤ (loN s + loN t) / 18446744073709551616 := by omega
  have k1 : (loN s + loN t) / 18446744073709551616 ≤ 1 := by omega
  unfold szV
  go_enter Try.func110, Try.ntmps110
  go_wp2_with (first | simp only [add64_0 (loN s) (loN t) c1 d1] | simp only [add64 (hiN s) (hiN t) _ a1 b1 k0 k1])
  simp [bodyPost, results, Try.results110, go_sem]
  exact below_three w _ _ _

set_option maxRecDepth 100000 in
set_option maxHeartbeats 1000000 in
theorem sless_any (s t : Nat) (h : t ≤ s) (hs : s < 340282366920938463463374607431768211456) (w : World) : Calls Try.prog 112 #[szV s, szV t] w fun e w' => e = .returned (szV (s - t)) ∧ Below w.heap.size w w' := by
  obtain ⟨a1, a2⟩ := hi_range (n := s) (by omega)
  obtain ⟨b1, b2⟩ := hi_range (n := t) (by omega)
  obtain ⟨c1, c2⟩ := lo_range s
  obtain ⟨d1, d2⟩ := lo_range t
  obtain ⟨k0, k1⟩ := bor_range (loN s) (loN t)
  have e1 := less_lo s t h
  have e2 := less_hi s t h hs
  unfold szV
  go_enter Try.func112, Try.ntmps112
  go_wp2_with (first | simp only [sub64_0 (loN s) (loN t) c1 d1 d2] | simp only [sub64 (hiN s) (hiN t) _ a1 b1 b2 k0 k1])
  simp [bodyPost, results, Try.results112, go_sem]
  exact below_three w _ _ _

theorem nan_any (x : Int) (w : World) : Calls Try.prog 135 #[.int .u64 x] w fun e w' => e = .returned (.bool false) ∧ w = w' := by
  have e1 : (x != x) = false := by simp
  go_enter Try.func135, Try.ntmps135
  go_wp2
  go_ret
  exact ⟨rfl, rfl⟩
set_option maxRecDepth 100000 in
set_option maxHeartbeats 1000000 in
theorem cmp_any (x y : Int) (w : World) : Calls Try.prog 127 #[.int .u64 x, .int .u64 y] w fun e w' => e = .returned (.int .i64 (cmpW x y)) ∧ w = w' := by
  have h1 : cmpW x y = if x < y then -1 else if y < x then 1 else 0 := rfl
  by_cases hx : x < y
  · rw [if_pos hx] at h1
    rw [h1]
    clear h1
    go_enter Try.func127, Try.ntmps127
    go_wp2_with (refine (nan_any _ _).mono ?_; rintro e w1 ⟨rfl, rfl⟩)
    go_ret
    exact ⟨rfl, rfl⟩
  · rw [if_neg hx] at h1
    by_cases hy : y < x
    · rw [if_pos hy] at h1
      rw [h1]
      clear h1
      go_enter Try.func127, Try.ntmps127
      go_wp2_with (refine (nan_any _ _).mono ?_; rintro e w1 ⟨rfl, rfl⟩)
      go_ret
      exact ⟨rfl, rfl⟩
    · rw [if_neg hy] at h1
      rw [h1]
      clear h1
      go_enter Try.func127, Try.ntmps127
      go_wp2_with (refine (nan_any _ _).mono ?_; rintro e w1 ⟨rfl, rfl⟩)
      go_ret
      exact ⟨rfl, rfl⟩
set_option maxRecDepth 100000 in
set_option maxHeartbeats 1000000 in
theorem or_any (A : Option Addr) (c : Nat) (a b : Int) (w : World) (hI : Ints w .i64 A [a, b]) : Calls Try.prog 126 #[.slice A 2 c] w fun e w' => e = .returned (.int .i64 (if a = 0 then b else a)) ∧ w = w' := by
  have HI := Lib.hid hI
  have HA := Lib.hid (fun h : a = 0 => (if_pos h : (if a = 0 then b else a) = b))
  have HB := Lib.hid (fun h : ¬ a = 0 => (if_neg h : (if a = 0 then b else a) = a))
  obtain ⟨r, hr⟩ : ∃ r, r = if a = 0 then b else a := ⟨_, rfl⟩
  rw [← hr] at HA HB ⊢
  clear hI hr
  go_enter Try.func126, Try.ntmps126
  go_wp2
  go_loopg [8] 2 (fun q v wr => ∃ p : Nat, v = .int .i64 p ∧ w = wr ∧ Hid (p ≤ 2 ∧ q + p = 2 ∧ (1 ≤ p → a = 0) ∧ (2 ≤ p → b = 0)))
  case atStart => exact ⟨0, by simp, rfl, by omega, by omega, fun h => absurd h (by decide), fun h => absurd h (by decide)⟩
  case round =>
    obtain ⟨p, rfl, rfl, HP⟩ := hrel
    by_cases hp : p < 2
    · have hpi : (p : Int) < 2 := by omega
      obtain ⟨b1, o1, rfl, cc⟩ := HI.out p hp
      rcases (show p = 0 ∨ p = 1 by omega) with rfl | rfl
      · have cc : w.cell? _ = some (.int .i64 a) := cc
        rw [Nat.add_zero] at cc
        by_cases ha : a = 0
        · subst ha
          go_wp2
          go_roundg (gk - 1)
          case measure => have h := HP.out; omega
          case rel => exact ⟨1, by go_num, rfl, by omega, by have h := HP.out; omega, fun _ => by simp, fun h => absurd h (by decide)⟩
        · have e1 : (a != 0) = true := by simpa using ha
          have e2 := HB.out ha
          clear HA HB
          subst e2
          go_wp2
          go_ret
          exact ⟨rfl, rfl⟩
      · have cc : w.cell? _ = some (.int .i64 b) := cc
        have ha := HP.out.2.2.1 (Nat.le_refl _)
        by_cases hb : b = 0
        · subst hb
          go_wp2
          go_roundg (gk - 1)
          case measure => have h := HP.out; omega
          case rel => exact ⟨2, by go_num, rfl, by omega, by have h := HP.out; omega, fun _ => ha, fun _ => by simp⟩
        · have e1 : (b != 0) = true := by simpa using hb
          have e2 := HA.out ha
          clear HA HB ha
          subst e2
          go_wp2
          go_ret
          exact ⟨rfl, rfl⟩
    · have hpi : ¬ (p : Int) < 2 := by omega
      have h := HP.out
      have e2 := HA.out (h.2.2.1 (by omega))
      have e3 := h.2.2.2 (by omega)
      clear HA HB h
      have e4 := Lib.hid (e2.trans e3)
      clear e2 e3
      go_wp2
      go_ret
      exact ⟨by rw [e4.out]; rfl, rfl⟩

theorem ints_new2 (w : World) (e : TypeId) (a b : Int) : Ints (w.alloc (.cells #[.int .i64 a, .int .i64 b] e (0, 0))) .i64 (some ⟨w.heap.size, 0, none⟩) [a, b] := by
  have h1 := heap_alloc_new w (.cells #[.int .i64 a, .int .i64 b] e (0, 0))
  intro j hj
  have e0 : j = 0 ∨ j = 1 := by simp at hj; omega
  rcases e0 with rfl | rfl <;> refine ⟨w.heap.size, 0, rfl, ?_⟩ <;> (unfold World.cell?; rw [h1]; rfl)
set_option maxRecDepth 100000 in
set_option maxHeartbeats 1000000 in
theorem scmp_any (s t : Nat) (w : World) : Calls Try.prog 111 #[szV s, szV t] w fun e w' => e = .returned (.int .i64 (cmpN s t)) ∧ Below w.heap.size w w' := by
  have e1 := cmpN_is s t
  unfold szV
  have HC1 := Lib.hid (fun W => cmp_any (hiN s) (hiN t) W)
  have HC2 := Lib.hid (fun W => cmp_any (loN s) (loN t) W)
  obtain ⟨x, hx⟩ : ∃ x, x = cmpW (hiN s) (hiN t) := ⟨_, rfl⟩
  obtain ⟨y, hy⟩ : ∃ y, y = cmpW (loN s) (loN t) := ⟨_, rfl⟩
  rw [← hx] at HC1 e1
  rw [← hy] at HC2 e1
  have HO := Lib.hid (fun A c W hI => or_any A c x y W hI)
  obtain ⟨z, hz⟩ : ∃ z, z = if x = 0 then y else x := ⟨_, rfl⟩
  rw [← hz] at HO e1
  rw [e1]
  clear e1 hx hy hz
  generalize hiN s = a at *
  generalize loN s = b at *
  generalize hiN t = c at *
  generalize loN t = d at *
  go_enter Try.func111, Try.ntmps111
  go_upto_region 1 with fail
  have HB := Lib.hid (below_two w (.cells #[.int .u64 a, .int .u64 b] 114) (.cells #[.int .u64 c, .int .u64 d] 114))
  have h1 : ((w.alloc (.cells #[.int .u64 a, .int .u64 b] 114)).alloc (.cells #[.int .u64 c, .int .u64 d] 114)).heap[w.heap.size]? = some (.cells #[.int .u64 a, .int .u64 b] 114) := (heap_alloc_old _ _ (by simp)).trans (heap_alloc_new _ _)
  have h2 : ((w.alloc (.cells #[.int .u64 a, .int .u64 b] 114)).alloc (.cells #[.int .u64 c, .int .u64 d] 114)).heap[w.heap.size + 1]? = some (.cells #[.int .u64 c, .int .u64 d] 114) := by
    have h := heap_alloc_new (w.alloc (.cells #[.int .u64 a, .int .u64 b] 114)) (.cells #[.int .u64 c, .int .u64 d] 114)
    rw [show (w.alloc (.cells #[.int .u64 a, .int .u64 b] 114)).heap.size = w.heap.size + 1 by simp] at h
    exact h
  generalize (w.alloc (.cells #[.int .u64 a, .int .u64 b] 114)).alloc (.cells #[.int .u64 c, .int .u64 d] 114) = w1 at *
  have k1 : w1.drew.cell? ⟨w.heap.size, 0, none⟩ = some (.int .u64 a) := by show w1.cell? _ = _; unfold World.cell?; rw [h1]; rfl
  have k2 : w1.drew.cell? ⟨w.heap.size, 1, none⟩ = some (.int .u64 b) := by show w1.cell? _ = _; unfold World.cell?; rw [h1]; rfl
  have k3 : w1.drew.cell? ⟨w.heap.size + 1, 0, none⟩ = some (.int .u64 c) := by show w1.cell? _ = _; unfold World.cell?; rw [h2]; rfl
  have k4 : w1.drew.cell? ⟨w.heap.size + 1, 1, none⟩ = some (.int .u64 d) := by show w1.cell? _ = _; unfold World.cell?; rw [h2]; rfl
  clear h1 h2
  refine wp_region_still_tail 10 (by kernel_rfl) (by kernel_rfl) ?_
  simp only [List.take_succ_cons, List.take_zero, List.drop_succ_cons, List.drop_zero]
  change wpStill _ _ w1.drew _ _ _
  generalize w1.drew = w2 at *
  repeat still_step
  still_call (backR (HC1.out w2))
  repeat still_step
  still_call (backR (HC2.out w2))
  repeat still_step
  refine wpStill_nil ?_
  go_wp2_with fail
  refine (HO.out _ _ ((w1.alloc (.cells #[.int .i64 x, .int .i64 y] 3)).drew) (ints_new2 w1 3 x y)).mono ?_
  rintro e w3 ⟨rfl, rfl⟩
  have HE := Lib.hid (Below.drew (HB.out.alloc HB.out.size (.cells #[.int .i64 x, .int .i64 y] 3)))
  go_wp2
  go_ret
  exact ⟨rfl, HE.out⟩

end Go.Proofs.Ytfegongaflekiaa

/- Division of numbers of two words, as rat does it. -/
namespace Go.Proofs.Ytfegongaflekiaa
open Go Go.RowKit
set_option linter.unusedVariables false
set_option linter.unusedSimpArgs false

/-- What of the quotient and the rest stands behind the upper bits, j of them still to come. -/
def ovQ (s t j : Nat) : Nat := s / 2 ^ j / t * 2 ^ j
def ovR (s t j : Nat) : Nat := s / 2 ^ j % t
theorem ov_start (s t : Nat) (h : s < 340282366920938463463374607431768211456) : ovQ s t 128 = 0 ∧ ovR s t 128 = 0 := by
  have e : s / 2 ^ 128 = 0 := Nat.div_eq_of_lt (by simpa using h)
  unfold ovQ ovR
  rw [e]
  simp
theorem ov_end (s t : Nat) : ovQ s t 0 = s / t ∧ ovR s t 0 = s % t := by unfold ovQ ovR; simp
theorem ov_le (s t j : Nat) : ovQ s t j ≤ s := by
  unfold ovQ
  exact Nat.le_trans (Nat.mul_le_mul_right _ (Nat.div_le_self _ _)) (Nat.div_mul_le_self _ _)
theorem ov_step (s t i : Nat) (ht : 0 < t) :
    (2 * ovR s t (i + 1) + bitN s i < t → ovR s t i = 2 * ovR s t (i + 1) + bitN s i ∧ ovQ s t i = ovQ s t (i + 1)) ∧
    (¬ 2 * ovR s t (i + 1) + bitN s i < t → ovR s t i = 2 * ovR s t (i + 1) + bitN s i - t ∧ ovQ s t i = ovQ s t (i + 1) + 2 ^ i) := by
  have h := rem_step s t i ht
  have e : (2 : Nat) ^ (i + 1) = 2 * 2 ^ i := by rw [Nat.pow_succ]; omega
  unfold ovR ovQ
  refine ⟨fun hr => ?_, fun hr => ?_⟩
  · obtain ⟨h1, h2⟩ := h.1 hr
    refine ⟨h1, ?_⟩
    rw [h2]
    generalize s / 2 ^ (i + 1) / t = X
    rw [e]
    ac_rfl
  · obtain ⟨h1, h2⟩ := h.2 hr
    refine ⟨h1, ?_⟩
    rw [h2, Nat.add_mul, Nat.one_mul]
    generalize s / 2 ^ (i + 1) / t = X
    congr 1
    rw [e]
    ac_rfl

/-- The blocks of a division while it goes on. -/
structure OvR (w0 : World) (gt g0 g1 gq gr : Nat) (s t q r : Nat) (wr : World) : Prop where
  below : Below w0.heap.size w0 wr
  ne : w0.heap.size < gt ∧ gt < g0 ∧ g0 < g1 ∧ g1 < gq ∧ gq < gr
  hs : wr.heap[w0.heap.size]? = some (.cells #[.int .u64 (hiN s), .int .u64 (loN s)] 114)
  ht : wr.heap[gt]? = some (.cells #[.int .u64 (hiN t), .int .u64 (loN t)] 114)
  h0 : wr.heap[g0]? = some (.cells #[.int .u64 0, .int .u64 0] 114)
  h1 : wr.heap[g1]? = some (.cells #[.int .u64 0, .int .u64 0] 114)
  hq : wr.heap[gq]? = some (.cells #[.int .u64 (hiN q), .int .u64 (loN q)] 114)
  hr : wr.heap[gr]? = some (.cells #[.int .u64 (hiN r), .int .u64 (loN r)] 114)
theorem heap_lt2 {w : World} {g : Nat} {o : Obj} (h : w.heap[g]? = some o) : g < w.heap.size := by
  by_cases c : g < w.heap.size
  · exact c
  · rw [Array.getElem?_eq_none (by omega)] at h; cases h
theorem below_row {w w1 : World} {B g : Nat} (h : Below B w w1) (hg : B ≤ g) (cs : Array Value) : Below B w (w1.setRow g cs) :=
  ⟨h.os, h.tape, h.output, by have := h.size; simpa [World.setRow] using this, fun k hk => by rw [setRow_other _ _ _ _ (by omega)]; exact h.block k hk⟩
theorem heap_other {wr : World} {k g c : Nat} {o : Obj} (v : Value) (h : wr.heap[k]? = some o) (hg : k ≠ g) : (wr.setCell ⟨g, c, none⟩ v).heap[k]? = some o := by
  simp only [World.setCell, Array.getElem?_modify]
  rw [if_neg (by omega)]
  exact h
theorem row_other {wr : World} {k g : Nat} {o : Obj} (c : Array Value) (h : wr.heap[k]? = some o) (hg : k ≠ g) : (wr.setRow g c).heap[k]? = some o := by rw [setRow_other _ _ _ _ hg]; exact h
section
variable {w0 wr w' : World} {gt g0 g1 gq gr s t q r : Nat}
theorem OvR.step (h : OvR w0 gt g0 g1 gq gr s t q r wr) (hb : Below wr.heap.size wr w') : OvR w0 gt g0 g1 gq gr s t q r w' :=
  ⟨h.below.trans (hb.mono h.below.size), h.ne, (hb.block _ (heap_lt2 h.hs)).trans h.hs, (hb.block _ (heap_lt2 h.ht)).trans h.ht, (hb.block _ (heap_lt2 h.h0)).trans h.h0, (hb.block _ (heap_lt2 h.h1)).trans h.h1, (hb.block _ (heap_lt2 h.hq)).trans h.hq, (hb.block _ (heap_lt2 h.hr)).trans h.hr⟩
theorem OvR.drew (h : OvR w0 gt g0 g1 gq gr s t q r wr) : OvR w0 gt g0 g1 gq gr s t q r wr.drew := ⟨Below.drew h.below, h.ne, h.hs, h.ht, h.h0, h.h1, h.hq, h.hr⟩
theorem OvR.setR (h : OvR w0 gt g0 g1 gq gr s t q r wr) (x : Nat) : OvR w0 gt g0 g1 gq gr s t q x (wr.setRow gr #[.int .u64 (hiN x), .int .u64 (loN x)]) := by
  have hn := h.ne
  exact ⟨below_row h.below (by omega) _, hn, row_other _ h.hs (by omega), row_other _ h.ht (by omega), row_other _ h.h0 (by omega), row_other _ h.h1 (by omega), row_other _ h.hq (by omega), setRow_heap _ _ _ _ _ _ h.hr⟩
theorem cell_set {wr : World} {g : Nat} {a b : Value} {T : TypeId} (h : wr.heap[g]? = some (.cells #[a, b] T)) (v : Value) :
    (wr.setCell ⟨g, 0, none⟩ v).heap[g]? = some (.cells #[v, b] T) ∧ (wr.setCell ⟨g, 1, none⟩ v).heap[g]? = some (.cells #[a, v] T) := by
  constructor <;> (simp only [World.setCell, Array.getElem?_modify, if_true, h, Option.map_some]; rfl)
theorem OvR.setRlo (h : OvR w0 gt g0 g1 gq gr s t q r wr) (x : Nat) (y : Int) (hh : hiN r = hiN x) (hy : y = loN x) : OvR w0 gt g0 g1 gq gr s t q x (wr.setCell ⟨gr, 1, none⟩ (.int .u64 y)) := by
  have hn := h.ne
  have h1 := (cell_set h.hr (.int .u64 y)).2
  rw [hh, hy] at h1
  rw [hy]
  exact ⟨h.below.setCell (p := ⟨gr, 1, none⟩) (by show w0.heap.size ≤ gr; omega) _, hn, heap_other _ h.hs (by omega), heap_other _ h.ht (by omega), heap_other _ h.h0 (by omega), heap_other _ h.h1 (by omega), heap_other _ h.hq (by omega), h1⟩
theorem OvR.setQhi (h : OvR w0 gt g0 g1 gq gr s t q r wr) (x : Nat) (y : Int) (hh : loN q = loN x) (hy : y = hiN x) : OvR w0 gt g0 g1 gq gr s t x r (wr.setCell ⟨gq, 0, none⟩ (.int .u64 y)) := by
  have hn := h.ne
  have h1 := (cell_set h.hq (.int .u64 y)).1
  rw [hh, hy] at h1
  rw [hy]
  exact ⟨h.below.setCell (p := ⟨gq, 0, none⟩) (by show w0.heap.size ≤ gq; omega) _, hn, heap_other _ h.hs (by omega), heap_other _ h.ht (by omega), heap_other _ h.h0 (by omega), heap_other _ h.h1 (by omega), h1, heap_other _ h.hr (by omega)⟩
theorem OvR.setQlo (h : OvR w0 gt g0 g1 gq gr s t q r wr) (x : Nat) (y : Int) (hh : hiN q = hiN x) (hy : y = loN x) : OvR w0 gt g0 g1 gq gr s t x r (wr.setCell ⟨gq, 1, none⟩ (.int .u64 y)) := by
  have hn := h.ne
  have h1 := (cell_set h.hq (.int .u64 y)).2
  rw [hh, hy] at h1
  rw [hy]
  exact ⟨h.below.setCell (p := ⟨gq, 1, none⟩) (by show w0.heap.size ≤ gq; omega) _, hn, heap_other _ h.hs (by omega), heap_other _ h.ht (by omega), heap_other _ h.h0 (by omega), heap_other _ h.h1 (by omega), h1, heap_other _ h.hr (by omega)⟩
end
theorem cell_two {wr : World} {g : Nat} {a b : Value} {T : TypeId} (h : wr.heap[g]? = some (.cells #[a, b] T)) :
    wr.cell? ⟨g, 0, none⟩ = some a ∧ wr.cell? ⟨g, 1, none⟩ = some b ∧ wr.frozen? ⟨g, 0, none⟩ = false ∧ wr.frozen? ⟨g, 1, none⟩ = false := by
  refine ⟨?_, ?_, ?_, ?_⟩
  · unfold World.cell?; rw [h]; rfl
  · unfold World.cell?; rw [h]; rfl
  · unfold World.frozen?; rw [h]; rfl
  · unfold World.frozen?; rw [h]; rfl
theorem OvR.made (w : World) (s t : Nat) : OvR w (w.heap.size + 1) (w.heap.size + 1 + 1) (w.heap.size + 1 + 1 + 1) (w.heap.size + 1 + 1 + 1 + 1) (w.heap.size + 1 + 1 + 1 + 1 + 1) s t 0 0
    ((((((w.alloc (.cells #[.int .u64 (hiN s), .int .u64 (loN s)] 114)).alloc (.cells #[.int .u64 (hiN t), .int .u64 (loN t)] 114)).alloc (.cells #[.int .u64 0, .int .u64 0] 114)).alloc (.cells #[.int .u64 0, .int .u64 0] 114)).alloc (.cells #[.int .u64 0, .int .u64 0] 114)).alloc (.cells #[.int .u64 0, .int .u64 0] 114)) := by
  have hz : ∀ (w : World) (o : Obj), (w.alloc o).heap.size = w.heap.size + 1 := fun w o => by simp
  have b2 := below_two w (.cells #[.int .u64 (hiN s), .int .u64 (loN s)] 114) (.cells #[.int .u64 (hiN t), .int .u64 (loN t)] 114)
  have b3 := b2.alloc b2.size (.cells #[.int .u64 0, .int .u64 0] 114)
  have b4 := b3.alloc b3.size (.cells #[.int .u64 0, .int .u64 0] 114)
  have b5 := b4.alloc b4.size (.cells #[.int .u64 0, .int .u64 0] 114)
  have b6 := b5.alloc b5.size (.cells #[.int .u64 0, .int .u64 0] 114)
  refine ⟨b6, by omega, ?_, ?_, ?_, ?_, ?_, ?_⟩
  · iterate 5 rw [heap_alloc_old _ _ (by simp only [hz]; omega)]
    exact heap_alloc_new _ _
  · iterate 4 rw [heap_alloc_old _ _ (by simp only [hz]; omega)]
    rw [← hz w (.cells #[.int .u64 (hiN s), .int .u64 (loN s)] 114)]
    exact heap_alloc_new _ _
  · iterate 3 rw [heap_alloc_old _ _ (by simp only [hz]; omega)]
    have h := heap_alloc_new ((w.alloc (.cells #[.int .u64 (hiN s), .int .u64 (loN s)] 114)).alloc (.cells #[.int .u64 (hiN t), .int .u64 (loN t)] 114)) (.cells #[.int .u64 0, .int .u64 0] 114)
    simp only [hz] at h
    exact h
  · iterate 2 rw [heap_alloc_old _ _ (by simp only [hz]; omega)]
    have h := heap_alloc_new (((w.alloc (.cells #[.int .u64 (hiN s), .int .u64 (loN s)] 114)).alloc (.cells #[.int .u64 (hiN t), .int .u64 (loN t)] 114)).alloc (.cells #[.int .u64 0, .int .u64 0] 114)) (.cells #[.int .u64 0, .int .u64 0] 114)
    simp only [hz] at h
    exact h
  · rw [heap_alloc_old _ _ (by simp only [hz]; omega)]
    have h := heap_alloc_new ((((w.alloc (.cells #[.int .u64 (hiN s), .int .u64 (loN s)] 114)).alloc (.cells #[.int .u64 (hiN t), .int .u64 (loN t)] 114)).alloc (.cells #[.int .u64 0, .int .u64 0] 114)).alloc (.cells #[.int .u64 0, .int .u64 0] 114)) (.cells #[.int .u64 0, .int .u64 0] 114)
    simp only [hz] at h
    exact h
  · have h := heap_alloc_new (((((w.alloc (.cells #[.int .u64 (hiN s), .int .u64 (loN s)] 114)).alloc (.cells #[.int .u64 (hiN t), .int .u64 (loN t)] 114)).alloc (.cells #[.int .u64 0, .int .u64 0] 114)).alloc (.cells #[.int .u64 0, .int .u64 0] 114)).alloc (.cells #[.int .u64 0, .int .u64 0] 114)) (.cells #[.int .u64 0, .int .u64 0] 114)
    simp only [hz] at h
    exact h
/-- A shift by more than a word. -/
theorem shr_far (x y : Int) (hx : 0 ≤ x) (hx1 : x ≤ 18446744073709551615) (hy : 63 < y) : Op.shift .shr .u64 x .i64 y = pure (.int .u64 0) := by
  have hm : min y.toNat 64 = 64 := by omega
  have e : x.fdiv (2 ^ (min y.toNat IntKind.u64.bits)) = 0 := by
    show x.fdiv (2 ^ (min y.toNat 64)) = 0
    rw [hm, Int.fdiv_eq_ediv_of_nonneg _ (by decide)]
    exact Int.ediv_eq_zero_of_lt hx (by simp; omega)
  unfold Op.shift
  rw [if_neg (by omega)]
  show pure (Value.int .u64 (x.fdiv (2 ^ (min y.toNat IntKind.u64.bits)))) = _
  rw [e]

attribute [local go_sem] shr_far
theorem bit_hi_word (s i : Nat) (hi : 64 ≤ i) (hs : s < 340282366920938463463374607431768211456) : bits .and .u64 (hiN s / 2 ^ (i - 64)) 1 = ((bitN s i : Nat) : Int) := by
  have e : hiN s / 2 ^ (i - 64) = ((s / 18446744073709551616 / 2 ^ (i - 64) : Nat) : Int) := by unfold hiN; simp
  rw [e, and_one_u64 _ (Nat.lt_of_le_of_lt (Nat.div_le_self _ _) (by omega)), bit_high s i hi]
theorem bit_lo_word (s i : Nat) (hi : i < 64) : bits .and .u64 (loN s / 2 ^ i) 1 = ((bitN s i : Nat) : Int) := by
  have e : loN s / 2 ^ i = ((s % 18446744073709551616 / 2 ^ i : Nat) : Int) := by unfold loN; simp
  rw [e, and_one_u64 _ (Nat.lt_of_le_of_lt (Nat.div_le_self _ _) (by omega)), bit_low s i hi]
theorem pow_word (i : Nat) (hi : i < 64) : IntKind.u64.wrap (2 ^ i) = ((2 ^ i : Nat) : Int) := by
  have h := pow_small i hi
  have e : ((2 : Int) ^ i) = ((2 ^ i : Nat) : Int) := by simp
  rw [e, IntKind.wrap_u64]
  generalize (2 : Nat) ^ i = x at h ⊢
  omega
set_option maxRecDepth 100000 in
set_option maxHeartbeats 4000000 in
theorem over_any (s t : Nat) (hs : s < 340282366920938463463374607431768211456) (ht0 : 0 < t) (ht : t ≤ 170141183460469231731687303715884105728) (w : World) :
    Calls Try.prog 107 #[szV s, szV t] w fun e w' => e = .returned (.tuple #[szV (s / t), szV (s % t)]) ∧ Below w.heap.size w w' := by
  have HE := Lib.hid (ov_end s t)
  obtain ⟨q0, r0⟩ := ov_start s t hs
  have HQ := Lib.hid q0
  have HR := Lib.hid r0
  have HS := Lib.hid hs
  clear q0 r0
  unfold szV
  go_enter Try.func107, Try.ntmps107
  go_upto_region 2 with fail
  have HO := Lib.hid (OvR.made w s t)
  generalize ((((((w.alloc (.cells #[.int .u64 (hiN s), .int .u64 (loN s)] 114)).alloc (.cells #[.int .u64 (hiN t), .int .u64 (loN t)] 114)).alloc (.cells #[.int .u64 0, .int .u64 0] 114)).alloc (.cells #[.int .u64 0, .int .u64 0] 114)).alloc (.cells #[.int .u64 0, .int .u64 0] 114)).alloc (.cells #[.int .u64 0, .int .u64 0] 114)) = w1 at *
  obtain ⟨gr, hgr⟩ : ∃ g, g = w.heap.size + 1 + 1 + 1 + 1 + 1 := ⟨_, rfl⟩
  rw [← hgr] at HO ⊢
  obtain ⟨gq, hgq⟩ : ∃ g, g = w.heap.size + 1 + 1 + 1 + 1 := ⟨_, rfl⟩
  rw [← hgq] at HO ⊢
  obtain ⟨g1, hg1⟩ : ∃ g, g = w.heap.size + 1 + 1 + 1 := ⟨_, rfl⟩
  rw [← hg1] at HO ⊢
  obtain ⟨g0, hg0⟩ : ∃ g, g = w.heap.size + 1 + 1 := ⟨_, rfl⟩
  rw [← hg0] at HO ⊢
  obtain ⟨gt, hgt⟩ : ∃ g, g = w.heap.size + 1 := ⟨_, rfl⟩
  rw [← hgt] at HO ⊢
  obtain ⟨gs, hgs⟩ : ∃ g, g = w.heap.size := ⟨_, rfl⟩
  clear hgr hgq hg1 hg0 hgt
  go_wp2
  go_loopg [8] 128 (fun g v wr => ∃ j : Nat, v = .int .i64 ((j : Int) - 1) ∧ Hid (OvR w gt g0 g1 gq gr s t (ovQ s t j) (ovR s t j) wr) ∧ Hid (j ≤ 128 ∧ g = j))
  case atStart => exact ⟨128, by simp, by rw [HQ.out, HR.out]; exact HO.out, by omega, rfl⟩
  case round =>
    obtain ⟨j, rfl, HV, HJ⟩ := hrel
    by_cases hj : 0 < j
    · obtain ⟨i, rfl⟩ : ∃ i, j = i + 1 := ⟨j - 1, by omega⟩
      have hji : 0 ≤ ((i + 1 : Nat) : Int) - 1 := by omega
      rw [show ((i + 1 : Nat) : Int) - 1 = (i : Int) by omega] at hji ⊢
      have hi127 : i < 128 := by have := HJ.out.1; omega
      have hrt : ovR s t (i + 1) < t := Nat.mod_lt _ ht0
      obtain ⟨hst1, hst2⟩ := ov_step s t i ht0
      have hqle := ov_le s t i
      have hq1 : ovQ s t (i + 1) = s / 2 ^ (i + 1) / t * 2 ^ (i + 1) := rfl
      obtain ⟨r, hr⟩ : ∃ r, r = ovR s t (i + 1) := ⟨_, rfl⟩
      rw [← hr] at HV hrt hst1 hst2
      have HST := Lib.hid (And.intro hst1 hst2)
      have HQL := Lib.hid (And.intro hqle hq1)
      clear hst1 hst2 hqle hq1 hr
      have hb2 : bitN s i < 2 := Nat.mod_lt _ (by omega)
      obtain ⟨lb1, lb2⟩ := low_bit r (bitN s i) hb2
      obtain ⟨k1, k2, k3, k4⟩ := cell_two HV.out.hr
      have e1 := shl_hi r (by omega)
      have e2 : IntKind.u64.wrap (hiN r * 2) = hiN r * 2 := by rw [IntKind.wrap_u64]; unfold hiN; omega
      have e3 : IntKind.u64.wrap (loN r * 2) = loN (2 * r) := by rw [IntKind.wrap_u64]; exact shl_lo r
      have HLB := Lib.hid (And.intro lb1 lb2)
      clear lb1 lb2
      by_cases h64 : 64 ≤ i
      · have dd : decide (63 < (i : Int)) = true := decide_eq_true (by omega)
        have dm : 63 < (i : Int) := by omega
        have pn : ((i : Int) - 64).toNat = i - 64 := by omega
        have pw : IntKind.i64.wrap ((i : Int) - 64) = (i : Int) - 64 := IntWalk.i64_in _ (by omega)
        have pa : 0 ≤ (i : Int) - 64 := by omega
        have pb : (i : Int) - 64 ≤ 64 := by omega
        obtain ⟨pc, pd⟩ := lo_range s
        have eb := bit_hi_word s i h64 hs
        go_upto_region 6 with (refine wpList_store_row rfl 114 _ _ rfl gr _ rfl rfl 114 _ HV.out.hr (by kernel_rfl) rfl (by kernel_rfl) ?_)
        have HV2 := Lib.hid (HV.out.setR (2 * r))
        generalize wr.setRow gr #[.int .u64 (hiN (2 * r)), .int .u64 (loN (2 * r))] = w2 at *
        clear k1 k2 k3 k4 e1 e2 e3 HV
        obtain ⟨k1, k2, _, _⟩ := cell_two HV2.out.hs
        obtain ⟨k3, k4, k5, k6⟩ := cell_two HV2.out.hr
        have lb1 := HLB.out.1
        go_upto_region 10 with fail
        have HV3 := Lib.hid (HV2.out.setRlo (2 * r + bitN s i) _ HLB.out.2 rfl)
        generalize w2.setCell ⟨gr, 1, none⟩ (.int .u64 (loN (2 * r + bitN s i))) = w3 at *
        clear k1 k2 k3 k4 k5 k6 lb1 HLB HV2 eb
        obtain ⟨R, hR⟩ : ∃ R, R = 2 * r + bitN s i := ⟨_, rfl⟩
        rw [← hR] at HV3 HST
        have hR2 : R < 340282366920938463463374607431768211456 := by omega
        clear hR
        by_cases hlt : R < t
        · obtain ⟨n1, n2⟩ := HST.out.1 hlt
          have HV4 := Lib.hid (show OvR w gt g0 g1 gq gr s t (ovQ s t i) (ovR s t i) w3 by rw [n1, n2]; exact HV3.out)
          have HCM := Lib.hid (show cmpN R t = -1 by unfold cmpN; rw [if_pos hlt])
          clear n1 n2 hlt
          go_wp2_with (first | (refine wpList_load_row rfl 114 _ rfl gr rfl 114 _ (0, 0) _ HV3.out.hr Try.underlying114 rfl (by kernel_rfl) ?_) | (refine wpList_load_row rfl 114 _ rfl gt rfl 114 _ (0, 0) _ HV3.out.ht Try.underlying114 rfl (by kernel_rfl) ?_))
          refine (scmp_any R t _).mono ?_
          rintro e w4 ⟨rfl, hb⟩
          rw [HCM.out]
          have HV5 := Lib.hid (HV4.out.step hb)
          clear hb HV4 HV3
          go_wp2_with fail
          go_roundg i
          case measure => have h := HJ.out; omega
          case rel => exact ⟨i, by go_num, HV5.out, by omega, rfl⟩
        · obtain ⟨n1, n2⟩ := HST.out.2 hlt
          have HN := Lib.hid (And.intro n1 n2)
          have HCM := Lib.hid (show 0 ≤ cmpN R t by unfold cmpN; rw [if_neg hlt]; split <;> decide)
          clear n1 n2
          go_wp2_with (first | (refine wpList_load_row rfl 114 _ rfl gr rfl 114 _ (0, 0) _ HV3.out.hr Try.underlying114 rfl (by kernel_rfl) ?_) | (refine wpList_load_row rfl 114 _ rfl gt rfl 114 _ (0, 0) _ HV3.out.ht Try.underlying114 rfl (by kernel_rfl) ?_))
          refine (scmp_any R t _).mono ?_
          rintro e w4 ⟨rfl, hb⟩
          have HV4 := Lib.hid (HV3.out.step hb)
          clear hb HV3
          have hcm := HCM.out
          clear HCM
          generalize cmpN R t = cm at *
          have d2 : decide (0 ≤ cm) = true := decide_eq_true hcm
          go_wp2_with (first | (refine wpList_load_row rfl 114 _ rfl gr rfl 114 _ (0, 0) _ HV4.out.hr Try.underlying114 rfl (by kernel_rfl) ?_) | (refine wpList_load_row rfl 114 _ rfl gt rfl 114 _ (0, 0) _ HV4.out.ht Try.underlying114 rfl (by kernel_rfl) ?_))
          refine (sless_any R t (by omega) hR2 _).mono ?_
          rintro e w5 ⟨rfl, hb⟩
          have HV5 := Lib.hid (HV4.out.step hb)
          clear hb HV4 hcm d2
          rw [show szV (R - t) = .agg #[.int .u64 (hiN (R - t)), .int .u64 (loN (R - t))] from rfl]
          go_upto_region 13 with (refine wpList_store_row rfl 114 _ _ rfl gr _ rfl rfl 114 _ HV5.out.hr (by kernel_rfl) rfl (by kernel_rfl) ?_)
          have HV6 := Lib.hid (HV5.out.setR (R - t))
          generalize w5.setRow gr #[.int .u64 (hiN (R - t)), .int .u64 (loN (R - t))] = w6 at *
          clear HV5
          obtain ⟨sh1, sh2⟩ := set_hi (s / 2 ^ (i + 1) / t) i h64 hi127 (by rw [← HQL.out.2, ← HN.out.2]; exact Nat.lt_of_le_of_lt HQL.out.1 HS.out)
          rw [← HQL.out.2] at sh1 sh2
          have pw2 := pow_word (i - 64) (by omega)
          have pe : ((2 ^ (i - 64) : Nat) : Int) = (2 : Int) ^ (i - 64) := by simp
          rw [pe] at pw2 sh1
          obtain ⟨q, hq⟩ : ∃ q, q = ovQ s t (i + 1) := ⟨_, rfl⟩
          rw [← hq] at HV6 HN sh1 sh2
          clear hq
          obtain ⟨k1, k2, k3, k4⟩ := cell_two HV6.out.hq
          have HV7 := Lib.hid (HV6.out.setQhi _ _ sh2 rfl)
          have HV8 := Lib.hid (show OvR w gt g0 g1 gq gr s t (ovQ s t i) (ovR s t i) _ by rw [HN.out.1, HN.out.2]; exact HV7.out)
          clear sh2 HV7 HV6 HN
          go_region
          go_wp2
          go_roundg i
          case measure => have h := HJ.out; omega
          case rel => exact ⟨i, by go_num, HV8.out.drew, by omega, rfl⟩
      · have dd : decide (63 < (i : Int)) = false := decide_eq_false (by omega)
        have dm : ¬ 63 < (i : Int) := by omega
        have pa : 0 ≤ (i : Int) := by omega
        have pb : (i : Int) ≤ 64 := by omega
        have eb := bit_lo_word s i (by omega)
        go_upto_region 6 with (refine wpList_store_row rfl 114 _ _ rfl gr _ rfl rfl 114 _ HV.out.hr (by kernel_rfl) rfl (by kernel_rfl) ?_)
        have HV2 := Lib.hid (HV.out.setR (2 * r))
        generalize wr.setRow gr #[.int .u64 (hiN (2 * r)), .int .u64 (loN (2 * r))] = w2 at *
        clear k1 k2 k3 k4 e1 e2 e3 HV
        obtain ⟨k1, k2, _, _⟩ := cell_two HV2.out.hs
        obtain ⟨k3, k4, k5, k6⟩ := cell_two HV2.out.hr
        have lb1 := HLB.out.1
        go_upto_region 10 with fail
        have HV3 := Lib.hid (HV2.out.setRlo (2 * r + bitN s i) _ HLB.out.2 rfl)
        generalize w2.setCell ⟨gr, 1, none⟩ (.int .u64 (loN (2 * r + bitN s i))) = w3 at *
        clear k1 k2 k3 k4 k5 k6 lb1 HLB HV2 eb
        obtain ⟨R, hR⟩ : ∃ R, R = 2 * r + bitN s i := ⟨_, rfl⟩
        rw [← hR] at HV3 HST
        have hR2 : R < 340282366920938463463374607431768211456 := by omega
        clear hR
        by_cases hlt : R < t
        · obtain ⟨n1, n2⟩ := HST.out.1 hlt
          have HV4 := Lib.hid (show OvR w gt g0 g1 gq gr s t (ovQ s t i) (ovR s t i) w3 by rw [n1, n2]; exact HV3.out)
          have HCM := Lib.hid (show cmpN R t = -1 by unfold cmpN; rw [if_pos hlt])
          clear n1 n2 hlt
          go_wp2_with (first | (refine wpList_load_row rfl 114 _ rfl gr rfl 114 _ (0, 0) _ HV3.out.hr Try.underlying114 rfl (by kernel_rfl) ?_) | (refine wpList_load_row rfl 114 _ rfl gt rfl 114 _ (0, 0) _ HV3.out.ht Try.underlying114 rfl (by kernel_rfl) ?_))
          refine (scmp_any R t _).mono ?_
          rintro e w4 ⟨rfl, hb⟩
          rw [HCM.out]
          have HV5 := Lib.hid (HV4.out.step hb)
          clear hb HV4 HV3
          go_wp2_with fail
          go_roundg i
          case measure => have h := HJ.out; omega
          case rel => exact ⟨i, by go_num, HV5.out, by omega, rfl⟩
        · obtain ⟨n1, n2⟩ := HST.out.2 hlt
          have HN := Lib.hid (And.intro n1 n2)
          have HCM := Lib.hid (show 0 ≤ cmpN R t by unfold cmpN; rw [if_neg hlt]; split <;> decide)
          clear n1 n2
          go_wp2_with (first | (refine wpList_load_row rfl 114 _ rfl gr rfl 114 _ (0, 0) _ HV3.out.hr Try.underlying114 rfl (by kernel_rfl) ?_) | (refine wpList_load_row rfl 114 _ rfl gt rfl 114 _ (0, 0) _ HV3.out.ht Try.underlying114 rfl (by kernel_rfl) ?_))
          refine (scmp_any R t _).mono ?_
          rintro e w4 ⟨rfl, hb⟩
          have HV4 := Lib.hid (HV3.out.step hb)
          clear hb HV3
          have hcm := HCM.out
          clear HCM
          generalize cmpN R t = cm at *
          have d2 : decide (0 ≤ cm) = true := decide_eq_true hcm
          go_wp2_with (first | (refine wpList_load_row rfl 114 _ rfl gr rfl 114 _ (0, 0) _ HV4.out.hr Try.underlying114 rfl (by kernel_rfl) ?_) | (refine wpList_load_row rfl 114 _ rfl gt rfl 114 _ (0, 0) _ HV4.out.ht Try.underlying114 rfl (by kernel_rfl) ?_))
          refine (sless_any R t (by omega) hR2 _).mono ?_
          rintro e w5 ⟨rfl, hb⟩
          have HV5 := Lib.hid (HV4.out.step hb)
          clear hb HV4 hcm d2
          rw [show szV (R - t) = .agg #[.int .u64 (hiN (R - t)), .int .u64 (loN (R - t))] from rfl]
          go_upto_region 14 with (refine wpList_store_row rfl 114 _ _ rfl gr _ rfl rfl 114 _ HV5.out.hr (by kernel_rfl) rfl (by kernel_rfl) ?_)
          have HV6 := Lib.hid (HV5.out.setR (R - t))
          generalize w5.setRow gr #[.int .u64 (hiN (R - t)), .int .u64 (loN (R - t))] = w6 at *
          clear HV5
          obtain ⟨sh1, sh2⟩ := set_lo (s / 2 ^ (i + 1) / t) i (by omega)
          rw [← HQL.out.2] at sh1 sh2
          have pw2 := pow_word i (by omega)
          have pe : ((2 ^ i : Nat) : Int) = (2 : Int) ^ i := by simp
          rw [pe] at pw2 sh1
          obtain ⟨q, hq⟩ : ∃ q, q = ovQ s t (i + 1) := ⟨_, rfl⟩
          rw [← hq] at HV6 HN sh1 sh2
          clear hq
          obtain ⟨k1, k2, k3, k4⟩ := cell_two HV6.out.hq
          have HV7 := Lib.hid (HV6.out.setQlo _ _ sh2 rfl)
          have HV8 := Lib.hid (show OvR w gt g0 g1 gq gr s t (ovQ s t i) (ovR s t i) _ by rw [HN.out.1, HN.out.2]; exact HV7.out)
          clear sh2 HV7 HV6 HN
          go_region
          go_wp2
          go_roundg i
          case measure => have h := HJ.out; omega
          case rel => exact ⟨i, by go_num, HV8.out.drew, by omega, rfl⟩
    · obtain rfl : j = 0 := by omega
      have hji : ¬ (0 : Int) ≤ -1 := by omega
      rw [show ((0 : Nat) : Int) - 1 = -1 from rfl]
      rw [HE.out.1, HE.out.2] at HV
      go_upto_region 15 with fail
      obtain ⟨hb, hne, _, _, h0, h1, hq, hr⟩ := HV.out
      obtain ⟨q1, q2, q3, q4⟩ := cell_two hq
      obtain ⟨r1, r2, r3, r4⟩ := cell_two hr
      obtain ⟨a1, a2, a3, a4⟩ := cell_two h0
      obtain ⟨b1, b2, b3, b4⟩ := cell_two h1
      clear hq hr
      have HB := Lib.hid hb
      have H0 := Lib.hid h0
      have H1 := Lib.hid h1
      have n1 : g0 ≠ g1 := by omega
      have n2 : g0 ≠ gq := by omega
      have n3 : g0 ≠ gr := by omega
      have n4 : g1 ≠ gq := by omega
      have n5 : g1 ≠ gr := by omega
      clear hb h0 h1
      go_region
      obtain ⟨W, hW⟩ : ∃ W, W = ((((wr.setCell ⟨g0, 0, none⟩ (.int .u64 (hiN (s / t)))).setCell ⟨g0, 1, none⟩ (.int .u64 (loN (s / t)))).setCell ⟨g1, 0, none⟩ (.int .u64 (hiN (s % t)))).setCell ⟨g1, 1, none⟩ (.int .u64 (loN (s % t)))).drew := ⟨_, rfl⟩
      rw [← hW]
      have f0 : W.heap[g0]? = some (.cells #[.int .u64 (hiN (s / t)), .int .u64 (loN (s / t))] 114) := by
        rw [hW]
        exact heap_other _ (heap_other _ (cell_set (cell_set H0.out (.int .u64 (hiN (s / t)))).1 (.int .u64 (loN (s / t)))).2 n1) n1
      have f1 : W.heap[g1]? = some (.cells #[.int .u64 (hiN (s % t)), .int .u64 (loN (s % t))] 114) := by
        rw [hW]
        exact (cell_set (cell_set (heap_other _ (heap_other _ H1.out (Ne.symm n1)) (Ne.symm n1)) (.int .u64 (hiN (s % t)))).1 (.int .u64 (loN (s % t)))).2
      have HF := Lib.hid (show Below w.heap.size w W by
        rw [hW]
        exact Below.drew ((((HB.out.setCell (p := ⟨g0, 0, none⟩) (by show w.heap.size ≤ g0; omega) _).setCell (p := ⟨g0, 1, none⟩) (by show w.heap.size ≤ g0; omega) _).setCell (p := ⟨g1, 0, none⟩) (by show w.heap.size ≤ g1; omega) _).setCell (p := ⟨g1, 1, none⟩) (by show w.heap.size ≤ g1; omega) _))
      have HF0 := Lib.hid f0
      have HF1 := Lib.hid f1
      clear hW q1 q2 q3 q4 r1 r2 r3 r4 a1 a2 a3 a4 b1 b2 b3 b4 f0 f1
      go_wp2
      refine bodyPost_ret (results_cells2 (fn := Try.f107) rfl _ _ g0 g1 _ _ _ _ _ _ rfl rfl HF0.out HF1.out Try.underlying114 rfl (by kernel_rfl) (by kernel_rfl)) rfl ?_
      exact ⟨rfl, HF.out⟩

end Go.Proofs.Ytfegongaflekiaa

/- The greatest divisor, as rat and the document find it. -/
namespace Go.Proofs.Ytfegongaflekiaa
open Go Go.RowKit
set_option linter.unusedVariables false
set_option linter.unusedSimpArgs false

/-- A number of two words in a block. -/
def Blk (T : TypeId) (g n : Nat) (w : World) : Prop := w.heap[g]? = some (.cells #[.int .u64 (hiN n), .int .u64 (loN n)] T)
theorem Blk.lt {T : TypeId} {g n : Nat} {w : World} (h : Blk T g n w) : g < w.heap.size := heap_lt2 h
theorem Blk.below {T : TypeId} {g n : Nat} {w w' : World} (h : Blk T g n w) (hb : Below w.heap.size w w') : Blk T g n w' := (hb.block _ h.lt).trans h
def zr2 (T : TypeId) : Obj := .cells #[.int .u64 0, .int .u64 0] T
theorem two_fresh (w : World) (T : TypeId) : ((w.alloc (.cells #[.int .u64 0, .int .u64 0] T)).alloc (.cells #[.int .u64 0, .int .u64 0] T)).heap[w.heap.size]? = some (.cells #[.int .u64 0, .int .u64 0] T) ∧
    ((w.alloc (.cells #[.int .u64 0, .int .u64 0] T)).alloc (.cells #[.int .u64 0, .int .u64 0] T)).heap[w.heap.size + 1]? = some (.cells #[.int .u64 0, .int .u64 0] T) := by
  constructor
  · rw [heap_alloc_old _ _ (by simp)]; exact heap_alloc_new _ _
  · have h := heap_alloc_new (w.alloc (.cells #[.int .u64 0, .int .u64 0] T)) (.cells #[.int .u64 0, .int .u64 0] T)
    rw [show (w.alloc (.cells #[.int .u64 0, .int .u64 0] T)).heap.size = w.heap.size + 1 by simp] at h
    exact h
theorem second_fresh {w wr : World} {T : TypeId} (c : Array Value) (h : wr.heap[w.heap.size + 1]? = some (.cells #[.int .u64 0, .int .u64 0] T)) :
    (wr.setRow w.heap.size c).heap[w.heap.size + 1]? = some (.cells #[.int .u64 0, .int .u64 0] T) := row_other _ h (by omega)
theorem pair_stored (w : World) (T : TypeId) (q r : Nat) :
    Below w.heap.size w ((((w.alloc (.cells #[.int .u64 0, .int .u64 0] T)).alloc (.cells #[.int .u64 0, .int .u64 0] T)).setRow w.heap.size #[.int .u64 (hiN q), .int .u64 (loN q)]).setRow (w.heap.size + 1) #[.int .u64 (hiN r), .int .u64 (loN r)]) ∧
    Blk T w.heap.size q ((((w.alloc (.cells #[.int .u64 0, .int .u64 0] T)).alloc (.cells #[.int .u64 0, .int .u64 0] T)).setRow w.heap.size #[.int .u64 (hiN q), .int .u64 (loN q)]).setRow (w.heap.size + 1) #[.int .u64 (hiN r), .int .u64 (loN r)]) ∧
    Blk T (w.heap.size + 1) r ((((w.alloc (.cells #[.int .u64 0, .int .u64 0] T)).alloc (.cells #[.int .u64 0, .int .u64 0] T)).setRow w.heap.size #[.int .u64 (hiN q), .int .u64 (loN q)]).setRow (w.heap.size + 1) #[.int .u64 (hiN r), .int .u64 (loN r)]) := by
  obtain ⟨h1, h2⟩ := two_fresh w T
  exact ⟨below_row (below_row (below_two w _ _) (Nat.le_refl _) _) (Nat.le_succ _) _, row_other _ (setRow_heap _ _ _ _ _ _ h1) (by omega), setRow_heap _ _ _ _ _ _ (second_fresh _ h2)⟩
/-- The blocks while a greatest divisor is looked for. -/
structure CmR (T : TypeId) (w0 : World) (gb g0 a b : Nat) (wr : World) : Prop where
  below : Below w0.heap.size w0 wr
  ne : w0.heap.size < gb ∧ gb < g0
  ha : Blk T w0.heap.size a wr
  hb : Blk T gb b wr
  h0 : wr.heap[g0]? = some (.cells #[.int .u64 0, .int .u64 0] T)
section
variable {T : TypeId} {w0 wr w' : World} {gb g0 a b : Nat}
theorem CmR.step (h : CmR T w0 gb g0 a b wr) (hb : Below wr.heap.size wr w') : CmR T w0 gb g0 a b w' :=
  ⟨h.below.trans (hb.mono h.below.size), h.ne, h.ha.below hb, h.hb.below hb, (hb.block _ (heap_lt2 h.h0)).trans h.h0⟩
theorem CmR.setA (h : CmR T w0 gb g0 a b wr) (x : Nat) : CmR T w0 gb g0 x b (wr.setRow w0.heap.size #[.int .u64 (hiN x), .int .u64 (loN x)]) := by
  have hn := h.ne
  exact ⟨below_row h.below (Nat.le_refl _) _, hn, setRow_heap _ _ _ _ _ _ h.ha, row_other _ h.hb (by omega), row_other _ h.h0 (by omega)⟩
theorem CmR.setB (h : CmR T w0 gb g0 a b wr) (x : Nat) : CmR T w0 gb g0 a x (wr.setRow gb #[.int .u64 (hiN x), .int .u64 (loN x)]) := by
  have hn := h.ne
  exact ⟨below_row h.below (by omega) _, hn, row_other _ h.ha (by omega), setRow_heap _ _ _ _ _ _ h.hb, row_other _ h.h0 (by omega)⟩
theorem CmR.cells (h : CmR T w0 gb g0 a b wr) (x y : Nat) : CmR T w0 gb g0 x y ((((wr.setCell ⟨w0.heap.size, 0, none⟩ (.int .u64 (hiN x))).setCell ⟨w0.heap.size, 1, none⟩ (.int .u64 (loN x))).setCell ⟨gb, 0, none⟩ (.int .u64 (hiN y))).setCell ⟨gb, 1, none⟩ (.int .u64 (loN y))).drew := by
  have hn := h.ne
  refine ⟨Below.drew ((((h.below.setCell (p := ⟨w0.heap.size, 0, none⟩) (Nat.le_refl _) _).setCell (p := ⟨w0.heap.size, 1, none⟩) (Nat.le_refl _) _).setCell (p := ⟨gb, 0, none⟩) (by show w0.heap.size ≤ gb; omega) _).setCell (p := ⟨gb, 1, none⟩) (by show w0.heap.size ≤ gb; omega) _), hn, ?_, ?_, ?_⟩
  · exact heap_other _ (heap_other _ (cell_set (cell_set h.ha (.int .u64 (hiN x))).1 (.int .u64 (loN x))).2 (by omega)) (by omega)
  · exact (cell_set (cell_set (heap_other _ (heap_other _ h.hb (by omega)) (by omega)) (.int .u64 (hiN y))).1 (.int .u64 (loN y))).2
  · exact heap_other _ (heap_other _ (heap_other _ (heap_other _ h.h0 (by omega)) (by omega)) (by omega)) (by omega)
theorem CmR.cells' (h : CmR T w0 gb g0 a b wr) (x y : Nat) : CmR T w0 gb g0 x y ((((wr.setCell ⟨gb, 0, none⟩ (.int .u64 (hiN y))).setCell ⟨gb, 1, none⟩ (.int .u64 (loN y))).setCell ⟨w0.heap.size, 0, none⟩ (.int .u64 (hiN x))).setCell ⟨w0.heap.size, 1, none⟩ (.int .u64 (loN x))).drew := by
  have hn := h.ne
  refine ⟨Below.drew ((((h.below.setCell (p := ⟨gb, 0, none⟩) (by show w0.heap.size ≤ gb; omega) _).setCell (p := ⟨gb, 1, none⟩) (by show w0.heap.size ≤ gb; omega) _).setCell (p := ⟨w0.heap.size, 0, none⟩) (Nat.le_refl _) _).setCell (p := ⟨w0.heap.size, 1, none⟩) (Nat.le_refl _) _), hn, ?_, ?_, ?_⟩
  · exact (cell_set (cell_set (heap_other _ (heap_other _ h.ha (by omega)) (by omega)) (.int .u64 (hiN x))).1 (.int .u64 (loN x))).2
  · exact heap_other _ (heap_other _ (cell_set (cell_set h.hb (.int .u64 (hiN y))).1 (.int .u64 (loN y))).2 (by omega)) (by omega)
  · exact heap_other _ (heap_other _ (heap_other _ (heap_other _ h.h0 (by omega)) (by omega)) (by omega)) (by omega)
end
theorem CmR.made (T : TypeId) (w : World) (a b : Nat) : CmR T w (w.heap.size + 1) (w.heap.size + 1 + 1) a b
    (((w.alloc (.cells #[.int .u64 (hiN a), .int .u64 (loN a)] T)).alloc (.cells #[.int .u64 (hiN b), .int .u64 (loN b)] T)).alloc (.cells #[.int .u64 0, .int .u64 0] T)) := by
  have hz : ∀ (w : World) (o : Obj), (w.alloc o).heap.size = w.heap.size + 1 := fun w o => by simp
  refine ⟨below_three _ _ _ _, by omega, ?_, ?_, ?_⟩
  · show _ = _
    iterate 2 rw [heap_alloc_old _ _ (by simp only [hz]; omega)]
    exact heap_alloc_new _ _
  · show _ = _
    rw [heap_alloc_old _ _ (by simp only [hz]; omega)]
    rw [← hz w (.cells #[.int .u64 (hiN a), .int .u64 (loN a)] T)]
    exact heap_alloc_new _ _
  · have h := heap_alloc_new ((w.alloc (.cells #[.int .u64 (hiN a), .int .u64 (loN a)] T)).alloc (.cells #[.int .u64 (hiN b), .int .u64 (loN b)] T)) (.cells #[.int .u64 0, .int .u64 0] T)
    simp only [hz] at h
    exact h

set_option maxRecDepth 100000 in
set_option maxHeartbeats 4000000 in
theorem common_any (a b : Nat) (ha : a ≤ 170141183460469231731687303715884105728) (hb : b ≤ 170141183460469231731687303715884105728) (w : World) :
    Calls Try.prog 106 #[szV a, szV b] w fun e w' => e = .returned (szV (Nat.gcd a b)) ∧ Below w.heap.size w w' := by
  obtain ⟨G, hG⟩ : ∃ G, G = Nat.gcd a b := ⟨_, rfl⟩
  rw [← hG]
  have HG := Lib.hid hG
  have HA := Lib.hid (And.intro ha hb)
  clear ha hb hG
  unfold szV
  go_enter Try.func106, Try.ntmps106
  go_upto_block 0 with fail
  have HO := Lib.hid (CmR.made 114 w a b)
  generalize (((w.alloc (.cells #[.int .u64 (hiN a), .int .u64 (loN a)] 114)).alloc (.cells #[.int .u64 (hiN b), .int .u64 (loN b)] 114)).alloc (.cells #[.int .u64 0, .int .u64 0] 114)) = w1 at *
  obtain ⟨g0, hg0⟩ : ∃ g, g = w.heap.size + 1 + 1 := ⟨_, rfl⟩
  rw [← hg0] at HO ⊢
  obtain ⟨gb, hgb⟩ : ∃ g, g = w.heap.size + 1 := ⟨_, rfl⟩
  rw [← hgb] at HO ⊢
  clear hg0 hgb
  go_wp2
  go_loopg [5] b (fun g v wr => ∃ x y : Nat, Hid (CmR 114 w gb g0 x y wr) ∧ Hid (g = y ∧ G = Nat.gcd x y ∧ x ≤ 170141183460469231731687303715884105728 ∧ y ≤ 170141183460469231731687303715884105728))
  case atStart => exact ⟨a, b, HO.out, rfl, HG.out, HA.out.1, HA.out.2⟩
  case round =>
    obtain ⟨x, y, HV, HP⟩ := hrel
    go_wp2_with (refine wpList_load_row rfl 114 _ rfl gb rfl 114 _ (0, 0) _ HV.out.hb Try.underlying114 rfl (by kernel_rfl) ?_)
    refine (szero_any y _).mono ?_
    rintro e w2 ⟨rfl, hb2⟩
    have HV2 := Lib.hid (HV.out.step hb2)
    clear hb2 HV
    by_cases hy : y = 0
    · rw [decide_eq_true hy]
      have h := HP.out.2.1
      rw [hy, Nat.gcd_zero_right] at h
      subst h
      clear hy
      go_wp2_with (first | (refine wpList_load_row rfl 114 _ rfl w.heap.size rfl 114 _ (0, 0) _ HV2.out.ha Try.underlying114 rfl (by kernel_rfl) ?_) | (refine wpList_store_row rfl 114 _ _ rfl g0 _ rfl rfl 114 _ HV2.out.h0 (by kernel_rfl) rfl (by kernel_rfl) ?_))
      refine bodyPost_ret (results_cell_row (fn := Try.f106) rfl _ _ g0 _ _ _ _ rfl (setRow_heap _ _ _ _ _ _ HV2.out.h0) Try.underlying114 rfl (by kernel_rfl)) rfl ?_
      exact ⟨rfl, below_row HV2.out.below (by have := HV2.out.ne; omega) _⟩
    · rw [decide_eq_false hy]
      go_wp2_with (first | (refine wpList_load_row rfl 114 _ rfl w.heap.size rfl 114 _ (0, 0) _ HV2.out.ha Try.underlying114 rfl (by kernel_rfl) ?_) | (refine wpList_load_row rfl 114 _ rfl gb rfl 114 _ (0, 0) _ HV2.out.hb Try.underlying114 rfl (by kernel_rfl) ?_))
      refine (over_any x y (by have h := HP.out; omega) (by omega) (by have h := HP.out; omega) _).mono ?_
      rintro e w3 ⟨rfl, hb2⟩
      have HV3 := Lib.hid (HV2.out.step hb2)
      clear hb2 HV2
      rw [show szV (x / y) = .agg #[.int .u64 (hiN (x / y)), .int .u64 (loN (x / y))] from rfl, show szV (x % y) = .agg #[.int .u64 (hiN (x % y)), .int .u64 (loN (x % y))] from rfl]
      have HZ := Lib.hid (two_fresh w3 114)
      go_upto_region 3 with (first | (refine wpList_store_row rfl 114 _ _ rfl w3.heap.size _ rfl rfl 114 _ HZ.out.1 (by kernel_rfl) rfl (by kernel_rfl) ?_) | (refine wpList_store_row rfl 114 _ _ rfl (w3.heap.size + 1) _ rfl rfl 114 _ (second_fresh _ HZ.out.2) (by kernel_rfl) rfl (by kernel_rfl) ?_))
      obtain ⟨pb, p1, p2⟩ := pair_stored w3 114 (x / y) (x % y)
      have HV4 := Lib.hid (HV3.out.step pb)
      have HR := Lib.hid p2
      have hlt : gb < w3.heap.size := HV3.out.hb.lt
      have hla : w.heap.size < w3.heap.size := HV3.out.ha.lt
      clear pb p1 p2 HZ HV3
      generalize (((w3.alloc (.cells #[.int .u64 0, .int .u64 0] 114)).alloc (.cells #[.int .u64 0, .int .u64 0] 114)).setRow w3.heap.size #[.int .u64 (hiN (x / y)), .int .u64 (loN (x / y))]).setRow (w3.heap.size + 1) #[.int .u64 (hiN (x % y)), .int .u64 (loN (x % y))] = w4 at *
      have hne := HV4.out.ne
      obtain ⟨gr, hgr⟩ : ∃ g, g = w3.heap.size + 1 := ⟨_, rfl⟩
      rw [← hgr] at HR ⊢
      have n1 : w.heap.size ≠ gb := by omega
      have n2 : w.heap.size ≠ gr := by omega
      have n3 : gb ≠ gr := by omega
      obtain ⟨a1, a2, a3, a4⟩ := cell_two HV4.out.ha
      obtain ⟨b1, b2, b3, b4⟩ := cell_two HV4.out.hb
      obtain ⟨r1, r2, r3, r4⟩ := cell_two HR.out
      have HN := Lib.hid (And.intro (HV4.out.cells y (x % y)) (HV4.out.cells' y (x % y)))
      have HQ := Lib.hid (show G = Nat.gcd y (x % y) ∧ x % y < y from ⟨by rw [HP.out.2.1, Nat.gcd_comm x y, Nat.gcd_rec y x, Nat.gcd_comm], Nat.mod_lt _ (by omega)⟩)
      clear hgr hne hlt hla HV4 HR
      go_region
      all_goals
        clear n1 n2 n3 a1 a2 a3 a4 b1 b2 b3 b4 r1 r2 r3 r4
        go_wp2
        go_roundg (x % y)
        case measure => have h := HP.out; have h2 := HQ.out; omega
        case rel => exact ⟨y, x % y, by first | exact HN.out.1 | exact HN.out.2, rfl, HQ.out.1, by have h := HP.out; omega, by have h := HP.out; have h2 := HQ.out; omega⟩

end Go.Proofs.Ytfegongaflekiaa

/- math/bits.Mul64, walked over this program: the product of two words. -/
namespace Go.Proofs.Ytfegongaflekiaa
open Go Go.RowKit
set_option linter.unusedVariables false
set_option linter.unusedSimpArgs false

set_option maxRecDepth 100000 in
set_option maxHeartbeats 1000000 in
theorem mul64_any (x y : Nat) (hx : x < 18446744073709551616) (hy : y < 18446744073709551616) (w : World) :
    Calls Try.prog 109 #[.int .u64 x, .int .u64 y] w fun e w' => e = .returned (.tuple #[.int .u64 ((x * y / 18446744073709551616 : Nat) : Int), .int .u64 ((x * y % 18446744073709551616 : Nat) : Int)]) ∧ w = w' := by
  obtain ⟨bd, bt, bw, hhi⟩ := Lib.mul64_hi x y hx hy
  have ba := Lib.half_mul_le (a := x / 4294967296) (b := y / 4294967296) (by omega) (by omega)
  have bb := Lib.half_mul_le (a := x / 4294967296) (b := y % 4294967296) (by omega) (by omega)
  have bc := Lib.half_mul_le (a := x % 4294967296) (b := y / 4294967296) (by omega) (by omega)
  have ba' : x / 4294967296 * (y / 4294967296) < 18446744073709551616 := by omega
  have bb' : x / 4294967296 * (y % 4294967296) < 18446744073709551616 := by omega
  have bc' : x % 4294967296 * (y / 4294967296) < 18446744073709551616 := by omega
  have bh1 : x / 4294967296 * (y / 4294967296) + (x / 4294967296 * (y % 4294967296) + x % 4294967296 * (y % 4294967296) / 4294967296) / 4294967296 < 18446744073709551616 := by omega
  have bh : x / 4294967296 * (y / 4294967296) + (x / 4294967296 * (y % 4294967296) + x % 4294967296 * (y % 4294967296) / 4294967296) / 4294967296 + ((x / 4294967296 * (y % 4294967296) + x % 4294967296 * (y % 4294967296) / 4294967296) % 4294967296 + x % 4294967296 * (y / 4294967296)) / 4294967296 < 18446744073709551616 := by omega
  go_enter Try.func109, Try.ntmps109
  go_wp2
  simp only [Mul64.maskN x hx, Mul64.maskN y hy, Mul64.divN, Mul64.mulN, Mul64.addN, Mul64.wrapN _ bd, Mul64.wrapN _ bb', Mul64.wrapN _ bt, Mul64.maskN _ bt, Mul64.wrapN _ bc', Mul64.wrapN _ bw, Mul64.wrapN _ ba', Mul64.wrapN _ bh1, Mul64.wrapN _ bh, Mul64.wrapM (x * y)]
  rw [hhi]
  go_ret2
  exact ⟨rfl, rfl⟩

/-- The product of two words that is a word. -/
theorem mul64_low (x y : Nat) (hx : x < 18446744073709551616) (hy : y < 18446744073709551616) (h : x * y < 18446744073709551616) (w : World) :
    Calls Try.prog 109 #[.int .u64 x, .int .u64 y] w fun e w' => e = .returned (.tuple #[.int .u64 0, .int .u64 ((x * y : Nat) : Int)]) ∧ w = w' :=
  (mul64_any x y hx hy w).mono fun e w' ⟨h1, h2⟩ => ⟨by rw [h1, Nat.div_eq_of_lt h, Nat.mod_eq_of_lt h]; rfl, h2⟩

end Go.Proofs.Ytfegongaflekiaa

/- Whole numbers of 128 bits with a sign, as rat reckons with them. -/
namespace Go.Proofs.Ytfegongaflekiaa
open Go Go.RowKit
set_option linter.unusedVariables false
set_option linter.unusedSimpArgs false

def wdV (x : Int) : Value := .agg #[.int .u64 (hiN x.natAbs), .int .u64 (loN x.natAbs), .bool (decide (x < 0))]
def I64 (x : Int) : Prop := -9223372036854775808 ≤ x ∧ x ≤ 9223372036854775807
theorem abs64 {x : Int} (h : I64 x) : x.natAbs ≤ 9223372036854775808 := by obtain ⟨_, _⟩ := h; omega
theorem ofq_is {n : Int} (h : I64 n) : wdV n = .agg #[.int .u64 0, .int .u64 (n.natAbs : Int), .bool (decide (n < 0))] := by
  have h1 := abs64 h
  unfold wdV
  rw [small_hi (by omega), small_lo (by omega)]

set_option maxRecDepth 100000 in
set_option maxHeartbeats 1000000 in
theorem of_any2 (n : Int) (h : I64 n) (w : World) : Calls Try.prog 68 #[.int .i64 n] w fun e w' => e = .returned (.agg #[.int .u64 0, .int .u64 (n.natAbs : Int), .bool (decide (n < 0))]) ∧ Below w.heap.size w w' := by
  obtain ⟨h1, h2⟩ := h
  by_cases hn : n < 0
  · have e1 : decide (n < 0) = true := decide_eq_true hn
    have e2 : IntKind.u64.wrap (-IntKind.u64.wrap n) = (n.natAbs : Int) := by rw [IntKind.wrap_u64, IntKind.wrap_u64]; omega
    rw [e1]
    go_enter Try.func68, Try.ntmps68
    go_wp2
    simp [bodyPost, results, Try.results68, go_sem]
    first | exact below_one w _ | exact ⟨by simp [e2], below_one w _⟩ | exact ⟨by omega, below_one w _⟩
  · have e1 : decide (n < 0) = false := decide_eq_false hn
    have e2 : IntKind.u64.wrap n = (n.natAbs : Int) := by rw [IntKind.wrap_u64]; omega
    rw [e1]
    go_enter Try.func68, Try.ntmps68
    go_wp2
    simp [bodyPost, results, Try.results68, go_sem]
    first | exact below_one w _ | exact ⟨by simp [e2], below_one w _⟩ | exact ⟨by omega, below_one w _⟩

/-! ### two fresh blocks -/
theorem two_fr (w : World) (o p : Obj) : ((w.alloc o).alloc p).heap[w.heap.size]? = some o ∧ ((w.alloc o).alloc p).heap[w.heap.size + 1]? = some p := by
  constructor
  · rw [heap_alloc_old _ _ (by simp)]; exact heap_alloc_new _ _
  · have h := heap_alloc_new (w.alloc o) p
    rw [show (w.alloc o).heap.size = w.heap.size + 1 by simp] at h
    exact h
theorem second_fr {w wr : World} {o : Obj} (c : Array Value) (h : wr.heap[w.heap.size + 1]? = some o) : (wr.setRow w.heap.size c).heap[w.heap.size + 1]? = some o := row_other _ h (by omega)
theorem pair_st (w : World) (T T' : TypeId) (a b c d : Array Value) :
    Below w.heap.size w ((((w.alloc (.cells a T)).alloc (.cells b T')).setRow w.heap.size c).setRow (w.heap.size + 1) d) ∧
    ((((w.alloc (.cells a T)).alloc (.cells b T')).setRow w.heap.size c).setRow (w.heap.size + 1) d).heap[w.heap.size]? = some (.cells c T) ∧
    ((((w.alloc (.cells a T)).alloc (.cells b T')).setRow w.heap.size c).setRow (w.heap.size + 1) d).heap[w.heap.size + 1]? = some (.cells d T') := by
  obtain ⟨h1, h2⟩ := two_fr w (.cells a T) (.cells b T')
  exact ⟨below_row (below_row (below_two w _ _) (Nat.le_refl _) _) (Nat.le_succ _) _, row_other _ (setRow_heap _ _ _ _ _ _ h1) (by omega), setRow_heap _ _ _ _ _ _ (second_fr _ h2)⟩
theorem heap_keep {w w' : World} {g : Nat} {o : Obj} (h : w.heap[g]? = some o) (hb : Below w.heap.size w w') : w'.heap[g]? = some o := (hb.block _ (heap_lt2 h)).trans h
theorem cell_three {wr : World} {g : Nat} {a b c : Value} {T : TypeId} (h : wr.heap[g]? = some (.cells #[a, b, c] T)) :
    wr.cell? ⟨g, 0, none⟩ = some a ∧ wr.cell? ⟨g, 1, none⟩ = some b ∧ wr.cell? ⟨g, 2, none⟩ = some c ∧ wr.frozen? ⟨g, 2, none⟩ = false := by
  refine ⟨?_, ?_, ?_, ?_⟩
  · unfold World.cell?; rw [h]; rfl
  · unfold World.cell?; rw [h]; rfl
  · unfold World.cell?; rw [h]; rfl
  · unfold World.frozen?; rw [h]; rfl
theorem third_set {wr : World} {g : Nat} {a b c : Value} {T : TypeId} (h : wr.heap[g]? = some (.cells #[a, b, c] T)) (v : Value) : (wr.setCell ⟨g, 2, none⟩ v).heap[g]? = some (.cells #[a, b, v] T) := by
  simp only [World.setCell, Array.getElem?_modify, if_true, h, Option.map_some]; rfl

theorem times_sgn (a b : Int) : wdV (a * b) = .agg #[.int .u64 (hiN (a.natAbs * b.natAbs)), .int .u64 (loN (a.natAbs * b.natAbs)), .bool ((decide (a < 0) != decide (b < 0)) && !decide (a.natAbs * b.natAbs = 0))] := by
  unfold wdV
  rw [Int.natAbs_mul]
  congr 4
  by_cases hz : a.natAbs * b.natAbs = 0
  · have h0 : a * b = 0 := by
      have := Int.natAbs_mul a b
      omega
    rw [h0, decide_eq_true hz]
    simp
  · rw [decide_eq_false hz, Bool.not_false, Bool.and_true]
    have ha : a ≠ 0 := fun e => hz (by rw [e]; simp)
    have hb : b ≠ 0 := fun e => hz (by rw [e]; simp)
    rcases Int.lt_trichotomy a 0 with h | h | h
    · rcases Int.lt_trichotomy b 0 with h' | h' | h'
      · have := Int.mul_pos_of_neg_of_neg h h'
        rw [decide_eq_true h, decide_eq_true h', decide_eq_false (by omega)]; rfl
      · exact absurd h' hb
      · have := Int.mul_neg_of_neg_of_pos h h'
        rw [decide_eq_true h, decide_eq_false (show ¬ b < 0 by omega), decide_eq_true this]; rfl
    · exact absurd h ha
    · rcases Int.lt_trichotomy b 0 with h' | h' | h'
      · have := Int.mul_neg_of_pos_of_neg h h'
        rw [decide_eq_false (show ¬ a < 0 by omega), decide_eq_true h', decide_eq_true this]; rfl
      · exact absurd h' hb
      · have := Int.mul_pos h h'
        rw [decide_eq_false (show ¬ a < 0 by omega), decide_eq_false (show ¬ b < 0 by omega), decide_eq_false (by omega)]; rfl

set_option maxRecDepth 100000 in
set_option maxHeartbeats 2000000 in
theorem times_any (a b : Int) (ha : I64 a) (hb : I64 b) (w : World) : Calls Try.prog 70 #[.int .i64 a, .int .i64 b] w fun e w' => e = .returned (wdV (a * b)) ∧ Below w.heap.size w w' := by
  rw [times_sgn]
  have h1 := abs64 ha
  have h2 := abs64 hb
  have HM := Lib.hid (fun W => mul64_any a.natAbs b.natAbs (by omega) (by omega) W)
  have HA := Lib.hid (fun W => of_any2 a ha W)
  have HB := Lib.hid (fun W => of_any2 b hb W)
  obtain ⟨x, hx⟩ : ∃ x, x = a.natAbs := ⟨_, rfl⟩
  obtain ⟨y, hy⟩ : ∃ y, y = b.natAbs := ⟨_, rfl⟩
  obtain ⟨sa, hsa⟩ : ∃ sa, sa = decide (a < 0) := ⟨_, rfl⟩
  obtain ⟨sb, hsb⟩ : ∃ sb, sb = decide (b < 0) := ⟨_, rfl⟩
  rw [← hx, ← hy] at HM
  rw [← hx, ← hsa] at HA
  rw [← hy, ← hsb] at HB
  rw [← hx, ← hy, ← hsa, ← hsb]
  clear hx hy hsa hsb ha hb h1 h2
  obtain ⟨P, hP⟩ : ∃ P, P = x * y := ⟨_, rfl⟩
  rw [← hP] at HM ⊢
  clear hP
  have HM2 : Hid (∀ W, Calls Try.prog 109 #[.int .u64 x, .int .u64 y] W fun e w' => e = .returned (.tuple #[.int .u64 (hiN P), .int .u64 (loN P)]) ∧ W = w') := HM
  clear HM
  have HSZ := Lib.hid (fun W => szero_any P W)
  obtain ⟨z, hz⟩ : ∃ z, decide (P = 0) = z := ⟨_, rfl⟩
  obtain ⟨sx, hsx⟩ : ∃ sx, (!(sa == sb)) = sx := ⟨_, rfl⟩
  rw [hz] at HSZ
  rw [hz, show (sa != sb) = sx from hsx]
  clear hz
  go_enter Try.func70, Try.ntmps70
  go_wp2_with fail
  have HZ := Lib.hid (heap_alloc_new w (.cells #[.int .u64 0, .int .u64 0, .bool false] 116))
  have HW := Lib.hid (below_one w (.cells #[.int .u64 0, .int .u64 0, .bool false] 116))
  generalize w.alloc (.cells #[.int .u64 0, .int .u64 0, .bool false] 116) = w1 at *
  refine (HA.out _).mono ?_
  rintro e w2 ⟨rfl, hb⟩
  have HZ2 := Lib.hid (heap_keep HZ.out hb)
  have HW2 := Lib.hid (HW.out.trans (hb.mono HW.out.size))
  clear hb HZ HW HA
  go_wp2_with fail
  refine (HB.out _).mono ?_
  rintro e w3 ⟨rfl, hb⟩
  have HZ3 := Lib.hid (heap_keep HZ2.out hb)
  have HW3 := Lib.hid (HW2.out.trans (hb.mono HW2.out.size))
  clear hb HZ2 HW2 HB
  have HF := Lib.hid (two_fr w3 (.cells #[.int .u64 0, .int .u64 0, .bool false] 116) (.cells #[.int .u64 0, .int .u64 0, .bool false] 116))
  go_upto_region 2 with (first | (refine wpList_store_row rfl 116 _ _ rfl w3.heap.size _ rfl rfl 116 _ HF.out.1 (by kernel_rfl) rfl (by kernel_rfl) ?_) | (refine wpList_store_row rfl 116 _ _ rfl (w3.heap.size + 1) _ rfl rfl 116 _ (second_fr _ HF.out.2) (by kernel_rfl) rfl (by kernel_rfl) ?_))
  obtain ⟨pb, p1, p2⟩ := pair_st w3 116 116 #[.int .u64 0, .int .u64 0, .bool false] #[.int .u64 0, .int .u64 0, .bool false] #[.int .u64 0, .int .u64 x, .bool sa] #[.int .u64 0, .int .u64 y, .bool sb]
  have HZ4 := Lib.hid (heap_keep HZ3.out pb)
  have HW4 := Lib.hid (HW3.out.trans (pb.mono HW3.out.size))
  generalize (((w3.alloc (.cells #[.int .u64 0, .int .u64 0, .bool false] 116)).alloc (.cells #[.int .u64 0, .int .u64 0, .bool false] 116)).setRow w3.heap.size #[.int .u64 0, .int .u64 (x : Int), .bool sa]).setRow (w3.heap.size + 1) #[.int .u64 0, .int .u64 (y : Int), .bool sb] = w4 at *
  obtain ⟨c1, c2, c3, _⟩ := cell_three p1
  obtain ⟨d1, d2, d3, _⟩ := cell_three p2
  clear pb p1 p2 HF HZ3 HW3
  go_wp2_with fail
  refine (HM2.out _).mono ?_
  rintro e w5 ⟨rfl, rfl⟩
  go_upto_region 4 with fail
  have HB5 := Lib.hid (HW4.out.alloc HW4.out.size (.cells #[.int .u64 (hiN P), .int .u64 (loN P), .bool sx] 116))
  have H5 := Lib.hid (heap_keep HZ4.out (below_one w4 (.cells #[.int .u64 (hiN P), .int .u64 (loN P), .bool sx] 116)))
  have H9 := Lib.hid (heap_alloc_new w4 (.cells #[.int .u64 (hiN P), .int .u64 (loN P), .bool sx] 116))
  have hlt : w.heap.size < w4.heap.size := heap_lt2 HZ4.out
  generalize w4.alloc (.cells #[.int .u64 (hiN P), .int .u64 (loN P), .bool sx] 116) = w5 at *
  obtain ⟨g9, hg9⟩ : ∃ g, g = w4.heap.size := ⟨_, rfl⟩
  rw [← hg9] at H9 hlt ⊢
  have hle : w.heap.size ≤ g9 := by omega
  clear hg9 HZ4 HW4 c1 c2 c3 d1 d2 d3 hsx
  cases sx with
  | false =>
    obtain ⟨k1, k2, k3, k4⟩ := cell_three H9.out
    go_upto_region 5 with fail
    have H10 := Lib.hid (third_set H9.out (.bool false))
    have H11 := Lib.hid (heap_other (c := 2) (g := g9) (.bool false) H5.out (by omega))
    have HB6 := Lib.hid (HB5.out.setCell (p := ⟨g9, 2, none⟩) hle (.bool false))
    generalize w5.setCell ⟨g9, 2, none⟩ (.bool false) = w6 at *
    clear k1 k2 k3 k4
    go_wp2_with (first | (refine wpList_load_row rfl 116 _ rfl g9 rfl 116 _ (0, 0) _ H10.out Try.underlying116 rfl (by kernel_rfl) ?_) | (refine wpList_store_row rfl 116 _ _ rfl w.heap.size _ rfl rfl 116 _ H11.out (by kernel_rfl) rfl (by kernel_rfl) ?_))
    refine bodyPost_ret (results_cell_row (fn := Try.f70) rfl _ _ w.heap.size _ _ _ _ rfl (setRow_heap _ _ _ _ _ _ H11.out) Try.underlying116 rfl (by kernel_rfl)) rfl ?_
    exact ⟨rfl, below_row HB6.out (Nat.le_refl _) _⟩
  | true =>
    obtain ⟨k1, k2, k3, k4⟩ := cell_three H9.out
    go_wp2_with fail
    refine (HSZ.out _).mono ?_
    rintro e w7 ⟨rfl, hb⟩
    have J9 := Lib.hid (heap_keep H9.out hb)
    have J5 := Lib.hid (heap_keep H5.out hb)
    have JB := Lib.hid (HB5.out.trans (hb.mono HB5.out.size))
    clear k1 k2 k3 k4 hb H9 H5 HB5
    obtain ⟨k1, k2, k3, k4⟩ := cell_three J9.out
    go_upto_region 5 with fail
    have H10 := Lib.hid (third_set J9.out (.bool (!z)))
    have H11 := Lib.hid (heap_other (c := 2) (g := g9) (.bool (!z)) J5.out (by omega))
    have HB6 := Lib.hid (JB.out.setCell (p := ⟨g9, 2, none⟩) hle (.bool (!z)))
    generalize w7.setCell ⟨g9, 2, none⟩ (.bool (!z)) = w6 at *
    clear k1 k2 k3 k4
    go_wp2_with (first | (refine wpList_load_row rfl 116 _ rfl g9 rfl 116 _ (0, 0) _ H10.out Try.underlying116 rfl (by kernel_rfl) ?_) | (refine wpList_store_row rfl 116 _ _ rfl w.heap.size _ rfl rfl 116 _ H11.out (by kernel_rfl) rfl (by kernel_rfl) ?_))
    refine bodyPost_ret (results_cell_row (fn := Try.f70) rfl _ _ w.heap.size _ _ _ _ rfl (setRow_heap _ _ _ _ _ _ H11.out) Try.underlying116 rfl (by kernel_rfl)) rfl ?_
    exact ⟨rfl, below_row HB6.out (Nat.le_refl _) _⟩

end Go.Proofs.Ytfegongaflekiaa

/- A bag of facts of the memory, each of which stays where nothing old is written. -/
namespace Go.Proofs.Ytfegongaflekiaa
open Go Go.RowKit
set_option linter.unusedVariables false

/-- It stays where nothing old is written. -/
def Stable (P : World → Prop) : Prop := ∀ w w', P w → Below w.heap.size w w' → P w'
structure Bag (w0 : World) (Ps : List (World → Prop)) (w : World) : Prop where
  below : Below w0.heap.size w0 w
  all : ∀ P, P ∈ Ps → P w ∧ Stable P
theorem Bag.start {w0 w : World} (h : Below w0.heap.size w0 w) : Bag w0 [] w := ⟨h, fun _ h => by cases h⟩
theorem Bag.step {w0 w w' : World} {Ps : List (World → Prop)} (h : Bag w0 Ps w) (hb : Below w.heap.size w w') : Bag w0 Ps w' :=
  ⟨h.below.trans (hb.mono h.below.size), fun P hP => ⟨(h.all P hP).2 w w' (h.all P hP).1 hb, (h.all P hP).2⟩⟩
theorem Bag.drewN {w0 w : World} {Ps : List (World → Prop)} (h : Bag w0 Ps w) (q : Nat) : Bag w0 Ps (w.drewN q) := h.step (belowN (Below.refl _ _) q)
theorem Bag.drew {w0 w : World} {Ps : List (World → Prop)} (h : Bag w0 Ps w) : Bag w0 Ps w.drew := h.step (Below.drew (Below.refl _ _))
theorem Bag.alloc {w0 w : World} {Ps : List (World → Prop)} (h : Bag w0 Ps w) (o : Obj) : Bag w0 Ps (w.alloc o) := h.step ((Below.refl _ _).alloc (Nat.le_refl _) o)
theorem Bag.add {w0 w : World} {Ps : List (World → Prop)} {P : World → Prop} (h : Bag w0 Ps w) (hP : P w) (hs : Stable P) : Bag w0 (P :: Ps) w :=
  ⟨h.below, fun Q hQ => by
    rcases List.mem_cons.1 hQ with rfl | hQ
    · exact ⟨hP, hs⟩
    · exact h.all Q hQ⟩
theorem Bag.at {w0 w : World} {Ps : List (World → Prop)} {P : World → Prop} (h : Bag w0 Ps w) (i : Nat) (e : Ps[i]? = some P) : P w :=
  (h.all P (List.mem_of_getElem? e)).1
theorem Bag.tail {w0 w : World} {Ps : List (World → Prop)} {P : World → Prop} (h : Bag w0 (P :: Ps) w) : Bag w0 Ps w := ⟨h.below, fun Q hQ => h.all Q (List.mem_cons_of_mem _ hQ)⟩
theorem stable_zone (T : TypeId) (v : Value) (z : Option (Nat × Mat)) : Stable fun w => ZoneV T w v z := fun _ _ h hb => h.below hb
theorem stable_ints (k : IntKind) (A : Option Addr) (xs : List Int) : Stable fun w => Ints w k A xs := fun _ _ h hb => h.below hb
theorem stable_own (b : Nat) (e : TypeId) (k : IntKind) (v : Value) (xs : List Int) : Stable fun w => OwnI w b e k v xs := fun _ _ h hb => h.later hb
theorem stable_lims (A : Option Addr) (l : List (Int × Int × Int)) : Stable fun w => Lims w A l := fun _ _ h hb => h.below hb

/-- A call that leaves the world alone, in a region that draws. -/
theorem quietL {P : Program} {f : FuncId} {args : Array Value} {w : World} {n : Nat} {v : Value} (h : ∀ W, Calls P f args W fun e w' => e = .returned v ∧ W = w') :
    Calls P f args (w.drewN n) fun e w'' => e = .returned v ∧ ∃ m, w'' = w.drewN m := (h _).mono fun _ _ ⟨he, hm⟩ => ⟨he, n, hm.symm⟩
/-- The same, behind a region that drew. -/
theorem quietA {P : Program} {f : FuncId} {args : Array Value} {w : World} {a n : Nat} {v : Value} (h : ∀ W, Calls P f args W fun e w' => e = .returned v ∧ W = w') :
    Calls P f args (w.drewN (a + n)) fun e w'' => e = .returned v ∧ ∃ m, w'' = w.drewN (a + m) := (h _).mono fun _ _ ⟨he, hm⟩ => ⟨he, n, hm.symm⟩
/-- A call that only draws, behind a region that drew. -/
theorem quietD {P : Program} {f : FuncId} {args : Array Value} {w : World} {a n : Nat} {v : Value} (h : Calls P f args (w.drewN (a + n)) fun e w' => e = .returned v ∧ ∃ q, w' = (w.drewN (a + n)).drewN q) :
    Calls P f args (w.drewN (a + n)) fun e w'' => e = .returned v ∧ ∃ m, w'' = w.drewN (a + m) := h.mono fun _ _ ⟨he, q, hq⟩ => ⟨he, n + q, by rw [hq, World.drewN_drewN, Nat.add_assoc]⟩
theorem backC {P : Program} {f : FuncId} {args : Array Value} {w : World} {e0 : Ending} (h : Calls P f args w fun e w' => e = e0 ∧ w = w') : Calls P f args w fun e w' => e = e0 ∧ w' = w :=
  h.mono fun _ _ ⟨a, b⟩ => ⟨a, b.symm⟩

end Go.Proofs.Ytfegongaflekiaa
