/- Words for matrices that lie in memory: a block that holds a number and 81 cells. -/
import Derived.Test.YtdeblempnmklfaaDoorMat
import Derived.WalkKit
import Derived.WalkSpells
import Derived.WalkLawsBesides
namespace Go.Proofs.YtdeblempnmklfaaDoor
open Go.RowKit

/-- The cells of a block: the number of clocks, then nine rows of nine. -/
def matCells (k : IntKind) (n : Nat) (m : Mat) : Array Value :=
  (Value.int .i64 n :: (List.range 81).map fun p => Value.int k (m (p / 9) (p % 9))).toArray

/-- Block b holds a matrix. -/
def MatAt (w : World) (b : Nat) (T : TypeId) (k : IntKind) (n : Nat) (m : Mat) : Prop :=
  w.heap[b]? = some (.cells (matCells k n m) T (0, 0))

theorem matCells_size (k : IntKind) (n : Nat) (m : Mat) : (matCells k n m).size = 82 := by simp [matCells]

theorem matCells_head (k : IntKind) (n : Nat) (m : Mat) : (matCells k n m)[0]? = some (.int .i64 n) := by simp [matCells]

theorem matCells_get (k : IntKind) (n : Nat) (m : Mat) (p : Nat) (hp : p < 81) : (matCells k n m)[p + 1]? = some (.int k (m (p / 9) (p % 9))) := by
  simp [matCells, hp]

theorem matCells_set (k : IntKind) (n : Nat) (m : Mat) (i j : Nat) (hi : i < 9) (hj : j < 9) (v : Int) :
    (matCells k n m).setIfInBounds (1 + i * 9 + j) (.int k v) = matCells k n (upd m i j v) := by
  apply Array.ext_getElem?
  intro q
  rw [Array.getElem?_setIfInBounds]
  match q with
  | 0 => rw [if_neg (by omega), matCells_head, matCells_head]
  | p + 1 =>
    by_cases hp : p < 81
    · rw [matCells_get _ _ _ _ hp, matCells_get _ _ _ _ hp]
      by_cases e : 1 + i * 9 + j = p + 1
      · rw [if_pos e, if_pos (by rw [matCells_size]; omega)]
        have h1 : p / 9 = i := by omega
        have h2 : p % 9 = j := by omega
        simp [upd, h1, h2]
      · rw [if_neg e]
        have : ¬ (p / 9 = i ∧ p % 9 = j) := by omega
        simp [upd, this]
    · rw [if_neg (by omega), Array.getElem?_eq_none (by rw [matCells_size]; omega), Array.getElem?_eq_none (by rw [matCells_size]; omega)]

section
variable {w : World} {b : Nat} {T : TypeId} {k : IntKind} {n : Nat} {m : Mat}
theorem MatAt.lt (h : MatAt w b T k n m) : b < w.heap.size := (Array.getElem?_eq_some_iff.1 h).1
theorem MatAt.head (h : MatAt w b T k n m) : w.cell? ⟨b, 0, none⟩ = some (.int .i64 n) := by
  unfold MatAt at h
  simp [World.cell?, h, matCells_head]
theorem MatAt.cell (h : MatAt w b T k n m) (i j : Nat) (hi : i < 9) (hj : j < 9) : w.cell? ⟨b, 1 + i * 9 + j, none⟩ = some (.int k (m i j)) := by
  unfold MatAt at h
  have e : 1 + i * 9 + j = (i * 9 + j) + 1 := by omega
  have h1 : (i * 9 + j) / 9 = i := by omega
  have h2 : (i * 9 + j) % 9 = j := by omega
  simp [World.cell?, h, e, matCells_get _ _ _ _ (show i * 9 + j < 81 by omega), h1, h2]
theorem MatAt.frozen (h : MatAt w b T k n m) (o : Nat) : w.frozen? ⟨b, o, none⟩ = false := by
  unfold MatAt at h
  simp [World.frozen?, h]
theorem MatAt.set (h : MatAt w b T k n m) (i j : Nat) (hi : i < 9) (hj : j < 9) (v : Int) : MatAt (w.setCell ⟨b, 1 + i * 9 + j, none⟩ (.int k v)) b T k n (upd m i j v) := by
  unfold MatAt at h ⊢
  simp only [World.setCell, Array.getElem?_modify, if_true, h, Option.map_some]
  simp [matCells_set, hi, hj]
theorem MatAt.below {B : Nat} {w' : World} (h : MatAt w b T k n m) (hb : Below B w w') (hB : b < B) : MatAt w' b T k n m := (hb.block b hB).trans h
theorem MatAt.later {w' : World} (h : MatAt w b T k n m) (hb : Below w.heap.size w w') : MatAt w' b T k n m := h.below hb h.lt
theorem MatAt.drew (h : MatAt w b T k n m) : MatAt w.drew b T k n m := h
theorem MatAt.drewN (h : MatAt w b T k n m) (q : Nat) : MatAt (w.drewN q) b T k n m := h
theorem MatAt.alloc (h : MatAt w b T k n m) (o : Obj) : MatAt (w.alloc o) b T k n m := h.later ((Below.refl _ _).alloc (Nat.le_refl _) o)
end

/-- What was there is as it was, but for block b. -/
def Only (b : Nat) (w w' : World) : Prop := w.grownBy w' (some b)
theorem Only.refl (b : Nat) (w : World) : Only b w w := ⟨rfl, rfl, rfl, Nat.le_refl _, fun _ _ _ => rfl⟩
theorem Only.trans {b : Nat} {w w1 w2 : World} (h : Only b w w1) (k : Only b w1 w2) : Only b w w2 :=
  ⟨k.os.trans h.os, k.tape.trans h.tape, k.output.trans h.output, Nat.le_trans h.size k.size, fun i hi hne => (k.block i (Nat.lt_of_lt_of_le hi h.size) hne).trans (h.block i hi hne)⟩
theorem Only.setCell {b : Nat} {w w' : World} (h : Only b w w') (o : Nat) (v : Value) : Only b w (w'.setCell ⟨b, o, none⟩ v) :=
  h.trans ⟨rfl, rfl, rfl, by simp [World.setCell], fun k _ hk => Below.heap_setCell _ _ _ _ (fun e => hk (by rw [e]))⟩
theorem Only.drew {b : Nat} {w w' : World} (h : Only b w w') : Only b w w'.drew := ⟨h.os, h.tape, h.output, h.size, h.block⟩
theorem Only.drewN {b : Nat} {w w' : World} (h : Only b w w') (q : Nat) : Only b w (w'.drewN q) := ⟨h.os, h.tape, h.output, h.size, h.block⟩
theorem Only.alloc {b : Nat} {w w' : World} (h : Only b w w') (o : Obj) : Only b w (w'.alloc o) := h.trans (World.grownBy_alloc _ _ _)
theorem Only.andThen {b c : Nat} {w w1 w2 : World} (h : Only b w w1) (k : Only c w1 w2) (hc : w.heap.size ≤ c) : Only b w w2 :=
  ⟨k.os.trans h.os, k.tape.trans h.tape, k.output.trans h.output, Nat.le_trans h.size k.size, fun i hi hne => (k.block i (Nat.lt_of_lt_of_le hi h.size) (by simp; omega)).trans (h.block i hi hne)⟩
theorem Only.below {b B : Nat} {w w' : World} (h : Only b w w') (hb : B ≤ b) (hB : B ≤ w.heap.size) : Below B w w' :=
  ⟨h.os, h.tape, h.output, h.size, fun k hk => h.block k (by omega) (by simp; omega)⟩
theorem belowN {B : Nat} {w w' : World} (h : Below B w w') (q : Nat) : Below B w (w'.drewN q) := ⟨h.os, h.tape, h.output, h.size, h.block⟩
theorem MatAt.only {w w' : World} {b c : Nat} {T : TypeId} {k : IntKind} {n : Nat} {m : Mat} (h : MatAt w c T k n m) (ho : Only b w w') (hne : c ≠ b) : MatAt w' c T k n m :=
  (ho.block c h.lt (by simp [hne])).trans h

/-- A zone, or nil. -/
def ZoneV (T : TypeId) (w : World) (v : Value) : Option (Nat × Mat) → Prop
  | none => v = .pointer none
  | some (n, m) => ∃ b, v = .pointer (some ⟨b, 0, none⟩) ∧ n ≤ 8 ∧ RightM n m ∧ MatAt w b T .i32 n m
theorem ZoneV.below {T : TypeId} {w w' : World} {v : Value} {z : Option (Nat × Mat)} (h : ZoneV T w v z) (hb : Below w.heap.size w w') : ZoneV T w' v z := by
  match z, h with
  | none, h => exact h
  | some (n, m), ⟨b, h1, hn, hr, h2⟩ => exact ⟨b, h1, hn, hr, h2.later hb⟩

/-- One part laid over all cells. -/
theorem foldl_set (l : List Value) : ∀ (o : Nat) (z : Array Value), o + l.length = z.size →
    ((l.zipIdx o).foldl (fun cs (c : Value × Nat) => cs.setIfInBounds (0 + c.2) c.1) z).toList = z.toList.take o ++ l := by
  induction l with
  | nil => intro o z h; simp at h; subst h; simp [← Array.length_toList]
  | cons x l ih =>
    intro o z h
    simp only [List.length_cons] at h
    simp only [List.zipIdx_cons, List.foldl_cons]
    rw [ih (o + 1) _ (by simp; omega)]
    simp only [Nat.zero_add, Array.toList_setIfInBounds]
    rw [List.take_set, List.take_add_one, List.set_append_right _ _ (by simp; omega)]
    have e : z.toList[o]? = some z[o] := by simp
    simp [e, Nat.min_eq_left (show o ≤ z.size by omega)]
theorem fill_whole (c z : Array Value) (h : c.size = z.size) : Instr.fill (fun i => (#[(0, z.size)] : Array (Nat × Nat))[i]?) z [(0, .agg c)] = some c := by
  have e : (Value.agg c).cells = c := rfl
  have hf := foldl_set c.toList 0 z (by simpa using h)
  simp only [Instr.fill, List.getElem?_toArray, List.getElem?_cons_zero, e]
  rw [if_neg (by simp [h])]
  congr 1
  rw [← Array.toList_inj, ← Array.foldl_toList, Array.toList_zipIdx]
  simpa using hf
theorem lay_whole (c z : Array Value) (h : c.size = z.size) : Array.foldl (fun (cs : Array Value) (x : Value × Nat) => cs.setIfInBounds x.snd x.fst) z c.zipIdx 0 c.size = c := by
  have hf := foldl_set c.toList 0 z (by simpa using h)
  have e : c.size = c.zipIdx.size := by simp
  rw [e, ← Array.toList_inj, ← Array.foldl_toList, Array.toList_zipIdx]
  simpa using hf
theorem build_whole {P : Program} (t : TypeId) (z c : Array Value) (fs : Array Field) (w : World) (hz : (zeroValue t).run P w = .ok (.agg z) w) (hu : P.underlying t = some (.struct fs))
    (hp : (fs.mapM fun (f : Field) => (do pure (f.offset, ← sizeOf f.type) : Sem (Nat × Nat))).run P w = .ok #[(0, z.size)] w) (hc : c.size = z.size) : (Instr.build t #[(0, .agg c)]).run P w = .ok (.agg c) w := by
  have e : (Value.agg z).cells = z := rfl
  have hf := fill_whole c z hc
  simp only [Instr.build, Sem.run_bind, hz, e, run_underlying hu, Result.andThen_ok, hp, hf, Sem.run_pure]

/-- A slice of numbers that can be read. -/
def Ints (w : World) (k : IntKind) (A : Option Addr) (xs : List Int) : Prop :=
  ∀ j, j < xs.length → ∃ b off, A = some ⟨b, off, none⟩ ∧ w.cell? ⟨b, off + j, none⟩ = some (.int k (xs.getD j 0))
theorem Ints.below {w w' : World} {k : IntKind} {A : Option Addr} {xs : List Int} (h : Ints w k A xs) (hb : Below w.heap.size w w') : Ints w' k A xs := fun j hj => by
  obtain ⟨b, off, e, hc⟩ := h j hj
  exact ⟨b, off, e, (hb.cell (p := ⟨b, off + j, none⟩) (World.block_lt_of_cell? w _ hc)).trans hc⟩
/-- A slice of bounds of differences that can be read: three cells each. -/
def Lims (w : World) (A : Option Addr) (xs : List (Int × Int × Int)) : Prop :=
  ∀ j, j < xs.length → ∃ b off, A = some ⟨b, off, none⟩ ∧ w.cell? ⟨b, off + j * 3, none⟩ = some (.int .i64 (xs.getD j (0, 0, 0)).1) ∧
    w.cell? ⟨b, off + j * 3 + 1, none⟩ = some (.int .i64 (xs.getD j (0, 0, 0)).2.1) ∧ w.cell? ⟨b, off + j * 3 + 2, none⟩ = some (.int .i32 (xs.getD j (0, 0, 0)).2.2)
theorem Lims.below {w w' : World} {A : Option Addr} {xs : List (Int × Int × Int)} (h : Lims w A xs) (hb : Below w.heap.size w w') : Lims w' A xs := fun j hj => by
  obtain ⟨b, off, e, h1, h2, h3⟩ := h j hj
  exact ⟨b, off, e, (hb.cell (p := ⟨b, _, none⟩) (World.block_lt_of_cell? w _ h1)).trans h1, (hb.cell (p := ⟨b, _, none⟩) (World.block_lt_of_cell? w _ h2)).trans h2, (hb.cell (p := ⟨b, _, none⟩) (World.block_lt_of_cell? w _ h3)).trans h3⟩
theorem idx_div (p n : Nat) : (p : Int) / ((n : Int) + 1) = ((p / (n + 1) : Nat) : Int) := by simp
theorem idx_mod (p n : Nat) : (p : Int) % ((n : Int) + 1) = ((p % (n + 1) : Nat) : Int) := by simp

theorem wrap_tdiv (p n : Nat) (hp : p ≤ 1000000) : IntKind.i64.wrap ((p : Int).tdiv ((n : Int) + 1)) = ((p / (n + 1) : Nat) : Int) := by
  have e : (p : Int).tdiv ((n : Int) + 1) = ((p / (n + 1) : Nat) : Int) := by
    rw [Int.tdiv_eq_ediv_of_nonneg (by omega), idx_div]
  rw [e, IntKind.wrap_i64]
  have : p / (n + 1) ≤ p := Nat.div_le_self _ _
  generalize p / (n + 1) = q at this ⊢
  omega
theorem wrap_tmod (p n : Nat) (hp : p ≤ 1000000) : IntKind.i64.wrap ((p : Int).tmod ((n : Int) + 1)) = ((p % (n + 1) : Nat) : Int) := by
  have e : (p : Int).tmod ((n : Int) + 1) = ((p % (n + 1) : Nat) : Int) := by
    rw [Int.tmod_eq_emod_of_nonneg (by omega), idx_mod]
  rw [e, IntKind.wrap_i64]
  have : p % (n + 1) ≤ p := Nat.mod_le _ _
  generalize p % (n + 1) = q at this ⊢
  omega

def vals (k : IntKind) (xs : List Int) : List Value := xs.map fun x => .int k x
/-- A row of numbers of the call's own. -/
def OwnI (w : World) (base : Nat) (e : TypeId) (k : IntKind) (v : Value) (xs : List Int) : Prop := w.ownsRow base e 1 v xs.length (vals k xs)
/-- Block g begins with these numbers. -/
def RowAt (w : World) (g : Nat) (e : TypeId) (k : IntKind) (xs : List Int) : Prop :=
  ∃ cur : Array Value, w.heap[g]? = some (.cells cur e (0, 0)) ∧ cur.toList.take xs.length = vals k xs
section
variable {w : World} {g : Nat} {e : TypeId} {k : IntKind} {xs : List Int}
theorem RowAt.lt (h : RowAt w g e k xs) : g < w.heap.size := by obtain ⟨cur, h1, _⟩ := h; exact (Array.getElem?_eq_some_iff.1 h1).1
theorem RowAt.cell (h : RowAt w g e k xs) (p : Nat) (hp : p < xs.length) : w.cell? ⟨g, p, none⟩ = some (.int k (xs.getD p 0)) := by
  obtain ⟨cur, h1, h2⟩ := h
  have e1 : cur.toList[p]? = (vals k xs)[p]? := by rw [← h2, List.getElem?_take, if_pos hp]
  have e2 : (vals k xs)[p]? = some (.int k (xs.getD p 0)) := by
    simp [vals, List.getElem?_eq_getElem hp, List.getD_eq_getElem?_getD]
  rw [World.cell?, h1]
  simp only [Option.isSome_none, Bool.false_eq_true, if_false]
  rw [← Array.getElem?_toList, e1, e2]
theorem RowAt.frozen (h : RowAt w g e k xs) (o : Nat) : w.frozen? ⟨g, o, none⟩ = false := by
  obtain ⟨cur, h1, _⟩ := h
  simp [World.frozen?, h1]
theorem RowAt.set (h : RowAt w g e k xs) (p : Nat) (v : Int) : RowAt (w.setCell ⟨g, p, none⟩ (.int k v)) g e k (xs.set p v) := by
  obtain ⟨cur, h1, h2⟩ := h
  refine ⟨cur.setIfInBounds p (.int k v), ?_, ?_⟩
  · simp only [World.setCell, Array.getElem?_modify, if_true, h1, Option.map_some]
    simp
  · rw [Array.toList_setIfInBounds, List.length_set, List.take_set, h2]
    simp [vals, List.map_set]
theorem RowAt.below {B : Nat} {w' : World} (h : RowAt w g e k xs) (hb : Below B w w') (hB : g < B) : RowAt w' g e k xs := by
  obtain ⟨cur, h1, h2⟩ := h
  exact ⟨cur, (hb.block g hB).trans h1, h2⟩
theorem RowAt.later {w' : World} (h : RowAt w g e k xs) (hb : Below w.heap.size w w') : RowAt w' g e k xs := h.below hb h.lt
theorem RowAt.only {w' : World} {c : Nat} (h : RowAt w g e k xs) (ho : Only c w w') (hne : g ≠ c) : RowAt w' g e k xs := by
  have hlt := h.lt
  obtain ⟨cur, h1, h2⟩ := h
  exact ⟨cur, (ho.block g hlt (by simp [hne])).trans h1, h2⟩
theorem RowAt.drewN (h : RowAt w g e k xs) (q : Nat) : RowAt (w.drewN q) g e k xs := h
theorem RowAt.drew (h : RowAt w g e k xs) : RowAt w.drew g e k xs := h
theorem RowAt.ints (h : RowAt w g e k xs) : Ints w k (some ⟨g, 0, none⟩) xs := fun j hj => ⟨g, 0, rfl, by rw [Nat.zero_add]; exact h.cell j hj⟩
end
theorem row_vals {w : World} {g : Nat} {e : TypeId} {k : IntKind} {xs : List Int} (h : RowAt w g e k xs) : ∀ j u, (vals k xs)[j]? = some u → w.cell? ((⟨g, 0, none⟩ : Addr).add j) = some u := by
  intro j u hu
  have ha : (⟨g, 0, none⟩ : Addr).add j = ⟨g, j, none⟩ := by unfold Addr.add; split <;> simp_all
  rw [ha]
  by_cases hj : j < xs.length
  · rw [h.cell j hj, ← hu]
    simp [vals, List.getElem?_eq_getElem hj, List.getD_eq_getElem?_getD]
  · simp [vals, hj] at hu

/-- A row of the call's own that is not empty. -/
theorem OwnI.row {w : World} {base : Nat} {e : TypeId} {k : IntKind} {v : Value} {xs : List Int} (h : OwnI w base e k v xs) (hne : 0 < xs.length) :
    ∃ g cap, v = .slice (some ⟨g, 0, none⟩) xs.length cap ∧ base ≤ g ∧ RowAt w g e k xs := by
  rcases h.2 with ⟨_, h0⟩ | ⟨g, cap, cur, hv, hg, hh, _, _, _, ht⟩
  · omega
  · exact ⟨g, cap, hv, hg, cur, hh, by simpa using ht⟩
theorem OwnI.later {w w' : World} {base : Nat} {e : TypeId} {k : IntKind} {v : Value} {xs : List Int} (h : OwnI w base e k v xs) (hb : Below w.heap.size w w') : OwnI w' base e k v xs := by
  have hg : w.grownBy w' none := ⟨hb.os, hb.tape, hb.output, hb.size, fun i hi _ => hb.block i hi⟩
  exact World.ownsRow.kept h hg (by cases v.ownBlock <;> simp)
/-- Any row of the call's own is a slice that can be read. -/
theorem OwnI.slice {w : World} {base : Nat} {e : TypeId} {k : IntKind} {v : Value} {xs : List Int} (h : OwnI w base e k v xs) : ∃ A cap, v = .slice A xs.length cap ∧ Ints w k A xs := by
  by_cases hne : 0 < xs.length
  · obtain ⟨g, cap, hv, _, hr⟩ := h.row hne
    exact ⟨_, cap, hv, hr.ints⟩
  · have e0 : xs = [] := List.eq_nil_of_length_eq_zero (by omega)
    subst e0
    rcases h.2 with ⟨hv, _⟩ | ⟨g, cap, cur, hv, _⟩
    · exact ⟨none, 0, hv, fun j hj => by simp at hj⟩
    · exact ⟨_, cap, hv, fun j hj => by simp at hj⟩

theorem min_ints (ats : Array TypeId) (ty : TypeId) (k k' : IntKind) (x y : Int) : Builtin.min_ ats ty #[.int k x, .int k' y] = pure (.int k (min x y)) := by
  simp only [Builtin.min_, List.foldlM_cons, List.foldlM_nil, Builtin.min2]
  by_cases h : y < x
  · simp [h, Int.min_def, show ¬ x ≤ y by omega]
  · simp [h, Int.min_def, show x ≤ y by omega]
theorem max_ints (ats : Array TypeId) (ty : TypeId) (k k' : IntKind) (x y : Int) : Builtin.max_ ats ty #[.int k x, .int k' y] = pure (.int k (max x y)) := by
  simp only [Builtin.max_, List.foldlM_cons, List.foldlM_nil, Builtin.max2]
  by_cases h : x < y
  · simp [h, Int.max_def, show x ≤ y by omega]
  · by_cases e : x = y
    · simp [e]
    · simp [h, Int.max_def, show ¬ x ≤ y by omega]

end Go.Proofs.YtdeblempnmklfaaDoor
