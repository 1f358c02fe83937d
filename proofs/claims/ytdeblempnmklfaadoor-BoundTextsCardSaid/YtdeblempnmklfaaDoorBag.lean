/- A bag of facts of the memory, each of which stays where nothing old is written. -/
import Derived.Test.YtdeblempnmklfaaDoorMem
import Derived.Deep.Draws
namespace Go.Proofs.YtdeblempnmklfaaDoor
open Go Go.RowKit
set_option linter.unusedVariables false

/-- It stays where nothing old is written. -/
def Stable (P : World → Prop) : Prop := ∀ w w', P w → Below w.heap.size w w' → P w'
structure Bag (w0 : World) (Ps : List (World → Prop)) (w : World) : Prop where
  below : Below w0.heap.size w0 w
  all : ∀ P, P ∈ Ps → P w ∧ Stable P
theorem Bag.start {w0 w : World} (h : Below w0.heap.size w0 w) : Bag w0 [] w := ⟨h, fun _ h => by cases h⟩
theorem Bag.step {w0 w w' : World} {Ps : List (World → Prop)} (h : Bag w0 Ps w) (hb : Below w.heap.size w w') : Bag w0 Ps w' :=
  ⟨h.below.trans (hb.mono h.below.size), fun P hP => ⟨(h.all P hP).2 w w' (h.all P hP).1 hb, (h.all P hP).2⟩⟩
theorem Bag.drewN {w0 w : World} {Ps : List (World → Prop)} (h : Bag w0 Ps w) (q : Nat) : Bag w0 Ps (w.drewN q) := h.step (belowN (Below.refl _ _) q)
theorem Bag.drew {w0 w : World} {Ps : List (World → Prop)} (h : Bag w0 Ps w) : Bag w0 Ps w.drew := h.step (Below.drew (Below.refl _ _))
theorem Bag.alloc {w0 w : World} {Ps : List (World → Prop)} (h : Bag w0 Ps w) (o : Obj) : Bag w0 Ps (w.alloc o) := h.step ((Below.refl _ _).alloc (Nat.le_refl _) o)
theorem Bag.add {w0 w : World} {Ps : List (World → Prop)} {P : World → Prop} (h : Bag w0 Ps w) (hP : P w) (hs : Stable P) : Bag w0 (P :: Ps) w :=
  ⟨h.below, fun Q hQ => by
    rcases List.mem_cons.1 hQ with rfl | hQ
    · exact ⟨hP, hs⟩
    · exact h.all Q hQ⟩
theorem Bag.at {w0 w : World} {Ps : List (World → Prop)} {P : World → Prop} (h : Bag w0 Ps w) (i : Nat) (e : Ps[i]? = some P) : P w :=
  (h.all P (List.mem_of_getElem? e)).1
theorem Bag.tail {w0 w : World} {Ps : List (World → Prop)} {P : World → Prop} (h : Bag w0 (P :: Ps) w) : Bag w0 Ps w := ⟨h.below, fun Q hQ => h.all Q (List.mem_cons_of_mem _ hQ)⟩
theorem stable_zone (T : TypeId) (v : Value) (z : Option (Nat × Mat)) : Stable fun w => ZoneV T w v z := fun _ _ h hb => h.below hb
theorem stable_ints (k : IntKind) (A : Option Addr) (xs : List Int) : Stable fun w => Ints w k A xs := fun _ _ h hb => h.below hb
theorem stable_own (b : Nat) (e : TypeId) (k : IntKind) (v : Value) (xs : List Int) : Stable fun w => OwnI w b e k v xs := fun _ _ h hb => h.later hb
theorem stable_lims (A : Option Addr) (l : List (Int × Int × Int)) : Stable fun w => Lims w A l := fun _ _ h hb => h.below hb

/-- A call that leaves the world alone, in a region that draws. -/
theorem quietL {P : Program} {f : FuncId} {args : Array Value} {w : World} {n : Nat} {v : Value} (h : ∀ W, Calls P f args W fun e w' => e = .returned v ∧ W = w') :
    Calls P f args (w.drewN n) fun e w'' => e = .returned v ∧ ∃ m, w'' = w.drewN m := (h _).mono fun _ _ ⟨he, hm⟩ => ⟨he, n, hm.symm⟩
/-- The same, behind a region that drew. -/
theorem quietA {P : Program} {f : FuncId} {args : Array Value} {w : World} {a n : Nat} {v : Value} (h : ∀ W, Calls P f args W fun e w' => e = .returned v ∧ W = w') :
    Calls P f args (w.drewN (a + n)) fun e w'' => e = .returned v ∧ ∃ m, w'' = w.drewN (a + m) := (h _).mono fun _ _ ⟨he, hm⟩ => ⟨he, n, hm.symm⟩
/-- A call that only draws, behind a region that drew. -/
theorem quietD {P : Program} {f : FuncId} {args : Array Value} {w : World} {a n : Nat} {v : Value} (h : Calls P f args (w.drewN (a + n)) fun e w' => e = .returned v ∧ ∃ q, w' = (w.drewN (a + n)).drewN q) :
    Calls P f args (w.drewN (a + n)) fun e w'' => e = .returned v ∧ ∃ m, w'' = w.drewN (a + m) := h.mono fun _ _ ⟨he, q, hq⟩ => ⟨he, n + q, by rw [hq, World.drewN_drewN, Nat.add_assoc]⟩
theorem backC {P : Program} {f : FuncId} {args : Array Value} {w : World} {e0 : Ending} (h : Calls P f args w fun e w' => e = e0 ∧ w = w') : Calls P f args w fun e w' => e = e0 ∧ w' = w :=
  h.mono fun _ _ ⟨a, b⟩ => ⟨a, b.symm⟩

end Go.Proofs.YtdeblempnmklfaaDoor
