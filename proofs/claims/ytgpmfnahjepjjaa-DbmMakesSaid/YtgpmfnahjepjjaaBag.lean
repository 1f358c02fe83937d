/- A bag of facts of the memory, each of which stays where nothing old is written. -/
import Derived.Test.YtgpmfnahjepjjaaMem
namespace Go.Proofs.Ytgpmfnahjepjjaa
open Go Go.RowKit
set_option linter.unusedVariables false

/-- It stays where nothing old is written. -/
def Stable (P : World → Prop) : Prop := ∀ w w', P w → Below w.heap.size w w' → P w'
structure Bag (w0 : World) (Ps : List (World → Prop)) (w : World) : Prop where
  below : Below w0.heap.size w0 w
  all : ∀ P, P ∈ Ps → P w ∧ Stable P
theorem Bag.start {w0 w : World} (h : Below w0.heap.size w0 w) : Bag w0 [] w := ⟨h, fun _ h => by cases h⟩
theorem Bag.step {w0 w w' : World} {Ps : List (World → Prop)} (h : Bag w0 Ps w) (hb : Below w.heap.size w w') : Bag w0 Ps w' :=
  ⟨h.below.trans (hb.mono h.below.size), fun P hP => ⟨(h.all P hP).2 w w' (h.all P hP).1 hb, (h.all P hP).2⟩⟩
theorem Bag.drewN {w0 w : World} {Ps : List (World → Prop)} (h : Bag w0 Ps w) (q : Nat) : Bag w0 Ps (w.drewN q) := h.step (belowN (Below.refl _ _) q)
theorem Bag.drew {w0 w : World} {Ps : List (World → Prop)} (h : Bag w0 Ps w) : Bag w0 Ps w.drew := h.step (Below.drew (Below.refl _ _))
theorem Bag.alloc {w0 w : World} {Ps : List (World → Prop)} (h : Bag w0 Ps w) (o : Obj) : Bag w0 Ps (w.alloc o) := h.step ((Below.refl _ _).alloc (Nat.le_refl _) o)
theorem Bag.add {w0 w : World} {Ps : List (World → Prop)} {P : World → Prop} (h : Bag w0 Ps w) (hP : P w) (hs : Stable P) : Bag w0 (P :: Ps) w :=
  ⟨h.below, fun Q hQ => by
    rcases List.mem_cons.1 hQ with rfl | hQ
    · exact ⟨hP, hs⟩
    · exact h.all Q hQ⟩
theorem Bag.at {w0 w : World} {Ps : List (World → Prop)} {P : World → Prop} (h : Bag w0 Ps w) (i : Nat) (e : Ps[i]? = some P) : P w :=
  (h.all P (List.mem_of_getElem? e)).1
theorem stable_zone (T : TypeId) (v : Value) (z : Option (Nat × Mat)) : Stable fun w => ZoneV T w v z := fun _ _ h hb => h.below hb
theorem stable_ints (k : IntKind) (A : Option Addr) (xs : List Int) : Stable fun w => Ints w k A xs := fun _ _ h hb => h.below hb
theorem stable_own (b : Nat) (e : TypeId) (k : IntKind) (v : Value) (xs : List Int) : Stable fun w => OwnI w b e k v xs := fun _ _ h hb => h.later hb
theorem stable_lims (A : Option Addr) (l : List (Int × Int × Int)) : Stable fun w => Lims w A l := fun _ _ h hb => h.below hb

end Go.Proofs.Ytgpmfnahjepjjaa
