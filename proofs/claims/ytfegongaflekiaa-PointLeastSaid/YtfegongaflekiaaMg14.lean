/- Texts of ours, laid together: Nb, Nc, Nd, Ne, R1, Ra, Rb. -/
import Derived.Test.YtfegongaflekiaaProg
import Derived.Lib.Hide
import Derived.Deep.LoopGhost
import Derived.Deep.QuietTactic
import Derived.BigQuiet
import Derived.BigRegion
import Derived.StillTailTactics
import Derived.KernelRfl
import Derived.Test.YtfegongaflekiaaMg13
/- Lists that were handed out: rows of fractions, each of its own block; how they are marked and grown. -/
namespace Go.Proofs.Ytfegongaflekiaa
open Go Go.RowKit
set_option linter.unusedVariables false
set_option linter.unusedSimpArgs false

/-- A row of fractions in a block of its own, or none. -/
def RowF (w : World) (s : Value) (l : List (Int × Int)) : Prop := w.ownsRow 0 59 2 s l.length (rcells l)
theorem RowF.ofOwn {w0 wr : World} {l : List (Int × Int)} {v : Value} (h : OwnQ w0 l v wr) : RowF wr v l := by
  obtain ⟨_, hl, h⟩ := h
  refine ⟨hl, ?_⟩
  rcases h with h | ⟨g, cap, cur, e1, _, h2⟩
  · exact .inl h
  · exact .inr ⟨g, cap, cur, e1, Nat.zero_le _, h2⟩
theorem RowF.frame {w w' : World} {s : Value} {l : List (Int × Int)} (h : RowF w s l) (hk : ∀ g, s.ownBlock = some g → w'.heap[g]? = w.heap[g]?) : RowF w' s l := by
  obtain ⟨hl, h⟩ := h
  refine ⟨hl, ?_⟩
  rcases h with h | ⟨g, cap, cur, e1, e2, h1, h2⟩
  · exact .inl h
  · exact .inr ⟨g, cap, cur, e1, e2, (hk g (by rw [e1]; rfl)).trans h1, h2⟩
theorem RowF.slice {w : World} {s : Value} {l : List (Int × Int)} (h : RowF w s l) : ∃ A c, s = .slice A l.length c ∧ RatsA w A l := by
  obtain ⟨hl, h⟩ := h
  rcases h with ⟨rfl, h0⟩ | ⟨g, cap, cur, rfl, _, h1, _, _, _, h2⟩
  · exact ⟨none, 0, by rw [h0], fun j hj => by omega⟩
  · refine ⟨some ⟨g, 0, none⟩, cap, rfl, fun j hj => ?_⟩
    have hc : ∀ q u, (rcells l)[q]? = some u → w.cell? ⟨g, q, none⟩ = some u := fun q u hu => by
      have hq : q < l.length * 2 := by rw [← rcells_length]; exact (List.getElem?_eq_some_iff.1 hu).1
      rw [← h2, List.getElem?_take, if_pos hq] at hu
      simp only [World.cell?, h1]
      simpa using hu
    obtain ⟨a0, a1⟩ := rcells_at l j hj
    exact ⟨g, 0, rfl, by rw [Nat.zero_add]; exact hc _ _ a0, by rw [Nat.zero_add]; exact hc _ _ a1⟩
theorem RowF.block {w : World} {s : Value} {l : List (Int × Int)} (h : RowF w s l) (h0 : 0 < l.length) : ∃ g c, s = .slice (some ⟨g, 0, none⟩) l.length c ∧ g < w.heap.size := by
  obtain ⟨hl, h⟩ := h
  rcases h with ⟨rfl, h1⟩ | ⟨g, cap, cur, rfl, _, h1, _⟩
  · omega
  · exact ⟨g, cap, rfl, (Array.getElem?_eq_some_iff.1 h1).1⟩
theorem RowF.at {w : World} {g c : Nat} {l : List (Int × Int)} (h : RowF w (.slice (some ⟨g, 0, none⟩) l.length c) l) (k : Nat) (hk : k < l.length) :
    (w.cell? ⟨g, k * 2, none⟩ = some (.int .i64 (l.getD k (0, 0)).1) ∧ w.cell? ⟨g, k * 2 + 1, none⟩ = some (.int .i64 (l.getD k (0, 0)).2)) ∧ w.frozen? ⟨g, k * 2, none⟩ = false ∧ w.frozen? ⟨g, k * 2 + 1, none⟩ = false := by
  have h0 := h
  obtain ⟨A, c', e, hr⟩ := h0.slice
  obtain ⟨b, off, e2, c1, c2⟩ := hr k hk
  simp only [Value.slice.injEq] at e
  obtain ⟨e, _⟩ := e
  subst e
  simp only [Option.some.injEq, Addr.mk.injEq, and_true] at e2
  obtain ⟨rfl, rfl⟩ := e2
  rw [Nat.zero_add] at c1 c2
  obtain ⟨hl, h⟩ := h
  rcases h with ⟨e, _⟩ | ⟨g', cap, cur, e, _, h1, _⟩
  · cases e
  · simp only [Value.slice.injEq, Option.some.injEq, Addr.mk.injEq] at e
    obtain ⟨⟨rfl, _⟩, _⟩ := e
    refine ⟨⟨c1, c2⟩, ?_, ?_⟩ <;> (unfold World.frozen?; rw [h1]; simp)
theorem rcells_set (l : List (Int × Int)) (k : Nat) (hk : k < l.length) (x y : Int) : ((rcells l).set (k * 2) (.int .i64 x)).set (k * 2 + 1) (.int .i64 y) = rcells (l.set k (x, y)) := by
  refine List.ext_getElem? fun q => ?_
  have hlen : (rcells l).length = l.length * 2 := rcells_length l
  by_cases hq : q < l.length * 2
  · obtain ⟨a0, a1⟩ := rcells_at l (q / 2) (by omega)
    obtain ⟨b0, b1⟩ := rcells_at (l.set k (x, y)) (q / 2) (by rw [List.length_set]; omega)
    have eg : (l.set k (x, y)).getD (q / 2) (0, 0) = if q / 2 = k then (x, y) else l.getD (q / 2) (0, 0) := by
      rw [List.getD_eq_getElem?_getD, List.getElem?_set]
      by_cases e : k = q / 2
      · rw [if_pos e, if_pos hk, if_pos e.symm]; rfl
      · rw [if_neg e, if_neg (fun h => e h.symm), List.getD_eq_getElem?_getD]
    rw [eg] at b0 b1
    rcases (show q = q / 2 * 2 ∨ q = q / 2 * 2 + 1 by omega) with e | e
    · rw [← e] at a0 b0
      rw [b0, List.getElem?_set_ne (by omega), List.getElem?_set]
      by_cases eq : q / 2 = k
      · rw [if_pos eq, if_pos (by omega), if_pos (by omega)]
      · rw [if_neg eq, if_neg (by omega), a0]
    · rw [← e] at a1 b1
      rw [b1, List.getElem?_set]
      by_cases eq : q / 2 = k
      · rw [if_pos eq, if_pos (by omega), if_pos (by rw [List.length_set]; omega)]
      · rw [if_neg eq, if_neg (by omega), List.getElem?_set_ne (by omega), a1]
  · rw [List.getElem?_eq_none (by simp only [List.length_set]; omega), List.getElem?_eq_none (by rw [rcells_length, List.length_set]; omega)]
/-- One place is written. -/
theorem RowF.put {w : World} {g c : Nat} {l : List (Int × Int)} (h : RowF w (.slice (some ⟨g, 0, none⟩) l.length c) l) (k : Nat) (hk : k < l.length) (x y : Int) :
    RowF ((w.setCell ⟨g, k * 2, none⟩ (.int .i64 x)).setCell ⟨g, k * 2 + 1, none⟩ (.int .i64 y)) (.slice (some ⟨g, 0, none⟩) l.length c) (l.set k (x, y)) := by
  obtain ⟨hl, h⟩ := h
  rcases h with ⟨e, _⟩ | ⟨g', cap, cur, e, e2, h1, h2, h3, h4, h5⟩
  · cases e
  · simp only [Value.slice.injEq, Option.some.injEq, Addr.mk.injEq, and_true, true_and] at e
    obtain ⟨rfl, rfl⟩ := e
    refine ⟨by rw [rcells_length, List.length_set], .inr ⟨g, c, (cur.setIfInBounds (k * 2) (.int .i64 x)).setIfInBounds (k * 2 + 1) (.int .i64 y), by rw [List.length_set], e2, ?_, by rw [List.length_set]; exact h2, h3, by simp [h4], ?_⟩⟩
    · simp only [World.setCell, Array.getElem?_modify, if_true, h1, Option.map_some]
      simp
    · rw [List.length_set, Array.toList_setIfInBounds, Array.toList_setIfInBounds, List.take_set, List.take_set, h5]
      exact rcells_set l k hk x y
/-- One more is put behind. -/
theorem RowF.grow {w : World} {s : Value} {l : List (Int × Int)} (h : RowF w s l) (g c : Nat) (x y : Int) (hg : w.cell? ⟨g, 0, none⟩ = some (.int .i64 x) ∧ w.cell? ⟨g, 1, none⟩ = some (.int .i64 y)) (hmax : l.length ≤ 4398046510976) :
    ∃ s' w', (Builtin.append_ #[27, 27] 27 #[s, .slice (some ⟨g, 0, none⟩) 1 c]).run Try.prog w = .ok s' w' ∧ RowF w' s' (l ++ [(x, y)]) ∧
      (s'.ownBlock = s.ownBlock ∨ ∃ b, s'.ownBlock = some b ∧ w.heap.size ≤ b) ∧ w.heap.size ≤ w'.heap.size ∧ (w'.os = w.os ∧ w'.tape = w.tape ∧ w'.output = w.output) ∧
      (∀ b, b < w.heap.size → s.ownBlock ≠ some b → w'.heap[b]? = w.heap[b]?) ∧ ∀ s1 l1, s1.ownBlock = s.ownBlock → l1.length ≤ l.length → RowF w s1 l1 → RowF w' s1 l1 := by
  obtain ⟨i0, hi, hz0, hz1, hz2⟩ := info_partsQ infoQ
  have ea : ∀ k, (⟨g, 0, none⟩ : Addr).add k = ⟨g, 0 + k, none⟩ := fun k => by unfold Addr.add; split <;> simp_all
  have hnews : ∀ j u, (rcells [(x, y)])[j]? = some u → w.cell? ((⟨g, 0, none⟩ : Addr).add j) = some u := fun j u hu => by
    rw [ea]
    match j, hu with
    | 0, hu => simp [rcells] at hu; subst hu; exact hg.1
    | 1, hu => simp [rcells] at hu; subst hu; exact hg.2
    | j + 2, hu => simp [rcells] at hu
  obtain ⟨hl, hform⟩ := h
  rcases hform with ⟨rfl, h0⟩ | ⟨gb, cap, cur, rfl, _, h1, h2, h3, h4, h5⟩
  · obtain ⟨v', w', a1, a2, a3, _⟩ := run_append_own (P := Try.prog) w w.heap.size 27 27 59 i0 (.agg #[.int .i64 0, .int .i64 0]) 2 16 Try.underlying27 hi hz0 hz1 hz2 rfl (by decide) (.slice none 0 0) 0 [] (World.ownsRow_nil w _ _ _) ⟨g, 0, none⟩ 1 c (rcells [(x, y)]) (rcells_length _) hnews (rcells_one _) (by simp only [maxLen]; omega) (by omega) (Nat.le_refl _)
    have hnil : l = [] := List.length_eq_zero_iff.1 h0
    subst hnil
    obtain ⟨b1, b2⟩ := a2
    rcases b2 with ⟨_, b0⟩ | ⟨gn, cap, cur, rfl, bb, bh, brest⟩
    · omega
    · refine ⟨_, w', a1, ⟨by simpa using b1, .inr ⟨gn, cap, cur, rfl, Nat.zero_le _, bh, brest⟩⟩, .inr ⟨gn, rfl, bb⟩, a3.size, ⟨a3.os, a3.tape, a3.output⟩, fun b hb _ => a3.block b hb (by simp [Value.ownBlock]), fun s1 l1 hs hl1 hf => ?_⟩
      refine hf.frame fun q hq => ?_
      rw [hs] at hq; cases hq
  · have hgs : gb < w.heap.size := (Array.getElem?_eq_some_iff.1 h1).1
    have htot : (rcells (l ++ [(x, y)])).length = (l.length + 1) * 2 := by rw [rcells_length, List.length_append]; rfl
    by_cases hroom : l.length + 1 ≤ cap
    · have hfit : l.length * i0.size + (rcells [(x, y)]).length ≤ cur.size := by rw [hz1, rcells_length, h4]; simp only [List.length_singleton]; omega
      have hr := run_append_room (P := Try.prog) w 27 27 59 i0 Try.underlying27 hi gb l.length cap cur h1 ⟨g, 0, none⟩ 1 c (rcells [(x, y)]) (by rw [hz1]; exact rcells_length _) hnews (rcells_one _) hroom hfit
      have hblk := setRow_heap w gb cur (cur.toList.take (l.length * i0.size) ++ rcells [(x, y)] ++ cur.toList.drop (l.length * i0.size + (rcells [(x, y)]).length)).toArray 59 _ h1
      have hoth := fun k (hk : k ≠ gb) => setRow_other w gb k (cur.toList.take (l.length * i0.size) ++ rcells [(x, y)] ++ cur.toList.drop (l.length * i0.size + (rcells [(x, y)]).length)).toArray hk
      rw [hz1] at hr hblk hoth
      rw [h5] at hr hblk hoth
      have hsz : (rcells l ++ rcells [(x, y)] ++ cur.toList.drop (l.length * 2 + (rcells [(x, y)]).length)).toArray.size = cap * 2 := by
        have e1 : cur.toList.length = cap * 2 := by rw [Array.length_toList, h4]
        simp only [List.size_toArray, List.length_append, List.length_drop, rcells_length, e1, List.length_singleton]
        omega
      refine ⟨_, _, hr, ⟨by rw [htot, List.length_append]; rfl, .inr ⟨gb, cap, _, by rw [List.length_append]; rfl, Nat.zero_le _, hblk, by rw [List.length_append]; exact hroom, h3, hsz, ?_⟩⟩, .inl rfl, by simp, ⟨rfl, rfl, rfl⟩, fun b _ hb => hoth b (fun e => hb (by rw [e]; rfl)), fun s1 l1 hs hl1 hf => ?_⟩
      · rw [← rcells_append]
        show (rcells (l ++ [(x, y)]) ++ _).take _ = _
        rw [List.length_append, List.length_singleton, ← htot]
        exact List.take_left
      · obtain ⟨f1, f2⟩ := hf
        rcases f2 with ⟨e, _⟩ | ⟨g1, cap1, cur1, e, _, k1, k2, k3, k4, k5⟩
        · rw [e] at hs; cases hs
        · rw [e] at hs
          simp only [Value.ownBlock, Option.some.injEq] at hs
          subst hs
          rw [h1] at k1
          simp only [Option.some.injEq, Obj.cells.injEq] at k1
          obtain ⟨k1, _⟩ := k1
          subst k1
          refine ⟨f1, .inr ⟨g1, cap1, _, e, Nat.zero_le _, hblk, k2, k3, by rw [hsz, ← h4]; exact k4, ?_⟩⟩
          show (rcells l ++ rcells [(x, y)] ++ _).take _ = _
          rw [List.append_assoc, List.take_append_of_le_length (by rw [rcells_length]; omega), ← h5, List.take_take, Nat.min_eq_left (by omega)]
          exact k5
    · have hcells : ∀ j u, (rcells l)[j]? = some u → w.cell? ((⟨gb, 0, none⟩ : Addr).add j) = some u := World.ownsRow.cells (w := w) (base := 0) (e := 59) (size := 2) (v := .slice (some ⟨gb, 0, none⟩) l.length cap) ⟨hl, .inr ⟨gb, cap, cur, rfl, Nat.zero_le _, h1, h2, h3, h4, h5⟩⟩ rfl
      obtain ⟨v', w', a1, a2, a3⟩ := run_append_arg_grows (P := Try.prog) (w := w) 27 27 59 i0 (.agg #[.int .i64 0, .int .i64 0]) 2 16 Try.underlying27 hi hz0 hz1 hz2 rfl (by decide) ⟨gb, 0, none⟩ l.length cap (rcells l) (rcells_length l) hcells ⟨g, 0, none⟩ 1 c (rcells [(x, y)]) (rcells_length _) hnews (by omega) (by simp only [maxLen]; omega) (by omega)
      have hkeep : ∀ b, b < w.heap.size → w'.heap[b]? = w.heap[b]? := fun b hb => a3.block b hb (by simp)
      obtain ⟨b1, b2⟩ := a2
      rcases b2 with ⟨_, b0⟩ | ⟨gn, capn, curn, rfl, bb, bh, brest⟩
      · omega
      · refine ⟨_, w', a1, ⟨by rw [htot, List.length_append]; rfl, .inr ⟨gn, capn, curn, by rw [List.length_append]; rfl, Nat.zero_le _, bh, ?_⟩⟩, .inr ⟨gn, rfl, bb⟩, a3.size, ⟨a3.os, a3.tape, a3.output⟩, fun b hb _ => hkeep b hb, fun s1 l1 hs hl1 hf => ?_⟩
        · rw [rcells_append, List.length_append]; exact brest
        · refine hf.frame fun q hq => hkeep q ?_
          rw [hs] at hq
          simp only [Value.ownBlock, Option.some.injEq] at hq
          omega

end Go.Proofs.Ytfegongaflekiaa

/- What a book of lists keeps. -/
namespace Go.Proofs.Ytfegongaflekiaa
open Go Go.RowKit
set_option linter.unusedVariables false
set_option linter.unusedSimpArgs false

/-- A book that keeps lists of fractions alone. -/
def bookCs (v : Value) : Array Value := #[.slice none 0 0, .slice none 0 0, .slice none 0 0, .slice none 0 0, .slice none 0 0, v, .slice none 0 0, .slice none 0 0, .slice none 0 0, .slice none 0 0, .slice none 0 0, .slice none 0 0, .slice none 0 0, .slice none 0 0]
theorem infoSl : (Try.prog.info? 27).map (fun i => (i.zero, i.size, i.bytes)) = some (some (.slice none 0 0), 1, 24) := by kernel_rfl
theorem rows_later {w w' : World} {base size n : Nat} {e : TypeId} {v : Value} {xs : List Value} (h : w.ownsRow base e size v n xs) (hk : ∀ g, v.ownBlock = some g → w'.heap[g]? = w.heap[g]?) : w'.ownsRow base e size v n xs := by
  obtain ⟨hl, h⟩ := h
  refine ⟨hl, ?_⟩
  rcases h with h | ⟨g, cap, cur, e1, e2, h1, h2⟩
  · exact .inl h
  · exact .inr ⟨g, cap, cur, e1, e2, (hk g (by rw [e1]; rfl)).trans h1, h2⟩
theorem rows_block {w : World} {base size n : Nat} {e : TypeId} {v : Value} {xs : List Value} (h : w.ownsRow base e size v n xs) {g : Nat} (hg : v.ownBlock = some g) : base ≤ g ∧ g < w.heap.size := by
  obtain ⟨hl, h⟩ := h
  rcases h with ⟨e, _⟩ | ⟨g', cap, cur, e1, e2, h1, h2⟩
  · rw [e] at hg; cases hg
  · rw [e1] at hg
    simp only [Value.ownBlock, Option.some.injEq] at hg
    subst hg
    exact ⟨e2, (Array.getElem?_eq_some_iff.1 h1).1⟩
/-- One list more is kept. -/
theorem take_run {w : World} {base : Nat} {v : Value} {xs : List Value} (h : w.ownsRow base 27 1 v xs.length xs) (hb : base ≤ w.heap.size) (g c : Nat) (s : Value) (hs : s.oneCell' = true) (hg : w.cell? ⟨g, 0, none⟩ = some s) (hmax : xs.length ≤ 1000) :
    ∃ v' w', (Builtin.append_ #[40, 40] 40 #[v, .slice (some ⟨g, 0, none⟩) 1 c]).run Try.prog w = .ok v' w' ∧ w'.ownsRow base 27 1 v' (xs.length + 1) (xs ++ [s]) ∧ w.grownBy w' v.ownBlock := by
  obtain ⟨i0, hi, hz0, hz1, hz2⟩ := info_partsQ infoSl
  have ea : ∀ k, (⟨g, 0, none⟩ : Addr).add k = ⟨g, 0 + k, none⟩ := fun k => by unfold Addr.add; split <;> simp_all
  obtain ⟨v', w', a1, a2, a3, _⟩ := run_append_own (P := Try.prog) w base 40 40 27 i0 (.slice none 0 0) 1 24 Try.underlying40 hi hz0 hz1 hz2 rfl (by decide) v xs.length xs h ⟨g, 0, none⟩ 1 c [s] rfl (fun j u hu => by
    rw [ea]
    match j, hu with
    | 0, hu => simp at hu; subst hu; exact hg
    | j + 1, hu => simp at hu) (fun u hu => by rw [List.mem_singleton.1 hu]; exact hs) (by simp only [maxLen]; omega) (by omega) hb
  exact ⟨v', w', a1, a2, a3⟩
theorem rows_slice {w : World} {base size n : Nat} {e : TypeId} {v : Value} {xs : List Value} (h : w.ownsRow base e size v n xs) : ∃ A c, v = .slice A n c := by
  obtain ⟨hl, h⟩ := h
  rcases h with ⟨e, h0⟩ | ⟨g', cap, cur, e1, _⟩
  · exact ⟨none, 0, by rw [e, h0]⟩
  · exact ⟨_, _, e1⟩
/-- What TakeRats leaves. -/
def TakeEnds (w0 : World) (g base : Nat) (xs : List Value) (w : World) (e : Ending) (w' : World) : Prop := e = .returned (.tuple #[]) ∧ ∃ v', Blx w0 [(g, bookCs v', 50)] w' ∧ w'.ownsRow base 27 1 v' xs.length xs ∧ w.heap.size ≤ w'.heap.size ∧ ∀ k, k < base → k ≠ g → w'.heap[k]? = w.heap[k]?
set_option maxRecDepth 100000 in
set_option maxHeartbeats 2000000 in
theorem take_any (w0 w : World) (g base : Nat) (v : Value) (A : Option Addr) (n c : Nat) (xs : List Value) (K : Blx w0 [(g, bookCs v, 50)] w) (hr : w.ownsRow base 27 1 v xs.length xs) (hg : g < base) (hb : base ≤ w.heap.size) (h0 : w0.heap.size ≤ base) (hx : xs.length ≤ 1000) :
    Calls Try.prog 13 #[.pointer (some ⟨g, 0, none⟩), .slice A n c] w (TakeEnds w0 g base (xs ++ [.slice A n c]) w) := by
  have hb1 := below_one w (.cells #[.slice A n c] 27)
  have K2 := Lib.hid (K.step hb1)
  have hr2 : (w.alloc (.cells #[.slice A n c] 27)).ownsRow base 27 1 v xs.length xs := rows_later hr (fun q hq => hb1.block q (rows_block hr hq).2)
  have hnew := heap_alloc_new w (.cells #[.slice A n c] 27)
  obtain ⟨v', w', hrun, hown, hgr⟩ := take_run hr2 (Nat.le_trans hb hb1.size) w.heap.size 1 (.slice A n c) rfl (by unfold World.cell?; rw [hnew]; rfl) hx
  obtain ⟨A', c', rfl⟩ := rows_slice hown
  have hbg : v.ownBlock ≠ some g := fun h => by have := (rows_block hr h).1; omega
  have hsz : w.heap.size ≤ w'.heap.size := Nat.le_trans hb1.size hgr.size
  have hkeep : ∀ q, q < w.heap.size → v.ownBlock ≠ some q → w'.heap[q]? = w.heap[q]? := fun q hq hne => (hgr.block q (Nat.lt_of_lt_of_le hq hb1.size) (fun e => hne e.symm)).trans (hb1.block q hq)
  have hgs : g < w.heap.size := Nat.lt_of_lt_of_le hg hb
  have K3 := Lib.hid (show Blx w0 [(g, bookCs v, 50)] w' from
    ⟨(K2.out.below).grown hgr (Nat.le_trans K2.out.below.size (Nat.le_refl _)) (fun q hq => Nat.le_trans h0 (rows_block hr hq).1), fun t ht => by
      obtain rfl := List.mem_singleton.1 ht
      exact (hkeep g hgs hbg).trans (K.l _ (List.mem_singleton.2 rfl)), K.s, K.lo⟩)
  have HF := Lib.hid (show TakeEnds w0 g base (xs ++ [.slice A n c]) w (.returned (.tuple #[])) (w'.setCell ⟨g, 5, none⟩ (.slice A' (xs.length + 1) c')) from by
    have hset := K3.out.set 0 rfl 5 (.slice A' (xs.length + 1) c')
    refine ⟨rfl, .slice A' (xs.length + 1) c', hset, ?_, ?_, fun q hq hne => ?_⟩
    · rw [List.length_append, List.length_singleton]
      refine rows_later hown (fun q hq => ?_)
      have hq' := (rows_block hown hq).1
      simp only [World.setCell, Array.getElem?_modify]
      rw [if_neg (by omega)]
    · simp only [World.setCell, Array.size_modify]; exact hsz
    · simp only [World.setCell, Array.getElem?_modify]
      rw [if_neg (fun e => hne e.symm)]
      exact hkeep q (by omega) (fun e => by have := (rows_block hr e).1; omega))
  obtain ⟨k5, _⟩ := K.cell 0 rfl 5 (v := v) rfl
  obtain ⟨j5, f5⟩ := K3.out.cell 0 rfl 5 (v := v) rfl
  clear hb1 K2 hr2 hnew hown hgr hbg hsz hkeep hgs K3 hr hg hb h0 hx K
  go_enter Try.func13, Try.ntmps13
  go_wp2_with (at_builtin; refine wpList_append_run rfl _ _ 40 rfl _ _ (.slice A' (xs.length + 1) c') w' rfl rfl hrun ?_)
  clear hrun
  go_wp2
  simp [bodyPost, results, Try.results13, go_sem]
  exact HF.out

set_option maxRecDepth 100000 in
theorem aloneBytes_any (w0 w : World) (g : Nat) (v : Value) (K : Blx w0 [(g, bookCs v, 50)] w) : Calls Try.prog 46 #[.pointer (some ⟨g, 0, none⟩)] w fun e w' => e = .returned (.bool true) ∧ w = w' := by
  have k := (K.cell 0 rfl 0 (v := .slice none 0 0) rfl).1
  go_enter Try.func46, Try.ntmps46
  go_wp2
  go_loopg [3] 0 (fun q x wr => x = .int .i64 0 ∧ wr = w)
  case atStart => exact ⟨rfl, rfl⟩
  case round =>
    obtain ⟨rfl, rfl⟩ := hrel
    go_wp2
    go_loopg [5, 6] 0 (fun q y x wx => y = .slice none 0 0 ∧ x = .int .i64 0 ∧ wx = wr)
    case atStart => exact ⟨rfl, rfl, rfl⟩
    case round =>
      obtain ⟨rfl, rfl, rfl⟩ := hrel
      go_wp2
      go_loopg [9] 0 (fun q x wx => x = .int .i64 0 ∧ wx = wr)
      case atStart => exact ⟨rfl, rfl⟩
      case round =>
        obtain ⟨rfl, rfl⟩ := hrel
        go_wp2
        go_ret
        exact ⟨rfl, rfl⟩

set_option maxRecDepth 100000 in
theorem aloneTexts_any (w0 w : World) (g : Nat) (v : Value) (K : Blx w0 [(g, bookCs v, 50)] w) : Calls Try.prog 47 #[.pointer (some ⟨g, 0, none⟩)] w fun e w' => e = .returned (.bool true) ∧ w = w' := by
  have k := (K.cell 0 rfl 1 (v := .slice none 0 0) rfl).1
  go_enter Try.func47, Try.ntmps47
  go_wp2
  go_loopg [3] 0 (fun q x wr => x = .int .i64 0 ∧ wr = w)
  case atStart => exact ⟨rfl, rfl⟩
  case round =>
    obtain ⟨rfl, rfl⟩ := hrel
    go_wp2
    go_loopg [5, 6] 0 (fun q y x wx => y = .slice none 0 0 ∧ x = .int .i64 0 ∧ wx = wr)
    case atStart => exact ⟨rfl, rfl, rfl⟩
    case round =>
      obtain ⟨rfl, rfl, rfl⟩ := hrel
      go_wp2
      go_loopg [9] 0 (fun q x wx => x = .int .i64 0 ∧ wx = wr)
      case atStart => exact ⟨rfl, rfl⟩
      case round =>
        obtain ⟨rfl, rfl⟩ := hrel
        go_wp2
        go_ret
        exact ⟨rfl, rfl⟩

set_option maxRecDepth 100000 in
theorem aloneInts_any (w0 w : World) (g : Nat) (v : Value) (K : Blx w0 [(g, bookCs v, 50)] w) : Calls Try.prog 48 #[.pointer (some ⟨g, 0, none⟩)] w fun e w' => e = .returned (.bool true) ∧ w = w' := by
  have k := (K.cell 0 rfl 2 (v := .slice none 0 0) rfl).1
  go_enter Try.func48, Try.ntmps48
  go_wp2
  go_loopg [3] 0 (fun q x wr => x = .int .i64 0 ∧ wr = w)
  case atStart => exact ⟨rfl, rfl⟩
  case round =>
    obtain ⟨rfl, rfl⟩ := hrel
    go_wp2
    go_loopg [5, 6] 0 (fun q y x wx => y = .slice none 0 0 ∧ x = .int .i64 0 ∧ wx = wr)
    case atStart => exact ⟨rfl, rfl, rfl⟩
    case round =>
      obtain ⟨rfl, rfl, rfl⟩ := hrel
      go_wp2
      go_loopg [9] 0 (fun q x wx => x = .int .i64 0 ∧ wx = wr)
      case atStart => exact ⟨rfl, rfl⟩
      case round =>
        obtain ⟨rfl, rfl⟩ := hrel
        go_wp2
        go_ret
        exact ⟨rfl, rfl⟩

set_option maxRecDepth 100000 in
theorem aloneInt64s_any (w0 w : World) (g : Nat) (v : Value) (K : Blx w0 [(g, bookCs v, 50)] w) : Calls Try.prog 49 #[.pointer (some ⟨g, 0, none⟩)] w fun e w' => e = .returned (.bool true) ∧ w = w' := by
  have k := (K.cell 0 rfl 3 (v := .slice none 0 0) rfl).1
  go_enter Try.func49, Try.ntmps49
  go_wp2
  go_loopg [3] 0 (fun q x wr => x = .int .i64 0 ∧ wr = w)
  case atStart => exact ⟨rfl, rfl⟩
  case round =>
    obtain ⟨rfl, rfl⟩ := hrel
    go_wp2
    go_loopg [5, 6] 0 (fun q y x wx => y = .slice none 0 0 ∧ x = .int .i64 0 ∧ wx = wr)
    case atStart => exact ⟨rfl, rfl, rfl⟩
    case round =>
      obtain ⟨rfl, rfl, rfl⟩ := hrel
      go_wp2
      go_loopg [9] 0 (fun q x wx => x = .int .i64 0 ∧ wx = wr)
      case atStart => exact ⟨rfl, rfl⟩
      case round =>
        obtain ⟨rfl, rfl⟩ := hrel
        go_wp2
        go_ret
        exact ⟨rfl, rfl⟩

set_option maxRecDepth 100000 in
theorem aloneBounds_any (w0 w : World) (g : Nat) (v : Value) (K : Blx w0 [(g, bookCs v, 50)] w) : Calls Try.prog 50 #[.pointer (some ⟨g, 0, none⟩)] w fun e w' => e = .returned (.bool true) ∧ w = w' := by
  have k := (K.cell 0 rfl 4 (v := .slice none 0 0) rfl).1
  go_enter Try.func50, Try.ntmps50
  go_wp2
  go_loopg [3] 0 (fun q x wr => x = .int .i64 0 ∧ wr = w)
  case atStart => exact ⟨rfl, rfl⟩
  case round =>
    obtain ⟨rfl, rfl⟩ := hrel
    go_wp2
    go_loopg [5, 6] 0 (fun q y x wx => y = .slice none 0 0 ∧ x = .int .i64 0 ∧ wx = wr)
    case atStart => exact ⟨rfl, rfl, rfl⟩
    case round =>
      obtain ⟨rfl, rfl, rfl⟩ := hrel
      go_wp2
      go_loopg [9] 0 (fun q x wx => x = .int .i64 0 ∧ wx = wr)
      case atStart => exact ⟨rfl, rfl⟩
      case round =>
        obtain ⟨rfl, rfl⟩ := hrel
        go_wp2
        go_ret
        exact ⟨rfl, rfl⟩

set_option maxRecDepth 100000 in
theorem aloneLimits_any (w0 w : World) (g : Nat) (v : Value) (K : Blx w0 [(g, bookCs v, 50)] w) : Calls Try.prog 52 #[.pointer (some ⟨g, 0, none⟩)] w fun e w' => e = .returned (.bool true) ∧ w = w' := by
  have k := (K.cell 0 rfl 6 (v := .slice none 0 0) rfl).1
  go_enter Try.func52, Try.ntmps52
  go_wp2
  go_loopg [3] 0 (fun q x wr => x = .int .i64 0 ∧ wr = w)
  case atStart => exact ⟨rfl, rfl⟩
  case round =>
    obtain ⟨rfl, rfl⟩ := hrel
    go_wp2
    go_loopg [5, 6] 0 (fun q y x wx => y = .slice none 0 0 ∧ x = .int .i64 0 ∧ wx = wr)
    case atStart => exact ⟨rfl, rfl, rfl⟩
    case round =>
      obtain ⟨rfl, rfl, rfl⟩ := hrel
      go_wp2
      go_loopg [9] 0 (fun q x wx => x = .int .i64 0 ∧ wx = wr)
      case atStart => exact ⟨rfl, rfl⟩
      case round =>
        obtain ⟨rfl, rfl⟩ := hrel
        go_wp2
        go_ret
        exact ⟨rfl, rfl⟩

set_option maxRecDepth 100000 in
theorem aloneGuards_any (w0 w : World) (g : Nat) (v : Value) (K : Blx w0 [(g, bookCs v, 50)] w) : Calls Try.prog 53 #[.pointer (some ⟨g, 0, none⟩)] w fun e w' => e = .returned (.bool true) ∧ w = w' := by
  have k := (K.cell 0 rfl 7 (v := .slice none 0 0) rfl).1
  go_enter Try.func53, Try.ntmps53
  go_wp2
  go_loopg [3] 0 (fun q x wr => x = .int .i64 0 ∧ wr = w)
  case atStart => exact ⟨rfl, rfl⟩
  case round =>
    obtain ⟨rfl, rfl⟩ := hrel
    go_wp2
    go_loopg [5, 6] 0 (fun q y x wx => y = .slice none 0 0 ∧ x = .int .i64 0 ∧ wx = wr)
    case atStart => exact ⟨rfl, rfl, rfl⟩
    case round =>
      obtain ⟨rfl, rfl, rfl⟩ := hrel
      go_wp2
      go_loopg [9] 0 (fun q x wx => x = .int .i64 0 ∧ wx = wr)
      case atStart => exact ⟨rfl, rfl⟩
      case round =>
        obtain ⟨rfl, rfl⟩ := hrel
        go_wp2
        go_ret
        exact ⟨rfl, rfl⟩

set_option maxRecDepth 100000 in
theorem aloneNodes_any (w0 w : World) (g : Nat) (v : Value) (K : Blx w0 [(g, bookCs v, 50)] w) : Calls Try.prog 54 #[.pointer (some ⟨g, 0, none⟩)] w fun e w' => e = .returned (.bool true) ∧ w = w' := by
  have k := (K.cell 0 rfl 8 (v := .slice none 0 0) rfl).1
  go_enter Try.func54, Try.ntmps54
  go_wp2
  go_loopg [3] 0 (fun q x wr => x = .int .i64 0 ∧ wr = w)
  case atStart => exact ⟨rfl, rfl⟩
  case round =>
    obtain ⟨rfl, rfl⟩ := hrel
    go_wp2
    go_loopg [5, 6] 0 (fun q y x wx => y = .slice none 0 0 ∧ x = .int .i64 0 ∧ wx = wr)
    case atStart => exact ⟨rfl, rfl, rfl⟩
    case round =>
      obtain ⟨rfl, rfl, rfl⟩ := hrel
      go_wp2
      go_loopg [9] 0 (fun q x wx => x = .int .i64 0 ∧ wx = wr)
      case atStart => exact ⟨rfl, rfl⟩
      case round =>
        obtain ⟨rfl, rfl⟩ := hrel
        go_wp2
        go_ret
        exact ⟨rfl, rfl⟩

set_option maxRecDepth 100000 in
theorem aloneMoves_any (w0 w : World) (g : Nat) (v : Value) (K : Blx w0 [(g, bookCs v, 50)] w) : Calls Try.prog 55 #[.pointer (some ⟨g, 0, none⟩)] w fun e w' => e = .returned (.bool true) ∧ w = w' := by
  have k := (K.cell 0 rfl 9 (v := .slice none 0 0) rfl).1
  go_enter Try.func55, Try.ntmps55
  go_wp2
  go_loopg [3] 0 (fun q x wr => x = .int .i64 0 ∧ wr = w)
  case atStart => exact ⟨rfl, rfl⟩
  case round =>
    obtain ⟨rfl, rfl⟩ := hrel
    go_wp2
    go_loopg [5, 6] 0 (fun q y x wx => y = .slice none 0 0 ∧ x = .int .i64 0 ∧ wx = wr)
    case atStart => exact ⟨rfl, rfl, rfl⟩
    case round =>
      obtain ⟨rfl, rfl, rfl⟩ := hrel
      go_wp2
      go_loopg [9] 0 (fun q x wx => x = .int .i64 0 ∧ wx = wr)
      case atStart => exact ⟨rfl, rfl⟩
      case round =>
        obtain ⟨rfl, rfl⟩ := hrel
        go_wp2
        go_ret
        exact ⟨rfl, rfl⟩

set_option maxRecDepth 100000 in
theorem aloneDiffs_any (w0 w : World) (g : Nat) (v : Value) (K : Blx w0 [(g, bookCs v, 50)] w) : Calls Try.prog 56 #[.pointer (some ⟨g, 0, none⟩)] w fun e w' => e = .returned (.bool true) ∧ w = w' := by
  have k := (K.cell 0 rfl 10 (v := .slice none 0 0) rfl).1
  go_enter Try.func56, Try.ntmps56
  go_wp2
  go_loopg [3] 0 (fun q x wr => x = .int .i64 0 ∧ wr = w)
  case atStart => exact ⟨rfl, rfl⟩
  case round =>
    obtain ⟨rfl, rfl⟩ := hrel
    go_wp2
    go_loopg [5, 6] 0 (fun q y x wx => y = .slice none 0 0 ∧ x = .int .i64 0 ∧ wx = wr)
    case atStart => exact ⟨rfl, rfl, rfl⟩
    case round =>
      obtain ⟨rfl, rfl, rfl⟩ := hrel
      go_wp2
      go_loopg [9] 0 (fun q x wx => x = .int .i64 0 ∧ wx = wr)
      case atStart => exact ⟨rfl, rfl⟩
      case round =>
        obtain ⟨rfl, rfl⟩ := hrel
        go_wp2
        go_ret
        exact ⟨rfl, rfl⟩

set_option maxRecDepth 100000 in
theorem aloneSteps_any (w0 w : World) (g : Nat) (v : Value) (K : Blx w0 [(g, bookCs v, 50)] w) : Calls Try.prog 57 #[.pointer (some ⟨g, 0, none⟩)] w fun e w' => e = .returned (.bool true) ∧ w = w' := by
  have k := (K.cell 0 rfl 11 (v := .slice none 0 0) rfl).1
  go_enter Try.func57, Try.ntmps57
  go_wp2
  go_loopg [3] 0 (fun q x wr => x = .int .i64 0 ∧ wr = w)
  case atStart => exact ⟨rfl, rfl⟩
  case round =>
    obtain ⟨rfl, rfl⟩ := hrel
    go_wp2
    go_loopg [5, 6] 0 (fun q y x wx => y = .slice none 0 0 ∧ x = .int .i64 0 ∧ wx = wr)
    case atStart => exact ⟨rfl, rfl, rfl⟩
    case round =>
      obtain ⟨rfl, rfl, rfl⟩ := hrel
      go_wp2
      go_loopg [9] 0 (fun q x wx => x = .int .i64 0 ∧ wx = wr)
      case atStart => exact ⟨rfl, rfl⟩
      case round =>
        obtain ⟨rfl, rfl⟩ := hrel
        go_wp2
        go_ret
        exact ⟨rfl, rfl⟩

set_option maxRecDepth 100000 in
theorem aloneAts_any (w0 w : World) (g : Nat) (v : Value) (K : Blx w0 [(g, bookCs v, 50)] w) : Calls Try.prog 58 #[.pointer (some ⟨g, 0, none⟩)] w fun e w' => e = .returned (.bool true) ∧ w = w' := by
  have k := (K.cell 0 rfl 12 (v := .slice none 0 0) rfl).1
  go_enter Try.func58, Try.ntmps58
  go_wp2
  go_loopg [3] 0 (fun q x wr => x = .int .i64 0 ∧ wr = w)
  case atStart => exact ⟨rfl, rfl⟩
  case round =>
    obtain ⟨rfl, rfl⟩ := hrel
    go_wp2
    go_loopg [5, 6] 0 (fun q y x wx => y = .slice none 0 0 ∧ x = .int .i64 0 ∧ wx = wr)
    case atStart => exact ⟨rfl, rfl, rfl⟩
    case round =>
      obtain ⟨rfl, rfl, rfl⟩ := hrel
      go_wp2
      go_loopg [9] 0 (fun q x wx => x = .int .i64 0 ∧ wx = wr)
      case atStart => exact ⟨rfl, rfl⟩
      case round =>
        obtain ⟨rfl, rfl⟩ := hrel
        go_wp2
        go_ret
        exact ⟨rfl, rfl⟩

set_option maxRecDepth 100000 in
theorem aloneBools_any (w0 w : World) (g : Nat) (v : Value) (K : Blx w0 [(g, bookCs v, 50)] w) : Calls Try.prog 59 #[.pointer (some ⟨g, 0, none⟩)] w fun e w' => e = .returned (.bool true) ∧ w = w' := by
  have k := (K.cell 0 rfl 13 (v := .slice none 0 0) rfl).1
  go_enter Try.func59, Try.ntmps59
  go_wp2
  go_loopg [3] 0 (fun q x wr => x = .int .i64 0 ∧ wr = w)
  case atStart => exact ⟨rfl, rfl⟩
  case round =>
    obtain ⟨rfl, rfl⟩ := hrel
    go_wp2
    go_loopg [5, 6] 0 (fun q y x wx => y = .slice none 0 0 ∧ x = .int .i64 0 ∧ wx = wr)
    case atStart => exact ⟨rfl, rfl, rfl⟩
    case round =>
      obtain ⟨rfl, rfl, rfl⟩ := hrel
      go_wp2
      go_loopg [9] 0 (fun q x wx => x = .int .i64 0 ∧ wx = wr)
      case atStart => exact ⟨rfl, rfl⟩
      case round =>
        obtain ⟨rfl, rfl⟩ := hrel
        go_wp2
        go_ret
        exact ⟨rfl, rfl⟩

end Go.Proofs.Ytfegongaflekiaa

/- Lists of fractions that were handed out: no list shows in another. -/
namespace Go.Proofs.Ytfegongaflekiaa
open Go Go.RowKit
set_option linter.unusedVariables false
set_option linter.unusedSimpArgs false

/-- The mark of a list. -/
def mkQ (i : Nat) : Int × Int := (-9000 - (i : Int), 78)
/-- A list of which the first k are marked. -/
def mkL (l : List (Int × Int)) (i k : Nat) : List (Int × Int) := List.replicate k (mkQ i) ++ l.drop k
theorem mkL_length {l : List (Int × Int)} {i k : Nat} (hk : k ≤ l.length) : (mkL l i k).length = l.length := by
  unfold mkL; rw [List.length_append, List.length_replicate, List.length_drop]; omega
theorem mkL_zero (l : List (Int × Int)) (i : Nat) : mkL l i 0 = l := by simp [mkL]
theorem mkL_full (l : List (Int × Int)) (i : Nat) : mkL l i l.length = List.replicate l.length (mkQ i) := by simp [mkL]
theorem mkL_next {l : List (Int × Int)} {i k : Nat} (hk : k < l.length) : (mkL l i k).set k (mkQ i) = mkL l i (k + 1) := by
  unfold mkL
  rw [List.set_append, List.length_replicate, if_neg (by omega), Nat.sub_self, List.drop_eq_getElem_cons hk, List.set_cons_zero, List.replicate_succ', List.append_assoc]
  rfl
theorem rep_getD (n i k : Nat) (hk : k < n) : (List.replicate n (mkQ i)).getD k (0, 0) = mkQ i := by
  rw [List.getD_eq_getElem?_getD, List.getElem?_replicate, if_pos hk]; rfl

/-- Two lists, kept in a book: their contents D. -/
structure AlR (w0 : World) (g h cap : Nat) (curh : Array Value) (n : Nat) (A : Nat → Option Addr) (c : Nat → Nat) (D : Nat → List (Int × Int)) (wr : World) : Prop where
  book : Blx w0 [(g, bookCs (.slice (some ⟨h, 0, none⟩) 2 cap), 50)] wr
  row : wr.heap[h]? = some (.cells curh 27 (0, 0))
  len : ∀ j, j < 2 → (D j).length = n
  own : ∀ j, j < 2 → RowF wr (.slice (A j) n (c j)) (D j)
section
variable {w0 wr w' : World} {g h cap n : Nat} {curh : Array Value} {A : Nat → Option Addr} {c : Nat → Nat} {D : Nat → List (Int × Int)}
theorem rowF_type {w : World} {s : Value} {l : List (Int × Int)} (hf : RowF w s l) {b : Nat} (hb : s.ownBlock = some b) : ∃ cur, w.heap[b]? = some (.cells cur 59 (0, 0)) := by
  obtain ⟨hl, hh⟩ := hf
  rcases hh with ⟨e, _⟩ | ⟨g', cap, cur, e, _, h1, _⟩
  · rw [e] at hb; cases hb
  · rw [e] at hb
    simp only [Value.ownBlock, Option.some.injEq] at hb
    subst hb
    exact ⟨cur, h1⟩
theorem AlR.notBook (H : AlR w0 g h cap curh n A c D wr) {s : Value} {l : List (Int × Int)} (hf : RowF wr s l) : s.ownBlock ≠ some g := fun e => by
  obtain ⟨cur, h1⟩ := rowF_type hf e
  have h2 := H.book.l _ (List.mem_singleton.2 rfl)
  simp only at h2
  rw [h1] at h2
  simp only [Option.some.injEq, Obj.cells.injEq] at h2
  exact absurd h2.2.1 (by decide)
theorem AlR.notRow (H : AlR w0 g h cap curh n A c D wr) {s : Value} {l : List (Int × Int)} (hf : RowF wr s l) : s.ownBlock ≠ some h := fun e => by
  obtain ⟨cur, h1⟩ := rowF_type hf e
  rw [H.row] at h1
  simp only [Option.some.injEq, Obj.cells.injEq] at h1
  exact absurd h1.2.1 (by decide)
theorem AlR.cellH (H : AlR w0 g h cap curh n A c D wr) {i : Nat} {v : Value} (hc : curh[i]? = some v) : wr.cell? ⟨h, i, none⟩ = some v := by
  unfold World.cell?; rw [H.row]; exact hc
/-- Blocks that hold what they held. -/
theorem AlR.keep (H : AlR w0 g h cap curh n A c D wr) (hb : Below w0.heap.size w0 w') (h1 : w'.heap[g]? = wr.heap[g]?) (h2 : w'.heap[h]? = wr.heap[h]?) (h3 : ∀ j, j < 2 → ∀ b, (Value.slice (A j) n (c j)).ownBlock = some b → w'.heap[b]? = wr.heap[b]?) : AlR w0 g h cap curh n A c D w' :=
  ⟨⟨hb, fun t ht => by obtain rfl := List.mem_singleton.1 ht; exact h1.trans (H.book.l _ (List.mem_singleton.2 rfl)), H.book.s, H.book.lo⟩, h2.trans H.row, H.len, fun j hj => (H.own j hj).frame (h3 j hj)⟩
/-- A place of a list is written. -/
theorem AlR.put (H : AlR w0 g h cap curh n A c D wr) (hd : ∀ i j, i < 2 → j < 2 → i ≠ j → ∀ b, (Value.slice (A i) n (c i)).ownBlock = some b → (Value.slice (A j) n (c j)).ownBlock ≠ some b) {i k gi : Nat} (hi : i < 2) (hk : k < n) (hA : A i = some ⟨gi, 0, none⟩) (hlo : w0.heap.size ≤ gi) (x y : Int) {D' : Nat → List (Int × Int)} (hD : ∀ j, j < 2 → D' j = if j = i then (D i).set k (x, y) else D j) :
    AlR w0 g h cap curh n A c D' ((wr.setCell ⟨gi, k * 2, none⟩ (.int .i64 x)).setCell ⟨gi, k * 2 + 1, none⟩ (.int .i64 y)) := by
  have ho : (Value.slice (A i) n (c i)).ownBlock = some gi := by rw [hA]; rfl
  have hng : gi ≠ g := fun e => H.notBook (H.own i hi) (by rw [ho, e])
  have hnh : gi ≠ h := fun e => H.notRow (H.own i hi) (by rw [ho, e])
  have heap : ∀ b, b ≠ gi → ((wr.setCell ⟨gi, k * 2, none⟩ (.int .i64 x)).setCell ⟨gi, k * 2 + 1, none⟩ (.int .i64 y)).heap[b]? = wr.heap[b]? := fun b hb => by
    simp only [World.setCell, Array.getElem?_modify]
    rw [if_neg (fun e => hb e.symm), if_neg (fun e => hb e.symm)]
  refine ⟨⟨(H.book.below.setCell (p := ⟨gi, _, none⟩) hlo _).setCell (p := ⟨gi, _, none⟩) hlo _, fun t ht => ?_, H.book.s, H.book.lo⟩, (heap h (fun e => hnh e.symm)).trans H.row, fun j hj => ?_, fun j hj => ?_⟩
  · obtain rfl := List.mem_singleton.1 ht
    exact (heap g (fun e => hng e.symm)).trans (H.book.l _ (List.mem_singleton.2 rfl))
  · rw [hD j hj]
    split
    · rw [List.length_set]; exact H.len i hi
    · exact H.len j hj
  · rw [hD j hj]
    by_cases e : j = i
    · subst e
      rw [if_pos rfl]
      have hf := H.own j hj
      have hl := H.len j hj
      rw [hA, ← hl] at hf
      have := hf.put k (by omega) x y
      rw [hA, ← hl]
      exact this
    · rw [if_neg e]
      refine (H.own j hj).frame fun b hb => heap b (fun e2 => ?_)
      subst e2
      exact hd j i hj hi e b hb ho
end
/-- The lists' contents while they are marked. -/
def marD (l : List (Int × Int)) (i k j : Nat) : List (Int × Int) := if j < i then List.replicate l.length (mkQ j) else if j = i then mkL l j k else l
theorem marD_len {l : List (Int × Int)} {i k : Nat} (hk : k ≤ l.length) (j : Nat) : (marD l i k j).length = l.length := by
  unfold marD
  split
  · rw [List.length_replicate]
  · split
    · exact mkL_length hk
    · rfl
theorem marD_next {l : List (Int × Int)} {i k : Nat} (hk : k < l.length) (j : Nat) : marD l i (k + 1) j = if j = i then (marD l i k i).set k (mkQ i) else marD l i k j := by
  unfold marD
  by_cases e : j = i
  · subst e
    rw [if_neg (Nat.lt_irrefl _), if_pos rfl, if_pos rfl, if_neg (Nat.lt_irrefl _), if_pos rfl, mkL_next hk]
  · rw [if_neg e, if_neg e, if_neg e]
theorem marD_row {l : List (Int × Int)} (i : Nat) : ∀ j, marD l i l.length j = marD l (i + 1) 0 j := fun j => by
  unfold marD
  by_cases e : j < i
  · rw [if_pos e, if_pos (by omega)]
  · by_cases e2 : j = i
    · subst e2
      rw [if_neg e, if_pos rfl, if_pos (by omega), mkL_full]
    · rw [if_neg e, if_neg e2, if_neg (by omega)]
      split
      · rw [mkL_zero]
      · rfl
theorem AlR.alike {w0 wr : World} {g h cap n : Nat} {curh : Array Value} {A : Nat → Option Addr} {c : Nat → Nat} {D D' : Nat → List (Int × Int)} (H : AlR w0 g h cap curh n A c D wr) (hD : ∀ j, j < 2 → D' j = D j) : AlR w0 g h cap curh n A c D' wr :=
  ⟨H.book, H.row, fun j hj => by rw [hD j hj]; exact H.len j hj, fun j hj => by rw [hD j hj]; exact H.own j hj⟩

/-! ### the lists are grown -/
/-- While list i is grown, from the world wI on: v holds n + k marks. -/
structure GrR (w0 wI : World) (g h cap : Nat) (curh : Array Value) (n : Nat) (A : Nat → Option Addr) (c : Nat → Nat) (i k : Nat) (v : Value) (wr : World) : Prop where
  below : Below w0.heap.size w0 wr
  size : wI.heap.size ≤ wr.heap.size
  row : RowF wr v (List.replicate (n + k) (mkQ i))
  self : RowF wr (.slice (A i) n (c i)) (List.replicate n (mkQ i))
  old : ∀ b, (Value.slice (A i) n (c i)).ownBlock = some b → b < wI.heap.size
  blk : v.ownBlock = (Value.slice (A i) n (c i)).ownBlock ∨ ∃ b, v.ownBlock = some b ∧ wI.heap.size ≤ b
  keep : ∀ b, b < wI.heap.size → (Value.slice (A i) n (c i)).ownBlock ≠ some b → wr.heap[b]? = wI.heap[b]?
theorem GrR.next {w0 wI wr : World} {g h cap n i k : Nat} {curh : Array Value} {A : Nat → Option Addr} {c : Nat → Nat} {v : Value} (H : GrR w0 wI g h cap curh n A c i k v wr) (hlo : ∀ b, v.ownBlock = some b → w0.heap.size ≤ b) (hI : w0.heap.size ≤ wI.heap.size) (hn : n + k ≤ 1000) :
    ∃ s' w', (Builtin.append_ #[27, 27] 27 #[v, .slice (some ⟨wr.heap.size, 0, none⟩) 1 1]).run Try.prog (wr.alloc (.cells #[.int .i64 (mkQ i).1, .int .i64 (mkQ i).2] 59)) = .ok s' w' ∧ GrR w0 wI g h cap curh n A c i (k + 1) s' w' ∧ ∀ b, s'.ownBlock = some b → w0.heap.size ≤ b := by
  have hb1 := below_one wr (.cells #[.int .i64 (mkQ i).1, .int .i64 (mkQ i).2] 59)
  have hnew := heap_alloc_new wr (.cells #[.int .i64 (mkQ i).1, .int .i64 (mkQ i).2] 59)
  have lt : ∀ s l, RowF wr s l → ∀ b, s.ownBlock = some b → b < wr.heap.size := fun s l hf b hb => by
    obtain ⟨cur, h1⟩ := rowF_type hf hb
    exact (Array.getElem?_eq_some_iff.1 h1).1
  have row1 := H.row.frame (fun q hq => hb1.block q (lt _ _ H.row q hq))
  have self1 := H.self.frame (fun q hq => hb1.block q (lt _ _ H.self q hq))
  obtain ⟨s', w', a1, a2, a3, a4, ⟨a5, a6, a7⟩, a8, a9⟩ := row1.grow wr.heap.size 1 (mkQ i).1 (mkQ i).2 ⟨by unfold World.cell?; rw [hnew]; rfl, by unfold World.cell?; rw [hnew]; rfl⟩ (by rw [List.length_replicate]; omega)
  have hrep : List.replicate (n + k) (mkQ i) ++ [((mkQ i).1, (mkQ i).2)] = List.replicate (n + (k + 1)) (mkQ i) := by
    rw [show n + (k + 1) = (n + k) + 1 by omega, List.replicate_succ']
  rw [hrep] at a2
  have hs1 := hb1.size
  refine ⟨s', w', a1, ⟨?_, by have := H.size; omega, a2, ?_, H.old, ?_, fun b hb hne => ?_⟩, fun b hb => ?_⟩
  · refine (H.below.trans (hb1.mono H.below.size)).trans ⟨a5, a6, a7, a4, fun b hb => a8 b (by have := H.below.size; omega) (fun e => ?_)⟩
    have := hlo b e; omega
  · rcases H.blk with e | ⟨b, e1, e2⟩
    · refine a9 _ _ e.symm (by rw [List.length_replicate, List.length_replicate]; omega) self1
    · refine self1.frame fun q hq => a8 q (by have := lt _ _ H.self q hq; omega) (fun e => ?_)
      rw [e1] at e
      simp only [Option.some.injEq] at e
      subst e
      have := H.old b hq
      omega
  · rcases a3 with e | ⟨b, e1, e2⟩
    · rw [e]; exact H.blk
    · exact .inr ⟨b, e1, by have := H.size; omega⟩
  · have hsz := H.size
    have e1 : w'.heap[b]? = (wr.alloc (.cells #[.int .i64 (mkQ i).1, .int .i64 (mkQ i).2] 59)).heap[b]? := a8 b (by omega) (fun e => by
      rcases H.blk with e2 | ⟨b', e2, e3⟩
      · rw [e2] at e; exact hne e
      · rw [e2] at e
        simp only [Option.some.injEq] at e
        omega)
    exact e1.trans ((hb1.block b (by omega)).trans (H.keep b hb hne))
  · rcases a3 with e | ⟨b', e1, e2⟩
    · rw [e] at hb; exact hlo b hb
    · rw [e1] at hb
      simp only [Option.some.injEq] at hb
      have := H.size
      omega

end Go.Proofs.Ytfegongaflekiaa

/- No list of fractions shows in another: the walk. -/
namespace Go.Proofs.Ytfegongaflekiaa
open Go Go.RowKit
set_option linter.unusedVariables false
set_option linter.unusedSimpArgs false

/-- The first i lists have been grown: V; they lie in the row v. -/
structure ThR (w0 : World) (g h cap : Nat) (curh : Array Value) (n : Nat) (A : Nat → Option Addr) (c : Nat → Nat) (base : Nat) (i : Nat) (V : Nat → Value) (v : Value) (wr : World) : Prop where
  al : AlR w0 g h cap curh n A c (fun j => List.replicate n (mkQ j)) wr
  all : wr.ownsRow base 27 1 v i ((List.range i).map V)
  rows : ∀ j, j < i → RowF wr (V j) (List.replicate (n + 20) (mkQ j))
  blk : ∀ j, j < i → ∀ b, (V j).ownBlock = some b → ((Value.slice (A j) n (c j)).ownBlock = some b ∨ base ≤ b)
  size : base ≤ wr.heap.size
  lo : g < base ∧ h < base ∧ w0.heap.size ≤ base ∧ ∀ j, j < 2 → ∀ b, (Value.slice (A j) n (c j)).ownBlock = some b → b < base
section
variable {w0 wI wr : World} {g h cap n base i : Nat} {curh : Array Value} {A : Nat → Option Addr} {c : Nat → Nat} {V : Nat → Value} {v y : Value}
theorem rowF_lt {w : World} {s : Value} {l : List (Int × Int)} (hf : RowF w s l) {b : Nat} (hb : s.ownBlock = some b) : b < w.heap.size := by
  obtain ⟨cur, h1⟩ := rowF_type hf hb
  exact (Array.getElem?_eq_some_iff.1 h1).1
theorem GrR.start (H : ThR w0 g h cap curh n A c base i V v wI) (hi : i < 2) : GrR w0 wI g h cap curh n A c i 0 (.slice (A i) n (c i)) wI :=
  ⟨H.al.book.below, Nat.le_refl _, H.al.own i hi, H.al.own i hi, fun b hb => Nat.lt_of_lt_of_le (H.lo.2.2.2 i hi b hb) H.size, .inl rfl, fun b _ _ => rfl⟩
theorem ThR.next (H : ThR w0 g h cap curh n A c base i V v wI) (G : GrR w0 wI g h cap curh n A c i 20 y wr) (hd : ∀ i j, i < 2 → j < 2 → i ≠ j → ∀ b, (Value.slice (A i) n (c i)).ownBlock = some b → (Value.slice (A j) n (c j)).ownBlock ≠ some b) (hi : i < 2) :
    ∃ v' w', (Builtin.append_ #[40, 40] 40 #[v, .slice (some ⟨wr.heap.size, 0, none⟩) 1 1]).run Try.prog (wr.alloc (.cells #[y] 27)) = .ok v' w' ∧ ThR w0 g h cap curh n A c base (i + 1) (fun j => if j = i then y else V j) v' w' := by
  have hb1 := below_one wr (.cells #[y] 27)
  have hnew := heap_alloc_new wr (.cells #[y] 27)
  have hone : y.oneCell' = true := by obtain ⟨A', c', e, _⟩ := G.row.slice; rw [e]; rfl
  have hbase := H.lo.2.2.2 i hi
  have F1 : ∀ b, b < wI.heap.size → (Value.slice (A i) n (c i)).ownBlock ≠ some b → (wr.alloc (.cells #[y] 27)).heap[b]? = wI.heap[b]? := fun b hb hne => (hb1.block b (by have := G.size; omega)).trans (G.keep b hb hne)
  have all1 : (wr.alloc (.cells #[y] 27)).ownsRow base 27 1 v i ((List.range i).map V) := rows_later H.all (fun q hq => F1 q (rows_block H.all hq).2 (fun e => by have := (rows_block H.all hq).1; have := hbase q e; omega))
  have hg0 : g < wI.heap.size := Nat.lt_of_lt_of_le H.lo.1 H.size
  have hh0 : h < wI.heap.size := Nat.lt_of_lt_of_le H.lo.2.1 H.size
  have al1 : AlR w0 g h cap curh n A c (fun j => List.replicate n (mkQ j)) (wr.alloc (.cells #[y] 27)) := by
    refine ⟨⟨G.below.trans (hb1.mono G.below.size), fun t ht => ?_, H.al.book.s, H.al.book.lo⟩, (F1 h hh0 (H.al.notRow (H.al.own i hi))).trans H.al.row, H.al.len, fun j hj => ?_⟩
    · obtain rfl := List.mem_singleton.1 ht
      exact (F1 g hg0 (H.al.notBook (H.al.own i hi))).trans (H.al.book.l _ (List.mem_singleton.2 rfl))
    · by_cases e : j = i
      · subst e
        exact G.self.frame fun b hb => hb1.block b (rowF_lt G.self hb)
      · exact (H.al.own j hj).frame fun b hb => F1 b (rowF_lt (H.al.own j hj) hb) (hd j i hj hi e b hb)
  have rows1 : ∀ j, j < i → RowF (wr.alloc (.cells #[y] 27)) (V j) (List.replicate (n + 20) (mkQ j)) := fun j hj => (H.rows j hj).frame fun b hb => F1 b (rowF_lt (H.rows j hj) hb) (fun e => by
    rcases H.blk j hj b hb with h1 | h1
    · exact hd j i (by omega) hi (by omega) b h1 e
    · have := hbase b e; omega)
  have y1 : RowF (wr.alloc (.cells #[y] 27)) y (List.replicate (n + 20) (mkQ i)) := G.row.frame fun b hb => hb1.block b (rowF_lt G.row hb)
  have hlen : ((List.range i).map V).length = i := by simp
  have all2 : (wr.alloc (.cells #[y] 27)).ownsRow base 27 1 v ((List.range i).map V).length ((List.range i).map V) := by rw [hlen]; exact all1
  have hsz1 : base ≤ (wr.alloc (.cells #[y] 27)).heap.size := by have := H.size; have := G.size; have := hb1.size; omega
  obtain ⟨v', w', a1, a2, a3⟩ := take_run all2 hsz1 wr.heap.size 1 y hone (by unfold World.cell?; rw [hnew]; rfl) (by rw [hlen]; omega)
  have F2 : ∀ b, b < (wr.alloc (.cells #[y] 27)).heap.size → v.ownBlock ≠ some b → w'.heap[b]? = (wr.alloc (.cells #[y] 27)).heap[b]? := fun b hb hne => a3.block b hb (fun e => hne e.symm)
  have vlo : ∀ b, v.ownBlock = some b → base ≤ b := fun b hb => (rows_block all1 hb).1
  have vty : ∀ s l, RowF (wr.alloc (.cells #[y] 27)) s l → ∀ b, s.ownBlock = some b → v.ownBlock ≠ some b := fun s l hf b hb e => by
    obtain ⟨cur, h1⟩ := rowF_type hf hb
    obtain ⟨hl, hv⟩ := all1
    rcases hv with ⟨e1, _⟩ | ⟨g', cap', cur', e1, _, h2, _⟩
    · rw [e1] at e; cases e
    · rw [e1] at e
      simp only [Value.ownBlock, Option.some.injEq] at e
      subst e
      rw [h1] at h2
      simp only [Option.some.injEq, Obj.cells.injEq] at h2
      exact absurd h2.2.1 (by decide)
  have fr : ∀ s l, RowF (wr.alloc (.cells #[y] 27)) s l → RowF w' s l := fun s l hf => hf.frame fun b hb => F2 b (rowF_lt hf hb) (vty s l hf b hb)
  have g1 : g < (wr.alloc (.cells #[y] 27)).heap.size := by have := H.lo.1; omega
  have h1 : h < (wr.alloc (.cells #[y] 27)).heap.size := by have := H.lo.2.1; omega
  refine ⟨v', w', a1, ⟨⟨⟨al1.book.below.grown a3 (by have := H.lo.2.2.1; omega) (fun q hq => by have := vlo q hq; have := H.lo.2.2.1; omega), fun t ht => ?_, al1.book.s, al1.book.lo⟩, (F2 h h1 (fun e => by have := vlo h e; have := H.lo.2.1; omega)).trans al1.row, al1.len, fun j hj => fr _ _ (al1.own j hj)⟩, ?_, fun j hj => ?_, fun j hj b hb => ?_, by have := a3.size; omega, H.lo⟩⟩
  · obtain rfl := List.mem_singleton.1 ht
    exact (F2 g g1 (fun e => by have := vlo g e; have := H.lo.1; omega)).trans (al1.book.l _ (List.mem_singleton.2 rfl))
  · rw [hlen] at a2
    have e : (List.range (i + 1)).map (fun j => if j = i then y else V j) = (List.range i).map V ++ [y] := by
      rw [List.range_succ, List.map_append]
      refine congr (congrArg _ (List.map_congr_left fun j hj => ?_)) (by simp)
      have := List.mem_range.1 hj
      rw [if_neg (by omega)]
    rw [e]; exact a2
  · by_cases e : j = i
    · subst e; simp only [if_true]; exact fr _ _ y1
    · simp only [if_neg e]; exact fr _ _ (rows1 j (by omega))
  · by_cases e : j = i
    · subst e
      simp only [if_true] at hb
      rcases G.blk with h2 | ⟨b', h2, h3⟩
      · rw [h2] at hb; exact .inl hb
      · rw [h2] at hb
        simp only [Option.some.injEq] at hb
        subst hb
        exact .inr (by have := H.size; omega)
    · simp only [if_neg e] at hb
      exact H.blk j (by omega) b hb
end

set_option maxRecDepth 100000 in
set_option maxHeartbeats 8000000 in
theorem aloneRats_any (w0 w : World) (g h cap n : Nat) (curh : Array Value) (A : Nat → Option Addr) (c : Nat → Nat) (l : List (Int × Int)) (hl : l.length = n) (hn : n ≤ 8) (H : AlR w0 g h cap curh n A c (fun _ => l) w)
    (hc : ∀ i, i < 2 → curh[i]? = some (.slice (A i) n (c i))) (hd : ∀ i j, i < 2 → j < 2 → i ≠ j → ∀ b, (Value.slice (A i) n (c i)).ownBlock = some b → (Value.slice (A j) n (c j)).ownBlock ≠ some b) (hlo : ∀ j, j < 2 → ∀ b, (Value.slice (A j) n (c j)).ownBlock = some b → w0.heap.size ≤ b) :
    Calls Try.prog 51 #[.pointer (some ⟨g, 0, none⟩)] w fun e w' => e = .returned (.bool true) ∧ Blx w0 [(g, bookCs (.slice (some ⟨h, 0, none⟩) 2 cap), 50)] w' := by
  subst hl
  have HS := Lib.hid (H.alike (D' := marD l 0 0) (fun j _ => by
    unfold marD
    rw [if_neg (by omega)]
    split
    · exact mkL_zero l j
    · rfl))
  have HC := Lib.hid hc
  have HD := Lib.hid hd
  have HLO := Lib.hid hlo
  clear H hc hd hlo
  go_enter Try.func51, Try.ntmps51
  go_wp2
  go_loopg [3] 2 (fun q x wr => ∃ i : Nat, x = .int .i64 i ∧ Hid (AlR w0 g h cap curh l.length A c (marD l i 0) wr) ∧ Hid (i ≤ 2 ∧ q + i = 2))
  case atStart => exact ⟨0, by simp, HS, Lib.hid (by omega)⟩
  case round =>
    clear HS
    obtain ⟨i, rfl, HA, HG⟩ := hrel
    have q5 : IntKind.i64.wrap ((i : Int) + 1) = ((i + 1 : Nat) : Int) := by rw [IntWalk.i64_in _ (by have := HG.out; omega)]; omega
    have k5 := (HA.out.book.cell 0 rfl 5 (v := .slice (some ⟨h, 0, none⟩) 2 cap) rfl).1
    by_cases hi : i < 2
    · have hii : (i : Int) < 2 := by omega
      have q6 : IntKind.i64.wrap (-9000 - (i : Int)) = -9000 - (i : Int) := IntWalk.i64_in _ (by omega)
      go_wp2
      clear k5
      go_loopg [4] l.length (fun q x wr => ∃ k : Nat, x = .int .i64 k ∧ Hid (AlR w0 g h cap curh l.length A c (marD l i k) wr) ∧ Hid (k ≤ l.length ∧ q + k = l.length))
      case atStart => exact ⟨0, by simp, HA, Lib.hid (by omega)⟩
      case round =>
        clear HA
        obtain ⟨k, rfl, HA, HG2⟩ := hrel
        have w6 : IntKind.i64.wrap ((k : Int) + 1) = ((k + 1 : Nat) : Int) := by rw [IntWalk.i64_in _ (by have := HG2.out; omega)]; omega
        have k5 := (HA.out.book.cell 0 rfl 5 (v := .slice (some ⟨h, 0, none⟩) 2 cap) rfl).1
        have kh := HA.out.cellH (HC.out i hi)
        by_cases hk : k < l.length
        · have hki : (k : Int) < (l.length : Int) := by omega
          have hlen := marD_len (l := l) (i := i) (k := k) (by omega) i
          have hf := HA.out.own i hi
          rw [← hlen] at hf
          obtain ⟨gi, ci, e1, _⟩ := hf.block (by omega)
          simp only [Value.slice.injEq] at e1
          obtain ⟨eA, _⟩ := e1
          rw [eA] at hf
          obtain ⟨⟨c1, c2⟩, f1, f2⟩ := hf.at k (by omega)
          have HN := Lib.hid (HA.out.put HD.out hi hk eA (HLO.out i hi gi (by rw [eA]; rfl)) (-9000 - (i : Int)) 78 (D' := marD l i (k + 1)) (fun j _ => marD_next hk j))
          rw [eA] at kh
          clear hf hlen
          go_wp2
          go_roundg (gk - 1)
          case measure => have h := HG2.out; omega
          case rel => exact ⟨k + 1, by go_num, HN, Lib.hid (by have h := HG2.out; omega)⟩
        · have hki : ¬ (k : Int) < (l.length : Int) := by omega
          have HN := Lib.hid (HA.out.alike (D' := marD l (i + 1) 0) (fun j _ => by
            have e : k = l.length := by have := HG2.out; omega
            rw [e]; exact (marD_row i j).symm))
          go_wp2
          go_roundg (1 - i)
          case measure => have h := HG.out; omega
          case rel => exact ⟨i + 1, by go_num, HN, Lib.hid (by have h := HG.out; omega)⟩
    · have hii : ¬ (i : Int) < 2 := by omega
      have HT := Lib.hid (HA.out.alike (D' := fun j => List.replicate l.length (mkQ j)) (fun j hj => by
        have e : i = 2 := by have := HG.out; omega
        subst e
        show _ = marD l 2 0 j
        unfold marD; rw [if_pos hj]))
      have HLB := Lib.hid (show g < wr.heap.size ∧ h < wr.heap.size ∧ w0.heap.size ≤ wr.heap.size ∧ ∀ j, j < 2 → ∀ b, (Value.slice (A j) l.length (c j)).ownBlock = some b → b < wr.heap.size from
        ⟨HT.out.book.after _ (List.mem_singleton.2 rfl), (Array.getElem?_eq_some_iff.1 HT.out.row).1, HT.out.book.below.size, fun j hj b hb => rowF_lt (HT.out.own j hj) hb⟩)
      clear HA
      go_wp2
      clear k5
      generalize wr = wM at *
      have HS := Lib.hid (show ThR w0 g h cap curh l.length A c wM.heap.size 0 (fun _ => .slice none 0 0) (.slice none 0 0) wM from
        ⟨HT.out, World.ownsRow_nil _ _ _ _, fun j hj => by omega, fun j hj => by omega, Nat.le_refl _, HLB.out⟩)
      go_loopg [5, 6] 2 (fun q v x wr => ∃ (i : Nat) (V : Nat → Value), x = .int .i64 i ∧ Hid (ThR w0 g h cap curh l.length A c wM.heap.size i V v wr) ∧ Hid (i ≤ 2 ∧ q + i = 2))
      case atStart => exact ⟨0, _, by simp, HS, Lib.hid (by omega)⟩
      case round =>
        clear HS HT HG
        obtain ⟨i, V, rfl, HT, HG⟩ := hrel
        have q5 : IntKind.i64.wrap ((i : Int) + 1) = ((i + 1 : Nat) : Int) := by rw [IntWalk.i64_in _ (by have := HG.out; omega)]; omega
        have k5 := (HT.out.al.book.cell 0 rfl 5 (v := .slice (some ⟨h, 0, none⟩) 2 cap) rfl).1
        by_cases hi : i < 2
        · have hii : (i : Int) < 2 := by omega
          have q6 : IntKind.i64.wrap (-9000 - (i : Int)) = -9000 - (i : Int) := IntWalk.i64_in _ (by omega)
          have kh := HT.out.al.cellH (HC.out i hi)
          have HGS := Lib.hid (GrR.start HT.out hi)
          have HLS := Lib.hid (HLO.out i hi)
          generalize wr = wI at *
          go_wp2
          clear k5 kh
          go_loopg [7, 8] 20 (fun q y x wr => ∃ k : Nat, x = .int .i64 k ∧ Hid (GrR w0 wI g h cap curh l.length A c i k y wr ∧ ∀ b, y.ownBlock = some b → w0.heap.size ≤ b) ∧ Hid (k ≤ 20 ∧ q + k = 20))
          case atStart => exact ⟨0, by simp, Lib.hid ⟨HGS.out, HLS.out⟩, Lib.hid (by omega)⟩
          case round =>
            clear HGS HLS
            obtain ⟨k, rfl, HR, HG2⟩ := hrel
            have w6 : IntKind.i64.wrap ((k : Int) + 1) = ((k + 1 : Nat) : Int) := by rw [IntWalk.i64_in _ (by have := HG2.out; omega)]; omega
            by_cases hk : k < 20
            · have hki : (k : Int) < 20 := by omega
              obtain ⟨s', w', hrun, hnext, hlo'⟩ := HR.out.1.next HR.out.2 HT.out.al.book.below.size (by omega)
              have HN := Lib.hid (And.intro hnext hlo')
              simp only [mkQ] at hrun
              clear hnext hlo'
              go_wp2_with (at_builtin; refine wpList_append_run rfl _ _ 27 rfl _ _ s' w' rfl rfl hrun ?_)
              clear hrun
              go_wp2
              go_roundg (gk - 1)
              case measure => have h := HG2.out; omega
              case rel => exact ⟨k + 1, by go_num, HN, Lib.hid (by have h := HG2.out; omega)⟩
            · have hki : ¬ (k : Int) < 20 := by omega
              have HR20 := Lib.hid (show GrR w0 wI g h cap curh l.length A c i 20 u7 wr from by
                have h := HR.out.1
                rw [show k = 20 by have := HG2.out; omega] at h; exact h)
              obtain ⟨A', c', ey, _⟩ := HR20.out.row.slice
              rw [List.length_replicate] at ey
              obtain ⟨v', w', hrun, hnext⟩ := ThR.next HT.out HR20.out HD.out hi
              have HN := Lib.hid hnext
              clear hnext
              subst ey
              go_wp2_with (at_builtin; refine wpList_append_run rfl _ _ 40 rfl _ _ v' w' rfl rfl hrun ?_)
              clear hrun
              go_wp2
              go_roundg (1 - i)
              case measure => have h := HG.out; omega
              case rel => exact ⟨i + 1, _, by go_num, HN, Lib.hid (by have h := HG.out; omega)⟩
        · have hii : ¬ (i : Int) < 2 := by omega
          have HT2 := Lib.hid (show ThR w0 g h cap curh l.length A c wM.heap.size 2 V u5 wr from by
            have h := HT.out
            rw [show i = 2 by have := HG.out; omega] at h; exact h)
          clear HT
          obtain ⟨gq, capq, ev, HCQ⟩ : ∃ gq capq, u5 = .slice (some ⟨gq, 0, none⟩) 2 capq ∧ Hid (∀ j, j < 2 → wr.cell? ⟨gq, j, none⟩ = some (V j)) := by
            have hall := HT2.out.all
            have hcells := hall
            obtain ⟨_, hv⟩ := hall
            rcases hv with ⟨_, h0⟩ | ⟨gq, capq, curq, e, _, _⟩
            · omega
            · refine ⟨gq, capq, e, Lib.hid fun j hj => ?_⟩
              rw [e] at hcells
              have h1 := World.ownsRow.cells hcells rfl j (V j) (by
                rw [List.getElem?_map, List.getElem?_range hj]; rfl)
              have ea : (⟨gq, 0, none⟩ : Addr).add j = ⟨gq, j, none⟩ := by unfold Addr.add; split <;> simp_all
              rw [ea] at h1
              exact h1
          subst ev
          have HVS := Lib.hid (fun j (hj : j < 2) => (HT2.out.rows j hj).slice)
          obtain ⟨N2, hN2⟩ : ∃ N2, N2 = l.length + 20 := ⟨_, rfl⟩
          rw [← hN2] at HVS
          have HN2 := Lib.hid hN2
          clear hN2
          have HSS := Lib.hid (fun j (hj : j < 2) => (HT2.out.al.own j hj).slice)
          have HFIN := Lib.hid HT2.out.al.book
          have k5 := (HT2.out.al.book.cell 0 rfl 5 (v := .slice (some ⟨h, 0, none⟩) 2 cap) rfl).1
          have HKH := Lib.hid (fun j (hj : j < 2) => HT2.out.al.cellH (HC.out j hj))
          clear HT2 HG HLB
          go_wp2
          go_loopg [9] 2 (fun q x wx => ∃ i : Nat, x = .int .i64 i ∧ Hid (wx = wr) ∧ Hid (i ≤ 2 ∧ q + i = 2))
          case atStart => exact ⟨0, by simp, Lib.hid rfl, Lib.hid (by omega)⟩
          case round =>
            obtain ⟨t, rfl, HW, HG⟩ := hrel
            have ew := HW.out
            subst ew
            have q7 : IntKind.i64.wrap ((t : Int) + 1) = ((t + 1 : Nat) : Int) := by rw [IntWalk.i64_in _ (by have := HG.out; omega)]; omega
            by_cases ht : t < 2
            · have hti : (t : Int) < 2 := by omega
              have q8 : IntKind.i64.wrap (-9000 - (t : Int)) = -9000 - (t : Int) := IntWalk.i64_in _ (by omega)
              have cq := HCQ.out t ht
              have ch := HKH.out t ht
              obtain ⟨Av, cv, eV, hrv⟩ := HVS.out t ht
              rw [List.length_replicate] at eV
              rw [eV] at cq
              have HRV := Lib.hid hrv
              obtain ⟨As, cs, eS, hrs⟩ := HSS.out t ht
              have HRS := Lib.hid hrs
              simp only [Value.slice.injEq] at eS
              obtain ⟨eA, -, -⟩ := eS
              rw [eA] at ch
              clear eV hrv hrs eA
              go_wp2
              go_loopg [10] N2 (fun q x wx => ∃ k : Nat, x = .int .i64 k ∧ Hid (wx = wr) ∧ Hid (k ≤ N2 ∧ q + k = N2))
              case atStart => exact ⟨0, by simp, Lib.hid rfl, Lib.hid (by omega)⟩
              case round =>
                obtain ⟨k, rfl, HW, HG2⟩ := hrel
                have ew := HW.out
                subst ew
                have q9 : IntKind.i64.wrap ((k : Int) + 1) = ((k + 1 : Nat) : Int) := by rw [IntWalk.i64_in _ (by have := HG2.out; have := HN2.out; omega)]; omega
                by_cases hk : k < N2
                · have hki : (k : Int) < (N2 : Int) := by omega
                  obtain ⟨bv, ov, rfl, e1, e2⟩ := HRV.out k (by rw [List.length_replicate]; exact hk)
                  rw [rep_getD _ _ _ hk] at e1 e2
                  simp only [mkQ] at e1 e2
                  go_wp2
                  go_roundg (gk - 1)
                  case measure => have h := HG2.out; omega
                  case rel => exact ⟨k + 1, by go_num, Lib.hid rfl, Lib.hid (by have h := HG2.out; omega)⟩
                · have hki : ¬ (k : Int) < (N2 : Int) := by omega
                  go_wp2
                  go_loopg [11] l.length (fun q x wx => ∃ k : Nat, x = .int .i64 k ∧ Hid (wx = wr) ∧ Hid (k ≤ l.length ∧ q + k = l.length))
                  case atStart => exact ⟨0, by simp, Lib.hid rfl, Lib.hid (by omega)⟩
                  case round =>
                    obtain ⟨k2, rfl, HW, HG3⟩ := hrel
                    have ew := HW.out
                    subst ew
                    have q10 : IntKind.i64.wrap ((k2 : Int) + 1) = ((k2 + 1 : Nat) : Int) := by rw [IntWalk.i64_in _ (by have := HG3.out; omega)]; omega
                    by_cases hk2 : k2 < l.length
                    · have hki2 : (k2 : Int) < (l.length : Int) := by omega
                      obtain ⟨bs, os, rfl, e1, e2⟩ := HRS.out k2 (by rw [List.length_replicate]; exact hk2)
                      rw [rep_getD _ _ _ hk2] at e1 e2
                      simp only [mkQ] at e1 e2
                      go_wp2
                      go_roundg (gk - 1)
                      case measure => have h := HG3.out; omega
                      case rel => exact ⟨k2 + 1, by go_num, Lib.hid rfl, Lib.hid (by have h := HG3.out; omega)⟩
                    · have hki2 : ¬ (k2 : Int) < (l.length : Int) := by omega
                      go_wp2
                      go_roundg (1 - t)
                      case measure => have h := HG.out; omega
                      case rel => exact ⟨t + 1, by go_num, Lib.hid rfl, Lib.hid (by have h := HG.out; omega)⟩
            · have hti : ¬ (t : Int) < 2 := by omega
              go_wp2
              go_ret
              exact ⟨rfl, HFIN.out⟩

end Go.Proofs.Ytfegongaflekiaa

/- The document's answers for bounds. -/
namespace Go.Proofs.Ytfegongaflekiaa
open Go Go.RowKit
set_option linter.unusedVariables false
set_option linter.unusedSimpArgs false

theorem tmod_two (b : Int) : b.tmod 2 = 0 ↔ b % 2 = 0 := by
  constructor
  · intro h; have := Int.dvd_of_tmod_eq_zero h; omega
  · intro h; exact Int.tmod_eq_zero_of_dvd (by omega)
theorem tdiv_even {b : Int} (h : b % 2 = 0) : b.tdiv 2 = b / 2 := Int.tdiv_eq_ediv_of_dvd (by omega)

set_option maxRecDepth 100000 in
set_option maxHeartbeats 1000000 in
theorem number_any (b : Int) (w : World) (h0 : -2147483648 ≤ b) (h1 : b ≤ 2147483647) : Calls Try.prog 102 #[.int .i32 b] w fun e w' => e = .returned (.int .i64 (b / 2)) ∧ w' = w := by
  by_cases hb : b % 2 = 0
  · have t0 : b.tmod 2 = 0 := (tmod_two b).2 hb
    have t1 : b.tdiv 2 = b / 2 := tdiv_even hb
    obtain ⟨q, hq⟩ : ∃ q, q = b / 2 := ⟨_, rfl⟩
    rw [← hq] at t1 ⊢
    have hq1 : -1073741824 ≤ q := by omega
    have hq2 : q ≤ 1073741823 := by omega
    clear hq hb
    go_enter Try.func102, Try.ntmps102
    go_wp2
    go_ret
    exact ⟨rfl, rfl⟩
  · have t0 : (b.tmod 2 == 0) = false := by simp; exact fun h => hb ((tmod_two b).1 h)
    have t0' : (b.tmod 2 != 0) = true := by simp; exact fun h => hb ((tmod_two b).1 h)
    have t1 : (b - 1).tdiv 2 = b / 2 := by rw [tdiv_even (by omega)]; omega
    obtain ⟨q, hq⟩ : ∃ q, q = b / 2 := ⟨_, rfl⟩
    rw [← hq] at t1 ⊢
    have hq1 : -1073741824 ≤ q := by omega
    have hq2 : q ≤ 1073741823 := by omega
    have hq3 : b - 1 = 2 * q := by omega
    have HQ := Lib.hid hq3
    clear hq hb hq3
    go_enter Try.func102, Try.ntmps102
    go_wp2
    go_ret
    exact ⟨by simp [t1], rfl⟩

theorem number_w (b : Int) (w : World) (h0 : -2147483648 ≤ b) (h1 : b ≤ 2147483647) : Calls Try.prog 102 #[.int .i32 b] w fun e w' => e = .returned (.int .i64 (b / 2)) ∧ w = w' :=
  (number_any b w h0 h1).mono fun _ _ k => ⟨k.1, k.2.symm⟩

set_option maxRecDepth 100000 in
set_option maxHeartbeats 1000000 in
theorem rright_any (b : Int) (w : World) (h0 : -2147483648 ≤ b) (h1 : b ≤ 2147483647) : Calls Try.prog 97 #[.int .i32 b] w fun e w' => e = .returned (.bool (rightB b)) ∧ w = w' := by
  by_cases e0 : b = 2147483647
  · subst e0
    go_enter Try.func97, Try.ntmps97
    go_wp2
    go_ret
    exact ⟨rfl, rfl⟩
  · have t0 : (b == 2147483647) = false := by simp [e0]
    by_cases e1 : -536870912 ≤ b
    · have d1 : decide ((-268435456 : Int) ≤ b / 2) = true := decide_eq_true (by omega)
      by_cases e2 : b ≤ 536870913
      · have d2 : decide (b / 2 ≤ 268435456) = true := decide_eq_true (by omega)
        have hr : rightB b = true := by unfold rightB; exact decide_eq_true (.inr ⟨e1, e2⟩)
        rw [hr]
        clear hr
        go_enter Try.func97, Try.ntmps97
        go_wp2_with (go_at_call 102; refine (number_w _ _ (by omega) (by omega)).mono ?_; rintro e w' ⟨rfl, rfl⟩)
        go_ret
        exact ⟨by simp [*], rfl⟩
      · have d2 : decide (b / 2 ≤ 268435456) = false := decide_eq_false (by omega)
        have hr : rightB b = false := by unfold rightB; exact decide_eq_false (by omega)
        rw [hr]
        clear hr
        go_enter Try.func97, Try.ntmps97
        go_wp2_with (go_at_call 102; refine (number_w _ _ (by omega) (by omega)).mono ?_; rintro e w' ⟨rfl, rfl⟩)
        go_ret
        exact ⟨by simp [*], rfl⟩
    · have d1 : decide ((-268435456 : Int) ≤ b / 2) = false := decide_eq_false (by omega)
      have hr : rightB b = false := by unfold rightB; exact decide_eq_false (by omega)
      rw [hr]
      clear hr
      go_enter Try.func97, Try.ntmps97
      go_wp2_with (go_at_call 102; refine (number_w _ _ (by omega) (by omega)).mono ?_; rintro e w' ⟨rfl, rfl⟩)
      go_ret
      exact ⟨by simp [*], rfl⟩


theorem rright_yes (b : Int) (w : World) (h : rightB b = true) (h0 : -2147483648 ≤ b) (h1 : b ≤ 2147483647) : Calls Try.prog 97 #[.int .i32 b] w fun e w' => e = .returned (.bool true) ∧ w = w' :=
  (rright_any b w h0 h1).mono fun _ _ k => ⟨by rw [k.1, h], k.2⟩
theorem rright_no (b : Int) (w : World) (h : rightB b = false) (h0 : -2147483648 ≤ b) (h1 : b ≤ 2147483647) : Calls Try.prog 97 #[.int .i32 b] w fun e w' => e = .returned (.bool false) ∧ w = w' :=
  (rright_any b w h0 h1).mono fun _ _ k => ⟨by rw [k.1, h], k.2⟩

set_option maxRecDepth 100000 in
set_option maxHeartbeats 1000000 in
theorem rvalue_yes (b : Int) (w : World) (h : someB b = true) :
    Calls Try.prog 43 #[.int .i32 b] w fun e w' => e = .returned (.tuple #[.int .i64 (b / 2), .bool (decide (b % 2 = 1)), .bool true]) ∧ w = w' := by
  obtain ⟨hr, hn⟩ : rightB b = true ∧ b ≠ 2147483647 := by simpa [someB] using h
  have hb := rightB_bd hr hn
  have t0 : (b == 2147483647) = false := by simp [hn]
  have HR := Lib.hid hr
  have HN := Lib.hid (fun w => number_w b w (by omega) (by omega))
  obtain ⟨q, hq⟩ : ∃ q, q = b / 2 := ⟨_, rfl⟩
  rw [← hq] at HN ⊢
  have hq1 : -268435456 ≤ q := by omega
  have hq2 : q ≤ 268435456 := by omega
  have hb0 := hb.1
  have hb1 := hb.2
  clear h hr hn hb
  by_cases e : b % 2 = 1
  · rw [decide_eq_true e]
    have t1 : (b == 2 * q) = false := by simp; omega
    have t2 : (b != 2 * q) = true := by simp; omega
    clear hq e
    go_enter Try.func43, Try.ntmps43
    go_wp2_with (first | (go_at_call 97; refine (rright_yes b _ HR.out (by omega) (by omega)).mono ?_; rintro e w' ⟨rfl, rfl⟩) | (go_at_call 102; refine (HN.out _).mono ?_; rintro e w' ⟨rfl, rfl⟩))
    go_ret3
    exact ⟨by simp [t1, t2], rfl⟩
  · rw [decide_eq_false e]
    have t1 : (b == 2 * q) = true := by simp; omega
    have t2 : (b != 2 * q) = false := by simp; omega
    clear hq e
    go_enter Try.func43, Try.ntmps43
    go_wp2_with (first | (go_at_call 97; refine (rright_yes b _ HR.out (by omega) (by omega)).mono ?_; rintro e w' ⟨rfl, rfl⟩) | (go_at_call 102; refine (HN.out _).mono ?_; rintro e w' ⟨rfl, rfl⟩))
    go_ret3
    exact ⟨by simp [t1, t2], rfl⟩
set_option maxRecDepth 100000 in
set_option maxHeartbeats 1000000 in
theorem rvalue_no (b : Int) (w : World) (h : someB b = false) (h0 : -2147483648 ≤ b) (h1 : b ≤ 2147483647) :
    Calls Try.prog 43 #[.int .i32 b] w fun e w' => e = .returned (.tuple #[.int .i64 0, .bool false, .bool false]) ∧ w = w' := by
  by_cases hn : b = 2147483647
  · subst hn
    clear h
    go_enter Try.func43, Try.ntmps43
    go_wp2
    go_ret3
    exact ⟨rfl, rfl⟩
  · have t0 : (b == 2147483647) = false := by simp [hn]
    have hr : rightB b = false := by simpa [someB, hn] using h
    have HR := Lib.hid hr
    clear h hn hr
    go_enter Try.func43, Try.ntmps43
    go_wp2_with (go_at_call 97; refine (rright_no b _ HR.out (by omega) (by omega)).mono ?_; rintro e w' ⟨rfl, rfl⟩)
    go_ret3
    exact ⟨rfl, rfl⟩


end Go.Proofs.Ytfegongaflekiaa

/- The document's answers for bounds: the number of a bound, whether it is right, the sum of two wide ones. -/
namespace Go.Proofs.Ytfegongaflekiaa
open Go Go.RowKit
set_option linter.unusedVariables false
set_option linter.unusedSimpArgs false

theorem wsum_plain {a b : Int} (ha : a ≠ none62) (hb : b ≠ none62) : wsum a b = if a % 2 = 0 ∧ b % 2 = 0 then a + b else a + b - 1 := by
  unfold wsum
  rw [if_neg (by simp [ha, hb])]
  rcases two_cases a b with ⟨h, h1⟩ | ⟨h, h1, h2⟩ <;> rw [h]
  · by_cases c : a % 2 = 0 ∧ b % 2 = 0
    · rw [if_pos c]; omega
    · rw [if_neg c]; omega
  · rw [if_neg (by omega)]; omega

set_option maxRecDepth 100000 in
set_option maxHeartbeats 1000000 in
theorem plus_fin (a b : Int) (w : World) (ha1 : -1152921504606846976 ≤ a) (ha2 : a ≤ 1152921504606846976) (hb1 : -1152921504606846976 ≤ b) (hb2 : b ≤ 1152921504606846976) :
    Calls Try.prog 133 #[.int .i64 a, .int .i64 b] w fun e w' => e = .returned (.int .i64 (wsum a b)) ∧ w' = w := by
  have t1 : (a == 4611686018427387904) = false := by simp; omega
  have t2 : (b == 4611686018427387904) = false := by simp; omega
  have hs := wsum_plain (a := a) (b := b) (by unfold none62; omega) (by unfold none62; omega)
  by_cases ha : a % 2 = 0
  · have u1 : (a.tmod 2 == 0) = true := by simp; exact (tmod_two a).2 ha
    have u1' : (a.tmod 2 != 0) = false := by simp; exact (tmod_two a).2 ha
    have u1'' : a.tmod 2 = 0 := (tmod_two a).2 ha
    by_cases hb : b % 2 = 0
    · have u2 : (b.tmod 2 == 0) = true := by simp; exact (tmod_two b).2 hb
      have u2' : (b.tmod 2 != 0) = false := by simp; exact (tmod_two b).2 hb
      have u2'' : b.tmod 2 = 0 := (tmod_two b).2 hb
      rw [hs, if_pos ⟨ha, hb⟩]
      clear hs ha hb
      go_enter Try.func133, Try.ntmps133
      go_wp2
      go_ret
      exact ⟨rfl, rfl⟩
    · have u2 : (b.tmod 2 == 0) = false := by simp; exact fun h => hb ((tmod_two b).1 h)
      have u2' : (b.tmod 2 != 0) = true := by simp; exact fun h => hb ((tmod_two b).1 h)
      rw [hs, if_neg (fun h => hb h.2)]
      clear hs ha hb
      go_enter Try.func133, Try.ntmps133
      go_wp2
      go_ret
      exact ⟨rfl, rfl⟩
  · have u1 : (a.tmod 2 == 0) = false := by simp; exact fun h => ha ((tmod_two a).1 h)
    have u1' : (a.tmod 2 != 0) = true := by simp; exact fun h => ha ((tmod_two a).1 h)
    rw [hs, if_neg (fun h => ha h.1)]
    clear hs ha
    go_enter Try.func133, Try.ntmps133
    go_wp2
    go_ret
    exact ⟨rfl, rfl⟩

set_option maxRecDepth 100000 in
set_option maxHeartbeats 1000000 in
theorem plus_left (b : Int) (w : World) :
    Calls Try.prog 133 #[.int .i64 4611686018427387904, .int .i64 b] w fun e w' => e = .returned (.int .i64 4611686018427387904) ∧ w' = w := by
  go_enter Try.func133, Try.ntmps133
  go_wp2
  go_ret
  exact ⟨rfl, rfl⟩
set_option maxRecDepth 100000 in
set_option maxHeartbeats 1000000 in
theorem plus_right (a : Int) (w : World) :
    Calls Try.prog 133 #[.int .i64 a, .int .i64 4611686018427387904] w fun e w' => e = .returned (.int .i64 4611686018427387904) ∧ w' = w := by
  by_cases h : a = 4611686018427387904
  · subst h; exact plus_left _ _
  · have t1 : (a == 4611686018427387904) = false := by simp; omega
    clear h
    go_enter Try.func133, Try.ntmps133
    go_wp2
    go_ret
    exact ⟨rfl, rfl⟩
theorem plus_still (a b : Int) (w : World) (ha : Bd 1152921504606846976 a) (hb : Bd 1152921504606846976 b) :
    Calls Try.prog 133 #[.int .i64 a, .int .i64 b] w fun e w' => e = .returned (.int .i64 (wsum a b)) ∧ w' = w := by
  rcases ha with rfl | ha
  · have : wsum none62 b = 4611686018427387904 := by simp [wsum, none62]
    rw [this]; exact plus_left _ _
  · rcases hb with rfl | hb
    · have : wsum a none62 = 4611686018427387904 := by simp [wsum, none62]
      rw [this]; exact plus_right _ _
    · exact plus_fin a b w ha.1 ha.2 hb.1 hb.2

end Go.Proofs.Ytfegongaflekiaa

/- The document's close over a row of wide bounds: the same closed form. -/
namespace Go.Proofs.Ytfegongaflekiaa
open Go Go.RowKit
set_option linter.unusedVariables false
set_option linter.unusedSimpArgs false

/-- The row is cur; nothing else was touched. -/
def RAt (w0 : World) (g n : Nat) (cur : Mat) (wr : World) : Prop := Only g w0 wr ∧ RowAt wr g 2 .i64 (flat n cur)
theorem RAt.step {w0 wr : World} {g n : Nat} {cur : Mat} (h : RAt w0 g n cur wr) {i j : Nat} (hi : i < n + 1) (hj : j < n + 1) (v : Int) (p : Nat) (hp : p = i * (n + 1) + j) :
    RAt w0 g n (upd cur i j v) (wr.setCell ⟨g, p, none⟩ (.int .i64 v)) := by
  subst hp
  refine ⟨h.1.setCell _ _, ?_⟩
  rw [← flat_upd cur hi hj v]
  exact h.2.set _ _
theorem RAt.cell {w0 wr : World} {g n : Nat} {cur : Mat} (h : RAt w0 g n cur wr) {i j : Nat} (hi : i < n + 1) (hj : j < n + 1) (p : Nat) (hp : p = i * (n + 1) + j) :
    wr.cell? ⟨g, p, none⟩ = some (.int .i64 (cur i j)) := by
  subst hp
  have := h.2.cell (i * (n + 1) + j) (by rw [flat_length]; exact at_lt hi hj)
  rwa [flat_at cur hi hj] at this
theorem RAt.drewN {w0 wr : World} {g n : Nat} {cur : Mat} (h : RAt w0 g n cur wr) (q : Nat) : RAt w0 g n cur (wr.drewN q) := ⟨h.1.drewN q, h.2⟩

def ROuter (w0 : World) (b n : Nat) (m0 : Mat) (g k : Nat) (m : Mat) (wr : World) : Prop := RAt w0 b n m wr ∧ RoundOk n m0 k m ∧ g + k = n + 1
def RMid (w0 : World) (b n : Nat) (m : Mat) (k g i : Nat) (cur : Mat) (wr : World) : Prop :=
  RAt w0 b n cur wr ∧ RefOk n (1073741824 * 4 ^ k) m k i 0 cur ∧ i ≤ n + 1 ∧ g + i = n + 1
def RInn (w0 : World) (b n : Nat) (m : Mat) (k i g j : Nat) (cur : Mat) (wr : World) : Prop :=
  RAt w0 b n cur wr ∧ RefOk n (1073741824 * 4 ^ k) m k i j cur ∧ j ≤ n + 1 ∧ g + j = n + 1
def RTest (w0 : World) (b n : Nat) (m : Mat) (k g i : Nat) (cur : Mat) (wr : World) : Prop :=
  RAt w0 b n cur wr ∧ RefOk n (1073741824 * 4 ^ k) m k (n + 1) 0 cur ∧ (∀ a, a < i → 1 ≤ cur a a) ∧ i ≤ n + 1 ∧ g + i = n + 1

theorem RInn.bounds {w0 wr : World} {b n : Nat} {m m0 cur : Mat} {k i g j : Nat} (h : RInn w0 b n m k i g j cur wr) (hr : RoundOk n m0 k m) (hn : n ≤ 8) (hk : k ≤ n) {a c : Nat} (ha : a ≤ n) (hc : c ≤ n) :
    Bd 1152921504606846976 (cur a c) := by
  have h4 := pow2_le (show k ≤ 9 by omega)
  have h1 := one_le_pow2 k
  exact (h.2.1.bounds hr.fit (by omega) hk ha hc).mono (by omega)
theorem RInn.stepTo {w0 wr : World} {b n : Nat} {m m0 cur : Mat} {k i g j : Nat} (h : RInn w0 b n m k i g j cur wr) (hr : RoundOk n m0 k m) (hk : k ≤ n) (hi : i ≤ n) (hj : j ≤ n) (hlt : wsum (cur i k) (cur k j) < cur i j) (p : Nat) (hp : p = i * (n + 1) + j) :
    RInn w0 b n m k i (g - 1) (j + 1) (upd cur i j (wsum (cur i k) (cur k j))) (wr.setCell ⟨b, p, none⟩ (.int .i64 (wsum (cur i k) (cur k j)))) := by
  have h1 := one_le_pow2 k
  have hs := h.2.1.step hr.fit (by omega) hk hi hj
  rw [show min (cur i j) (wsum (cur i k) (cur k j)) = wsum (cur i k) (cur k j) by rw [Int.min_def, if_neg (by omega)]] at hs
  have := h.2.2.2
  exact ⟨h.1.step (by omega) (by omega) _ p hp, hs, by omega, by omega⟩
theorem RInn.stepSame {w0 wr : World} {b n : Nat} {m m0 cur : Mat} {k i g j : Nat} (h : RInn w0 b n m k i g j cur wr) (hr : RoundOk n m0 k m) (hk : k ≤ n) (hi : i ≤ n) (hj : j ≤ n) (hlt : ¬ wsum (cur i k) (cur k j) < cur i j) :
    RInn w0 b n m k i (g - 1) (j + 1) cur wr := by
  have h1 := one_le_pow2 k
  have hs := h.2.1.step hr.fit (by omega) hk hi hj
  have e : upd cur i j (min (cur i j) (wsum (cur i k) (cur k j))) = cur := by
    rw [show min (cur i j) (wsum (cur i k) (cur k j)) = cur i j by rw [Int.min_def, if_pos (by omega)]]
    funext a c; simp only [upd]; split
    · rename_i h; rw [h.1, h.2]
    · rfl
  rw [e] at hs
  have := h.2.2.2
  exact ⟨h.1, hs, by omega, by omega⟩
theorem RInn.drewN {w0 wr : World} {b n : Nat} {m cur : Mat} {k i g j : Nat} (h : RInn w0 b n m k i g j cur wr) (q : Nat) : RInn w0 b n m k i g j cur (wr.drewN q) := ⟨h.1.drewN q, h.2⟩

def RCloseEnds (w0 : World) (g n : Nat) (m0 : Mat) (e : Ending) (w' : World) : Prop :=
  Only g w0 w' ∧ ((closed n m0 = none ∧ e = .returned (.bool false)) ∨ ∃ m', closed n m0 = some m' ∧ e = .returned (.bool true) ∧ RowAt w' g 2 .i64 (flat n m'))

theorem prod_facts (i n : Nat) (hi : i ≤ n) (hn : n ≤ 8) : ∃ P : Nat, (i : Int) * ((n : Int) + 1) = (P : Int) ∧ P ≤ 72 ∧ P = i * (n + 1) ∧ P + n < (n + 1) * (n + 1) := by
  refine ⟨i * (n + 1), by simp, ?_, rfl, at_lt (by omega) (by omega)⟩
  have := Nat.mul_le_mul (show i ≤ 8 by omega) (show n + 1 ≤ 9 by omega)
  omega

set_option maxRecDepth 100000 in
set_option maxHeartbeats 2000000 in
theorem rclose_any (g n N cap : Nat) (m0 : Mat) (w : World) (hn : n ≤ 8) (hN : N = (n + 1) * (n + 1)) (h : RowAt w g 2 .i64 (flat n m0)) (hf : Fit n 1073741824 m0) :
    Calls Try.prog 121 #[.int .i64 n, .slice (some ⟨g, 0, none⟩) N cap] w (RCloseEnds w g n m0) := by
  have H0 := Lib.hid (show ROuter w g n m0 (n + 1) 0 m0 w from ⟨⟨Only.refl _ _, h⟩, RoundOk.start hf, by omega⟩)
  have HN := Lib.hid hN
  have hN81 : N ≤ 81 := by
    have := Nat.mul_le_mul (show n + 1 ≤ 9 by omega) (show n + 1 ≤ 9 by omega)
    omega
  clear h hf hN
  go_enter Try.func121, Try.ntmps121
  go_wp2
  go_loopg [5] (n + 1) (fun q v wr => ∃ k : Nat, ∃ m, v = .int .i64 k ∧ ROuter w g n m0 q k m wr)
  case atStart => exact ⟨0, m0, by simp, H0.out⟩
  case round =>
    clear H0
    obtain ⟨k, m, rfl, H⟩ := hrel
    have HK := Lib.hid H
    clear H
    by_cases hk : k ≤ n
    · have hkk : (k : Int) ≤ (n : Int) := by omega
      have H1 := Lib.hid (show RMid w g n m k (n + 1) 0 m wr from ⟨HK.out.1, HK.out.2.1.ref (by omega), by omega, by omega⟩)
      go_wp2
      go_loopg [6] (n + 1) (fun q v wr => ∃ i : Nat, ∃ cur, v = .int .i64 i ∧ RMid w g n m k q i cur wr)
      case atStart => exact ⟨0, m, by simp, H1.out⟩
      case round =>
        clear H1
        obtain ⟨i, cur, rfl, H⟩ := hrel
        have HI := Lib.hid H
        clear H
        by_cases hi : i ≤ n
        · have hii : (i : Int) ≤ (n : Int) := by omega
          have H1 := Lib.hid (show RInn w g n m k i (n + 1) 0 cur wr from ⟨HI.out.1, HI.out.2.1, by omega, by omega⟩)
          go_wp2
          go_loopg [7] (n + 1) (fun q v wr => ∃ j : Nat, ∃ cur, v = .int .i64 j ∧ RInn w g n m k i q j cur wr)
          case atStart => exact ⟨0, cur, by simp, H1.out⟩
          case round =>
            clear H1
            obtain ⟨j, cur, rfl, H⟩ := hrel
            have HJ := Lib.hid H
            clear H
            by_cases hj : j ≤ n
            · have hjj : (j : Int) ≤ (n : Int) := by omega
              obtain ⟨P, hP, hP1, hP2, hP3⟩ := prod_facts i n hi hn
              obtain ⟨Q, hQ, hQ1, hQ2, hQ3⟩ := prod_facts k n hk hn
              have hPN : P + n < N := by have := HN.out; omega
              have hQN : Q + n < N := by have := HN.out; omega
              have c1 := HJ.out.1.cell (i := i) (j := k) (by omega) (by omega) (P + k) (by omega)
              have c2 := HJ.out.1.cell (i := k) (j := j) (by omega) (by omega) (Q + j) (by omega)
              have c3 := HJ.out.1.cell (i := i) (j := j) (by omega) (by omega) (P + j) (by omega)
              have f1 := HJ.out.1.2.frozen (P + j)
              have HP2 := Lib.hid hP2
              have HQ2 := Lib.hid hQ2
              clear hP2 hQ2 hP3 hQ3
              have HB1 := Lib.hid (HJ.out.bounds HK.out.2.1 hn hk hi hk)
              have HB2 := Lib.hid (HJ.out.bounds HK.out.2.1 hn hk hk hj)
              have g1 : IntKind.i64.wrap ((n : Int) + 1) = (n : Int) + 1 := IntWalk.i64_in _ (by omega)
              have g2 : IntKind.i64.wrap (P : Int) = (P : Int) := IntWalk.i64_in _ (by omega)
              have g3 : IntKind.i64.wrap ((P : Int) + (k : Int)) = (P : Int) + (k : Int) := IntWalk.i64_in _ (by omega)
              have g4 : IntKind.i64.wrap (Q : Int) = (Q : Int) := IntWalk.i64_in _ (by omega)
              have g5 : IntKind.i64.wrap ((Q : Int) + (j : Int)) = (Q : Int) + (j : Int) := IntWalk.i64_in _ (by omega)
              have l1 : (P : Int) + (k : Int) < (N : Int) := by omega
              have l2 : (Q : Int) + (j : Int) < (N : Int) := by omega
              have l3 : 0 ≤ (P : Int) + (k : Int) := by omega
              have l4 : 0 ≤ (Q : Int) + (j : Int) := by omega
              have n1 : ((P : Int) + (k : Int)).toNat = P + k := by omega
              have n2 : ((Q : Int) + (j : Int)).toNat = Q + j := by omega
              go_wp2_with fail
              go_quiet ((go_at_call 133; exact Calls.quiet_of_same (plus_still _ _ _ (by exact HB1.out) (by exact HB2.out))))
              have HQ := Lib.hid (HJ.out.drewN nq)
              clear g1 g2 g3 g4 g5 n1 n2
              by_cases hlt : wsum (cur i k) (cur k j) < cur i j
              · have HS := Lib.hid (HQ.out.stepTo HK.out.2.1 hk hi hj hlt (P + j) (by rw [HP2.out]))
                go_wp2
                go_roundg (gk - 1)
                case measure => have h := HJ.out.2.2.2; omega
                case rel => exact ⟨j + 1, _, by go_num, HS.out⟩
              · have HS := Lib.hid (HQ.out.stepSame HK.out.2.1 hk hi hj hlt)
                go_wp2
                go_roundg (gk - 1)
                case measure => have h := HJ.out.2.2.2; omega
                case rel => exact ⟨j + 1, _, by go_num, HS.out⟩
            · have hjj : ¬ (j : Int) ≤ (n : Int) := by omega
              have e : j = n + 1 := by have := HJ.out.2.2.1; omega
              have HS := Lib.hid (show RMid w g n m k (n - i) (i + 1) cur wr from ⟨HJ.out.1, (by have := HJ.out.2.1; rw [e] at this; exact this.row), by omega, by omega⟩)
              clear e
              go_wp2
              go_roundg (n - i)
              case measure => have h := HI.out.2.2.2; omega
              case rel => exact ⟨i + 1, _, by go_num, HS.out⟩
        · have hii : ¬ (i : Int) ≤ (n : Int) := by omega
          have e : i = n + 1 := by have := HI.out.2.2.1; omega
          have H1 := Lib.hid (show RTest w g n m k (n + 1) 0 cur wr from ⟨HI.out.1, (by have := HI.out.2.1; rw [e] at this; exact this), fun a ha => by omega, by omega, by omega⟩)
          clear e
          go_wp2
          go_loopg [9] (n + 1) (fun q v wr => ∃ i : Nat, v = .int .i64 i ∧ RTest w g n m k q i cur wr)
          case atStart => exact ⟨0, by simp, H1.out⟩
          case round =>
            clear H1
            obtain ⟨a, rfl, H⟩ := hrel
            have HT := Lib.hid H
            clear H
            by_cases ha : a ≤ n
            · have haa : (a : Int) ≤ (n : Int) := by omega
              obtain ⟨P, hP, hP1, hP2, hP3⟩ := prod_facts a n ha hn
              have hPN : P + n < N := by have := HN.out; omega
              have c1 := HT.out.1.cell (i := a) (j := a) (by omega) (by omega) (P + a) (by omega)
              clear hP2 hP3
              by_cases hd : cur a a < 1
              · go_wp2
                go_ret
                exact ⟨HT.out.1.1, .inl ⟨RefOk.fail HK.out.2.1 hk HT.out.2.1 ha hd, rfl⟩⟩
              · have HD := Lib.hid hd
                go_wp2
                go_roundg (gk - 1)
                case measure => have h := HT.out.2.2.2.2; omega
                case rel =>
                  refine ⟨a + 1, by go_num, HT.out.1, HT.out.2.1, fun b hb => ?_, by omega, by have h := HT.out.2.2.2.2; omega⟩
                  by_cases e : b = a
                  · subst e; have h := HD.out; omega
                  · exact HT.out.2.2.1 b (by omega)
            · have haa : ¬ (a : Int) ≤ (n : Int) := by omega
              have HS := Lib.hid (show ROuter w g n m0 (n - k) (k + 1) cur wr from ⟨HT.out.1, RefOk.next HK.out.2.1 hk HT.out.2.1 (fun i hi => HT.out.2.2.1 i (by omega)), by omega⟩)
              go_wp2
              go_roundg (n - k)
              case measure => have h := HK.out.2.2; omega
              case rel => exact ⟨k + 1, _, by go_num, HS.out⟩
    · have hkk : ¬ (k : Int) ≤ (n : Int) := by omega
      go_wp2
      go_ret
      have e : k = n + 1 := by have := HK.out.2.1.le; omega
      have hd := HK.out.2.1
      rw [e] at hd
      exact ⟨HK.out.1.1, .inr ⟨m, hd.done, rfl, HK.out.1.2⟩⟩

end Go.Proofs.Ytfegongaflekiaa
