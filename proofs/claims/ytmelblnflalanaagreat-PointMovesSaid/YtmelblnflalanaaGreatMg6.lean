/- Texts of ours, laid together: Nc, Ng, Nh, Ni, Yl, Br, Pb, Ba. -/
import Derived.Test.YtmelblnflalanaaGreatProg
import Derived.Lib.Hide
import Derived.Deep.LoopGhost
import Derived.Deep.QuietTactic
import Derived.BigQuiet
import Derived.BigRegion
import Derived.StillTailTactics
import Derived.KernelRfl
import Derived.WalkKit
import Derived.Test.YtmelblnflalanaaGreatMg5
/- What a book of lists keeps. -/
namespace Go.Proofs.YtmelblnflalanaaGreat
open Go Go.RowKit
set_option linter.unusedVariables false
set_option linter.unusedSimpArgs false

/-- A book that keeps lists of fractions alone. -/
def bookCs (v : Value) : Array Value := #[.slice none 0 0, .slice none 0 0, .slice none 0 0, .slice none 0 0, .slice none 0 0, v, .slice none 0 0, .slice none 0 0, .slice none 0 0, .slice none 0 0, .slice none 0 0, .slice none 0 0, .slice none 0 0, .slice none 0 0]
theorem infoSl : (Tryz.prog.info? 22).map (fun i => (i.zero, i.size, i.bytes)) = some (some (.slice none 0 0), 1, 24) := by kernel_rfl
theorem rows_later {w w' : World} {base size n : Nat} {e : TypeId} {v : Value} {xs : List Value} (h : w.ownsRow base e size v n xs) (hk : ∀ g, v.ownBlock = some g → w'.heap[g]? = w.heap[g]?) : w'.ownsRow base e size v n xs := by
  obtain ⟨hl, h⟩ := h
  refine ⟨hl, ?_⟩
  rcases h with h | ⟨g, cap, cur, e1, e2, h1, h2⟩
  · exact .inl h
  · exact .inr ⟨g, cap, cur, e1, e2, (hk g (by rw [e1]; rfl)).trans h1, h2⟩
theorem rows_block {w : World} {base size n : Nat} {e : TypeId} {v : Value} {xs : List Value} (h : w.ownsRow base e size v n xs) {g : Nat} (hg : v.ownBlock = some g) : base ≤ g ∧ g < w.heap.size := by
  obtain ⟨hl, h⟩ := h
  rcases h with ⟨e, _⟩ | ⟨g', cap, cur, e1, e2, h1, h2⟩
  · rw [e] at hg; cases hg
  · rw [e1] at hg
    simp only [Value.ownBlock, Option.some.injEq] at hg
    subst hg
    exact ⟨e2, (Array.getElem?_eq_some_iff.1 h1).1⟩
/-- One list more is kept. -/
theorem take_run {w : World} {base : Nat} {v : Value} {xs : List Value} (h : w.ownsRow base 22 1 v xs.length xs) (hb : base ≤ w.heap.size) (g c : Nat) (s : Value) (hs : s.oneCell' = true) (hg : w.cell? ⟨g, 0, none⟩ = some s) (hmax : xs.length ≤ 1000) :
    ∃ v' w', (Builtin.append_ #[46, 46] 46 #[v, .slice (some ⟨g, 0, none⟩) 1 c]).run Tryz.prog w = .ok v' w' ∧ w'.ownsRow base 22 1 v' (xs.length + 1) (xs ++ [s]) ∧ w.grownBy w' v.ownBlock := by
  obtain ⟨i0, hi, hz0, hz1, hz2⟩ := info_partsQ infoSl
  have ea : ∀ k, (⟨g, 0, none⟩ : Addr).add k = ⟨g, 0 + k, none⟩ := fun k => by unfold Addr.add; split <;> simp_all
  obtain ⟨v', w', a1, a2, a3, _⟩ := run_append_own (P := Tryz.prog) w base 46 46 22 i0 (.slice none 0 0) 1 24 Tryz.underlying46 hi hz0 hz1 hz2 rfl (by decide) v xs.length xs h ⟨g, 0, none⟩ 1 c [s] rfl (fun j u hu => by
    rw [ea]
    match j, hu with
    | 0, hu => simp at hu; subst hu; exact hg
    | j + 1, hu => simp at hu) (fun u hu => by rw [List.mem_singleton.1 hu]; exact hs) (by simp only [maxLen]; omega) (by omega) hb
  exact ⟨v', w', a1, a2, a3⟩
theorem rows_slice {w : World} {base size n : Nat} {e : TypeId} {v : Value} {xs : List Value} (h : w.ownsRow base e size v n xs) : ∃ A c, v = .slice A n c := by
  obtain ⟨hl, h⟩ := h
  rcases h with ⟨e, h0⟩ | ⟨g', cap, cur, e1, _⟩
  · exact ⟨none, 0, by rw [e, h0]⟩
  · exact ⟨_, _, e1⟩
/-- What TakeRats leaves. -/
def TakeEnds (w0 : World) (g base : Nat) (xs : List Value) (w : World) (e : Ending) (w' : World) : Prop := e = .returned (.tuple #[]) ∧ ∃ v', Blx w0 [(g, bookCs v', 56)] w' ∧ w'.ownsRow base 22 1 v' xs.length xs ∧ w.heap.size ≤ w'.heap.size ∧ ∀ k, k < base → k ≠ g → w'.heap[k]? = w.heap[k]?
set_option maxRecDepth 100000 in
set_option maxHeartbeats 2000000 in
theorem take_any (w0 w : World) (g base : Nat) (v : Value) (A : Option Addr) (n c : Nat) (xs : List Value) (K : Blx w0 [(g, bookCs v, 56)] w) (hr : w.ownsRow base 22 1 v xs.length xs) (hg : g < base) (hb : base ≤ w.heap.size) (h0 : w0.heap.size ≤ base) (hx : xs.length ≤ 1000) :
    Calls Tryz.prog 16 #[.pointer (some ⟨g, 0, none⟩), .slice A n c] w (TakeEnds w0 g base (xs ++ [.slice A n c]) w) := by
  have hb1 := below_one w (.cells #[.slice A n c] 22)
  have K2 := Lib.hid (K.step hb1)
  have hr2 : (w.alloc (.cells #[.slice A n c] 22)).ownsRow base 22 1 v xs.length xs := rows_later hr (fun q hq => hb1.block q (rows_block hr hq).2)
  have hnew := heap_alloc_new w (.cells #[.slice A n c] 22)
  obtain ⟨v', w', hrun, hown, hgr⟩ := take_run hr2 (Nat.le_trans hb hb1.size) w.heap.size 1 (.slice A n c) rfl (by unfold World.cell?; rw [hnew]; rfl) hx
  obtain ⟨A', c', rfl⟩ := rows_slice hown
  have hbg : v.ownBlock ≠ some g := fun h => by have := (rows_block hr h).1; omega
  have hsz : w.heap.size ≤ w'.heap.size := Nat.le_trans hb1.size hgr.size
  have hkeep : ∀ q, q < w.heap.size → v.ownBlock ≠ some q → w'.heap[q]? = w.heap[q]? := fun q hq hne => (hgr.block q (Nat.lt_of_lt_of_le hq hb1.size) (fun e => hne e.symm)).trans (hb1.block q hq)
  have hgs : g < w.heap.size := Nat.lt_of_lt_of_le hg hb
  have K3 := Lib.hid (show Blx w0 [(g, bookCs v, 56)] w' from
    ⟨(K2.out.below).grown hgr (Nat.le_trans K2.out.below.size (Nat.le_refl _)) (fun q hq => Nat.le_trans h0 (rows_block hr hq).1), fun t ht => by
      obtain rfl := List.mem_singleton.1 ht
      exact (hkeep g hgs hbg).trans (K.l _ (List.mem_singleton.2 rfl)), K.s, K.lo⟩)
  have HF := Lib.hid (show TakeEnds w0 g base (xs ++ [.slice A n c]) w (.returned (.tuple #[])) (w'.setCell ⟨g, 5, none⟩ (.slice A' (xs.length + 1) c')) from by
    have hset := K3.out.set 0 rfl 5 (.slice A' (xs.length + 1) c')
    refine ⟨rfl, .slice A' (xs.length + 1) c', hset, ?_, ?_, fun q hq hne => ?_⟩
    · rw [List.length_append, List.length_singleton]
      refine rows_later hown (fun q hq => ?_)
      have hq' := (rows_block hown hq).1
      simp only [World.setCell, Array.getElem?_modify]
      rw [if_neg (by omega)]
    · simp only [World.setCell, Array.size_modify]; exact hsz
    · simp only [World.setCell, Array.getElem?_modify]
      rw [if_neg (fun e => hne e.symm)]
      exact hkeep q (by omega) (fun e => by have := (rows_block hr e).1; omega))
  obtain ⟨k5, _⟩ := K.cell 0 rfl 5 (v := v) rfl
  obtain ⟨j5, f5⟩ := K3.out.cell 0 rfl 5 (v := v) rfl
  clear hb1 K2 hr2 hnew hown hgr hbg hsz hkeep hgs K3 hr hg hb h0 hx K
  go_enter Tryz.func16, Tryz.ntmps16
  go_wp2_with (at_builtin; refine wpList_append_run rfl _ _ 46 rfl _ _ (.slice A' (xs.length + 1) c') w' rfl rfl hrun ?_)
  clear hrun
  go_wp2
  simp [bodyPost, results, Tryz.results16, go_sem]
  exact HF.out

set_option maxRecDepth 100000 in
theorem aloneBytes_any (w0 w : World) (g : Nat) (v : Value) (K : Blx w0 [(g, bookCs v, 56)] w) : Calls Tryz.prog 38 #[.pointer (some ⟨g, 0, none⟩)] w fun e w' => e = .returned (.bool true) ∧ w = w' := by
  have k := (K.cell 0 rfl 0 (v := .slice none 0 0) rfl).1
  go_enter Tryz.func38, Tryz.ntmps38
  go_wp2
  go_loopg [3] 0 (fun q x wr => x = .int .i64 0 ∧ wr = w)
  case atStart => exact ⟨rfl, rfl⟩
  case round =>
    obtain ⟨rfl, rfl⟩ := hrel
    go_wp2
    go_loopg [5, 6] 0 (fun q y x wx => y = .slice none 0 0 ∧ x = .int .i64 0 ∧ wx = wr)
    case atStart => exact ⟨rfl, rfl, rfl⟩
    case round =>
      obtain ⟨rfl, rfl, rfl⟩ := hrel
      go_wp2
      go_loopg [9] 0 (fun q x wx => x = .int .i64 0 ∧ wx = wr)
      case atStart => exact ⟨rfl, rfl⟩
      case round =>
        obtain ⟨rfl, rfl⟩ := hrel
        go_wp2
        go_ret
        exact ⟨rfl, rfl⟩

set_option maxRecDepth 100000 in
theorem aloneTexts_any (w0 w : World) (g : Nat) (v : Value) (K : Blx w0 [(g, bookCs v, 56)] w) : Calls Tryz.prog 39 #[.pointer (some ⟨g, 0, none⟩)] w fun e w' => e = .returned (.bool true) ∧ w = w' := by
  have k := (K.cell 0 rfl 1 (v := .slice none 0 0) rfl).1
  go_enter Tryz.func39, Tryz.ntmps39
  go_wp2
  go_loopg [3] 0 (fun q x wr => x = .int .i64 0 ∧ wr = w)
  case atStart => exact ⟨rfl, rfl⟩
  case round =>
    obtain ⟨rfl, rfl⟩ := hrel
    go_wp2
    go_loopg [5, 6] 0 (fun q y x wx => y = .slice none 0 0 ∧ x = .int .i64 0 ∧ wx = wr)
    case atStart => exact ⟨rfl, rfl, rfl⟩
    case round =>
      obtain ⟨rfl, rfl, rfl⟩ := hrel
      go_wp2
      go_loopg [9] 0 (fun q x wx => x = .int .i64 0 ∧ wx = wr)
      case atStart => exact ⟨rfl, rfl⟩
      case round =>
        obtain ⟨rfl, rfl⟩ := hrel
        go_wp2
        go_ret
        exact ⟨rfl, rfl⟩

set_option maxRecDepth 100000 in
theorem aloneInts_any (w0 w : World) (g : Nat) (v : Value) (K : Blx w0 [(g, bookCs v, 56)] w) : Calls Tryz.prog 40 #[.pointer (some ⟨g, 0, none⟩)] w fun e w' => e = .returned (.bool true) ∧ w = w' := by
  have k := (K.cell 0 rfl 2 (v := .slice none 0 0) rfl).1
  go_enter Tryz.func40, Tryz.ntmps40
  go_wp2
  go_loopg [3] 0 (fun q x wr => x = .int .i64 0 ∧ wr = w)
  case atStart => exact ⟨rfl, rfl⟩
  case round =>
    obtain ⟨rfl, rfl⟩ := hrel
    go_wp2
    go_loopg [5, 6] 0 (fun q y x wx => y = .slice none 0 0 ∧ x = .int .i64 0 ∧ wx = wr)
    case atStart => exact ⟨rfl, rfl, rfl⟩
    case round =>
      obtain ⟨rfl, rfl, rfl⟩ := hrel
      go_wp2
      go_loopg [9] 0 (fun q x wx => x = .int .i64 0 ∧ wx = wr)
      case atStart => exact ⟨rfl, rfl⟩
      case round =>
        obtain ⟨rfl, rfl⟩ := hrel
        go_wp2
        go_ret
        exact ⟨rfl, rfl⟩

set_option maxRecDepth 100000 in
theorem aloneInt64s_any (w0 w : World) (g : Nat) (v : Value) (K : Blx w0 [(g, bookCs v, 56)] w) : Calls Tryz.prog 41 #[.pointer (some ⟨g, 0, none⟩)] w fun e w' => e = .returned (.bool true) ∧ w = w' := by
  have k := (K.cell 0 rfl 3 (v := .slice none 0 0) rfl).1
  go_enter Tryz.func41, Tryz.ntmps41
  go_wp2
  go_loopg [3] 0 (fun q x wr => x = .int .i64 0 ∧ wr = w)
  case atStart => exact ⟨rfl, rfl⟩
  case round =>
    obtain ⟨rfl, rfl⟩ := hrel
    go_wp2
    go_loopg [5, 6] 0 (fun q y x wx => y = .slice none 0 0 ∧ x = .int .i64 0 ∧ wx = wr)
    case atStart => exact ⟨rfl, rfl, rfl⟩
    case round =>
      obtain ⟨rfl, rfl, rfl⟩ := hrel
      go_wp2
      go_loopg [9] 0 (fun q x wx => x = .int .i64 0 ∧ wx = wr)
      case atStart => exact ⟨rfl, rfl⟩
      case round =>
        obtain ⟨rfl, rfl⟩ := hrel
        go_wp2
        go_ret
        exact ⟨rfl, rfl⟩

set_option maxRecDepth 100000 in
theorem aloneBounds_any (w0 w : World) (g : Nat) (v : Value) (K : Blx w0 [(g, bookCs v, 56)] w) : Calls Tryz.prog 42 #[.pointer (some ⟨g, 0, none⟩)] w fun e w' => e = .returned (.bool true) ∧ w = w' := by
  have k := (K.cell 0 rfl 4 (v := .slice none 0 0) rfl).1
  go_enter Tryz.func42, Tryz.ntmps42
  go_wp2
  go_loopg [3] 0 (fun q x wr => x = .int .i64 0 ∧ wr = w)
  case atStart => exact ⟨rfl, rfl⟩
  case round =>
    obtain ⟨rfl, rfl⟩ := hrel
    go_wp2
    go_loopg [5, 6] 0 (fun q y x wx => y = .slice none 0 0 ∧ x = .int .i64 0 ∧ wx = wr)
    case atStart => exact ⟨rfl, rfl, rfl⟩
    case round =>
      obtain ⟨rfl, rfl, rfl⟩ := hrel
      go_wp2
      go_loopg [9] 0 (fun q x wx => x = .int .i64 0 ∧ wx = wr)
      case atStart => exact ⟨rfl, rfl⟩
      case round =>
        obtain ⟨rfl, rfl⟩ := hrel
        go_wp2
        go_ret
        exact ⟨rfl, rfl⟩

set_option maxRecDepth 100000 in
theorem aloneLimits_any (w0 w : World) (g : Nat) (v : Value) (K : Blx w0 [(g, bookCs v, 56)] w) : Calls Tryz.prog 44 #[.pointer (some ⟨g, 0, none⟩)] w fun e w' => e = .returned (.bool true) ∧ w = w' := by
  have k := (K.cell 0 rfl 6 (v := .slice none 0 0) rfl).1
  go_enter Tryz.func44, Tryz.ntmps44
  go_wp2
  go_loopg [3] 0 (fun q x wr => x = .int .i64 0 ∧ wr = w)
  case atStart => exact ⟨rfl, rfl⟩
  case round =>
    obtain ⟨rfl, rfl⟩ := hrel
    go_wp2
    go_loopg [5, 6] 0 (fun q y x wx => y = .slice none 0 0 ∧ x = .int .i64 0 ∧ wx = wr)
    case atStart => exact ⟨rfl, rfl, rfl⟩
    case round =>
      obtain ⟨rfl, rfl, rfl⟩ := hrel
      go_wp2
      go_loopg [9] 0 (fun q x wx => x = .int .i64 0 ∧ wx = wr)
      case atStart => exact ⟨rfl, rfl⟩
      case round =>
        obtain ⟨rfl, rfl⟩ := hrel
        go_wp2
        go_ret
        exact ⟨rfl, rfl⟩

set_option maxRecDepth 100000 in
theorem aloneGuards_any (w0 w : World) (g : Nat) (v : Value) (K : Blx w0 [(g, bookCs v, 56)] w) : Calls Tryz.prog 45 #[.pointer (some ⟨g, 0, none⟩)] w fun e w' => e = .returned (.bool true) ∧ w = w' := by
  have k := (K.cell 0 rfl 7 (v := .slice none 0 0) rfl).1
  go_enter Tryz.func45, Tryz.ntmps45
  go_wp2
  go_loopg [3] 0 (fun q x wr => x = .int .i64 0 ∧ wr = w)
  case atStart => exact ⟨rfl, rfl⟩
  case round =>
    obtain ⟨rfl, rfl⟩ := hrel
    go_wp2
    go_loopg [5, 6] 0 (fun q y x wx => y = .slice none 0 0 ∧ x = .int .i64 0 ∧ wx = wr)
    case atStart => exact ⟨rfl, rfl, rfl⟩
    case round =>
      obtain ⟨rfl, rfl, rfl⟩ := hrel
      go_wp2
      go_loopg [9] 0 (fun q x wx => x = .int .i64 0 ∧ wx = wr)
      case atStart => exact ⟨rfl, rfl⟩
      case round =>
        obtain ⟨rfl, rfl⟩ := hrel
        go_wp2
        go_ret
        exact ⟨rfl, rfl⟩

set_option maxRecDepth 100000 in
theorem aloneNodes_any (w0 w : World) (g : Nat) (v : Value) (K : Blx w0 [(g, bookCs v, 56)] w) : Calls Tryz.prog 46 #[.pointer (some ⟨g, 0, none⟩)] w fun e w' => e = .returned (.bool true) ∧ w = w' := by
  have k := (K.cell 0 rfl 8 (v := .slice none 0 0) rfl).1
  go_enter Tryz.func46, Tryz.ntmps46
  go_wp2
  go_loopg [3] 0 (fun q x wr => x = .int .i64 0 ∧ wr = w)
  case atStart => exact ⟨rfl, rfl⟩
  case round =>
    obtain ⟨rfl, rfl⟩ := hrel
    go_wp2
    go_loopg [5, 6] 0 (fun q y x wx => y = .slice none 0 0 ∧ x = .int .i64 0 ∧ wx = wr)
    case atStart => exact ⟨rfl, rfl, rfl⟩
    case round =>
      obtain ⟨rfl, rfl, rfl⟩ := hrel
      go_wp2
      go_loopg [9] 0 (fun q x wx => x = .int .i64 0 ∧ wx = wr)
      case atStart => exact ⟨rfl, rfl⟩
      case round =>
        obtain ⟨rfl, rfl⟩ := hrel
        go_wp2
        go_ret
        exact ⟨rfl, rfl⟩

set_option maxRecDepth 100000 in
theorem aloneMoves_any (w0 w : World) (g : Nat) (v : Value) (K : Blx w0 [(g, bookCs v, 56)] w) : Calls Tryz.prog 47 #[.pointer (some ⟨g, 0, none⟩)] w fun e w' => e = .returned (.bool true) ∧ w = w' := by
  have k := (K.cell 0 rfl 9 (v := .slice none 0 0) rfl).1
  go_enter Tryz.func47, Tryz.ntmps47
  go_wp2
  go_loopg [3] 0 (fun q x wr => x = .int .i64 0 ∧ wr = w)
  case atStart => exact ⟨rfl, rfl⟩
  case round =>
    obtain ⟨rfl, rfl⟩ := hrel
    go_wp2
    go_loopg [5, 6] 0 (fun q y x wx => y = .slice none 0 0 ∧ x = .int .i64 0 ∧ wx = wr)
    case atStart => exact ⟨rfl, rfl, rfl⟩
    case round =>
      obtain ⟨rfl, rfl, rfl⟩ := hrel
      go_wp2
      go_loopg [9] 0 (fun q x wx => x = .int .i64 0 ∧ wx = wr)
      case atStart => exact ⟨rfl, rfl⟩
      case round =>
        obtain ⟨rfl, rfl⟩ := hrel
        go_wp2
        go_ret
        exact ⟨rfl, rfl⟩

set_option maxRecDepth 100000 in
theorem aloneDiffs_any (w0 w : World) (g : Nat) (v : Value) (K : Blx w0 [(g, bookCs v, 56)] w) : Calls Tryz.prog 48 #[.pointer (some ⟨g, 0, none⟩)] w fun e w' => e = .returned (.bool true) ∧ w = w' := by
  have k := (K.cell 0 rfl 10 (v := .slice none 0 0) rfl).1
  go_enter Tryz.func48, Tryz.ntmps48
  go_wp2
  go_loopg [3] 0 (fun q x wr => x = .int .i64 0 ∧ wr = w)
  case atStart => exact ⟨rfl, rfl⟩
  case round =>
    obtain ⟨rfl, rfl⟩ := hrel
    go_wp2
    go_loopg [5, 6] 0 (fun q y x wx => y = .slice none 0 0 ∧ x = .int .i64 0 ∧ wx = wr)
    case atStart => exact ⟨rfl, rfl, rfl⟩
    case round =>
      obtain ⟨rfl, rfl, rfl⟩ := hrel
      go_wp2
      go_loopg [9] 0 (fun q x wx => x = .int .i64 0 ∧ wx = wr)
      case atStart => exact ⟨rfl, rfl⟩
      case round =>
        obtain ⟨rfl, rfl⟩ := hrel
        go_wp2
        go_ret
        exact ⟨rfl, rfl⟩

set_option maxRecDepth 100000 in
theorem aloneSteps_any (w0 w : World) (g : Nat) (v : Value) (K : Blx w0 [(g, bookCs v, 56)] w) : Calls Tryz.prog 49 #[.pointer (some ⟨g, 0, none⟩)] w fun e w' => e = .returned (.bool true) ∧ w = w' := by
  have k := (K.cell 0 rfl 11 (v := .slice none 0 0) rfl).1
  go_enter Tryz.func49, Tryz.ntmps49
  go_wp2
  go_loopg [3] 0 (fun q x wr => x = .int .i64 0 ∧ wr = w)
  case atStart => exact ⟨rfl, rfl⟩
  case round =>
    obtain ⟨rfl, rfl⟩ := hrel
    go_wp2
    go_loopg [5, 6] 0 (fun q y x wx => y = .slice none 0 0 ∧ x = .int .i64 0 ∧ wx = wr)
    case atStart => exact ⟨rfl, rfl, rfl⟩
    case round =>
      obtain ⟨rfl, rfl, rfl⟩ := hrel
      go_wp2
      go_loopg [9] 0 (fun q x wx => x = .int .i64 0 ∧ wx = wr)
      case atStart => exact ⟨rfl, rfl⟩
      case round =>
        obtain ⟨rfl, rfl⟩ := hrel
        go_wp2
        go_ret
        exact ⟨rfl, rfl⟩

set_option maxRecDepth 100000 in
theorem aloneAts_any (w0 w : World) (g : Nat) (v : Value) (K : Blx w0 [(g, bookCs v, 56)] w) : Calls Tryz.prog 50 #[.pointer (some ⟨g, 0, none⟩)] w fun e w' => e = .returned (.bool true) ∧ w = w' := by
  have k := (K.cell 0 rfl 12 (v := .slice none 0 0) rfl).1
  go_enter Tryz.func50, Tryz.ntmps50
  go_wp2
  go_loopg [3] 0 (fun q x wr => x = .int .i64 0 ∧ wr = w)
  case atStart => exact ⟨rfl, rfl⟩
  case round =>
    obtain ⟨rfl, rfl⟩ := hrel
    go_wp2
    go_loopg [5, 6] 0 (fun q y x wx => y = .slice none 0 0 ∧ x = .int .i64 0 ∧ wx = wr)
    case atStart => exact ⟨rfl, rfl, rfl⟩
    case round =>
      obtain ⟨rfl, rfl, rfl⟩ := hrel
      go_wp2
      go_loopg [9] 0 (fun q x wx => x = .int .i64 0 ∧ wx = wr)
      case atStart => exact ⟨rfl, rfl⟩
      case round =>
        obtain ⟨rfl, rfl⟩ := hrel
        go_wp2
        go_ret
        exact ⟨rfl, rfl⟩

set_option maxRecDepth 100000 in
theorem aloneBools_any (w0 w : World) (g : Nat) (v : Value) (K : Blx w0 [(g, bookCs v, 56)] w) : Calls Tryz.prog 51 #[.pointer (some ⟨g, 0, none⟩)] w fun e w' => e = .returned (.bool true) ∧ w = w' := by
  have k := (K.cell 0 rfl 13 (v := .slice none 0 0) rfl).1
  go_enter Tryz.func51, Tryz.ntmps51
  go_wp2
  go_loopg [3] 0 (fun q x wr => x = .int .i64 0 ∧ wr = w)
  case atStart => exact ⟨rfl, rfl⟩
  case round =>
    obtain ⟨rfl, rfl⟩ := hrel
    go_wp2
    go_loopg [5, 6] 0 (fun q y x wx => y = .slice none 0 0 ∧ x = .int .i64 0 ∧ wx = wr)
    case atStart => exact ⟨rfl, rfl, rfl⟩
    case round =>
      obtain ⟨rfl, rfl, rfl⟩ := hrel
      go_wp2
      go_loopg [9] 0 (fun q x wx => x = .int .i64 0 ∧ wx = wr)
      case atStart => exact ⟨rfl, rfl⟩
      case round =>
        obtain ⟨rfl, rfl⟩ := hrel
        go_wp2
        go_ret
        exact ⟨rfl, rfl⟩

end Go.Proofs.YtmelblnflalanaaGreat

/- Lists of fractions that were handed out: no list shows in another. -/
namespace Go.Proofs.YtmelblnflalanaaGreat
open Go Go.RowKit
set_option linter.unusedVariables false
set_option linter.unusedSimpArgs false

/-- The mark of a list. -/
def mkQ (i : Nat) : Int × Int := (-9000 - (i : Int), 78)
/-- A list of which the first k are marked. -/
def mkL (l : List (Int × Int)) (i k : Nat) : List (Int × Int) := List.replicate k (mkQ i) ++ l.drop k
theorem mkL_length {l : List (Int × Int)} {i k : Nat} (hk : k ≤ l.length) : (mkL l i k).length = l.length := by
  unfold mkL; rw [List.length_append, List.length_replicate, List.length_drop]; omega
theorem mkL_zero (l : List (Int × Int)) (i : Nat) : mkL l i 0 = l := by simp [mkL]
theorem mkL_full (l : List (Int × Int)) (i : Nat) : mkL l i l.length = List.replicate l.length (mkQ i) := by simp [mkL]
theorem mkL_next {l : List (Int × Int)} {i k : Nat} (hk : k < l.length) : (mkL l i k).set k (mkQ i) = mkL l i (k + 1) := by
  unfold mkL
  rw [List.set_append, List.length_replicate, if_neg (by omega), Nat.sub_self, List.drop_eq_getElem_cons hk, List.set_cons_zero, List.replicate_succ', List.append_assoc]
  rfl
theorem rep_getD (n i k : Nat) (hk : k < n) : (List.replicate n (mkQ i)).getD k (0, 0) = mkQ i := by
  rw [List.getD_eq_getElem?_getD, List.getElem?_replicate, if_pos hk]; rfl

/-- Two lists, kept in a book: their contents D. -/
structure AlR (w0 : World) (g h cap : Nat) (curh : Array Value) (n : Nat → Nat) (A : Nat → Option Addr) (c : Nat → Nat) (D : Nat → List (Int × Int)) (wr : World) : Prop where
  book : Blx w0 [(g, bookCs (.slice (some ⟨h, 0, none⟩) 2 cap), 56)] wr
  row : wr.heap[h]? = some (.cells curh 22 (0, 0))
  len : ∀ j, j < 2 → (D j).length = n j
  own : ∀ j, j < 2 → RowF wr (.slice (A j) (n j) (c j)) (D j)
section
variable {w0 wr w' : World} {g h cap : Nat} {n : Nat → Nat} {curh : Array Value} {A : Nat → Option Addr} {c : Nat → Nat} {D : Nat → List (Int × Int)}
theorem rowF_type {w : World} {s : Value} {l : List (Int × Int)} (hf : RowF w s l) {b : Nat} (hb : s.ownBlock = some b) : ∃ cur, w.heap[b]? = some (.cells cur 24 (0, 0)) := by
  obtain ⟨hl, hh⟩ := hf
  rcases hh with ⟨e, _⟩ | ⟨g', cap, cur, e, _, h1, _⟩
  · rw [e] at hb; cases hb
  · rw [e] at hb
    simp only [Value.ownBlock, Option.some.injEq] at hb
    subst hb
    exact ⟨cur, h1⟩
theorem AlR.notBook (H : AlR w0 g h cap curh n A c D wr) {s : Value} {l : List (Int × Int)} (hf : RowF wr s l) : s.ownBlock ≠ some g := fun e => by
  obtain ⟨cur, h1⟩ := rowF_type hf e
  have h2 := H.book.l _ (List.mem_singleton.2 rfl)
  simp only at h2
  rw [h1] at h2
  simp only [Option.some.injEq, Obj.cells.injEq] at h2
  exact absurd h2.2.1 (by decide)
theorem AlR.notRow (H : AlR w0 g h cap curh n A c D wr) {s : Value} {l : List (Int × Int)} (hf : RowF wr s l) : s.ownBlock ≠ some h := fun e => by
  obtain ⟨cur, h1⟩ := rowF_type hf e
  rw [H.row] at h1
  simp only [Option.some.injEq, Obj.cells.injEq] at h1
  exact absurd h1.2.1 (by decide)
theorem AlR.cellH (H : AlR w0 g h cap curh n A c D wr) {i : Nat} {v : Value} (hc : curh[i]? = some v) : wr.cell? ⟨h, i, none⟩ = some v := by
  unfold World.cell?; rw [H.row]; exact hc
/-- Blocks that hold what they held. -/
theorem AlR.keep (H : AlR w0 g h cap curh n A c D wr) (hb : Below w0.heap.size w0 w') (h1 : w'.heap[g]? = wr.heap[g]?) (h2 : w'.heap[h]? = wr.heap[h]?) (h3 : ∀ j, j < 2 → ∀ b, (Value.slice (A j) (n j) (c j)).ownBlock = some b → w'.heap[b]? = wr.heap[b]?) : AlR w0 g h cap curh n A c D w' :=
  ⟨⟨hb, fun t ht => by obtain rfl := List.mem_singleton.1 ht; exact h1.trans (H.book.l _ (List.mem_singleton.2 rfl)), H.book.s, H.book.lo⟩, h2.trans H.row, H.len, fun j hj => (H.own j hj).frame (h3 j hj)⟩
/-- A place of a list is written. -/
theorem AlR.put (H : AlR w0 g h cap curh n A c D wr) (hd : ∀ i j, i < 2 → j < 2 → i ≠ j → ∀ b, (Value.slice (A i) (n i) (c i)).ownBlock = some b → (Value.slice (A j) (n j) (c j)).ownBlock ≠ some b) {i k gi : Nat} (hi : i < 2) (hk : k < n i) (hA : A i = some ⟨gi, 0, none⟩) (hlo : w0.heap.size ≤ gi) (x y : Int) {D' : Nat → List (Int × Int)} (hD : ∀ j, j < 2 → D' j = if j = i then (D i).set k (x, y) else D j) :
    AlR w0 g h cap curh n A c D' ((wr.setCell ⟨gi, k * 2, none⟩ (.int .i64 x)).setCell ⟨gi, k * 2 + 1, none⟩ (.int .i64 y)) := by
  have ho : (Value.slice (A i) (n i) (c i)).ownBlock = some gi := by rw [hA]; rfl
  have hng : gi ≠ g := fun e => H.notBook (H.own i hi) (by rw [ho, e])
  have hnh : gi ≠ h := fun e => H.notRow (H.own i hi) (by rw [ho, e])
  have heap : ∀ b, b ≠ gi → ((wr.setCell ⟨gi, k * 2, none⟩ (.int .i64 x)).setCell ⟨gi, k * 2 + 1, none⟩ (.int .i64 y)).heap[b]? = wr.heap[b]? := fun b hb => by
    simp only [World.setCell, Array.getElem?_modify]
    rw [if_neg (fun e => hb e.symm), if_neg (fun e => hb e.symm)]
  refine ⟨⟨(H.book.below.setCell (p := ⟨gi, _, none⟩) hlo _).setCell (p := ⟨gi, _, none⟩) hlo _, fun t ht => ?_, H.book.s, H.book.lo⟩, (heap h (fun e => hnh e.symm)).trans H.row, fun j hj => ?_, fun j hj => ?_⟩
  · obtain rfl := List.mem_singleton.1 ht
    exact (heap g (fun e => hng e.symm)).trans (H.book.l _ (List.mem_singleton.2 rfl))
  · rw [hD j hj]
    split
    · rename_i e; rw [List.length_set, e]; exact H.len i hi
    · exact H.len j hj
  · rw [hD j hj]
    by_cases e : j = i
    · subst e
      rw [if_pos rfl]
      have hf := H.own j hj
      have hl := H.len j hj
      rw [hA, ← hl] at hf
      have := hf.put k (by omega) x y
      rw [hA, ← hl]
      exact this
    · rw [if_neg e]
      refine (H.own j hj).frame fun b hb => heap b (fun e2 => ?_)
      subst e2
      exact hd j i hj hi e b hb ho
end
/-- The lists' contents while they are marked. -/
def marD (L : Nat → List (Int × Int)) (i k j : Nat) : List (Int × Int) := if j < i then List.replicate (L j).length (mkQ j) else if j = i then mkL (L j) j k else L j
theorem marD_len {L : Nat → List (Int × Int)} {i k : Nat} (hk : k ≤ (L i).length) (j : Nat) : (marD L i k j).length = (L j).length := by
  unfold marD
  split
  · rw [List.length_replicate]
  · split
    · rename_i e; subst e; exact mkL_length hk
    · rfl
theorem marD_next {L : Nat → List (Int × Int)} {i k : Nat} (hk : k < (L i).length) (j : Nat) : marD L i (k + 1) j = if j = i then (marD L i k i).set k (mkQ i) else marD L i k j := by
  unfold marD
  by_cases e : j = i
  · subst e
    rw [if_neg (Nat.lt_irrefl _), if_pos rfl, if_pos rfl, if_neg (Nat.lt_irrefl _), if_pos rfl, mkL_next hk]
  · rw [if_neg e, if_neg e, if_neg e]
theorem marD_row {L : Nat → List (Int × Int)} (i : Nat) : ∀ j, marD L i (L i).length j = marD L (i + 1) 0 j := fun j => by
  unfold marD
  by_cases e : j < i
  · rw [if_pos e, if_pos (by omega)]
  · by_cases e2 : j = i
    · subst e2
      rw [if_neg e, if_pos rfl, if_pos (by omega), mkL_full]
    · rw [if_neg e, if_neg e2, if_neg (by omega)]
      split
      · rw [mkL_zero]
      · rfl
theorem AlR.alike {w0 wr : World} {g h cap : Nat} {n : Nat → Nat} {curh : Array Value} {A : Nat → Option Addr} {c : Nat → Nat} {D D' : Nat → List (Int × Int)} (H : AlR w0 g h cap curh n A c D wr) (hD : ∀ j, j < 2 → D' j = D j) : AlR w0 g h cap curh n A c D' wr :=
  ⟨H.book, H.row, fun j hj => by rw [hD j hj]; exact H.len j hj, fun j hj => by rw [hD j hj]; exact H.own j hj⟩

/-! ### the lists are grown -/
/-- While list i is grown, from the world wI on: v holds n + k marks. -/
structure GrR (w0 wI : World) (g h cap : Nat) (curh : Array Value) (n : Nat → Nat) (A : Nat → Option Addr) (c : Nat → Nat) (i k : Nat) (v : Value) (wr : World) : Prop where
  below : Below w0.heap.size w0 wr
  size : wI.heap.size ≤ wr.heap.size
  row : RowF wr v (List.replicate (n i + k) (mkQ i))
  self : RowF wr (.slice (A i) (n i) (c i)) (List.replicate (n i) (mkQ i))
  old : ∀ b, (Value.slice (A i) (n i) (c i)).ownBlock = some b → b < wI.heap.size
  blk : v.ownBlock = (Value.slice (A i) (n i) (c i)).ownBlock ∨ ∃ b, v.ownBlock = some b ∧ wI.heap.size ≤ b
  keep : ∀ b, b < wI.heap.size → (Value.slice (A i) (n i) (c i)).ownBlock ≠ some b → wr.heap[b]? = wI.heap[b]?
theorem GrR.next {w0 wI wr : World} {g h cap i k : Nat} {n : Nat → Nat} {curh : Array Value} {A : Nat → Option Addr} {c : Nat → Nat} {v : Value} (H : GrR w0 wI g h cap curh n A c i k v wr) (hlo : ∀ b, v.ownBlock = some b → w0.heap.size ≤ b) (hI : w0.heap.size ≤ wI.heap.size) (hn : n i + k ≤ 1000) :
    ∃ s' w', (Builtin.append_ #[22, 22] 22 #[v, .slice (some ⟨wr.heap.size, 0, none⟩) 1 1]).run Tryz.prog (wr.alloc (.cells #[.int .i64 (mkQ i).1, .int .i64 (mkQ i).2] 24)) = .ok s' w' ∧ GrR w0 wI g h cap curh n A c i (k + 1) s' w' ∧ ∀ b, s'.ownBlock = some b → w0.heap.size ≤ b := by
  have hb1 := below_one wr (.cells #[.int .i64 (mkQ i).1, .int .i64 (mkQ i).2] 24)
  have hnew := heap_alloc_new wr (.cells #[.int .i64 (mkQ i).1, .int .i64 (mkQ i).2] 24)
  have lt : ∀ s l, RowF wr s l → ∀ b, s.ownBlock = some b → b < wr.heap.size := fun s l hf b hb => by
    obtain ⟨cur, h1⟩ := rowF_type hf hb
    exact (Array.getElem?_eq_some_iff.1 h1).1
  have row1 := H.row.frame (fun q hq => hb1.block q (lt _ _ H.row q hq))
  have self1 := H.self.frame (fun q hq => hb1.block q (lt _ _ H.self q hq))
  obtain ⟨s', w', a1, a2, a3, a4, ⟨a5, a6, a7⟩, a8, a9⟩ := row1.grow wr.heap.size 1 (mkQ i).1 (mkQ i).2 ⟨by unfold World.cell?; rw [hnew]; rfl, by unfold World.cell?; rw [hnew]; rfl⟩ (by rw [List.length_replicate]; omega)
  have hrep : List.replicate (n i + k) (mkQ i) ++ [((mkQ i).1, (mkQ i).2)] = List.replicate (n i + (k + 1)) (mkQ i) := by
    rw [show n i + (k + 1) = (n i + k) + 1 by omega, List.replicate_succ']
  rw [hrep] at a2
  have hs1 := hb1.size
  refine ⟨s', w', a1, ⟨?_, by have := H.size; omega, a2, ?_, H.old, ?_, fun b hb hne => ?_⟩, fun b hb => ?_⟩
  · refine (H.below.trans (hb1.mono H.below.size)).trans ⟨a5, a6, a7, a4, fun b hb => a8 b (by have := H.below.size; omega) (fun e => ?_)⟩
    have := hlo b e; omega
  · rcases H.blk with e | ⟨b, e1, e2⟩
    · refine a9 _ _ e.symm (by rw [List.length_replicate, List.length_replicate]; omega) self1
    · refine self1.frame fun q hq => a8 q (by have := lt _ _ H.self q hq; omega) (fun e => ?_)
      rw [e1] at e
      simp only [Option.some.injEq] at e
      subst e
      have := H.old b hq
      omega
  · rcases a3 with e | ⟨b, e1, e2⟩
    · rw [e]; exact H.blk
    · exact .inr ⟨b, e1, by have := H.size; omega⟩
  · have hsz := H.size
    have e1 : w'.heap[b]? = (wr.alloc (.cells #[.int .i64 (mkQ i).1, .int .i64 (mkQ i).2] 24)).heap[b]? := a8 b (by omega) (fun e => by
      rcases H.blk with e2 | ⟨b', e2, e3⟩
      · rw [e2] at e; exact hne e
      · rw [e2] at e
        simp only [Option.some.injEq] at e
        omega)
    exact e1.trans ((hb1.block b (by omega)).trans (H.keep b hb hne))
  · rcases a3 with e | ⟨b', e1, e2⟩
    · rw [e] at hb; exact hlo b hb
    · rw [e1] at hb
      simp only [Option.some.injEq] at hb
      have := H.size
      omega

end Go.Proofs.YtmelblnflalanaaGreat

/- No list of fractions shows in another: the walk. -/
namespace Go.Proofs.YtmelblnflalanaaGreat
open Go Go.RowKit
set_option linter.unusedVariables false
set_option linter.unusedSimpArgs false

/-- The first i lists have been grown: V; they lie in the row v. -/
structure ThR (w0 : World) (g h cap : Nat) (curh : Array Value) (n : Nat → Nat) (A : Nat → Option Addr) (c : Nat → Nat) (base : Nat) (i : Nat) (V : Nat → Value) (v : Value) (wr : World) : Prop where
  al : AlR w0 g h cap curh n A c (fun j => List.replicate (n j) (mkQ j)) wr
  all : wr.ownsRow base 22 1 v i ((List.range i).map V)
  rows : ∀ j, j < i → RowF wr (V j) (List.replicate (n j + 20) (mkQ j))
  blk : ∀ j, j < i → ∀ b, (V j).ownBlock = some b → ((Value.slice (A j) (n j) (c j)).ownBlock = some b ∨ base ≤ b)
  size : base ≤ wr.heap.size
  lo : g < base ∧ h < base ∧ w0.heap.size ≤ base ∧ ∀ j, j < 2 → ∀ b, (Value.slice (A j) (n j) (c j)).ownBlock = some b → b < base
section
variable {w0 wI wr : World} {g h cap base i : Nat} {n : Nat → Nat} {curh : Array Value} {A : Nat → Option Addr} {c : Nat → Nat} {V : Nat → Value} {v y : Value}
theorem rowF_lt {w : World} {s : Value} {l : List (Int × Int)} (hf : RowF w s l) {b : Nat} (hb : s.ownBlock = some b) : b < w.heap.size := by
  obtain ⟨cur, h1⟩ := rowF_type hf hb
  exact (Array.getElem?_eq_some_iff.1 h1).1
theorem GrR.start (H : ThR w0 g h cap curh n A c base i V v wI) (hi : i < 2) : GrR w0 wI g h cap curh n A c i 0 (.slice (A i) (n i) (c i)) wI :=
  ⟨H.al.book.below, Nat.le_refl _, H.al.own i hi, H.al.own i hi, fun b hb => Nat.lt_of_lt_of_le (H.lo.2.2.2 i hi b hb) H.size, .inl rfl, fun b _ _ => rfl⟩
theorem ThR.next (H : ThR w0 g h cap curh n A c base i V v wI) (G : GrR w0 wI g h cap curh n A c i 20 y wr) (hd : ∀ i j, i < 2 → j < 2 → i ≠ j → ∀ b, (Value.slice (A i) (n i) (c i)).ownBlock = some b → (Value.slice (A j) (n j) (c j)).ownBlock ≠ some b) (hi : i < 2) :
    ∃ v' w', (Builtin.append_ #[46, 46] 46 #[v, .slice (some ⟨wr.heap.size, 0, none⟩) 1 1]).run Tryz.prog (wr.alloc (.cells #[y] 22)) = .ok v' w' ∧ ThR w0 g h cap curh n A c base (i + 1) (fun j => if j = i then y else V j) v' w' := by
  have hb1 := below_one wr (.cells #[y] 22)
  have hnew := heap_alloc_new wr (.cells #[y] 22)
  have hone : y.oneCell' = true := by obtain ⟨A', c', e, _⟩ := G.row.slice; rw [e]; rfl
  have hbase := H.lo.2.2.2 i hi
  have F1 : ∀ b, b < wI.heap.size → (Value.slice (A i) (n i) (c i)).ownBlock ≠ some b → (wr.alloc (.cells #[y] 22)).heap[b]? = wI.heap[b]? := fun b hb hne => (hb1.block b (by have := G.size; omega)).trans (G.keep b hb hne)
  have all1 : (wr.alloc (.cells #[y] 22)).ownsRow base 22 1 v i ((List.range i).map V) := rows_later H.all (fun q hq => F1 q (rows_block H.all hq).2 (fun e => by have := (rows_block H.all hq).1; have := hbase q e; omega))
  have hg0 : g < wI.heap.size := Nat.lt_of_lt_of_le H.lo.1 H.size
  have hh0 : h < wI.heap.size := Nat.lt_of_lt_of_le H.lo.2.1 H.size
  have al1 : AlR w0 g h cap curh n A c (fun j => List.replicate (n j) (mkQ j)) (wr.alloc (.cells #[y] 22)) := by
    refine ⟨⟨G.below.trans (hb1.mono G.below.size), fun t ht => ?_, H.al.book.s, H.al.book.lo⟩, (F1 h hh0 (H.al.notRow (H.al.own i hi))).trans H.al.row, H.al.len, fun j hj => ?_⟩
    · obtain rfl := List.mem_singleton.1 ht
      exact (F1 g hg0 (H.al.notBook (H.al.own i hi))).trans (H.al.book.l _ (List.mem_singleton.2 rfl))
    · by_cases e : j = i
      · subst e
        exact G.self.frame fun b hb => hb1.block b (rowF_lt G.self hb)
      · exact (H.al.own j hj).frame fun b hb => F1 b (rowF_lt (H.al.own j hj) hb) (hd j i hj hi e b hb)
  have rows1 : ∀ j, j < i → RowF (wr.alloc (.cells #[y] 22)) (V j) (List.replicate (n j + 20) (mkQ j)) := fun j hj => (H.rows j hj).frame fun b hb => F1 b (rowF_lt (H.rows j hj) hb) (fun e => by
    rcases H.blk j hj b hb with h1 | h1
    · exact hd j i (by omega) hi (by omega) b h1 e
    · have := hbase b e; omega)
  have y1 : RowF (wr.alloc (.cells #[y] 22)) y (List.replicate (n i + 20) (mkQ i)) := G.row.frame fun b hb => hb1.block b (rowF_lt G.row hb)
  have hlen : ((List.range i).map V).length = i := by simp
  have all2 : (wr.alloc (.cells #[y] 22)).ownsRow base 22 1 v ((List.range i).map V).length ((List.range i).map V) := by rw [hlen]; exact all1
  have hsz1 : base ≤ (wr.alloc (.cells #[y] 22)).heap.size := by have := H.size; have := G.size; have := hb1.size; omega
  obtain ⟨v', w', a1, a2, a3⟩ := take_run all2 hsz1 wr.heap.size 1 y hone (by unfold World.cell?; rw [hnew]; rfl) (by rw [hlen]; omega)
  have F2 : ∀ b, b < (wr.alloc (.cells #[y] 22)).heap.size → v.ownBlock ≠ some b → w'.heap[b]? = (wr.alloc (.cells #[y] 22)).heap[b]? := fun b hb hne => a3.block b hb (fun e => hne e.symm)
  have vlo : ∀ b, v.ownBlock = some b → base ≤ b := fun b hb => (rows_block all1 hb).1
  have vty : ∀ s l, RowF (wr.alloc (.cells #[y] 22)) s l → ∀ b, s.ownBlock = some b → v.ownBlock ≠ some b := fun s l hf b hb e => by
    obtain ⟨cur, h1⟩ := rowF_type hf hb
    obtain ⟨hl, hv⟩ := all1
    rcases hv with ⟨e1, _⟩ | ⟨g', cap', cur', e1, _, h2, _⟩
    · rw [e1] at e; cases e
    · rw [e1] at e
      simp only [Value.ownBlock, Option.some.injEq] at e
      subst e
      rw [h1] at h2
      simp only [Option.some.injEq, Obj.cells.injEq] at h2
      exact absurd h2.2.1 (by decide)
  have fr : ∀ s l, RowF (wr.alloc (.cells #[y] 22)) s l → RowF w' s l := fun s l hf => hf.frame fun b hb => F2 b (rowF_lt hf hb) (vty s l hf b hb)
  have g1 : g < (wr.alloc (.cells #[y] 22)).heap.size := by have := H.lo.1; omega
  have h1 : h < (wr.alloc (.cells #[y] 22)).heap.size := by have := H.lo.2.1; omega
  refine ⟨v', w', a1, ⟨⟨⟨al1.book.below.grown a3 (by have := H.lo.2.2.1; omega) (fun q hq => by have := vlo q hq; have := H.lo.2.2.1; omega), fun t ht => ?_, al1.book.s, al1.book.lo⟩, (F2 h h1 (fun e => by have := vlo h e; have := H.lo.2.1; omega)).trans al1.row, al1.len, fun j hj => fr _ _ (al1.own j hj)⟩, ?_, fun j hj => ?_, fun j hj b hb => ?_, by have := a3.size; omega, H.lo⟩⟩
  · obtain rfl := List.mem_singleton.1 ht
    exact (F2 g g1 (fun e => by have := vlo g e; have := H.lo.1; omega)).trans (al1.book.l _ (List.mem_singleton.2 rfl))
  · rw [hlen] at a2
    have e : (List.range (i + 1)).map (fun j => if j = i then y else V j) = (List.range i).map V ++ [y] := by
      rw [List.range_succ, List.map_append]
      refine congr (congrArg _ (List.map_congr_left fun j hj => ?_)) (by simp)
      have := List.mem_range.1 hj
      rw [if_neg (by omega)]
    rw [e]; exact a2
  · by_cases e : j = i
    · subst e; simp only [if_true]; exact fr _ _ y1
    · simp only [if_neg e]; exact fr _ _ (rows1 j (by omega))
  · by_cases e : j = i
    · subst e
      simp only [if_true] at hb
      rcases G.blk with h2 | ⟨b', h2, h3⟩
      · rw [h2] at hb; exact .inl hb
      · rw [h2] at hb
        simp only [Option.some.injEq] at hb
        subst hb
        exact .inr (by have := H.size; omega)
    · simp only [if_neg e] at hb
      exact H.blk j (by omega) b hb
end

set_option maxRecDepth 100000 in
set_option maxHeartbeats 8000000 in
theorem aloneRats_any (w0 w : World) (g h cap : Nat) (curh : Array Value) (n : Nat → Nat) (A : Nat → Option Addr) (c : Nat → Nat) (L : Nat → List (Int × Int)) (hl : ∀ i, (L i).length = n i) (hn : ∀ i, i < 2 → n i ≤ 8) (H : AlR w0 g h cap curh n A c L w)
    (hc : ∀ i, i < 2 → curh[i]? = some (.slice (A i) (n i) (c i))) (hd : ∀ i j, i < 2 → j < 2 → i ≠ j → ∀ b, (Value.slice (A i) (n i) (c i)).ownBlock = some b → (Value.slice (A j) (n j) (c j)).ownBlock ≠ some b) (hlo : ∀ j, j < 2 → ∀ b, (Value.slice (A j) (n j) (c j)).ownBlock = some b → w0.heap.size ≤ b) :
    Calls Tryz.prog 43 #[.pointer (some ⟨g, 0, none⟩)] w fun e w' => e = .returned (.bool true) ∧ Blx w0 [(g, bookCs (.slice (some ⟨h, 0, none⟩) 2 cap), 56)] w' := by
  have HS := Lib.hid (H.alike (D' := marD L 0 0) (fun j _ => by
    unfold marD
    rw [if_neg (by omega)]
    split
    · exact mkL_zero (L j) j
    · rfl))
  have HL := Lib.hid hl
  have HC := Lib.hid hc
  have HD := Lib.hid hd
  have HLO := Lib.hid hlo
  clear H hc hd hlo hl
  go_enter Tryz.func43, Tryz.ntmps43
  go_wp2
  go_loopg [3] 2 (fun q x wr => ∃ i : Nat, x = .int .i64 i ∧ Hid (AlR w0 g h cap curh n A c (marD L i 0) wr) ∧ Hid (i ≤ 2 ∧ q + i = 2))
  case atStart => exact ⟨0, by simp, HS, Lib.hid (by omega)⟩
  case round =>
    clear HS
    obtain ⟨i, rfl, HA, HG⟩ := hrel
    have q5 : IntKind.i64.wrap ((i : Int) + 1) = ((i + 1 : Nat) : Int) := by rw [IntWalk.i64_in _ (by have := HG.out; omega)]; omega
    have k5 := (HA.out.book.cell 0 rfl 5 (v := .slice (some ⟨h, 0, none⟩) 2 cap) rfl).1
    by_cases hi : i < 2
    · have hni := hn i hi
      have hii : (i : Int) < 2 := by omega
      have q6 : IntKind.i64.wrap (-9000 - (i : Int)) = -9000 - (i : Int) := IntWalk.i64_in _ (by omega)
      go_wp2
      clear k5
      go_loopg [4] (n i) (fun q x wr => ∃ k : Nat, x = .int .i64 k ∧ Hid (AlR w0 g h cap curh n A c (marD L i k) wr) ∧ Hid (k ≤ n i ∧ q + k = n i))
      case atStart => exact ⟨0, by simp, HA, Lib.hid (by omega)⟩
      case round =>
        clear HA
        obtain ⟨k, rfl, HA, HG2⟩ := hrel
        have w6 : IntKind.i64.wrap ((k : Int) + 1) = ((k + 1 : Nat) : Int) := by rw [IntWalk.i64_in _ (by have := HG2.out; omega)]; omega
        have k5 := (HA.out.book.cell 0 rfl 5 (v := .slice (some ⟨h, 0, none⟩) 2 cap) rfl).1
        have kh := HA.out.cellH (HC.out i hi)
        by_cases hk : k < n i
        · have hki : (k : Int) < (n i : Int) := by omega
          have hkl : k < (L i).length := by rw [HL.out i]; exact hk
          have hlen : (marD L i k i).length = n i := (marD_len (L := L) (i := i) (k := k) (by omega) i).trans (HL.out i)
          have hf := HA.out.own i hi
          rw [← hlen] at hf
          obtain ⟨gi, ci, e1, _⟩ := hf.block (by omega)
          simp only [Value.slice.injEq] at e1
          obtain ⟨eA, _⟩ := e1
          rw [eA] at hf
          obtain ⟨⟨c1, c2⟩, f1, f2⟩ := hf.at k (by omega)
          have HN := Lib.hid (HA.out.put HD.out hi hk eA (HLO.out i hi gi (by rw [eA]; rfl)) (-9000 - (i : Int)) 78 (D' := marD L i (k + 1)) (fun j _ => marD_next hkl j))
          rw [eA] at kh
          clear hf hlen hkl
          go_wp2
          go_roundg (gk - 1)
          case measure => have h := HG2.out; omega
          case rel => exact ⟨k + 1, by go_num, HN, Lib.hid (by have h := HG2.out; omega)⟩
        · have hki : ¬ (k : Int) < (n i : Int) := by omega
          have HN := Lib.hid (HA.out.alike (D' := marD L (i + 1) 0) (fun j _ => by
            have e : k = (L i).length := by have := HG2.out; rw [HL.out i]; omega
            rw [e]; exact (marD_row i j).symm))
          go_wp2
          go_roundg (1 - i)
          case measure => have h := HG.out; omega
          case rel => exact ⟨i + 1, by go_num, HN, Lib.hid (by have h := HG.out; omega)⟩
    · have hii : ¬ (i : Int) < 2 := by omega
      have HT := Lib.hid (HA.out.alike (D' := fun j => List.replicate (n j) (mkQ j)) (fun j hj => by
        have e : i = 2 := by have := HG.out; omega
        subst e
        show _ = marD L 2 0 j
        unfold marD; rw [if_pos hj, HL.out j]))
      have HLB := Lib.hid (show g < wr.heap.size ∧ h < wr.heap.size ∧ w0.heap.size ≤ wr.heap.size ∧ ∀ j, j < 2 → ∀ b, (Value.slice (A j) (n j) (c j)).ownBlock = some b → b < wr.heap.size from
        ⟨HT.out.book.after _ (List.mem_singleton.2 rfl), (Array.getElem?_eq_some_iff.1 HT.out.row).1, HT.out.book.below.size, fun j hj b hb => rowF_lt (HT.out.own j hj) hb⟩)
      clear HA
      go_wp2
      clear k5
      generalize wr = wM at *
      have HS := Lib.hid (show ThR w0 g h cap curh n A c wM.heap.size 0 (fun _ => .slice none 0 0) (.slice none 0 0) wM from
        ⟨HT.out, World.ownsRow_nil _ _ _ _, fun j hj => by omega, fun j hj => by omega, Nat.le_refl _, HLB.out⟩)
      go_loopg [5, 6] 2 (fun q v x wr => ∃ (i : Nat) (V : Nat → Value), x = .int .i64 i ∧ Hid (ThR w0 g h cap curh n A c wM.heap.size i V v wr) ∧ Hid (i ≤ 2 ∧ q + i = 2))
      case atStart => exact ⟨0, _, by simp, HS, Lib.hid (by omega)⟩
      case round =>
        clear HS HT HG
        obtain ⟨i, V, rfl, HT, HG⟩ := hrel
        have q5 : IntKind.i64.wrap ((i : Int) + 1) = ((i + 1 : Nat) : Int) := by rw [IntWalk.i64_in _ (by have := HG.out; omega)]; omega
        have k5 := (HT.out.al.book.cell 0 rfl 5 (v := .slice (some ⟨h, 0, none⟩) 2 cap) rfl).1
        by_cases hi : i < 2
        · have hni := hn i hi
          have hii : (i : Int) < 2 := by omega
          have q6 : IntKind.i64.wrap (-9000 - (i : Int)) = -9000 - (i : Int) := IntWalk.i64_in _ (by omega)
          have kh := HT.out.al.cellH (HC.out i hi)
          have HGS := Lib.hid (GrR.start HT.out hi)
          have HLS := Lib.hid (HLO.out i hi)
          generalize wr = wI at *
          go_wp2
          clear k5 kh
          go_loopg [7, 8] 20 (fun q y x wr => ∃ k : Nat, x = .int .i64 k ∧ Hid (GrR w0 wI g h cap curh n A c i k y wr ∧ ∀ b, y.ownBlock = some b → w0.heap.size ≤ b) ∧ Hid (k ≤ 20 ∧ q + k = 20))
          case atStart => exact ⟨0, by simp, Lib.hid ⟨HGS.out, HLS.out⟩, Lib.hid (by omega)⟩
          case round =>
            clear HGS HLS
            obtain ⟨k, rfl, HR, HG2⟩ := hrel
            have w6 : IntKind.i64.wrap ((k : Int) + 1) = ((k + 1 : Nat) : Int) := by rw [IntWalk.i64_in _ (by have := HG2.out; omega)]; omega
            by_cases hk : k < 20
            · have hki : (k : Int) < 20 := by omega
              obtain ⟨s', w', hrun, hnext, hlo'⟩ := HR.out.1.next HR.out.2 HT.out.al.book.below.size (by omega)
              have HN := Lib.hid (And.intro hnext hlo')
              simp only [mkQ] at hrun
              clear hnext hlo'
              go_wp2_with (at_builtin; refine wpList_append_run rfl _ _ 22 rfl _ _ s' w' rfl rfl hrun ?_)
              clear hrun
              go_wp2
              go_roundg (gk - 1)
              case measure => have h := HG2.out; omega
              case rel => exact ⟨k + 1, by go_num, HN, Lib.hid (by have h := HG2.out; omega)⟩
            · have hki : ¬ (k : Int) < 20 := by omega
              have HR20 := Lib.hid (show GrR w0 wI g h cap curh n A c i 20 u7 wr from by
                have h := HR.out.1
                rw [show k = 20 by have := HG2.out; omega] at h; exact h)
              obtain ⟨A', c', ey, _⟩ := HR20.out.row.slice
              rw [List.length_replicate] at ey
              obtain ⟨v', w', hrun, hnext⟩ := ThR.next HT.out HR20.out HD.out hi
              have HN := Lib.hid hnext
              clear hnext
              subst ey
              go_wp2_with (at_builtin; refine wpList_append_run rfl _ _ 46 rfl _ _ v' w' rfl rfl hrun ?_)
              clear hrun
              go_wp2
              go_roundg (1 - i)
              case measure => have h := HG.out; omega
              case rel => exact ⟨i + 1, _, by go_num, HN, Lib.hid (by have h := HG.out; omega)⟩
        · have hii : ¬ (i : Int) < 2 := by omega
          have HT2 := Lib.hid (show ThR w0 g h cap curh n A c wM.heap.size 2 V u5 wr from by
            have h := HT.out
            rw [show i = 2 by have := HG.out; omega] at h; exact h)
          clear HT
          obtain ⟨gq, capq, ev, HCQ⟩ : ∃ gq capq, u5 = .slice (some ⟨gq, 0, none⟩) 2 capq ∧ Hid (∀ j, j < 2 → wr.cell? ⟨gq, j, none⟩ = some (V j)) := by
            have hall := HT2.out.all
            have hcells := hall
            obtain ⟨_, hv⟩ := hall
            rcases hv with ⟨_, h0⟩ | ⟨gq, capq, curq, e, _, _⟩
            · omega
            · refine ⟨gq, capq, e, Lib.hid fun j hj => ?_⟩
              rw [e] at hcells
              have h1 := World.ownsRow.cells hcells rfl j (V j) (by
                rw [List.getElem?_map, List.getElem?_range hj]; rfl)
              have ea : (⟨gq, 0, none⟩ : Addr).add j = ⟨gq, j, none⟩ := by unfold Addr.add; split <;> simp_all
              rw [ea] at h1
              exact h1
          subst ev
          have HVS := Lib.hid (fun j (hj : j < 2) => (HT2.out.rows j hj).slice)
          have HSS := Lib.hid (fun j (hj : j < 2) => (HT2.out.al.own j hj).slice)
          have HFIN := Lib.hid HT2.out.al.book
          have k5 := (HT2.out.al.book.cell 0 rfl 5 (v := .slice (some ⟨h, 0, none⟩) 2 cap) rfl).1
          have HKH := Lib.hid (fun j (hj : j < 2) => HT2.out.al.cellH (HC.out j hj))
          clear HT2 HG HLB
          go_wp2
          go_loopg [9] 2 (fun q x wx => ∃ i : Nat, x = .int .i64 i ∧ Hid (wx = wr) ∧ Hid (i ≤ 2 ∧ q + i = 2))
          case atStart => exact ⟨0, by simp, Lib.hid rfl, Lib.hid (by omega)⟩
          case round =>
            obtain ⟨t, rfl, HW, HG⟩ := hrel
            have ew := HW.out
            subst ew
            have q7 : IntKind.i64.wrap ((t : Int) + 1) = ((t + 1 : Nat) : Int) := by rw [IntWalk.i64_in _ (by have := HG.out; omega)]; omega
            by_cases ht : t < 2
            · have hti : (t : Int) < 2 := by omega
              have q8 : IntKind.i64.wrap (-9000 - (t : Int)) = -9000 - (t : Int) := IntWalk.i64_in _ (by omega)
              have cq := HCQ.out t ht
              have ch := HKH.out t ht
              have hnt := hn t ht
              obtain ⟨Av, cv, eV, hrv⟩ := HVS.out t ht
              rw [List.length_replicate] at eV
              obtain ⟨N2, hN2⟩ : ∃ N2, N2 = n t + 20 := ⟨_, rfl⟩
              rw [← hN2] at eV hrv
              have HN2 := Lib.hid hN2
              clear hN2
              rw [eV] at cq
              have HRV := Lib.hid hrv
              obtain ⟨As, cs, eS, hrs⟩ := HSS.out t ht
              have HRS := Lib.hid hrs
              simp only [Value.slice.injEq] at eS
              obtain ⟨eA, -, -⟩ := eS
              rw [eA] at ch
              clear eV hrv hrs eA
              go_wp2
              go_loopg [10] N2 (fun q x wx => ∃ k : Nat, x = .int .i64 k ∧ Hid (wx = wr) ∧ Hid (k ≤ N2 ∧ q + k = N2))
              case atStart => exact ⟨0, by simp, Lib.hid rfl, Lib.hid (by omega)⟩
              case round =>
                obtain ⟨k, rfl, HW, HG2⟩ := hrel
                have ew := HW.out
                subst ew
                have q9 : IntKind.i64.wrap ((k : Int) + 1) = ((k + 1 : Nat) : Int) := by rw [IntWalk.i64_in _ (by have := HG2.out; have := HN2.out; omega)]; omega
                by_cases hk : k < N2
                · have hki : (k : Int) < (N2 : Int) := by omega
                  obtain ⟨bv, ov, rfl, e1, e2⟩ := HRV.out k (by rw [List.length_replicate]; exact hk)
                  rw [rep_getD _ _ _ hk] at e1 e2
                  simp only [mkQ] at e1 e2
                  go_wp2
                  go_roundg (gk - 1)
                  case measure => have h := HG2.out; omega
                  case rel => exact ⟨k + 1, by go_num, Lib.hid rfl, Lib.hid (by have h := HG2.out; omega)⟩
                · have hki : ¬ (k : Int) < (N2 : Int) := by omega
                  go_wp2
                  go_loopg [11] (n t) (fun q x wx => ∃ k : Nat, x = .int .i64 k ∧ Hid (wx = wr) ∧ Hid (k ≤ n t ∧ q + k = n t))
                  case atStart => exact ⟨0, by simp, Lib.hid rfl, Lib.hid (by omega)⟩
                  case round =>
                    obtain ⟨k2, rfl, HW, HG3⟩ := hrel
                    have ew := HW.out
                    subst ew
                    have q10 : IntKind.i64.wrap ((k2 : Int) + 1) = ((k2 + 1 : Nat) : Int) := by rw [IntWalk.i64_in _ (by have := HG3.out; omega)]; omega
                    by_cases hk2 : k2 < n t
                    · have hki2 : (k2 : Int) < (n t : Int) := by omega
                      obtain ⟨bs, os, rfl, e1, e2⟩ := HRS.out k2 (by rw [List.length_replicate]; exact hk2)
                      rw [rep_getD _ _ _ hk2] at e1 e2
                      simp only [mkQ] at e1 e2
                      go_wp2
                      go_roundg (gk - 1)
                      case measure => have h := HG3.out; omega
                      case rel => exact ⟨k2 + 1, by go_num, Lib.hid rfl, Lib.hid (by have h := HG3.out; omega)⟩
                    · have hki2 : ¬ (k2 : Int) < (n t : Int) := by omega
                      go_wp2
                      go_roundg (1 - t)
                      case measure => have h := HG.out; omega
                      case rel => exact ⟨t + 1, by go_num, Lib.hid rfl, Lib.hid (by have h := HG.out; omega)⟩
            · have hti : ¬ (t : Int) < 2 := by omega
              go_wp2
              go_ret
              exact ⟨rfl, HFIN.out⟩

end Go.Proofs.YtmelblnflalanaaGreat

/- What a book tells of two lists of fractions of unlike lengths. -/
namespace Go.Proofs.YtmelblnflalanaaGreat
open Go Go.RowKit
set_option linter.unusedVariables false
set_option linter.unusedSimpArgs false

theorem cells14_at {w0 wr : World} {g : Nat} {T : TypeId} {a0 a1 a2 a3 a4 a5 a6 a7 a8 a9 a10 a11 a12 a13 : Value} (h : Blx w0 [(g, #[a0, a1, a2, a3, a4, a5, a6, a7, a8, a9, a10, a11, a12, a13], T)] wr) : (wr.cell? ⟨g, 0, none⟩ = some a0 ∧ wr.cell? ⟨g, 1, none⟩ = some a1 ∧ wr.cell? ⟨g, 2, none⟩ = some a2 ∧ wr.cell? ⟨g, 3, none⟩ = some a3 ∧ wr.cell? ⟨g, 4, none⟩ = some a4 ∧ wr.cell? ⟨g, 5, none⟩ = some a5 ∧ wr.cell? ⟨g, 6, none⟩ = some a6 ∧ wr.cell? ⟨g, 7, none⟩ = some a7 ∧ wr.cell? ⟨g, 8, none⟩ = some a8 ∧ wr.cell? ⟨g, 9, none⟩ = some a9 ∧ wr.cell? ⟨g, 10, none⟩ = some a10 ∧ wr.cell? ⟨g, 11, none⟩ = some a11 ∧ wr.cell? ⟨g, 12, none⟩ = some a12 ∧ wr.cell? ⟨g, 13, none⟩ = some a13) ∧ wr.frozen? ⟨g, 0, none⟩ = false ∧ wr.frozen? ⟨g, 1, none⟩ = false ∧ wr.frozen? ⟨g, 2, none⟩ = false ∧ wr.frozen? ⟨g, 3, none⟩ = false ∧ wr.frozen? ⟨g, 4, none⟩ = false ∧ wr.frozen? ⟨g, 5, none⟩ = false ∧ wr.frozen? ⟨g, 6, none⟩ = false ∧ wr.frozen? ⟨g, 7, none⟩ = false ∧ wr.frozen? ⟨g, 8, none⟩ = false ∧ wr.frozen? ⟨g, 9, none⟩ = false ∧ wr.frozen? ⟨g, 10, none⟩ = false ∧ wr.frozen? ⟨g, 11, none⟩ = false ∧ wr.frozen? ⟨g, 12, none⟩ = false ∧ wr.frozen? ⟨g, 13, none⟩ = false :=
  ⟨⟨(h.cell 0 rfl 0 rfl).1, (h.cell 0 rfl 1 rfl).1, (h.cell 0 rfl 2 rfl).1, (h.cell 0 rfl 3 rfl).1, (h.cell 0 rfl 4 rfl).1, (h.cell 0 rfl 5 rfl).1, (h.cell 0 rfl 6 rfl).1, (h.cell 0 rfl 7 rfl).1, (h.cell 0 rfl 8 rfl).1, (h.cell 0 rfl 9 rfl).1, (h.cell 0 rfl 10 rfl).1, (h.cell 0 rfl 11 rfl).1, (h.cell 0 rfl 12 rfl).1, (h.cell 0 rfl 13 rfl).1⟩, (h.cell 0 rfl 0 (v := a0) rfl).2, (h.cell 0 rfl 1 (v := a1) rfl).2, (h.cell 0 rfl 2 (v := a2) rfl).2, (h.cell 0 rfl 3 (v := a3) rfl).2, (h.cell 0 rfl 4 (v := a4) rfl).2, (h.cell 0 rfl 5 (v := a5) rfl).2, (h.cell 0 rfl 6 (v := a6) rfl).2, (h.cell 0 rfl 7 (v := a7) rfl).2, (h.cell 0 rfl 8 (v := a8) rfl).2, (h.cell 0 rfl 9 (v := a9) rfl).2, (h.cell 0 rfl 10 (v := a10) rfl).2, (h.cell 0 rfl 11 (v := a11) rfl).2, (h.cell 0 rfl 12 (v := a12) rfl).2, (h.cell 0 rfl 13 (v := a13) rfl).2⟩
theorem cells14_store {w0 wr : World} {g : Nat} {T : TypeId} {a0 a1 a2 a3 a4 a5 a6 a7 a8 a9 a10 a11 a12 a13 : Value} (h : Blx w0 [(g, #[a0, a1, a2, a3, a4, a5, a6, a7, a8, a9, a10, a11, a12, a13], T)] wr) (b0 b1 b2 b3 b4 b5 b6 b7 b8 b9 b10 b11 b12 b13 : Value) : Blx w0 [(g, #[b0, b1, b2, b3, b4, b5, b6, b7, b8, b9, b10, b11, b12, b13], T)] ((((((((((((((wr.setCell ⟨g, 0, none⟩ b0).setCell ⟨g, 1, none⟩ b1).setCell ⟨g, 2, none⟩ b2).setCell ⟨g, 3, none⟩ b3).setCell ⟨g, 4, none⟩ b4).setCell ⟨g, 5, none⟩ b5).setCell ⟨g, 6, none⟩ b6).setCell ⟨g, 7, none⟩ b7).setCell ⟨g, 8, none⟩ b8).setCell ⟨g, 9, none⟩ b9).setCell ⟨g, 10, none⟩ b10).setCell ⟨g, 11, none⟩ b11).setCell ⟨g, 12, none⟩ b12).setCell ⟨g, 13, none⟩ b13) := by
  have e0 : (#[a0, a1, a2, a3, a4, a5, a6, a7, a8, a9, a10, a11, a12, a13] : Array Value).setIfInBounds 0 b0 = #[b0, a1, a2, a3, a4, a5, a6, a7, a8, a9, a10, a11, a12, a13] := rfl
  have h1 := h.set 0 rfl 0 b0
  rw [e0] at h1
  simp only [List.set_cons_zero] at h1
  have e1 : (#[b0, a1, a2, a3, a4, a5, a6, a7, a8, a9, a10, a11, a12, a13] : Array Value).setIfInBounds 1 b1 = #[b0, b1, a2, a3, a4, a5, a6, a7, a8, a9, a10, a11, a12, a13] := rfl
  have h2 := h1.set 0 rfl 1 b1
  rw [e1] at h2
  simp only [List.set_cons_zero] at h2
  have e2 : (#[b0, b1, a2, a3, a4, a5, a6, a7, a8, a9, a10, a11, a12, a13] : Array Value).setIfInBounds 2 b2 = #[b0, b1, b2, a3, a4, a5, a6, a7, a8, a9, a10, a11, a12, a13] := rfl
  have h3 := h2.set 0 rfl 2 b2
  rw [e2] at h3
  simp only [List.set_cons_zero] at h3
  have e3 : (#[b0, b1, b2, a3, a4, a5, a6, a7, a8, a9, a10, a11, a12, a13] : Array Value).setIfInBounds 3 b3 = #[b0, b1, b2, b3, a4, a5, a6, a7, a8, a9, a10, a11, a12, a13] := rfl
  have h4 := h3.set 0 rfl 3 b3
  rw [e3] at h4
  simp only [List.set_cons_zero] at h4
  have e4 : (#[b0, b1, b2, b3, a4, a5, a6, a7, a8, a9, a10, a11, a12, a13] : Array Value).setIfInBounds 4 b4 = #[b0, b1, b2, b3, b4, a5, a6, a7, a8, a9, a10, a11, a12, a13] := rfl
  have h5 := h4.set 0 rfl 4 b4
  rw [e4] at h5
  simp only [List.set_cons_zero] at h5
  have e5 : (#[b0, b1, b2, b3, b4, a5, a6, a7, a8, a9, a10, a11, a12, a13] : Array Value).setIfInBounds 5 b5 = #[b0, b1, b2, b3, b4, b5, a6, a7, a8, a9, a10, a11, a12, a13] := rfl
  have h6 := h5.set 0 rfl 5 b5
  rw [e5] at h6
  simp only [List.set_cons_zero] at h6
  have e6 : (#[b0, b1, b2, b3, b4, b5, a6, a7, a8, a9, a10, a11, a12, a13] : Array Value).setIfInBounds 6 b6 = #[b0, b1, b2, b3, b4, b5, b6, a7, a8, a9, a10, a11, a12, a13] := rfl
  have h7 := h6.set 0 rfl 6 b6
  rw [e6] at h7
  simp only [List.set_cons_zero] at h7
  have e7 : (#[b0, b1, b2, b3, b4, b5, b6, a7, a8, a9, a10, a11, a12, a13] : Array Value).setIfInBounds 7 b7 = #[b0, b1, b2, b3, b4, b5, b6, b7, a8, a9, a10, a11, a12, a13] := rfl
  have h8 := h7.set 0 rfl 7 b7
  rw [e7] at h8
  simp only [List.set_cons_zero] at h8
  have e8 : (#[b0, b1, b2, b3, b4, b5, b6, b7, a8, a9, a10, a11, a12, a13] : Array Value).setIfInBounds 8 b8 = #[b0, b1, b2, b3, b4, b5, b6, b7, b8, a9, a10, a11, a12, a13] := rfl
  have h9 := h8.set 0 rfl 8 b8
  rw [e8] at h9
  simp only [List.set_cons_zero] at h9
  have e9 : (#[b0, b1, b2, b3, b4, b5, b6, b7, b8, a9, a10, a11, a12, a13] : Array Value).setIfInBounds 9 b9 = #[b0, b1, b2, b3, b4, b5, b6, b7, b8, b9, a10, a11, a12, a13] := rfl
  have h10 := h9.set 0 rfl 9 b9
  rw [e9] at h10
  simp only [List.set_cons_zero] at h10
  have e10 : (#[b0, b1, b2, b3, b4, b5, b6, b7, b8, b9, a10, a11, a12, a13] : Array Value).setIfInBounds 10 b10 = #[b0, b1, b2, b3, b4, b5, b6, b7, b8, b9, b10, a11, a12, a13] := rfl
  have h11 := h10.set 0 rfl 10 b10
  rw [e10] at h11
  simp only [List.set_cons_zero] at h11
  have e11 : (#[b0, b1, b2, b3, b4, b5, b6, b7, b8, b9, b10, a11, a12, a13] : Array Value).setIfInBounds 11 b11 = #[b0, b1, b2, b3, b4, b5, b6, b7, b8, b9, b10, b11, a12, a13] := rfl
  have h12 := h11.set 0 rfl 11 b11
  rw [e11] at h12
  simp only [List.set_cons_zero] at h12
  have e12 : (#[b0, b1, b2, b3, b4, b5, b6, b7, b8, b9, b10, b11, a12, a13] : Array Value).setIfInBounds 12 b12 = #[b0, b1, b2, b3, b4, b5, b6, b7, b8, b9, b10, b11, b12, a13] := rfl
  have h13 := h12.set 0 rfl 12 b12
  rw [e12] at h13
  simp only [List.set_cons_zero] at h13
  have e13 : (#[b0, b1, b2, b3, b4, b5, b6, b7, b8, b9, b10, b11, b12, a13] : Array Value).setIfInBounds 13 b13 = #[b0, b1, b2, b3, b4, b5, b6, b7, b8, b9, b10, b11, b12, b13] := rfl
  have h14 := h13.set 0 rfl 13 b13
  rw [e13] at h14
  simp only [List.set_cons_zero] at h14
  exact h14

set_option maxRecDepth 100000 in
set_option maxHeartbeats 4000000 in
theorem alone_any (w0 w : World) (g h cap : Nat) (curh : Array Value) (n : Nat → Nat) (A : Nat → Option Addr) (c : Nat → Nat) (L : Nat → List (Int × Int)) (hl : ∀ i, (L i).length = n i) (hn : ∀ i, i < 2 → n i ≤ 8) (H : AlR w0 g h cap curh n A c L w)
    (hc : ∀ i, i < 2 → curh[i]? = some (.slice (A i) (n i) (c i))) (hd : ∀ i j, i < 2 → j < 2 → i ≠ j → ∀ b, (Value.slice (A i) (n i) (c i)).ownBlock = some b → (Value.slice (A j) (n j) (c j)).ownBlock ≠ some b) (hlo : ∀ j, j < 2 → ∀ b, (Value.slice (A j) (n j) (c j)).ownBlock = some b → w0.heap.size ≤ b) :
    Calls Tryz.prog 17 #[.pointer (some ⟨g, 0, none⟩)] w fun e w' => e = .returned (.bool true) ∧ Below w0.heap.size w0 w' := by
  have K := Lib.hid H.book
  have HRA := Lib.hid (aloneRats_any w0 w g h cap curh n A c L hl hn H hc hd hlo)
  obtain ⟨S, hS⟩ : ∃ S : Value, S = .slice (some ⟨h, 0, none⟩) 2 cap := ⟨_, rfl⟩
  rw [← hS] at K HRA
  clear hS H hc hd hlo
  go_enter Tryz.func17, Tryz.ntmps17
  go_wp2_with fail
  refine (aloneBytes_any w0 _ g S K.out).mono ?_
  rintro e w' ⟨rfl, rfl⟩
  go_wp2_with fail
  refine (aloneTexts_any w0 _ g S K.out).mono ?_
  rintro e w' ⟨rfl, rfl⟩
  go_wp2_with fail
  refine (aloneInts_any w0 _ g S K.out).mono ?_
  rintro e w' ⟨rfl, rfl⟩
  go_wp2_with fail
  refine (aloneInt64s_any w0 _ g S K.out).mono ?_
  rintro e w' ⟨rfl, rfl⟩
  go_wp2_with fail
  refine (aloneBounds_any w0 _ g S K.out).mono ?_
  rintro e w' ⟨rfl, rfl⟩
  go_wp2_with fail
  refine HRA.out.mono ?_
  rintro e w2 ⟨rfl, hk⟩
  have K := Lib.hid hk
  clear hk HRA
  go_wp2_with fail
  refine (aloneLimits_any w0 _ g S K.out).mono ?_
  rintro e w' ⟨rfl, rfl⟩
  go_wp2_with fail
  refine (aloneGuards_any w0 _ g S K.out).mono ?_
  rintro e w' ⟨rfl, rfl⟩
  go_wp2_with fail
  refine (aloneNodes_any w0 _ g S K.out).mono ?_
  rintro e w' ⟨rfl, rfl⟩
  go_wp2_with fail
  refine (aloneMoves_any w0 _ g S K.out).mono ?_
  rintro e w' ⟨rfl, rfl⟩
  go_wp2_with fail
  refine (aloneDiffs_any w0 _ g S K.out).mono ?_
  rintro e w' ⟨rfl, rfl⟩
  go_wp2_with fail
  refine (aloneSteps_any w0 _ g S K.out).mono ?_
  rintro e w' ⟨rfl, rfl⟩
  go_wp2_with fail
  refine (aloneAts_any w0 _ g S K.out).mono ?_
  rintro e w' ⟨rfl, rfl⟩
  go_wp2_with fail
  refine (aloneBools_any w0 _ g S K.out).mono ?_
  rintro e w' ⟨rfl, rfl⟩
  replace K := Lib.hid (show Blx w0 [(g, #[.slice none 0 0, .slice none 0 0, .slice none 0 0, .slice none 0 0, .slice none 0 0, S, .slice none 0 0, .slice none 0 0, .slice none 0 0, .slice none 0 0, .slice none 0 0, .slice none 0 0, .slice none 0 0, .slice none 0 0], 56)] w2 from K.out)
  obtain ⟨⟨x0, x1, x2, x3, x4, x5, x6, x7, x8, x9, x10, x11, x12, x13⟩, y0, y1, y2, y3, y4, y5, y6, y7, y8, y9, y10, y11, y12, y13⟩ := cells14_at K.out
  replace K := Lib.hid (cells14_store K.out (.slice none 0 0) (.slice none 0 0) (.slice none 0 0) (.slice none 0 0) (.slice none 0 0) (.slice none 0 0) (.slice none 0 0) (.slice none 0 0) (.slice none 0 0) (.slice none 0 0) (.slice none 0 0) (.slice none 0 0) (.slice none 0 0) (.slice none 0 0))
  go_wp2
  generalize World.setCell _ _ _ = wz at *
  go_ret
  exact ⟨rfl, K.out.below⟩

theorem ownQ_block {w0 wr : World} {l : List (Int × Int)} {v : Value} (h : OwnQ w0 l v wr) {b : Nat} (hb : v.ownBlock = some b) : w0.heap.size ≤ b ∧ b < wr.heap.size := rows_block h.2 hb

end Go.Proofs.YtmelblnflalanaaGreat

/- A drawn region by one invariant: guarded operations too. -/
namespace Go.Proofs.YtmelblnflalanaaGreat
open Go Go.RowKit
set_option linter.unusedVariables false
set_option linter.unusedSimpArgs false

section
variable {P : Program} {ops : Array Oper} {Q : Exit → Act → World → Prop}
/-- A guarded operation is run: the guard's slot holds what is wanted. -/
theorem want_on {o : Oper} {a : Act} {j d : Nat} {b : Bool} (hg : o.guard = some (j, b)) (hj : (ops[j]?).bind (·.dst) = some d) (hv : a.eval (.tmp d) = .bool b) : Region.wanted o (yielded ops a.tmps) = true := by
  have hv' : a.tmps.getD d undef = .bool b := hv
  have ht : a.tmps[d]? = some (.bool b) := by
    rw [Array.getD_eq_getD_getElem?] at hv'
    cases h : a.tmps[d]? with
    | none => rw [h] at hv'; cases hv'
    | some x => rw [h] at hv'; exact congrArg some hv'
  unfold Region.wanted
  rw [hg]
  show (yielded ops a.tmps j == some b) = true
  unfold yielded
  rw [hj]
  show ((match (a.tmps[d]? : Option Value) with | some (.bool b) => some b | _ => none) == some b) = true
  rw [ht]
  simp
theorem want_off {o : Oper} {a : Act} {j d : Nat} {b : Bool} (hg : o.guard = some (j, b)) (hj : (ops[j]?).bind (·.dst) = some d) (hv : a.eval (.tmp d) = .bool (!b)) : Region.wanted o (yielded ops a.tmps) = false := by
  have hv' : a.tmps.getD d undef = .bool (!b) := hv
  have ht : a.tmps[d]? = some (.bool (!b)) := by
    rw [Array.getD_eq_getD_getElem?] at hv'
    cases h : a.tmps[d]? with
    | none => rw [h] at hv'; cases hv'
    | some x => rw [h] at hv'; exact congrArg some hv'
  unfold Region.wanted
  rw [hg]
  show (yielded ops a.tmps j == some b) = false
  unfold yielded
  rw [hj]
  show ((match (a.tmps[d]? : Option Value) with | some (.bool b) => some b | _ => none) == some b) = false
  rw [ht]
  cases b <;> rfl
theorem wpOp_want {i : Nat} {o : Oper} {K : Act → World → Prop} {a : Act} {w : World} (ho : ops[i]? = some o) (hg : Region.wanted o (yielded ops a.tmps) = true) (h : o.wp P a w K Q) : wpOp P ops Q i K a w := by
  unfold wpOp
  rw [ho]
  simp only [hg, if_true]
  exact .inl h
/-- A guarded operation that is left out. -/
theorem op_skip {i : Nat} {o : Oper} {K : Act → World → Prop} {a : Act} {w : World} {d : Nat} (ho : ops[i]? = some o) (hg : Region.wanted o (yielded ops a.tmps) = false) (hd : o.dst = some d) (h : K (a.put (some d) undef) w) : wpOp P ops Q i K a w := by
  unfold wpOp
  rw [ho]
  simp only [hg]
  rw [hd]
  exact h
theorem op_moveG {i : Nat} {o : Oper} {K : Act → World → Prop} {a : Act} {w : World} {d : Nat} {s : Operand} (ho : ops[i]? = some o) (hg : Region.wanted o (yielded ops a.tmps) = true) (hop : o.op = .move s) (hd : o.dst = some d)
    {v : Value} (hx : a.eval s = v) (h : K (a.put (some d) v) w) : wpOp P ops Q i K a w :=
  wpOp_want ho hg (BigFrame.wp_move _ hop (by rw [hx, hd]; exact h))
theorem op_assignG {i : Nat} {o : Oper} {K : Act → World → Prop} {a : Act} {w : World} {d : Nat} {s : Operand} (ho : ops[i]? = some o) (hg : Region.wanted o (yielded ops a.tmps) = true) (hop : o.op = .assign s) (hd : o.dst = some d)
    {v : Value} (hx : a.eval s = v) (h : K (a.put (some d) v) w) : wpOp P ops Q i K a w :=
  wpOp_want ho hg (BigFrame.wp_assign _ hop (by rw [hx, hd]; exact h))
theorem op_loadG {i : Nat} {o : Oper} {K : Act → World → Prop} {a : Act} {w : World} {d g : Nat} {x : Operand} {ty t : TypeId} {cs : Array Value} {td : TypeDesc} (ho : ops[i]? = some o) (hg : Region.wanted o (yielded ops a.tmps) = true) (hop : o.op = .load ty x) (hd : o.dst = some d)
    (hu : P.underlying ty = some td) (hdd : (match td with | .struct _ | .array _ _ => true | _ => false) = true) (hi : (P.info? ty).map (·.size) = some cs.size)
    (hx : a.eval x = .pointer (some ⟨g, 0, none⟩)) (hw : w.heap[g]? = some (.cells cs t)) (h : K (a.put (some d) (.agg cs)) w) : wpOp P ops Q i K a w :=
  wpOp_want ho hg (wp_load_row ty x hop g hx t cs (0, 0) td hw hu hdd hi (by rw [hd]; exact h))
theorem op_valueG {i : Nat} {o : Oper} {K : Act → World → Prop} {a : Act} {w w' : World} {d : Nat} {v : Value} (ho : ops[i]? = some o) (hg : Region.wanted o (yielded ops a.tmps) = true)
    (hd : o.dst = some d) (hx : (execOp a.eval o).run P w = .ok (.value v) w') (h : K (a.put (some d) v) w') : wpOp P ops Q i K a w := by
  refine wpOp_want ho hg ?_
  unfold Oper.wp
  rw [hx, Oper.upon_value, hd]
  exact h
theorem op_goG {i : Nat} {o : Oper} {K : Act → World → Prop} {a : Act} {w : World} {d : Nat} {f : FuncId} {xs : Array Operand} {ats : Array TypeId} {args : Array Value} {fn : Func} {c : Code} {v : Value} (ho : ops[i]? = some o) (hg : Region.wanted o (yielded ops a.tmps) = true)
    (hop : o.op = .call { callee := .value (.func f), args := xs, argTypes := ats }) (hd : o.dst = some d) (hf : P.funcs[f]? = some fn) (hn : (fn.name == "runtime.NumGoroutine") = false) (hb : fn.body = some c)
    (hx : xs.map a.eval = args) {R : World → Prop} (hc : Calls P f args w fun e w' => e = .returned v ∧ R w') (h : ∀ w', R w' → K (a.put (some d) v) w') : wpOp P ops Q i K a w := by
  refine wpOp_want ho hg ?_
  have e : execOp a.eval o = callFunc f (#[] ++ xs.map a.eval ++ #[]) := by
    obtain ⟨dst, op, ty, pos, after, guard⟩ := o
    simp only at hop
    subst hop
    rfl
  unfold Oper.wp
  rw [e, hx, show #[] ++ args ++ #[] = args by simp, enter_run hf hn hb args w, Oper.upon_enter]
  refine hc.mono ?_
  rintro e w' ⟨rfl, hr⟩
  rw [hd]
  exact h w' hr
end

/-- The keys of a table, but for one place, are others. -/
def keysB (ks : List (Nat × Nat)) (j i d : Nat) : Bool := (List.range ks.length).all fun k => k == j || (!((ks.getD k (0, 0)).1 == i) && !((ks.getD k (0, 0)).2 == d))
section
variable {tbl : List (Nat × Nat × Value)} {base : List (Nat × Value)} {L : Nat → Bool} {vals : Nat → Value}
theorem TabR.set (h : TabR tbl base L vals) (j : Nat) {i d : Nat} {x : Value} (hj : tbl[j]? = some (i, d, x)) (hk : keysB (tbl.map fun t => (t.1, t.2.1)) j i d = true) (h2 : ((base.map (·.1)).all fun b => !(b == d)) = true) :
    TabR tbl base (fun k => k == i || L k) (fun k => if k = d then x else vals k) := by
  refine h.put (fun t ht hor => ?_) (fun b hb => ?_)
  · obtain ⟨k, hk1, hk2⟩ := List.getElem_of_mem ht
    have h3 := (List.all_eq_true.1 hk) k (List.mem_range.2 (by simpa using hk1))
    by_cases hkj : k = j
    · subst hkj
      rw [List.getElem?_eq_getElem hk1, hk2] at hj
      exact Option.some.inj hj
    · exfalso
      have e : (tbl.map fun t => (t.1, t.2.1)).getD k (0, 0) = (t.1, t.2.1) := by
        rw [List.getD_eq_getElem?_getD, List.getElem?_map, List.getElem?_eq_getElem hk1, hk2]
        rfl
      rw [e] at h3
      simp only [Bool.or_eq_true, beq_iff_eq, hkj, false_or, Bool.and_eq_true, Bool.not_eq_true', beq_eq_false_iff_ne, ne_eq] at h3
      rcases hor with h4 | h4
      · exact h3.1 h4
      · exact h3.2 h4
  · have := (List.all_eq_true.1 h2) b.1 (List.mem_map_of_mem hb)
    simpa using this
end

end Go.Proofs.YtmelblnflalanaaGreat

/- Is a bound right? -/
namespace Go.Proofs.YtmelblnflalanaaGreat
open Go Go.RowKit
set_option linter.unusedVariables false
set_option linter.unusedSimpArgs false

set_option maxHeartbeats 400000 in
theorem right_any (b : Int) (w : World) : Calls Tryz.prog 73 #[.int .i32 b] w fun e w' => e = .returned (.bool (rightB b)) ∧ w = w' := by
  unfold rightB
  by_cases h0 : b = 2147483647
  · subst h0
    go_enter Tryz.func73, Tryz.ntmps73
    go_wp2
    go_ret
    exact ⟨by simp, rfl⟩
  · have t0 : (b == 2147483647) = false := by simp [h0]
    by_cases h1 : -536870912 ≤ b
    · have d1 : decide ((-536870912 : Int) ≤ b) = true := decide_eq_true h1
      by_cases h2 : b ≤ 536870913
      all_goals
        go_enter Tryz.func73, Tryz.ntmps73
        go_wp2
        go_ret
        exact ⟨by simp [*], rfl⟩
    · have d1 : decide ((-536870912 : Int) ≤ b) = false := decide_eq_false h1
      go_enter Tryz.func73, Tryz.ntmps73
      go_wp2
      go_ret
      exact ⟨by simp [*], rfl⟩


theorem right_yes (b : Int) (w : World) (h : rightB b = true) : Calls Tryz.prog 73 #[.int .i32 b] w fun e w' => e = .returned (.bool true) ∧ w = w' :=
  (right_any b w).mono fun _ _ k => ⟨by rw [k.1, h], k.2⟩
theorem right_no (b : Int) (w : World) (h : rightB b = false) : Calls Tryz.prog 73 #[.int .i32 b] w fun e w' => e = .returned (.bool false) ∧ w = w' :=
  (right_any b w).mono fun _ _ k => ⟨by rw [k.1, h], k.2⟩

end Go.Proofs.YtmelblnflalanaaGreat

/- Bounds: their numbers, sums and opposites: plain. -/
namespace Go.Proofs.YtmelblnflalanaaGreat
open Go Go.RowKit
set_option linter.unusedVariables false
set_option linter.unusedSimpArgs false

/-- Is a bound finite, and right? -/
def someB (b : Int) : Bool := rightB b && decide (b ≠ 2147483647)
/-- The bound of a number, or the error. -/
def ofB (v : Int) (r : Bool) : Int × Int := if v < -268435456 ∨ 268435456 < v then (0, 10) else (2 * v + (if r then 1 else 0), 0)
/-- Is one of the first p without a bound? Are all reached? Their sum, as the machine reckons. -/
def infUp (l : List Int) : Nat → Bool
  | 0 => false
  | p + 1 => infUp l p || decide (l.getD p 0 = 2147483647)
def redUp (l : List Int) : Nat → Bool
  | 0 => true
  | p + 1 => redUp l p && decide (l.getD p 0 % 2 = 1)
def sumUp (l : List Int) : Nat → Int
  | 0 => 0
  | p + 1 => wrap64 (sumUp l p + l.getD p 0 / 2)
/-- The bound of the sum of all, or the error. -/
def sumP (l : List Int) : Int × Int := if l.all rightB then (if infUp l l.length then (2147483647, 0) else ofB (sumUp l l.length) (redUp l l.length)) else (0, 7)
theorem infUp_no {l : List Int} : ∀ {N}, infUp l N = false → ∀ q, q < N → l.getD q 0 ≠ 2147483647
  | 0, _, q, hq => by omega
  | N + 1, h, q, hq => by
    simp only [infUp, Bool.or_eq_false_iff, decide_eq_false_iff_not] at h
    by_cases e : q = N
    · subst e; exact h.2
    · exact infUp_no h.1 q (by omega)

/-- What Not tells. -/
def notP (b : Int) : Int × Int := if someB b then ofB (-(b / 2)) (!decide (b % 2 = 1)) else if rightB b then (0, 4) else (0, 7)

/-- A bound's number, and whether it is reached; 0 and no if it has none. -/
def numB (b : Int) : Int := if someB b then b / 2 else 0
def redB (b : Int) : Bool := someB b && decide (b % 2 = 1)
/-- The sum of the first p, as it is reckoned in one pass. -/
def sumAll (l : List Int) : Nat → Int
  | 0 => 0
  | p + 1 => wrap64 (sumAll l p + numB (l.getD p 0))
def redAll (l : List Int) : Nat → Bool
  | 0 => true
  | p + 1 => redAll l p && redB (l.getD p 0)
def badUp (l : List Int) : Nat → Bool
  | 0 => false
  | p + 1 => badUp l p || !rightB (l.getD p 0)
theorem badUp_all (l : List Int) : ∀ p, p ≤ l.length → badUp l p = !(l.take p).all rightB
  | 0, _ => rfl
  | p + 1, h => by
    have e : l.take (p + 1) = l.take p ++ [l.getD p 0] := by
      rw [List.take_succ_eq_append_getElem (by omega), List.getD_eq_getElem?_getD, List.getElem?_eq_getElem (by omega)]
      rfl
    rw [badUp, badUp_all l p (by omega), e, List.all_append]
    simp
theorem bad_all (l : List Int) : badUp l l.length = !l.all rightB := by
  rw [badUp_all l _ (Nat.le_refl _), List.take_length]
theorem same_up {l : List Int} : ∀ p, (∀ q, q < p → someB (l.getD q 0) = true) → sumAll l p = sumUp l p ∧ redAll l p = redUp l p
  | 0, _ => ⟨rfl, rfl⟩
  | p + 1, h => by
    obtain ⟨h1, h2⟩ := same_up p fun q hq => h q (by omega)
    have h3 := h p (by omega)
    exact ⟨by rw [sumAll, sumUp, h1, numB, if_pos h3], by rw [redAll, redUp, h2, redB, h3, Bool.true_and]⟩
theorem getD_right {l : List Int} (h : l.all rightB = true) (q : Nat) (hq : q < l.length) : rightB (l.getD q 0) = true := by
  rw [List.getD_eq_getElem?_getD, List.getElem?_eq_getElem hq]
  exact List.all_eq_true.1 h _ (List.getElem_mem hq)
/-- The answer, out of what one pass gathers. -/
def sumR (v : Int) (r i x : Bool) : Int × Int := if x then (0, 7) else if i then (2147483647, 0) else ofB v r
theorem sum_pass (l : List Int) : sumP l = sumR (sumAll l l.length) (redAll l l.length) (infUp l l.length) (badUp l l.length) := by
  unfold sumP sumR
  rw [bad_all]
  by_cases h : l.all rightB = true
  · rw [if_pos h, h]
    simp only [Bool.not_true, Bool.false_eq_true, if_false]
    by_cases i : infUp l l.length = true
    · rw [if_pos i, if_pos i]
    · rw [if_neg i, if_neg i]
      have := same_up (l := l) l.length fun q hq => by
        unfold someB
        rw [getD_right h q hq, decide_eq_true (infUp_no (by simpa using i) q hq)]
        rfl
      rw [this.1, this.2]
  · rw [if_neg h]
    simp [h]

/-- Does a fraction keep a bound? -/
def keepsB (b x d : Int) : Bool := decide (1 ≤ d ∧ (b = 2147483647 ∨ (someB b = true ∧ x < b / 2 * d + b % 2)))

end Go.Proofs.YtmelblnflalanaaGreat

/- Bounds: made, AtMost, LessThan, Value. -/
namespace Go.Proofs.YtmelblnflalanaaGreat
open Go Go.RowKit
set_option linter.unusedVariables false
set_option linter.unusedSimpArgs false

/-- A function that hands on what made answers. -/
def Makes (r : Int × Int) (w : World) (e : Ending) (w' : World) : Prop := e = .returned (.tuple #[.int .i32 r.1, .int .i64 r.2]) ∧ w = w'


theorem i32_and1 (x : Int) : bits .and .i32 x 1 = x % 2 := by
  have e1 : bits .and .i32 x 1 = IntKind.i32.wrap ((BitVec.ofInt 32 x).toNat &&& 1 : Nat) := by rfl
  rw [e1, Nat.and_one_is_mod, BitVec.toNat_ofInt, IntKind.wrap_i32]
  omega

set_option maxRecDepth 100000 in
set_option maxHeartbeats 1000000 in
theorem value_yes (b : Int) (w : World) (h : someB b = true) :
    Calls Tryz.prog 62 #[.int .i32 b] w fun e w' => e = .returned (.tuple #[.int .i64 (b / 2), .bool (decide (b % 2 = 1)), .bool true]) ∧ w = w' := by
  obtain ⟨hr, hn⟩ : rightB b = true ∧ b ≠ 2147483647 := by simpa [someB] using h
  have hb := rightB_bd hr hn
  have t0 : (b == 2147483647) = false := by simp [hn]
  have HR := Lib.hid hr
  clear h hr hn
  go_enter Tryz.func62, Tryz.ntmps62
  go_wp2_with fail
  refine (right_yes b _ HR.out).mono ?_
  rintro e w' ⟨rfl, rfl⟩
  go_wp2
  go_ret3
  refine ⟨?_, rfl⟩
  rw [i32_and1]
  by_cases e : b % 2 = 1 <;> simp [e]
set_option maxRecDepth 100000 in
set_option maxHeartbeats 1000000 in
theorem value_no (b : Int) (w : World) (h : someB b = false) :
    Calls Tryz.prog 62 #[.int .i32 b] w fun e w' => e = .returned (.tuple #[.int .i64 0, .bool false, .bool false]) ∧ w = w' := by
  by_cases hn : b = 2147483647
  · subst hn
    clear h
    go_enter Tryz.func62, Tryz.ntmps62
    go_wp2
    go_ret3
    exact ⟨rfl, rfl⟩
  · have t0 : (b == 2147483647) = false := by simp [hn]
    have hr : rightB b = false := by simpa [someB, hn] using h
    have HR := Lib.hid hr
    clear h hn hr
    go_enter Tryz.func62, Tryz.ntmps62
    go_wp2_with fail
    refine (right_no b _ HR.out).mono ?_
    rintro e w' ⟨rfl, rfl⟩
    go_wp2
    go_ret3
    exact ⟨rfl, rfl⟩

end Go.Proofs.YtmelblnflalanaaGreat
