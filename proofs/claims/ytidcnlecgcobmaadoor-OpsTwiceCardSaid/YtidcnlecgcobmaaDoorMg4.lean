/- Texts of ours, laid together: Ob, Rg, Rh, Qa, Rp, Rq, Ro, Ru, Rv, Oc, Od, Oe. -/
import Derived.Test.YtidcnlecgcobmaaDoorMg3
/- The cells of a zone, opened. -/
namespace Go.Proofs.YtidcnlecgcobmaaDoor
open Go Go.RowKit
set_option linter.unusedVariables false
set_option linter.unusedSimpArgs false
attribute [local go_sem] min_ints max_ints

/-- How many clocks a zone has; none: 0. -/
def dimN (z : Option (Nat × Mat)) : Nat := match z with | some (n, _) => n | none => 0
/-- The first p cells of a row, as a matrix. -/
def fillUp (n : Nat) (l : List Int) (p : Nat) : Mat := fun i j => if i < n + 1 ∧ j < n + 1 ∧ i * (n + 1) + j < p then l.getD (i * (n + 1) + j) 0 else 0
theorem fillUp_zero (n : Nat) (l : List Int) : fillUp n l 0 = fun _ _ => 0 := by
  funext i j
  unfold fillUp
  rw [if_neg (by omega)]
theorem fillUp_next (n : Nat) (l : List Int) (p : Nat) (hp : p < (n + 1) * (n + 1)) : fillUp n l (p + 1) = upd (fillUp n l p) (p / (n + 1)) (p % (n + 1)) (l.getD p 0) := by
  have h1 : p / (n + 1) < n + 1 := Nat.div_lt_of_lt_mul hp
  have h2 := Nat.mod_lt p (show 0 < n + 1 by omega)
  have h3 := Nat.div_add_mod p (n + 1)
  rw [Nat.mul_comm] at h3
  funext i j
  unfold fillUp upd
  by_cases e : i = p / (n + 1) ∧ j = p % (n + 1)
  · obtain ⟨e1, e2⟩ := e
    have e3 : i * (n + 1) + j = p := by rw [e1, e2]; exact h3
    rw [if_pos ⟨by omega, by omega, by omega⟩, if_pos ⟨e1, e2⟩, e3]
  · rw [if_neg e]
    show _ = (if i < n + 1 ∧ j < n + 1 ∧ i * (n + 1) + j < p then l.getD (i * (n + 1) + j) 0 else 0)
    by_cases c : i < n + 1 ∧ j < n + 1
    · have hne : i * (n + 1) + j ≠ p := fun e' => e (by
        rw [← e']
        refine ⟨?_, ?_⟩
        · rw [Nat.mul_comm, Nat.mul_add_div (by omega), Nat.div_eq_of_lt c.2]; rfl
        · rw [Nat.mul_comm, Nat.mul_add_mod, Nat.mod_eq_of_lt c.2])
      by_cases d : i * (n + 1) + j < p
      · rw [if_pos ⟨c.1, c.2, by omega⟩, if_pos ⟨c.1, c.2, d⟩]
      · rw [if_neg (by omega), if_neg (by omega)]
    · rw [if_neg (by omega), if_neg (by omega)]

theorem odim_any (v : Value) (z : Option (Nat × Mat)) (w : World) (h : ZoneV 126 w v z) : Calls Tryd.prog 73 #[v] w fun e w' => e = .returned (.int .i64 (dimN z)) ∧ w = w' := by
  match z, h with
  | none, h =>
    have h : v = .pointer none := h
    subst h
    exact dim_nil w
  | some (n, m), ⟨b, e, hn, _, hm⟩ =>
    subst e
    exact dim_zone b n m w hm

theorem zero_work (n : Nat) : (Tryd.zeroCells103).setIfInBounds 0 (Value.int .i64 n) = matCells .i32 n (fun _ _ => 0) := rfl

set_option maxHeartbeats 1000000 in
set_option maxRecDepth 100000 in
theorem oopen_any (v : Value) (z : Option (Nat × Mat)) (w : World) (h : ZoneV 126 w v z) (hz : dimN z ≤ 8) (hl : (cellsP z).length ≤ 81) :
    Calls Tryd.prog 59 #[v] w fun e w' => e = .returned (.pointer (some ⟨w.heap.size, 0, none⟩)) ∧ Below w.heap.size w w' ∧ MatAt w' w.heap.size 103 .i32 (dimN z) (fillUp (dimN z) (cellsP z) (cellsP z).length) := by
  have HD := Lib.hid (fun w h => odim_any v z w h)
  have HC := Lib.hid (fun w h => cells_any v z w h)
  have HZ := Lib.hid h
  obtain ⟨n, hn⟩ : ∃ n, n = dimN z := ⟨_, rfl⟩
  have hlen : (cellsP z).length ≤ (n + 1) * (n + 1) := by
    rw [hn]
    match z with
    | none => simp [cellsP]
    | some (k, m) => show (flat k m).length ≤ _; rw [flat_length]; exact Nat.le_refl _
  rw [← hn] at HD hz ⊢
  obtain ⟨l, hl'⟩ : ∃ l, l = cellsP z := ⟨_, rfl⟩
  rw [← hl'] at HC hl hlen ⊢
  have HLEN := Lib.hid hlen
  clear h hn hl' hlen
  go_enter Tryd.func59, Tryd.ntmps59
  go_wp2_with fail
  refine (HD.out _ HZ.out).mono ?_
  rintro e w1 ⟨rfl, rfl⟩
  go_wp2_with fail
  have HB1 := Lib.hid ((Below.refl w.heap.size w).alloc (Nat.le_refl _) (.cells ((Tryd.zeroCells103).setIfInBounds 0 (Value.int .i64 n)) 103))
  have hm : MatAt (w.alloc (.cells ((Tryd.zeroCells103).setIfInBounds 0 (Value.int .i64 n)) 103)) w.heap.size 103 .i32 n (fillUp n l 0) := by
    rw [fillUp_zero]
    unfold MatAt
    rw [heap_alloc_new, zero_work]
  have HM1 := Lib.hid hm
  have HZ1 := Lib.hid (HZ.out.below HB1.out)
  clear hm HZ HD
  generalize w.alloc (.cells ((Tryd.zeroCells103).setIfInBounds 0 (Value.int .i64 n)) 103) = w1 at *
  refine (HC.out _ HZ1.out).mono ?_
  rintro e w2 ⟨v', rfl, hb2, ho⟩
  have HM2 := Lib.hid (HM1.out.later hb2)
  have HB2 := Lib.hid (HB1.out.trans (hb2.mono HB1.out.size))
  obtain ⟨A, c, rfl, hI⟩ : ∃ A c, v' = .slice A l.length c ∧ ∀ wr, Only w.heap.size w2 wr → Ints wr .i32 A l := by
    by_cases h0 : 0 < l.length
    · obtain ⟨g, cap, e1, e2, e3⟩ := ho.row h0
      have := HM1.out.lt
      exact ⟨_, cap, e1, fun wr hw => (e3.only hw (by omega)).ints⟩
    · obtain ⟨A, cap, e1, _⟩ := ho.slice
      exact ⟨A, cap, e1, fun wr hw j hj => by omega⟩
  have HI := Lib.hid hI
  clear hb2 ho hI HC HZ1 HM1 HB1
  have g1 : IntKind.i64.wrap ((n : Int) + 1) = (n : Int) + 1 := IntWalk.i64_in _ (by omega)
  have g4 : ((n : Int) + 1 == 0) = false := by simp; omega
  have g5 : ¬ ((n : Int) + 1 = 0) := by omega
  go_wp2
  go_loopg [14] l.length (fun g v wr => ∃ p : Nat, v = .int .i64 p ∧ Hid (Only w.heap.size w2 wr ∧ MatAt wr w.heap.size 103 .i32 n (fillUp n l p)) ∧ Hid (p ≤ l.length ∧ g + p = l.length))
  case atStart => exact ⟨0, by simp, ⟨Only.refl _ _, HM2.out⟩, by omega, by omega⟩
  case round =>
    clear HM2
    obtain ⟨p, rfl, HR, HG⟩ := hrel
    by_cases hp : p < l.length
    · obtain ⟨b, off, rfl, hc⟩ := (HI.out _ HR.out.1) p hp
      obtain ⟨x, hx⟩ : ∃ x, x = l.getD p 0 := ⟨_, rfl⟩
      rw [← hx] at hc
      have HX := Lib.hid hx
      clear hx
      have hsq : p < (n + 1) * (n + 1) := by have := HLEN.out; omega
      have hd9 : p / (n + 1) < 9 := by
        have := Nat.div_lt_of_lt_mul hsq
        omega
      have hm9 : p % (n + 1) < 9 := by have := Nat.mod_lt p (show 0 < n + 1 by omega); omega
      have c0 := HR.out.2.head
      have c1 := HR.out.2.cell (p / (n + 1)) (p % (n + 1)) hd9 hm9
      have f1 := HR.out.2.frozen (1 + p / (n + 1) * 9 + p % (n + 1))
      have hlt := HR.out.2.lt
      have k1 := w64_div p n (by omega)
      have k2 := w64_mod p n (by omega)
      obtain ⟨D, hD⟩ : ∃ D, D = p / (n + 1) := ⟨_, rfl⟩
      obtain ⟨M, hM⟩ : ∃ M, M = p % (n + 1) := ⟨_, rfl⟩
      rw [← hD] at hd9 c1 f1 k1
      rw [← hM] at hm9 c1 f1 k2
      have k3 : IntKind.i64.wrap ((p : Int) / ((n : Int) + 1)) = (D : Int) := by rw [idx_div, ← hD]; exact IntWalk.i64_in _ (by omega)
      have k4 : (p : Int) % ((n : Int) + 1) = (M : Int) := by rw [idx_mod, ← hM]
      have k5 : (p : Int).tmod ((n : Int) + 1) = (M : Int) := by rw [Int.tmod_eq_emod_of_nonneg (by omega)]; exact k4
      have hd9i : (D : Int) < 9 := by omega
      have hm9i : (M : Int) < 9 := by omega
      have HSQ := Lib.hid hsq
      have HDM := Lib.hid (And.intro hD hM)
      clear hsq hD hM
      go_wp2_with fail
      go_region
      go_wp2
      go_roundg (gk - 1)
      case measure => have h := HG.out; omega
      case rel =>
        refine ⟨p + 1, by go_num, ⟨(HR.out.1.setCell _ _).drew, ?_⟩, by omega, by have h := HG.out; omega⟩
        rw [fillUp_next n l p HSQ.out, ← HDM.out.1, ← HDM.out.2, ← HX.out]
        exact HR.out.2.set D M hd9 hm9 x
    · have e : p = l.length := by have := HG.out.1; omega
      subst e
      go_wp2
      go_ret
      exact ⟨rfl, HB2.out.trans (HR.out.1.below (Nat.le_refl _) HB2.out.size), HR.out.2⟩

end Go.Proofs.YtidcnlecgcobmaaDoor

/- What is asked of the document's zones; rows held against one another. -/
namespace Go.Proofs.YtidcnlecgcobmaaDoor
open Go Go.RowKit
set_option linter.unusedVariables false
set_option linter.unusedSimpArgs false

/-! ### the document's zones -/
theorem RefZ.parts {w : World} {v : Value} {n : Nat} {m : Mat} (h : RefZ w v (some (n, m))) : ∃ b g cap, v = .pointer (some ⟨b, 0, none⟩) ∧ n ≤ 8 ∧ RightM n m ∧
    w.cell? ⟨b, 0, none⟩ = some (.int .i64 n) ∧ w.cell? ⟨b, 1, none⟩ = some (.slice (some ⟨g, 0, none⟩) ((n + 1) * (n + 1)) cap) ∧ RowAt w g 64 .i32 (flat n m) := by
  obtain ⟨b, g, cap, h1, h2, h3, h4, h5⟩ := h
  exact ⟨b, g, cap, h1, h2, h3, by simp [World.cell?, h4], by simp [World.cell?, h4], h5⟩

set_option maxRecDepth 100000 in
theorem rdim_any (v : Value) (z : Option (Nat × Mat)) (w : World) (h : RefZ w v z) : Calls Tryd.prog 64 #[v] w fun e w' => e = .returned (.int .i64 (dimP z)) ∧ w = w' := by
  match z, h with
  | none, h =>
    have h : v = .pointer none := h
    subst h
    show Calls Tryd.prog 64 _ _ fun e w' => e = .returned (.int .i64 0) ∧ w = w'
    go_enter Tryd.func64, Tryd.ntmps64
    go_wp2
    go_ret
    exact ⟨rfl, rfl⟩
  | some (n, m), h =>
    obtain ⟨b, g, cap, e, _, _, h0, _, _⟩ := h.parts
    clear h
    subst e
    show Calls Tryd.prog 64 _ _ fun e w' => e = .returned (.int .i64 n) ∧ w = w'
    go_enter Tryd.func64, Tryd.ntmps64
    go_wp2
    go_ret
    exact ⟨rfl, rfl⟩

/-- The document asks it so. -/
def emptyR (z : Option (Nat × Mat)) : Bool := match z with | some (_, m) => decide (m 0 0 ≠ 1) | none => false

set_option maxRecDepth 100000 in
theorem rempty_any (v : Value) (z : Option (Nat × Mat)) (w : World) (h : RefZ w v z) : Calls Tryd.prog 66 #[v] w fun e w' => e = .returned (.bool (emptyR z)) ∧ w = w' := by
  match z, h with
  | none, h =>
    have h : v = .pointer none := h
    subst h
    show Calls Tryd.prog 66 _ _ fun e w' => e = .returned (.bool false) ∧ w = w'
    go_enter Tryd.func66, Tryd.ntmps66
    go_wp2
    go_ret
    exact ⟨rfl, rfl⟩
  | some (n, m), h =>
    obtain ⟨b, g, cap, e, _, _, h0, h1, hr⟩ := h.parts
    clear h
    subst e
    have c0 := hr.cell 0 (by rw [flat_length]; exact Nat.mul_pos (by omega) (by omega))
    have e0 : (flat n m).getD 0 0 = m 0 0 := by have := flat_at m (show 0 < n + 1 by omega) (show 0 < n + 1 by omega); simpa using this
    rw [e0] at c0
    obtain ⟨N, hN⟩ : ∃ N, N = (n + 1) * (n + 1) := ⟨_, rfl⟩
    have hN0 : 0 < N := by rw [hN]; exact Nat.mul_pos (by omega) (by omega)
    have hN1 : (0 : Int) < (N : Int) := by omega
    rw [← hN] at h1
    clear hr e0 hN
    by_cases he : m 0 0 = 1
    · have hz : emptyR (some (n, m)) = false := decide_eq_false (fun h => h he)
      have t1 : (m 0 0 != 1) = false := by simp [he]
      rw [hz]
      clear hz he
      go_enter Tryd.func66, Tryd.ntmps66
      go_wp2
      go_ret
      exact ⟨by simp [t1], rfl⟩
    · have hz : emptyR (some (n, m)) = true := decide_eq_true he
      have t1 : (m 0 0 != 1) = true := by simp [he]
      rw [hz]
      clear hz he
      go_enter Tryd.func66, Tryd.ntmps66
      go_wp2
      go_ret
      exact ⟨by simp [t1], rfl⟩

end Go.Proofs.YtidcnlecgcobmaaDoor

/- Cell and Cells of the document's zones. -/
namespace Go.Proofs.YtidcnlecgcobmaaDoor
open Go Go.RowKit
set_option linter.unusedVariables false
set_option linter.unusedSimpArgs false

set_option maxRecDepth 100000 in
set_option maxHeartbeats 1000000 in
theorem rcells_nil (w : World) : Calls Tryd.prog 76 #[.pointer none] w (TellsL w []) := by
  go_enter Tryd.func76, Tryd.ntmps76
  go_wp2
  go_ret
  exact tells_nil w _ rfl

set_option maxRecDepth 100000 in
set_option maxHeartbeats 1000000 in
theorem rcells_zone (b g cap n : Nat) (m : Mat) (w : World) (hn : n ≤ 8) (h1 : w.cell? ⟨b, 1, none⟩ = some (.slice (some ⟨g, 0, none⟩) ((n + 1) * (n + 1)) cap)) (hr : RowAt w g 64 .i32 (flat n m)) :
    Calls Tryd.prog 76 #[.pointer (some ⟨b, 0, none⟩)] w (TellsL w (flat n m)) := by
  obtain ⟨i0, hi1, hz0, hz1, hz2⟩ := info_parts infoRB
  have HInf := Lib.hid (And.intro hi1 (And.intro hz0 (And.intro hz1 hz2)))
  clear hi1 hz0 hz1 hz2
  have HR := Lib.hid hr
  have hN81 : (n + 1) * (n + 1) ≤ 81 := by
    have := Nat.mul_le_mul (show n + 1 ≤ 9 by omega) (show n + 1 ≤ 9 by omega)
    omega
  have hN0 : 0 < (n + 1) * (n + 1) := Nat.mul_pos (by omega) (by omega)
  have hfl := flat_length n m
  have HFL := Lib.hid hfl
  obtain ⟨N, hN⟩ : ∃ N, N = (n + 1) * (n + 1) := ⟨_, rfl⟩
  rw [← hN] at h1 hN81 hN0
  have HN := Lib.hid hN
  clear hr hN hfl
  go_enter Tryd.func76, Tryd.ntmps76
  go_wp2_with (at_builtin; refine wpList_append_lies _ rfl _ _ 22 rfl w.heap.size 64 i0 (.int .i32 0) 1 4 Tryd.underlying22 HInf.out.1 HInf.out.2.1 HInf.out.2.2.1 HInf.out.2.2.2 rfl (by decide) _ _ _ rfl (World.ownsRow_nil _ _ _ _) ⟨g, 0, none⟩ N cap (vals .i32 (flat n m)) rfl (by rw [Nat.mul_one, HN.out, ← HFL.out]; simp [vals]) (by exact row_vals HR.out) (by intro u hu; obtain ⟨c, _, rfl⟩ := List.mem_map.1 hu; rfl) (by omega) ?c3 ?c4 ?c5 _ rfl ?_)
  case c3 => unfold maxLen; omega
  case c4 => omega
  case c5 => exact Nat.le_refl _
  intro gg cp w3 hown hgrow _ _
  have HO := Lib.hid hown
  have HG := Lib.hid hgrow
  clear hown hgrow
  go_wp2
  go_ret
  refine ⟨_, rfl, (Below.refl _ _).grown HG.out (Nat.le_refl _) (fun k hk => by simp [Value.ownBlock] at hk), ?_⟩
  have := HO.out
  unfold OwnI
  rw [HFL.out, ← HN.out]
  exact this

theorem rcells_any (v : Value) (z : Option (Nat × Mat)) (w : World) (h : RefZ w v z) : Calls Tryd.prog 76 #[v] w (TellsL w (cellsP z)) := by
  match z, h with
  | none, h =>
    have h : v = .pointer none := h
    subst h
    exact rcells_nil w
  | some (n, m), h =>
    obtain ⟨b, g, cap, e, hn, _, h0, h1, hr⟩ := h.parts
    subst e
    exact rcells_zone b g cap n m w hn h1 hr

end Go.Proofs.YtidcnlecgcobmaaDoor

/- The laws of the operations: a zone by both; are two zones the same? -/
namespace Go.Proofs.YtidcnlecgcobmaaDoor
open Go Go.RowKit
set_option linter.unusedVariables false
set_option linter.unusedSimpArgs false

theorem zOf_short {T : TypeId} {w : World} {v : Value} {z : Option (Nat × Mat)} (h : ZoneV T w v z) : (cellsP z).length ≤ 81 :=
  cellsP_short _ fun k m e => by subst e; obtain ⟨_, _, hn, _⟩ := h; exact hn

set_option maxRecDepth 100000 in
set_option maxHeartbeats 1000000 in
theorem same04_any (v v' : Value) (z : Option (Nat × Mat)) (w : World) (h : ZoneV 126 w v z) (h' : RefZ w v' z) :
    Calls Tryd.prog 18 #[v, v'] w fun e w' => e = .returned (.bool true) ∧ Below w.heap.size w w' := by
  match z, h, h' with
  | none, h, h' =>
    have h : v = .pointer none := h
    have h' : v' = .pointer none := h'
    subst h
    subst h'
    go_enter Tryd.func18, Tryd.ntmps18
    go_wp2
    go_ret
    exact ⟨rfl, Below.refl _ _⟩
  | some (n, m), h, h' =>
    have HSH := Lib.hid (zOf_short h)
    have HV := Lib.hid h
    have HR := Lib.hid h'
    have HD := Lib.hid (fun w h => odim_any v (some (n, m)) w h)
    rw [show (dimN (some (n, m)) : Int) = dimP (some (n, m)) from rfl] at HD
    have HD' := Lib.hid (fun w h => rdim_any v' (some (n, m)) w h)
    have HC := Lib.hid (fun w h => cells_any v (some (n, m)) w h)
    have HC' := Lib.hid (fun w h => rcells_any v' (some (n, m)) w h)
    obtain ⟨d, hd⟩ : ∃ d, d = dimP (some (n, m)) := ⟨_, rfl⟩
    rw [← hd] at HD HD'
    obtain ⟨z, hz⟩ : ∃ z, z = some (n, m) := ⟨_, rfl⟩
    rw [← hz] at HV HR HC HC' HD HD' HSH
    obtain ⟨b, rfl, _⟩ := h
    obtain ⟨b', _, _, rfl, _⟩ := h'
    clear hd hz
    go_enter Tryd.func18, Tryd.ntmps18
    go_wp2_with fail
    refine (HD.out _ HV.out).mono ?_
    rintro e w1 ⟨rfl, rfl⟩
    go_wp2_with fail
    refine (HD'.out _ HR.out).mono ?_
    rintro e w1 ⟨rfl, rfl⟩
    go_wp2_with fail
    refine (HC.out _ HV.out).mono ?_
    rintro e w3 ⟨l, rfl, hb3, ho3⟩
    have HB3 := Lib.hid hb3
    have HO3 := Lib.hid ho3
    clear hb3 ho3
    go_wp2_with fail
    refine (HC'.out _ (HR.out.below HB3.out)).mono ?_
    rintro e w4 ⟨l', rfl, hb4, ho4⟩
    have HB4 := Lib.hid (HB3.out.trans (hb4.mono HB3.out.size))
    have HO4 := Lib.hid (HO3.out.later hb4)
    have HO4' := Lib.hid ho4
    clear hb4 ho4
    go_wp2_with fail
    refine (sameb_own HO4.out HO4'.out (by have := HSH.out; omega)).mono ?_
    rintro e w5 ⟨rfl, q, rfl⟩
    go_wp2
    go_ret
    exact ⟨rfl, belowN HB4.out q⟩

/-- What both tells. -/
def Both4Ends (w0 : World) (n : Int) (cells : List Int) (e : Ending) (w' : World) : Prop :=
  Below w0.heap.size w0 w' ∧ ∃ v v', e = .returned (.tuple #[v, v']) ∧ ZoneV 126 w' v (zOf n cells) ∧ RefZ w' v' (zOf n cells)

set_option maxRecDepth 100000 in
set_option maxHeartbeats 1000000 in
theorem both04_any (n : Int) (A : Option Addr) (c : Nat) (cells : List Int) (w : World) (hI : Ints w .i32 A cells) (hmax : cells.length ≤ 4611686018427387904)
    (hk : ∀ q, q < cells.length → -2147483648 ≤ cells.getD q 0 ∧ cells.getD q 0 ≤ 2147483647) :
    Calls Tryd.prog 13 #[.int .i64 n, .slice A cells.length c] w (Both4Ends w n cells) := by
  have HI := Lib.hid hI
  have HK := Lib.hid hk
  clear hI hk
  go_enter Tryd.func13, Tryd.ntmps13
  go_wp2_with fail
  refine (of_any n A c cells _ HI.out hmax HK.out).mono ?_
  rintro e w1 ⟨hb, v, rfl, hv⟩
  have HB1 := Lib.hid hb
  have HV1 := Lib.hid (show ZoneV 126 w1 v (zOf n cells) from hv)
  clear hb hv
  obtain ⟨ec, hec⟩ : ∃ ec, ec = (ofP n cells).2 := ⟨_, rfl⟩
  have HR := Lib.hid (fun w hI => rof_any n A c cells w hI hmax HK.out)
  rw [← hec]
  go_wp2_with fail
  refine (HR.out _ (HI.out.below HB1.out)).mono ?_
  rintro e w2 ⟨hb, v', rfl, hv⟩
  have HV2 := Lib.hid (show RefZ w2 v' (zOf n cells) from hv)
  have HVZ := Lib.hid (HV1.out.below hb)
  have HBB := Lib.hid (HB1.out.trans (hb.mono HB1.out.size))
  rw [← hec]
  clear hb hv hec
  go_wp2
  go_ret2
  exact ⟨HBB.out, _, _, rfl, HVZ.out, HV2.out⟩

end Go.Proofs.YtidcnlecgcobmaaDoor

/- The sum of two wide bounds, in the document's chapter of operations. -/
namespace Go.Proofs.YtidcnlecgcobmaaDoor
open Go Go.RowKit
set_option linter.unusedVariables false
set_option linter.unusedSimpArgs false

set_option maxRecDepth 100000 in
set_option maxHeartbeats 1000000 in
theorem plus_fin4 (a b : Int) (w : World) (ha1 : -1152921504606846976 ≤ a) (ha2 : a ≤ 1152921504606846976) (hb1 : -1152921504606846976 ≤ b) (hb2 : b ≤ 1152921504606846976) :
    Calls Tryd.prog 115 #[.int .i64 a, .int .i64 b] w fun e w' => e = .returned (.int .i64 (wsum a b)) ∧ w' = w := by
  have t1 : (a == 4611686018427387904) = false := by simp; omega
  have t2 : (b == 4611686018427387904) = false := by simp; omega
  have hs := wsum_plain (a := a) (b := b) (by unfold none62; omega) (by unfold none62; omega)
  by_cases ha : a % 2 = 0
  · have u1 : (a.tmod 2 == 0) = true := by simp; exact (tmod_two a).2 ha
    have u1' : (a.tmod 2 != 0) = false := by simp; exact (tmod_two a).2 ha
    have u1'' : a.tmod 2 = 0 := (tmod_two a).2 ha
    by_cases hb : b % 2 = 0
    · have u2 : (b.tmod 2 == 0) = true := by simp; exact (tmod_two b).2 hb
      have u2' : (b.tmod 2 != 0) = false := by simp; exact (tmod_two b).2 hb
      have u2'' : b.tmod 2 = 0 := (tmod_two b).2 hb
      rw [hs, if_pos ⟨ha, hb⟩]
      clear hs ha hb
      go_enter Tryd.func115, Tryd.ntmps115
      go_wp2
      go_ret
      exact ⟨rfl, rfl⟩
    · have u2 : (b.tmod 2 == 0) = false := by simp; exact fun h => hb ((tmod_two b).1 h)
      have u2' : (b.tmod 2 != 0) = true := by simp; exact fun h => hb ((tmod_two b).1 h)
      rw [hs, if_neg (fun h => hb h.2)]
      clear hs ha hb
      go_enter Tryd.func115, Tryd.ntmps115
      go_wp2
      go_ret
      exact ⟨rfl, rfl⟩
  · have u1 : (a.tmod 2 == 0) = false := by simp; exact fun h => ha ((tmod_two a).1 h)
    have u1' : (a.tmod 2 != 0) = true := by simp; exact fun h => ha ((tmod_two a).1 h)
    rw [hs, if_neg (fun h => ha h.1)]
    clear hs ha
    go_enter Tryd.func115, Tryd.ntmps115
    go_wp2
    go_ret
    exact ⟨rfl, rfl⟩

set_option maxRecDepth 100000 in
set_option maxHeartbeats 1000000 in
theorem plus_left4 (b : Int) (w : World) :
    Calls Tryd.prog 115 #[.int .i64 4611686018427387904, .int .i64 b] w fun e w' => e = .returned (.int .i64 4611686018427387904) ∧ w' = w := by
  go_enter Tryd.func115, Tryd.ntmps115
  go_wp2
  go_ret
  exact ⟨rfl, rfl⟩
set_option maxRecDepth 100000 in
set_option maxHeartbeats 1000000 in
theorem plus_right4 (a : Int) (w : World) :
    Calls Tryd.prog 115 #[.int .i64 a, .int .i64 4611686018427387904] w fun e w' => e = .returned (.int .i64 4611686018427387904) ∧ w' = w := by
  by_cases h : a = 4611686018427387904
  · subst h; exact plus_left4 _ _
  · have t1 : (a == 4611686018427387904) = false := by simp; omega
    clear h
    go_enter Tryd.func115, Tryd.ntmps115
    go_wp2
    go_ret
    exact ⟨rfl, rfl⟩
theorem plus_still4 (a b : Int) (w : World) (ha : Bd 1152921504606846976 a) (hb : Bd 1152921504606846976 b) :
    Calls Tryd.prog 115 #[.int .i64 a, .int .i64 b] w fun e w' => e = .returned (.int .i64 (wsum a b)) ∧ w' = w := by
  rcases ha with rfl | ha
  · have : wsum none62 b = 4611686018427387904 := by simp [wsum, none62]
    rw [this]; exact plus_left4 _ _
  · rcases hb with rfl | hb
    · have : wsum a none62 = 4611686018427387904 := by simp [wsum, none62]
      rw [this]; exact plus_right4 _ _
    · exact plus_fin4 a b w ha.1 ha.2 hb.1 hb.2

end Go.Proofs.YtidcnlecgcobmaaDoor

/- The document's cells under way: at, put, less. -/
namespace Go.Proofs.YtidcnlecgcobmaaDoor
open Go Go.RowKit
set_option linter.unusedVariables false
set_option linter.unusedSimpArgs false

/-- Cells under way: the number of clocks, and a row of wide bounds. -/
def CellsAt (w : World) (b g cap n : Nat) (m : Mat) : Prop :=
  w.cell? ⟨b, 0, none⟩ = some (.int .i64 n) ∧ w.cell? ⟨b, 1, none⟩ = some (.slice (some ⟨g, 0, none⟩) ((n + 1) * (n + 1)) cap) ∧ RowAt w g 2 .i64 (flat n m)

set_option maxRecDepth 100000 in
set_option maxHeartbeats 1000000 in
theorem at4_any (b g cap n p q : Nat) (m : Mat) (w : World) (hn : n ≤ 8) (hp : p < n + 1) (hq : q < n + 1) (h : CellsAt w b g cap n m) :
    Calls Tryd.prog 78 #[.pointer (some ⟨b, 0, none⟩), .int .i64 p, .int .i64 q] w fun e w' => e = .returned (.int .i64 (m p q)) ∧ ∃ k, w' = w.drewN k := by
  obtain ⟨h0, h1, hr⟩ := h
  have HR := Lib.hid hr
  obtain ⟨N, hN⟩ : ∃ N, N = (n + 1) * (n + 1) := ⟨_, rfl⟩
  rw [← hN] at h1
  have HN := Lib.hid hN
  clear hr hN
  obtain ⟨P, hP, hP1, hP2, hP3⟩ := prod_facts p n (by omega) hn
  have hPN : P + n < N := by have := HN.out; omega
  have hc := HR.out.cell (P + q) (by rw [flat_length, ← HN.out]; omega)
  rw [hP2, flat_at m (by omega) (by omega), ← hP2] at hc
  clear hP2 hP3
  have g1 : IntKind.i64.wrap ((n : Int) + 1) = (n : Int) + 1 := IntWalk.i64_in _ (by omega)
  have g2 : IntKind.i64.wrap (P : Int) = (P : Int) := IntWalk.i64_in _ (by omega)
  have g3 : IntKind.i64.wrap ((P : Int) + (q : Int)) = (P : Int) + (q : Int) := IntWalk.i64_in _ (by omega)
  have l1 : (P : Int) + (q : Int) < (N : Int) := by omega
  have l3 : 0 ≤ (P : Int) + (q : Int) := by omega
  have n1 : ((P : Int) + (q : Int)).toNat = P + q := by omega
  go_enter Tryd.func78, Tryd.ntmps78
  go_wp2_with fail
  go_quiet (fail)
  go_wp2
  go_ret
  exact ⟨rfl, _, rfl⟩

theorem CellsAt.only {w w' : World} {b g cap n : Nat} {m m' : Mat} (h : CellsAt w b g cap n m) (ho : Only g w w') (hbg : b ≠ g) (hr : RowAt w' g 2 .i64 (flat n m')) : CellsAt w' b g cap n m' := by
  obtain ⟨h0, h1, _⟩ := h
  have hlt := World.block_lt_of_cell? w _ h0
  have hb : w'.heap[b]? = w.heap[b]? := ho.block b hlt (by simpa using hbg)
  have hc : ∀ o, w'.cell? ⟨b, o, none⟩ = w.cell? ⟨b, o, none⟩ := fun o => by simp only [World.cell?, hb]
  exact ⟨(hc 0).trans h0, (hc 1).trans h1, hr⟩

set_option maxRecDepth 100000 in
set_option maxHeartbeats 1000000 in
theorem put4_any (b g cap n p q : Nat) (m : Mat) (x : Int) (w : World) (hn : n ≤ 8) (hp : p < n + 1) (hq : q < n + 1) (hbg : b ≠ g) (h : CellsAt w b g cap n m) :
    Calls Tryd.prog 77 #[.pointer (some ⟨b, 0, none⟩), .int .i64 p, .int .i64 q, .int .i64 x] w fun e w' => e = .returned (.tuple #[]) ∧ Only g w w' ∧ CellsAt w' b g cap n (upd m p q x) := by
  have H := Lib.hid h
  obtain ⟨h0, h1, hr⟩ := h
  have HR := Lib.hid hr
  obtain ⟨N, hN⟩ : ∃ N, N = (n + 1) * (n + 1) := ⟨_, rfl⟩
  rw [← hN] at h1
  have HN := Lib.hid hN
  clear hr hN
  obtain ⟨P, hP, hP1, hP2, hP3⟩ := prod_facts p n (by omega) hn
  have hPN : P + n < N := by have := HN.out; omega
  have hc := HR.out.cell (P + q) (by rw [flat_length, ← HN.out]; omega)
  have hf := HR.out.frozen (P + q)
  rw [hP2, flat_at m (by omega) (by omega), ← hP2] at hc
  have HP2 := Lib.hid hP2
  clear hP2 hP3
  have g1 : IntKind.i64.wrap ((n : Int) + 1) = (n : Int) + 1 := IntWalk.i64_in _ (by omega)
  have g2 : IntKind.i64.wrap (P : Int) = (P : Int) := IntWalk.i64_in _ (by omega)
  have g3 : IntKind.i64.wrap ((P : Int) + (q : Int)) = (P : Int) + (q : Int) := IntWalk.i64_in _ (by omega)
  have l1 : (P : Int) + (q : Int) < (N : Int) := by omega
  have l3 : 0 ≤ (P : Int) + (q : Int) := by omega
  have n1 : ((P : Int) + (q : Int)).toNat = P + q := by omega
  go_enter Tryd.func77, Tryd.ntmps77
  go_wp2_with fail
  go_region
  go_wp2
  go_end0
  have ho : Only g w ((w.setCell ⟨g, P + q, none⟩ (.int .i64 x)).drew) := ((Only.refl _ _).setCell _ _).drew
  refine ⟨rfl, ho, H.out.only ho hbg ?_⟩
  rw [← flat_upd m hp hq x, ← HP2.out]
  exact (HR.out.set (P + q) x).drew

theorem CellsAt.drewN {w : World} {b g cap n : Nat} {m : Mat} (h : CellsAt w b g cap n m) (k : Nat) : CellsAt (w.drewN k) b g cap n m := ⟨h.1, h.2.1, h.2.2.drewN k⟩
theorem upd_self (m : Mat) (i j : Nat) : upd m i j (m i j) = m := by
  funext a b
  unfold upd
  by_cases e : a = i ∧ b = j
  · rw [if_pos e, e.1, e.2]
  · rw [if_neg e]

set_option maxRecDepth 100000 in
set_option maxHeartbeats 1000000 in
theorem less4_any (b g cap n p q : Nat) (m : Mat) (x : Int) (w : World) (hn : n ≤ 8) (hp : p < n + 1) (hq : q < n + 1) (hbg : b ≠ g) (h : CellsAt w b g cap n m) :
    Calls Tryd.prog 69 #[.pointer (some ⟨b, 0, none⟩), .int .i64 p, .int .i64 q, .int .i64 x] w fun e w' => e = .returned (.tuple #[]) ∧ Only g w w' ∧ CellsAt w' b g cap n (lessM m p q x) := by
  have H := Lib.hid h
  have HA := Lib.hid (fun w h => at4_any b g cap n p q m w hn hp hq h)
  have HP := Lib.hid (fun w h => put4_any b g cap n p q m x w hn hp hq hbg h)
  obtain ⟨y, hy⟩ : ∃ y, y = m p q := ⟨_, rfl⟩
  rw [← hy] at HA
  have HY := Lib.hid hy
  clear h hy
  go_enter Tryd.func69, Tryd.ntmps69
  go_wp2_with fail
  refine (HA.out _ H.out).mono ?_
  rintro e w1 ⟨rfl, k, rfl⟩
  have HO := Lib.hid ((Only.refl g w).drewN k)
  have H1 := Lib.hid (H.out.drewN k)
  generalize w.drewN k = w1 at *
  by_cases hl : x < y
  · have HL := Lib.hid hl
    go_wp2_with fail
    refine (HP.out _ H1.out).mono ?_
    rintro e w2 ⟨rfl, ho, hc⟩
    have HO2 := Lib.hid (HO.out.trans ho)
    have HC := Lib.hid hc
    clear ho hc
    go_wp2
    go_end0
    refine ⟨rfl, HO2.out, ?_⟩
    unfold lessM
    rw [← HY.out, Int.min_eq_right (by have := HL.out; omega)]
    exact HC.out
  · have HL := Lib.hid hl
    go_wp2
    go_end0
    refine ⟨rfl, HO.out, ?_⟩
    unfold lessM
    rw [← HY.out, Int.min_eq_left (by have := HL.out; omega), HY.out, upd_self]
    exact H1.out

end Go.Proofs.YtidcnlecgcobmaaDoor

/- The document's cells under way: opened. -/
namespace Go.Proofs.YtidcnlecgcobmaaDoor
open Go Go.RowKit
set_option linter.unusedVariables false
set_option linter.unusedSimpArgs false

theorem Only.grown {b : Nat} {w w1 w2 : World} {o : Option Nat} (h : Only b w w1) (k : w1.grownBy w2 o) (ho : ∀ c, o = some c → w.heap.size ≤ c) : Only b w w2 :=
  ⟨k.os.trans h.os, k.tape.trans h.tape, k.output.trans h.output, Nat.le_trans h.size k.size, fun i hi hne => (k.block i (Nat.lt_of_lt_of_le hi h.size) (fun e => by have := ho i e.symm; omega)).trans (h.block i hi hne)⟩

/-- A block of a number and of a row of the call's own, which grows from world w1 on. -/
structure GrowR (T e : TypeId) (k : IntKind) (w1 : World) (zb n : Nat) (xs : List Int) (sv : Value) (wr : World) : Prop where
  only : Only zb w1 wr
  lt : zb < w1.heap.size
  block : wr.heap[zb]? = some (.cells #[.int .i64 n, sv] T (0, 0))
  own : wr.ownsRow w1.heap.size e 1 sv xs.length (vals k xs)
/-- The same, behind an append, ahead of the store. -/
structure GrownR (T e : TypeId) (k : IntKind) (w1 : World) (zb n : Nat) (xs : List Int) (sv sv' : Value) (wr : World) : Prop where
  only : Only zb w1 wr
  lt : zb < w1.heap.size
  block : wr.heap[zb]? = some (.cells #[.int .i64 n, sv] T (0, 0))
  own : wr.ownsRow w1.heap.size e 1 sv' xs.length (vals k xs)
section
variable {T e : TypeId} {k : IntKind} {w1 wr w2 : World} {zb n : Nat} {xs : List Int} {sv sv' : Value}
theorem GrowR.cell0 (h : GrowR T e k w1 zb n xs sv wr) : wr.cell? ⟨zb, 0, none⟩ = some (.int .i64 n) := by simp [World.cell?, h.block]
theorem GrowR.cell1 (h : GrowR T e k w1 zb n xs sv wr) : wr.cell? ⟨zb, 1, none⟩ = some sv := by simp [World.cell?, h.block]
theorem GrowR.frozen (h : GrowR T e k w1 zb n xs sv wr) : wr.frozen? ⟨zb, 1, none⟩ = false := by simp [World.frozen?, h.block]
theorem GrownR.cell1 (h : GrownR T e k w1 zb n xs sv sv' wr) : wr.cell? ⟨zb, 1, none⟩ = some sv := by simp [World.cell?, h.block]
theorem GrownR.frozen (h : GrownR T e k w1 zb n xs sv sv' wr) : wr.frozen? ⟨zb, 1, none⟩ = false := by simp [World.frozen?, h.block]
theorem GrownR.ltb (h : GrownR T e k w1 zb n xs sv sv' wr) : zb < wr.heap.size := Nat.lt_of_lt_of_le h.lt h.only.size
theorem GrowR.append {o : Obj} (h : GrowR T e k w1 zb n xs sv wr) (x : Int) (q : Nat)
    (hown : w2.ownsRow w1.heap.size e 1 sv' (xs.length + 1) (vals k xs ++ [.int k x])) (hg : ((wr.alloc o).drewN q).grownBy w2 sv.ownBlock) : GrownR T e k w1 zb n (xs ++ [x]) sv sv' w2 := by
  have hne : ∀ k, sv.ownBlock = some k → w1.heap.size ≤ k := fun k hk => (h.own.lt k hk).1
  have hlt := h.lt
  have hsz := h.only.size
  refine ⟨((h.only.alloc o).drewN q).grown hg hne, hlt, ?_, ?_⟩
  · rw [hg.block zb (by simp; omega) (fun e => by have := hne zb e.symm; omega)]
    show (wr.alloc o).heap[zb]? = _
    exact (heap_alloc_old wr o (show zb < wr.heap.size by omega)).trans h.block
  · have e1 : vals k (xs ++ [x]) = vals k xs ++ [.int k x] := by simp [vals]
    rw [e1, List.length_append]; exact hown
theorem GrownR.store (h : GrownR T e k w1 zb n xs sv sv' wr) : GrowR T e k w1 zb n xs sv' (wr.setCell ⟨zb, 1, none⟩ sv') := by
  refine ⟨h.only.setCell _ _, h.lt, ?_, ownsRow_setCell_below h.own h.lt _⟩
  simp only [World.setCell, Array.getElem?_modify, if_true, h.block, Option.map_some]
  simp
end

/-- The wide cells of a zone of bounds. -/
theorem widUp_wide {n : Nat} {m : Mat} : widUp (flat n m) ((n + 1) * (n + 1)) = flat n (fun i j => wid (m i j)) := by
  apply list_ext0 (by rw [widUp_length, flat_length])
  intro p hp
  rw [widUp_length] at hp
  rw [widUp_getD _ _ _ hp, flat_getD _ _ _ hp, flat_getD _ _ _ hp]

set_option maxRecDepth 100000 in
set_option maxHeartbeats 2000000 in
theorem open4_any (v : Value) (n : Nat) (m : Mat) (w : World) (h : RefZ w v (some (n, m))) :
    Calls Tryd.prog 68 #[v] w fun e w' => ∃ g cap, e = .returned (.pointer (some ⟨w.heap.size, 0, none⟩)) ∧ Below w.heap.size w w' ∧ w.heap.size < g ∧ CellsAt w' w.heap.size g cap n (fun i j => wid (m i j)) := by
  have HD := Lib.hid (fun w h => rdim_any v (some (n, m)) w h)
  have HC := Lib.hid (fun w h => rcells_any v (some (n, m)) w h)
  have HZ := Lib.hid h
  rw [show dimP (some (n, m)) = n from rfl] at HD
  rw [show cellsP (some (n, m)) = flat n m from rfl] at HC
  have hr : n ≤ 8 ∧ RightM n m := by obtain ⟨b, g, cap, _, h1, h2, _⟩ := h; exact ⟨h1, h2⟩
  obtain ⟨hn, hr⟩ := hr
  have hN81 : (n + 1) * (n + 1) ≤ 81 := by
    have := Nat.mul_le_mul (show n + 1 ≤ 9 by omega) (show n + 1 ≤ 9 by omega)
    omega
  have HW := Lib.hid (widUp_wide (n := n) (m := m))
  have hlen := flat_length n m
  have HRT := Lib.hid (flat_right hr)
  obtain ⟨l, hl⟩ : ∃ l, l = flat n m := ⟨_, rfl⟩
  rw [← hl] at HC HW hlen HRT
  obtain ⟨N, hN⟩ : ∃ N, N = (n + 1) * (n + 1) := ⟨_, rfl⟩
  rw [← hN] at hlen hN81 HW
  have HLEN := Lib.hid hlen
  have HN := Lib.hid hN
  obtain ⟨i0, hi1, hz0, hz1, hz2⟩ := info_parts infoI
  have HInf := Lib.hid (And.intro hi1 (And.intro hz0 (And.intro hz1 hz2)))
  clear h hr hl hlen hN hi1 hz0 hz1 hz2
  go_enter Tryd.func68, Tryd.ntmps68
  go_wp2_with fail
  refine (HD.out _ HZ.out).mono ?_
  rintro e w1 ⟨rfl, rfl⟩
  go_wp2_with fail
  have HB1 := Lib.hid ((Below.refl w.heap.size w).alloc (Nat.le_refl _) (.cells #[.int .i64 n, .slice none 0 0] 117))
  have HBL := Lib.hid (heap_alloc_new w (.cells #[.int .i64 n, .slice none 0 0] 117))
  have HSZ := Lib.hid (show w.heap.size < (w.alloc (.cells #[.int .i64 n, .slice none 0 0] 117)).heap.size by simp)
  have HZ1 := Lib.hid (HZ.out.below HB1.out)
  generalize w.alloc (.cells #[.int .i64 n, .slice none 0 0] 117) = w1 at *
  refine (HC.out _ HZ1.out).mono ?_
  rintro e w2 ⟨lv, rfl, hb, ho⟩
  have HB2 := Lib.hid (HB1.out.trans (hb.mono HB1.out.size))
  have HBL2 := Lib.hid ((hb.block w.heap.size HSZ.out).trans HBL.out)
  have HSZ2 := Lib.hid (Nat.lt_of_lt_of_le HSZ.out hb.size)
  have hrow := ho.row (by rw [HLEN.out, HN.out]; exact Nat.mul_pos (by omega) (by omega))
  obtain ⟨rg, rcap, hv, hrg, hrow⟩ := hrow
  rw [HLEN.out] at hv
  subst hv
  have hne : rg ≠ w.heap.size := by have := HSZ.out; omega
  have HI := Lib.hid (fun wr (h : Only w.heap.size w2 wr) => (hrow.only h hne).ints)
  have HS := Lib.hid (show GrowR 117 2 .i64 w2 w.heap.size n (widUp l 0) (.slice none 0 0) w2 from
    ⟨Only.refl _ _, HSZ2.out, HBL2.out, World.ownsRow_nil _ _ _ _⟩)
  have HWL := Lib.hid (widUp_length l)
  clear hb ho hrg hrow hne HC HD HZ HZ1 HB1 HBL HBL2 HSZ
  go_wp2
  go_loopg [5] N (fun q v wr => ∃ p : Nat, ∃ sv, v = .int .i64 p ∧ GrowR 117 2 .i64 w2 w.heap.size n (widUp l p) sv wr ∧ Hid (p ≤ N ∧ q + p = N))
  case atStart => exact ⟨0, _, by simp, HS.out, by omega, by omega⟩
  case round =>
    clear HS
    obtain ⟨p, sv, rfl, H, HG⟩ := hrel
    have HR := Lib.hid H
    clear H
    by_cases hp : p < N
    · have hpN : (p : Int) < (N : Int) := by omega
      obtain ⟨b, off, hA, c1⟩ := HI.out _ HR.out.only p (by rw [HLEN.out]; exact hp)
      simp only [Option.some.injEq, Addr.mk.injEq] at hA
      obtain ⟨rfl, rfl, _⟩ := hA
      rw [Nat.zero_add] at c1
      have c2 := HR.out.cell1
      have f2 := HR.out.frozen
      have hb := right_bd32 ((all_getD l rightB 0).1 HRT.out p (by rw [HLEN.out]; exact hp))
      obtain ⟨x, hx⟩ : ∃ x, x = l.getD p 0 := ⟨_, rfl⟩
      rw [← hx] at c1 hb
      have HX := Lib.hid hx
      have hsz := HR.out.only.size
      have hlt := HR.out.lt
      have hl1 : w.heap.size < wr.heap.size := by omega
      have hl2 : rg < wr.heap.size := World.block_lt_of_cell? wr _ c1
      have hne1 : wr.heap.size ≠ w.heap.size := by omega
      have hne2 : wr.heap.size ≠ rg := by omega
      clear hx hlt hsz
      by_cases hinf : x = 2147483647
      · subst hinf
        go_wp2_with (at_builtin; refine wpList_append_lies _ rfl _ _ 84 rfl w2.heap.size 2 i0 (.int .i64 0) 1 8 Tryd.underlying84 HInf.out.1 HInf.out.2.1 HInf.out.2.2.1 HInf.out.2.2.2 rfl (by decide) _ _ _ rfl (HR.out.own.alloc _) ⟨wr.heap.size, 0, none⟩ 1 1 [.int .i64 4611686018427387904] rfl rfl (cell_one_new _ _ _) (by intro u hu; simp at hu; subst hu; rfl) (by decide) ?c3 ?c4 ?c5 _ rfl ?_)
        case c3 => unfold maxLen; rw [HWL.out]; omega
        case c4 => rw [HWL.out]; omega
        case c5 => have := HR.out.only.size; simp; omega
        intro gg cp w3 hown hgrow _ _
        have HA := Lib.hid (HR.out.append 4611686018427387904 0 hown hgrow)
        have k1 := HA.out.cell1
        have k2 := HA.out.frozen
        have k3 := HA.out.ltb
        have e : widUp l (p + 1) = widUp l p ++ [4611686018427387904] := by rw [widUp, ← HX.out]; rfl
        have HN2 := Lib.hid (HA.out.store)
        rw [← e] at HN2
        clear hown hgrow e
        go_wp2
        go_roundg (gk - 1)
        case measure => have h := HG.out; omega
        case rel => exact ⟨p + 1, _, by go_num, HN2.out, by omega, by have h := HG.out; omega⟩
      · have t1 : (x == 2147483647) = false := by simp [hinf]
        have HNI := Lib.hid hinf
        have g1 : IntKind.i64.wrap x = x := IntWalk.i64_in _ (by omega)
        clear hinf
        go_wp2_with fail
        go_region_law (first | (refine step_append_lies _ rfl _ _ 84 rfl w2.heap.size 2 i0 (.int .i64 0) 1 8 Tryd.underlying84 HInf.out.1 HInf.out.2.1 HInf.out.2.2.1 HInf.out.2.2.2 rfl (by decide) sv (widUp l p).length (vals .i64 (widUp l p)) rfl (by exact HR.out.own.alloc _) ⟨wr.heap.size, 0, none⟩ 1 1 [.int .i64 x] rfl rfl (by exact cell_one_new _ _ _) (by intro u hu; simp at hu; subst hu; rfl) (by decide) (by unfold maxLen; rw [HWL.out]; omega) (by rw [HWL.out]; omega) (by have := HR.out.only.size; simp; omega) _ rfl ?_; intro gg cp w3 hown hgrow _ _; have HA := Lib.hid (HR.out.append x 1 hown (by exact hgrow)); have k1 := HA.out.cell1; have k2 := HA.out.frozen; have k3 := HA.out.ltb; have k4 : w3.cell? ⟨rg, p, none⟩ = some (.int .i32 x) := (by obtain ⟨b, off, hA, c9⟩ := HI.out _ HA.out.only p (by rw [HLEN.out]; exact hp); simp only [Option.some.injEq, Addr.mk.injEq] at hA; obtain ⟨rfl, rfl, _⟩ := hA; rw [Nat.zero_add, ← HX.out] at c9; exact c9); clear hown hgrow))
        go_goals
        all_goals
          have e : widUp l (p + 1) = widUp l p ++ [x] := by rw [widUp, ← HX.out, wid, if_neg HNI.out]
          have HN2 := Lib.hid (HA.out.store)
          rw [← e] at HN2
          clear e
          go_wp2
          go_roundg (gk - 1)
          case measure => have h := HG.out; omega
          case rel => exact ⟨p + 1, _, by go_num, HN2.out, by omega, by have h := HG.out; omega⟩
    · have e : p = N := by have := HG.out.1; omega
      subst e
      have hrow := HR.out.own
      rw [HWL.out] at hrow
      obtain ⟨gg, cp, hv, hge, hlt⟩ := World.ownsRow.form hrow (by rw [HN.out]; exact Nat.mul_pos (by omega) (by omega))
      have HV := Lib.hid hv
      have HGE := Lib.hid hge
      clear hv hge hlt hrow
      go_wp2
      go_ret
      refine ⟨gg, cp, rfl, HB2.out.trans (HR.out.only.below (Nat.le_refl _) HB2.out.size), by have := HGE.out; have := HSZ2.out; omega, HR.out.cell0, ?_, ?_⟩
      · rw [HR.out.cell1, HV.out, HN.out]
      · have h1 := HR.out.own
        rw [HV.out, HW.out, flat_length] at h1
        obtain ⟨_, h2⟩ := h1
        rcases h2 with ⟨h3, _⟩ | ⟨g2, cap2, cur, h3, _, h4, _, _, _, h5⟩
        · cases h3
        · simp only [Value.slice.injEq, Option.some.injEq, Addr.mk.injEq] at h3
          obtain ⟨⟨rfl, _⟩, _, rfl⟩ := h3
          exact ⟨cur, h4, by rw [flat_length]; simpa using h5⟩

end Go.Proofs.YtidcnlecgcobmaaDoor

/- The document's closed form of cells under way. -/
namespace Go.Proofs.YtidcnlecgcobmaaDoor
open Go Go.RowKit
set_option linter.unusedVariables false
set_option linter.unusedSimpArgs false

/-- The cells are cur; nothing else was touched. -/
def Q4 (w0 : World) (b g cap n : Nat) (cur : Mat) (wr : World) : Prop := Only g w0 wr ∧ CellsAt wr b g cap n cur
theorem Q4.drewN {w0 wr : World} {b g cap n : Nat} {cur : Mat} (h : Q4 w0 b g cap n cur wr) (q : Nat) : Q4 w0 b g cap n cur (wr.drewN q) := ⟨h.1.drewN q, h.2.drewN q⟩
def Q4Outer (w0 : World) (b g cap n : Nat) (m0 : Mat) (q k : Nat) (m : Mat) (wr : World) : Prop := Q4 w0 b g cap n m wr ∧ RoundOk n m0 k m ∧ q + k = n + 1
def Q4Mid (w0 : World) (b g cap n : Nat) (m : Mat) (k q i : Nat) (cur : Mat) (wr : World) : Prop :=
  Q4 w0 b g cap n cur wr ∧ RefOk n (1073741824 * 4 ^ k) m k i 0 cur ∧ i ≤ n + 1 ∧ q + i = n + 1
def Q4Inn (w0 : World) (b g cap n : Nat) (m : Mat) (k i q j : Nat) (cur : Mat) (wr : World) : Prop :=
  Q4 w0 b g cap n cur wr ∧ RefOk n (1073741824 * 4 ^ k) m k i j cur ∧ j ≤ n + 1 ∧ q + j = n + 1
def Q4Test (w0 : World) (b g cap n : Nat) (m : Mat) (k q i : Nat) (cur : Mat) (wr : World) : Prop :=
  Q4 w0 b g cap n cur wr ∧ RefOk n (1073741824 * 4 ^ k) m k (n + 1) 0 cur ∧ (∀ a, a < i → 1 ≤ cur a a) ∧ i ≤ n + 1 ∧ q + i = n + 1
theorem Q4Inn.bounds {w0 wr : World} {b g cap n : Nat} {m m0 cur : Mat} {k i q j : Nat} (h : Q4Inn w0 b g cap n m k i q j cur wr) (hr : RoundOk n m0 k m) (hn : n ≤ 8) (hk : k ≤ n) {a c : Nat} (ha : a ≤ n) (hc : c ≤ n) :
    Bd 1152921504606846976 (cur a c) := by
  have h4 := pow2_le (show k ≤ 9 by omega)
  have h1 := one_le_pow2 k
  exact (h.2.1.bounds hr.fit (by omega) hk ha hc).mono (by omega)
theorem Q4Inn.step {w0 wr w' : World} {b g cap n : Nat} {m m0 cur : Mat} {k i q j : Nat} (h : Q4Inn w0 b g cap n m k i q j cur wr) (hr : RoundOk n m0 k m) (hk : k ≤ n) (hi : i ≤ n) (hj : j ≤ n)
    (ho : Only g wr w') (hc : CellsAt w' b g cap n (lessM cur i j (wsum (cur i k) (cur k j)))) : Q4Inn w0 b g cap n m k i (q - 1) (j + 1) (lessM cur i j (wsum (cur i k) (cur k j))) w' := by
  have h1 := one_le_pow2 k
  have hs := h.2.1.step hr.fit (by omega) hk hi hj
  have := h.2.2.2
  exact ⟨⟨h.1.1.trans ho, hc⟩, hs, by omega, by omega⟩

/-- How it ends. -/
def Closes4 (w0 : World) (b g cap n : Nat) (m0 : Mat) (e : Ending) (w' : World) : Prop :=
  Only g w0 w' ∧ ((closed n m0 = none ∧ e = .returned (.bool false) ∧ w'.cell? ⟨b, 0, none⟩ = some (.int .i64 n)) ∨ ∃ m', closed n m0 = some m' ∧ e = .returned (.bool true) ∧ CellsAt w' b g cap n m')

set_option maxRecDepth 100000 in
set_option maxHeartbeats 4000000 in
theorem closed4_any (b g cap n : Nat) (m0 : Mat) (w : World) (hn : n ≤ 8) (hbg : b ≠ g) (h : CellsAt w b g cap n m0) (hf : Fit n 1073741824 m0) :
    Calls Tryd.prog 96 #[.pointer (some ⟨b, 0, none⟩)] w (Closes4 w b g cap n m0) := by
  have H0 := Lib.hid (show Q4Outer w b g cap n m0 (n + 1) 0 m0 w from ⟨⟨Only.refl _ _, h⟩, RoundOk.start hf, by omega⟩)
  have hc0 := h.1
  clear h hf
  go_enter Tryd.func96, Tryd.ntmps96
  go_wp2
  go_loopg [3] (n + 1) (fun q v wr => ∃ k : Nat, ∃ m, v = .int .i64 k ∧ Hid (Q4Outer w b g cap n m0 q k m wr))
  case atStart => exact ⟨0, m0, by simp, H0.out⟩
  case round =>
    clear H0 hc0
    obtain ⟨k, m, rfl, HK⟩ := hrel
    have hc0 := HK.out.1.2.1
    by_cases hk : k ≤ n
    · have hkk : (k : Int) ≤ (n : Int) := by omega
      have H1 := Lib.hid (show Q4Mid w b g cap n m k (n + 1) 0 m wr from ⟨HK.out.1, HK.out.2.1.ref (by omega), by omega, by omega⟩)
      go_wp2
      go_loopg [4] (n + 1) (fun q v wr => ∃ i : Nat, ∃ cur, v = .int .i64 i ∧ Hid (Q4Mid w b g cap n m k q i cur wr))
      case atStart => exact ⟨0, m, by simp, H1.out⟩
      case round =>
        clear H1 hc0
        obtain ⟨i, cur, rfl, HI⟩ := hrel
        have hc0 := HI.out.1.2.1
        by_cases hi : i ≤ n
        · have hii : (i : Int) ≤ (n : Int) := by omega
          have H1 := Lib.hid (show Q4Inn w b g cap n m k i (n + 1) 0 cur wr from ⟨HI.out.1, HI.out.2.1, by omega, by omega⟩)
          go_wp2
          go_loopg [5] (n + 1) (fun q v wr => ∃ j : Nat, ∃ cur, v = .int .i64 j ∧ Hid (Q4Inn w b g cap n m k i q j cur wr))
          case atStart => exact ⟨0, cur, by simp, H1.out⟩
          case round =>
            clear H1 hc0
            obtain ⟨j, cur, rfl, HJ⟩ := hrel
            have hc0 := HJ.out.1.2.1
            by_cases hj : j ≤ n
            · have hjj : (j : Int) ≤ (n : Int) := by omega
              have HB1 := Lib.hid (HJ.out.bounds HK.out.2.1 hn hk hi hk)
              have HB2 := Lib.hid (HJ.out.bounds HK.out.2.1 hn hk hk hj)
              have HA := Lib.hid (fun p q (hp : p ≤ n) (hq : q ≤ n) w h => at4_any b g cap n p q cur w hn (by omega) (by omega) h)
              have HL := Lib.hid (fun x w h => less4_any b g cap n i j cur x w hn (by omega) (by omega) hbg h)
              have HC0 := Lib.hid HJ.out.1.2
              have HS0 := Lib.hid (fun w' ho hc => HJ.out.step (w' := w') HK.out.2.1 hk hi hj ho hc)
              have HO0 := Lib.hid (Only.refl g wr)
              obtain ⟨x, hx⟩ : ∃ x, x = cur i k := ⟨_, rfl⟩
              obtain ⟨y, hy⟩ : ∃ y, y = cur k j := ⟨_, rfl⟩
              rw [← hx] at HB1 HS0
              rw [← hy] at HB2 HS0
              have HX := Lib.hid hx
              have HY := Lib.hid hy
              have HA1 := Lib.hid (HA.out i k hi hk)
              have HA2 := Lib.hid (HA.out k j hk hj)
              rw [← hx] at HA1
              rw [← hy] at HA2
              clear hx hy
              go_wp2_with fail
              refine (HA1.out _ HC0.out).mono ?_
              rintro e w1 ⟨rfl, q1, hw1⟩
              have HC1 := Lib.hid (show CellsAt w1 b g cap n cur by rw [hw1]; exact HC0.out.drewN q1)
              have HO1 := Lib.hid (show Only g wr w1 by rw [hw1]; exact HO0.out.drewN q1)
              clear hw1
              go_wp2_with fail
              refine (HA2.out _ HC1.out).mono ?_
              rintro e w2 ⟨rfl, q2, hw2⟩
              have HC2 := Lib.hid (show CellsAt w2 b g cap n cur by rw [hw2]; exact HC1.out.drewN q2)
              have HO2 := Lib.hid (show Only g wr w2 by rw [hw2]; exact HO1.out.drewN q2)
              clear hw2
              go_wp2_with fail
              refine (plus_still4 x y _ HB1.out HB2.out).mono ?_
              rintro e w3 ⟨rfl, rfl⟩
              go_wp2_with fail
              refine (HL.out _ _ HC2.out).mono ?_
              rintro e w4 ⟨rfl, ho, hc⟩
              have HS := Lib.hid (HS0.out w4 (HO2.out.trans ho) hc)
              clear ho hc
              go_wp2
              go_roundg (gk - 1)
              case measure => have h := HJ.out.2.2.2; omega
              case rel => exact ⟨j + 1, _, by go_num, HS.out⟩
            · have hjj : ¬ (j : Int) ≤ (n : Int) := by omega
              have e : j = n + 1 := by have := HJ.out.2.2.1; omega
              have HS := Lib.hid (show Q4Mid w b g cap n m k (n - i) (i + 1) cur wr from ⟨HJ.out.1, (by have := HJ.out.2.1; rw [e] at this; exact this.row), by omega, by omega⟩)
              clear e
              go_wp2
              go_roundg (n - i)
              case measure => have h := HI.out.2.2.2; omega
              case rel => exact ⟨i + 1, _, by go_num, HS.out⟩
        · have hii : ¬ (i : Int) ≤ (n : Int) := by omega
          have e : i = n + 1 := by have := HI.out.2.2.1; omega
          have H1 := Lib.hid (show Q4Test w b g cap n m k (n + 1) 0 cur wr from ⟨HI.out.1, (by have := HI.out.2.1; rw [e] at this; exact this), fun a ha => by omega, by omega, by omega⟩)
          clear e
          go_wp2
          go_loopg [6] (n + 1) (fun q v wr => ∃ i : Nat, v = .int .i64 i ∧ Hid (Q4Test w b g cap n m k q i cur wr))
          case atStart => exact ⟨0, by simp, H1.out⟩
          case round =>
            clear H1 hc0
            obtain ⟨a, rfl, HT⟩ := hrel
            have hc0 := HT.out.1.2.1
            by_cases ha : a ≤ n
            · have haa : (a : Int) ≤ (n : Int) := by omega
              have HA := Lib.hid (fun w h => at4_any b g cap n a a cur w hn (by omega) (by omega) h)
              obtain ⟨x, hx⟩ : ∃ x, x = cur a a := ⟨_, rfl⟩
              rw [← hx] at HA
              have HX := Lib.hid hx
              clear hx
              go_wp2_with fail
              refine (HA.out _ HT.out.1.2).mono ?_
              rintro e w1 ⟨rfl, q1, rfl⟩
              have HQ := Lib.hid (HT.out.1.drewN q1)
              by_cases hd : x < 1
              · have HD := Lib.hid hd
                go_wp2
                go_ret
                exact ⟨HQ.out.1, .inl ⟨RefOk.fail HK.out.2.1 hk HT.out.2.1 ha (by rw [← HX.out]; exact HD.out), rfl, HQ.out.2.1⟩⟩
              · have HD := Lib.hid hd
                go_wp2
                go_roundg (gk - 1)
                case measure => have h := HT.out.2.2.2.2; omega
                case rel =>
                  refine ⟨a + 1, by go_num, HQ.out, HT.out.2.1, fun b hb => ?_, by omega, by have h := HT.out.2.2.2.2; omega⟩
                  by_cases e : b = a
                  · subst e; have h := HD.out; rw [HX.out] at h; omega
                  · exact HT.out.2.2.1 b (by omega)
            · have haa : ¬ (a : Int) ≤ (n : Int) := by omega
              have HS := Lib.hid (show Q4Outer w b g cap n m0 (n - k) (k + 1) cur wr from ⟨HT.out.1, RefOk.next HK.out.2.1 hk HT.out.2.1 (fun i hi => HT.out.2.2.1 i (by omega)), by omega⟩)
              go_wp2
              go_roundg (n - k)
              case measure => have h := HK.out.2.2; omega
              case rel => exact ⟨k + 1, _, by go_num, HS.out⟩
    · have hkk : ¬ (k : Int) ≤ (n : Int) := by omega
      have e : k = n + 1 := by have := HK.out.2.1.le; omega
      have hd := HK.out.2.1
      rw [e] at hd
      have HD := Lib.hid hd.done
      clear e hd
      go_wp2
      go_ret
      exact ⟨HK.out.1.1, .inr ⟨m, HD.out, rfl, HK.out.1.2⟩⟩

end Go.Proofs.YtidcnlecgcobmaaDoor

/- The document's zone of cells under way. -/
namespace Go.Proofs.YtidcnlecgcobmaaDoor
open Go Go.RowKit
set_option linter.unusedVariables false
set_option linter.unusedSimpArgs false

theorem limP_nothing (n : Nat) (hn : n ≤ 8) : limP n [(0, 0, 0)] = (some (fun _ _ => 0), 0) := by
  have h1 : [((0 : Int), (0 : Int), (0 : Int))].all (limOk n) = true := by simp [limOk, rightB]
  have h : closed n (limUp n [(0, 0, 0)] 1) = none := by
    unfold closed closeP
    rw [if_neg]
    intro h
    have h1 := h 0 (by omega)
    have h2 := fw_le 0 n (limUp n [(0, 0, 0)] 1) 0 0
    have h3 : limUp n [(0, 0, 0)] 1 0 0 = 0 := by simp [limUp, keepM, upd, openM]; decide
    omega
  unfold limP
  rw [if_pos (by omega), Int.toNat_natCast, if_pos h1]
  unfold zoneP
  rw [show [((0 : Int), (0 : Int), (0 : Int))].length = 1 from rfl, h]
theorem lims_one (w : World) (e : TypeId) (a b c : Int) : Lims (w.alloc (.cells #[.int .i64 a, .int .i64 b, .int .i32 c] e (0, 0))) (some ⟨w.heap.size, 0, none⟩) [(a, b, c)] := by
  have h1 := heap_alloc_new w (.cells #[.int .i64 a, .int .i64 b, .int .i32 c] e (0, 0))
  intro j hj
  have e0 : j = 0 := by simp at hj; omega
  subst e0
  refine ⟨w.heap.size, 0, rfl, ?_, ?_, ?_⟩ <;> (unfold World.cell?; rw [h1]; rfl)

set_option maxRecDepth 100000 in
set_option maxHeartbeats 1000000 in
theorem nothing_any (n : Nat) (w : World) (hn : n ≤ 8) : Calls Tryd.prog 67 #[.int .i64 n] w fun e w' => ∃ v, e = .returned v ∧ Below w.heap.size w w' ∧ RefZ w' v (some (n, fun _ _ => 0)) := by
  have HL := Lib.hid (fun A c w hI => rlimits_any n A c [(0, 0, 0)] w hI (by simp) (fun q hq => by
    have : q = 0 := by simp at hq; omega
    subst this; decide))
  rw [limP_nothing n hn] at HL
  have HB := Lib.hid ((Below.refl w.heap.size w).alloc (Nat.le_refl _) (.cells #[.int .i64 0, .int .i64 0, .int .i32 0] 68))
  have HI := Lib.hid (lims_one w 68 0 0 0)
  go_enter Tryd.func67, Tryd.ntmps67
  go_wp2_with fail
  refine (HL.out _ _ _ HI.out).mono ?_
  rintro e w2 ⟨hb, v, rfl, hv⟩
  have HB2 := Lib.hid (HB.out.trans (hb.mono HB.out.size))
  have HV := Lib.hid (show RefZ w2 v (some (n, fun _ _ => 0)) from hv)
  clear hb hv
  go_wp2
  go_ret
  exact ⟨v, rfl, HB2.out, HV.out⟩

/-- The narrow row, so far. -/
def NarR (w1 : World) (l : List Int) (p : Nat) (v : Value) (wr : World) : Prop :=
  Below w1.heap.size w1 wr ∧ wr.ownsRow w1.heap.size 64 1 v p (vals .i32 (narUp l p)) ∧ (∀ q, q < p → inR (l.getD q 0)) ∧ p ≤ l.length
theorem NarR.next {w1 wr w2 : World} {l : List Int} {p : Nat} {v v' : Value} {o : Obj} (h : NarR w1 l p v wr) (hp : p < l.length) (x : Int) (hx : x = nar (l.getD p 0)) (hin : inR (l.getD p 0))
    (hown : w2.ownsRow w1.heap.size 64 1 v' (p + 1) (vals .i32 (narUp l p) ++ [.int .i32 x])) (hg : (wr.alloc o).grownBy w2 v.ownBlock) : NarR w1 l (p + 1) v' w2 := by
  refine ⟨(h.1.alloc h.1.size o).grown hg (by have := h.1.size; simp; omega) (fun k hk => (h.2.1.lt k hk).1), ?_, fun q hq => ?_, by omega⟩
  · have e : vals .i32 (narUp l (p + 1)) = vals .i32 (narUp l p) ++ [.int .i32 x] := by rw [hx]; simp [vals, narUp]
    rw [e]; exact hown
  · by_cases e : q = p
    · subst e; exact hin
    · exact h.2.2.1 q (by omega)
theorem NarR.own {w1 wr : World} {l : List Int} {p : Nat} {v : Value} (h : NarR w1 l p v wr) : OwnI wr w1.heap.size 64 .i32 v (narUp l p) := by
  unfold OwnI; rw [narUp_length]; exact h.2.1
theorem CellsAt.below {w w' : World} {b g cap n : Nat} {m : Mat} (h : CellsAt w b g cap n m) (hb : Below w.heap.size w w') : CellsAt w' b g cap n m := by
  obtain ⟨h0, h1, h2⟩ := h
  exact ⟨(hb.cell (p := ⟨b, 0, none⟩) (World.block_lt_of_cell? w _ h0)).trans h0, (hb.cell (p := ⟨b, 1, none⟩) (World.block_lt_of_cell? w _ h1)).trans h1, h2.later hb⟩

set_option maxRecDepth 100000 in
set_option maxHeartbeats 2000000 in
theorem shut4_any (b g cap n : Nat) (M : Mat) (w : World) (hn : n ≤ 8) (hbg : b ≠ g) (h : CellsAt w b g cap n M) (hf : Fit n 1073741824 M) (h0 : ∀ j, j ≤ n → M 0 j ≤ 1) (B : Nat) (hB : B ≤ g) (hBw : B ≤ w.heap.size) :
    Calls Tryd.prog 70 #[.pointer (some ⟨b, 0, none⟩)] w fun e w' => Below B w w' ∧ ∃ v, e = .returned (.tuple #[v, .int .i64 (zoneP n M).2]) ∧ RefZ w' v ((zoneP n M).1.map fun m => (n, m)) := by
  have HCL := Lib.hid (closed4_any b g cap n M w hn hbg h hf)
  have HAG := Lib.hid (fun z e => of_again (z := z) hn hf h0 e)
  obtain ⟨N, hN⟩ : ∃ N : Nat, N = (n + 1) * (n + 1) := ⟨_, rfl⟩
  have hN81 : N ≤ 81 := by
    have := Nat.mul_le_mul (show n + 1 ≤ 9 by omega) (show n + 1 ≤ 9 by omega)
    omega
  have HN := Lib.hid hN
  clear h hf h0 hN
  go_enter Tryd.func70, Tryd.ntmps70
  go_wp2_with fail
  refine HCL.out.mono ?_
  rintro e w1 ⟨ho, hcl⟩
  have HO := Lib.hid (ho.below hB hBw)
  clear ho HCL
  rcases hcl with ⟨hc, rfl, hc0⟩ | ⟨m', hc, rfl, hm⟩
  · have hz : zoneP n M = (some (fun _ _ => 0), 0) := by unfold zoneP; rw [hc]
    have HZ := Lib.hid hz
    clear hc hz
    go_wp2_with fail
    refine (nothing_any n _ hn).mono ?_
    rintro e w2 ⟨v, rfl, hb, hv⟩
    have HB := Lib.hid (HO.out.trans (hb.mono (Nat.le_trans hBw HO.out.size)))
    have HV := Lib.hid hv
    clear hb hv
    go_wp2
    go_ret2
    exact ⟨HB.out, v, by rw [HZ.out]; rfl, by rw [HZ.out]; exact HV.out⟩
  · have HC := Lib.hid hc
    have HM := Lib.hid hm
    clear hc hm
    obtain ⟨i0, hi1, hz0, hz1, hz2⟩ := info_parts infoRB
    have HInf := Lib.hid (And.intro hi1 (And.intro hz0 (And.intro hz1 hz2)))
    clear hi1 hz0 hz1 hz2
    obtain ⟨l, hl⟩ : ∃ l, l = flat n m' := ⟨_, rfl⟩
    have HL := Lib.hid hl
    have HLEN := Lib.hid (show l.length = N by rw [hl, flat_length, HN.out])
    have HS := Lib.hid (show NarR w1 l 0 (.slice none 0 0) w1 from ⟨Below.refl _ _, by simpa [narUp, vals] using World.ownsRow_nil _ _ _ _, fun q h => by omega, by omega⟩)
    clear hl
    go_wp2
    go_loopg [4, 5] N (fun q v x wr => ∃ p : Nat, x = .int .i64 p ∧ Hid (NarR w1 l p v wr) ∧ Hid (q + p = N))
    case atStart => exact ⟨0, by simp, HS.out, by show _ = _; omega⟩
    case round =>
      clear HS
      obtain ⟨p, rfl, HR, HG⟩ := hrel
      have hca := HM.out.below HR.out.1
      have c0 := hca.1
      have c1 := hca.2.1
      rw [← HN.out] at c1
      by_cases hp : p < N
      · have c2 := hca.2.2.cell p (by rw [flat_length, ← HN.out]; exact hp)
        rw [← HL.out] at c2
        obtain ⟨x, hx⟩ : ∃ x, x = l.getD p 0 := ⟨_, rfl⟩
        rw [← hx] at c2
        have HX := Lib.hid hx
        have hpN : (p : Int) < (N : Int) := by omega
        clear hx hca
        by_cases h1 : x = none62
        · have hx : x = 4611686018427387904 := h1
          clear h1
          subst hx
          go_wp2_with (at_builtin; refine wpList_append_own _ rfl _ _ 22 rfl w1.heap.size 64 i0 (.int .i32 0) 1 4 Tryd.underlying22 HInf.out.1 HInf.out.2.1 HInf.out.2.2.1 HInf.out.2.2.2 rfl (by decide) _ _ _ rfl (HR.out.2.1.alloc _) ⟨wr.heap.size, 0, none⟩ 1 1 [.int .i32 2147483647] rfl rfl (cell_one_new _ _ _) (by intro u hu; simp at hu; subst hu; rfl) ?c3 ?c4 ?c5 ?_)
          case c3 => unfold maxLen; omega
          case c4 => omega
          case c5 => have := HR.out.1.size; simp; omega
          intro v' w3 hown hgrow _
          have HN2 := Lib.hid (HR.out.next (by rw [HLEN.out]; exact hp) 2147483647 (by rw [← HX.out]; rfl) (by rw [← HX.out]; exact .inl rfl) hown hgrow)
          clear hown hgrow
          go_wp2
          go_roundg (gk - 1)
          case measure => have h := HG.out; omega
          case rel => exact ⟨p + 1, by go_num, HN2.out, by have h := HG.out; show _ = _; omega⟩
        · have t1 : (x == 4611686018427387904) = false := by simpa [none62] using h1
          have t1' : (x != 4611686018427387904) = true := by simpa [none62] using h1
          have H1 := Lib.hid h1
          clear h1
          by_cases h2 : x < -536870912
          · have d2 : decide (x < -536870912) = true := decide_eq_true h2
            have hall : ¬ allR n m' := fun ha => by have := allR_at ha (p := p) (by rw [← HN.out]; exact hp); rw [← HL.out, ← HX.out] at this; rcases this with h | h; exact H1.out h; omega
            have hz : zoneP n M = (none, 10) := by unfold zoneP; rw [HC.out]; simp only; rw [if_neg hall]
            have HZ := Lib.hid hz
            clear hz hall
            go_wp2
            go_ret2
            exact ⟨HO.out.trans (HR.out.1.mono (Nat.le_trans hBw HO.out.size)), .pointer none, by rw [HZ.out]; rfl, by rw [HZ.out]; rfl⟩
          · have d2 : decide (x < -536870912) = false := decide_eq_false h2
            by_cases h3 : 536870913 < x
            · have d3 : decide (536870913 < x) = true := decide_eq_true h3
              have hall : ¬ allR n m' := fun ha => by have := allR_at ha (p := p) (by rw [← HN.out]; exact hp); rw [← HL.out, ← HX.out] at this; rcases this with h | h; exact H1.out h; omega
              have hz : zoneP n M = (none, 10) := by unfold zoneP; rw [HC.out]; simp only; rw [if_neg hall]
              have HZ := Lib.hid hz
              clear hz hall
              go_wp2
              go_ret2
              exact ⟨HO.out.trans (HR.out.1.mono (Nat.le_trans hBw HO.out.size)), .pointer none, by rw [HZ.out]; rfl, by rw [HZ.out]; rfl⟩
            · have d3 : decide (536870913 < x) = false := decide_eq_false h3
              have hw : IntKind.i32.wrap x = x := by rw [IntKind.wrap_i32]; omega
              have HIN := Lib.hid (show inR x from .inr (by omega))
              go_wp2_with (at_builtin; refine wpList_append_own _ rfl _ _ 22 rfl w1.heap.size 64 i0 (.int .i32 0) 1 4 Tryd.underlying22 HInf.out.1 HInf.out.2.1 HInf.out.2.2.1 HInf.out.2.2.2 rfl (by decide) _ _ _ rfl (HR.out.2.1.alloc _) ⟨wr.heap.size, 0, none⟩ 1 1 [.int .i32 x] rfl rfl (cell_one_new _ _ _) (by intro u hu; simp at hu; subst hu; rfl) ?c3 ?c4 ?c5 ?_)
              case c3 => unfold maxLen; omega
              case c4 => omega
              case c5 => have := HR.out.1.size; simp; omega
              intro v' w3 hown hgrow _
              have HN2 := Lib.hid (HR.out.next (by rw [HLEN.out]; exact hp) x (by rw [← HX.out]; unfold nar; rw [if_neg H1.out]) (by rw [← HX.out]; exact HIN.out) hown hgrow)
              clear hown hgrow
              go_wp2
              go_roundg (gk - 1)
              case measure => have h := HG.out; omega
              case rel => exact ⟨p + 1, by go_num, HN2.out, by have h := HG.out; show _ = _; omega⟩
      · have e : p = N := by have := HR.out.2.2.2; rw [HLEN.out] at this; omega
        have hall : allR n m' := allR_flat fun q hq => by rw [← HL.out]; exact HR.out.2.2.1 q (by rw [e, HN.out]; exact hq)
        have hz : zoneP n M = (some (narM n m'), 0) := by unfold zoneP; rw [HC.out]; simp only; rw [if_pos hall]
        have hag := HAG.out (narM n m') (by rw [hz])
        have hown := HR.out.own
        have hnar : narUp l p = flat n (narM n m') := by rw [HL.out, e, HN.out]; exact narUp_flat n m'
        rw [hnar] at hown
        have hlenf : (flat n (narM n m')).length = p := by rw [flat_length, ← HN.out, e]
        obtain ⟨A, cc, hv, hI⟩ := hown.slice
        rw [hlenf] at hv
        subst hv
        have HOF := Lib.hid (rof_len n A cc p (flat n (narM n m')) wr hlenf hI (by omega) (fun q hq => by
          have := (all_getD _ rightB 0).1 (flat_right (narM_right hall)) q hq
          exact right_bd32 this))
        rw [hag] at HOF
        have HZ := Lib.hid hz
        have HB0 := Lib.hid (HO.out.trans (HR.out.1.mono (Nat.le_trans hBw HO.out.size)))
        subst e
        clear hall hz hag hnar hlenf hown hI hca
        go_wp2_with fail
        refine HOF.out.mono ?_
        rintro e w2 ⟨hb, v, rfl, hv⟩
        have HB2 := Lib.hid (HB0.out.trans (hb.mono (Nat.le_trans hBw HB0.out.size)))
        have HV := Lib.hid hv
        clear hb hv
        go_wp2
        go_ret2
        exact ⟨HB2.out, v, by rw [HZ.out]; rfl, by rw [HZ.out]; exact HV.out⟩

end Go.Proofs.YtidcnlecgcobmaaDoor

/- The zone of cells under way. -/
namespace Go.Proofs.YtidcnlecgcobmaaDoor
open Go Go.RowKit
set_option linter.unusedVariables false
set_option linter.unusedSimpArgs false
attribute [local go_sem] min_ints max_ints

/-- The rows that shut has gathered. -/
def ShutR (w0 : World) (n : Nat) (m : Mat) (i : Nat) (v : Value) (wr : World) : Prop :=
  Below w0.heap.size w0 wr ∧ wr.ownsRow w0.heap.size 64 1 v (i * (n + 1)) (vals .i32 (rowsL n m i)) ∧ i ≤ n + 1

theorem ShutR.own {w0 wr : World} {n : Nat} {m : Mat} {v : Value} (h : ShutR w0 n m (n + 1) v wr) : OwnI wr w0.heap.size 64 .i32 v (flat n m) := by
  unfold OwnI
  rw [flat_length]
  exact h.2.1

set_option maxRecDepth 100000 in
set_option maxHeartbeats 1000000 in
theorem shut_any (b n : Nat) (m : Mat) (w : World) (hn : n ≤ 8) (h : MatAt w b 103 .i32 n m) (hk : ∀ i j, i < n + 1 → j < n + 1 → -2147483648 ≤ m i j ∧ m i j ≤ 2147483647) :
    Calls Tryd.prog 63 #[.pointer (some ⟨b, 0, none⟩)] w (MakesZ w n (ofP n (flat n m))) := by
  have h0 := h.head
  have H := Lib.hid h
  have HK := Lib.hid hk
  clear h hk
  obtain ⟨N, hN⟩ : ∃ N, N = (n + 1) * (n + 1) := ⟨_, rfl⟩
  have hN81 : N ≤ 81 := by
    have := Nat.mul_le_mul (show n + 1 ≤ 9 by omega) (show n + 1 ≤ 9 by omega)
    omega
  have g1 : IntKind.i64.wrap ((n : Int) + 1) = (n : Int) + 1 := IntWalk.i64_in _ (by omega)
  have g2 : ((n : Int) + 1) * ((n : Int) + 1) = (N : Int) := by rw [hN]; push_cast; rfl
  have g3 : IntKind.i64.wrap (N : Int) = (N : Int) := IntWalk.i64_in _ (by omega)
  have HN := Lib.hid hN
  obtain ⟨i0, hi1, hz0, hz1, hz2⟩ := info_parts infoB
  have hmk := run_make_own (P := Tryd.prog) w.drew w.heap.size 22 64 i0 (.int .i32 0) 1 Tryd.underlying22 hi1 hz0 hz1 .i64 .i64 N (by rw [hz2]; omega) (by unfold maxLen; omega) (Nat.le_refl _)
  obtain ⟨w1, hrun, hown, hgr⟩ := hmk
  have HI := Lib.hid (And.intro hi1 (And.intro hz0 (And.intro hz1 hz2)))
  have hrun' : (Instr.makeSlice 22 (.int .i64 0) (.int .i64 (N : Int))).run Tryd.prog w.drew = .ok (.slice (some ⟨w.heap.size, 0, none⟩) 0 N) w1 := hrun
  have hb1 : Below w.heap.size w w1 := (Below.drew (Below.refl w.heap.size w)).grown hgr (Nat.le_refl _) (fun k hk => by cases hk)
  have HS := Lib.hid (show ShutR w n m 0 (.slice (some ⟨w.heap.size, 0, none⟩) 0 N) w1 from ⟨hb1, by simpa [rowsL, vals] using hown, by omega⟩)
  have HM1 := Lib.hid (H.out.later hb1)
  have hd1 := HM1.out.head
  clear hN hi1 hz0 hz1 hz2 hown hgr hb1 hrun
  go_enter Tryd.func63, Tryd.ntmps63
  go_wp2_with fail
  go_region
  clear hrun' h0
  go_wp2
  go_loopg [4, 26] (n + 1) (fun g v x wr => ∃ i : Nat, x = .int .i64 i ∧ Hid (ShutR w n m i v wr) ∧ Hid (g + i = n + 1))
  case atStart => exact ⟨0, by simp, HS.out, by show _ = _; omega⟩
  case round =>
    clear HS HM1 hd1
    obtain ⟨i, rfl, HR, HG⟩ := hrel
    have HM := Lib.hid (H.out.later HR.out.1)
    have h0 := HM.out.head
    by_cases hi : i < n + 1
    · have hii : (i : Int) < (n : Int) + 1 := by omega
      have i9 : (i : Int) < 9 := by omega
      have n9 : (n : Int) + 1 ≤ 9 := by omega
      have D0 := Lib.hid (show wr.drew.cell? _ = _ from h0)
      have hin : i * (n + 1) ≤ 8 * 9 := Nat.mul_le_mul (by omega) (by omega)
      have hsl := slice_row b (1 + i * 9) n hn
      go_wp2_with fail
      refine wp_region_still_tail 13 (by kernel_rfl) (by kernel_rfl) ?_
      simp only [List.take_succ_cons, List.take_zero, List.drop_succ_cons, List.drop_zero]
      change wpStill _ _ wr.drew _ _ _
      generalize wr.drew = w2 at *
      have d0 := D0.out
      clear D0
      repeat still_step
      refine wpStill_nil ?_
      go_wp2_with (at_builtin; refine wpList_append_own _ rfl _ _ 22 rfl w.heap.size 64 i0 (.int .i32 0) 1 4 Tryd.underlying22 HI.out.1 HI.out.2.1 HI.out.2.2.1 HI.out.2.2.2 rfl (by decide) _ _ _ rfl (own_drew HR.out.2.1) ⟨b, 1 + i * 9, none⟩ (n + 1) 9 ((List.range (n + 1)).map (fun c => Value.int .i32 (m i c))) rfl (by simp) (row_cells HM.out.drew (by omega) hn) (by intro u hu; obtain ⟨c, _, rfl⟩ := List.mem_map.1 hu; rfl) ?c3 ?c4 ?c5 ?_)
      case c3 => unfold maxLen; omega
      case c4 => omega
      case c5 => exact HR.out.1.size
      intro v' w3 hown hgrow _
      have HS3 := Lib.hid (show ShutR w n m (i + 1) v' w3 from by
        refine ⟨(Below.drew HR.out.1).grown hgrow HR.out.1.size (fun k hk => ?_), ?_, by omega⟩
        · exact (HR.out.2.1.lt k hk).1
        · have e : (i + 1) * (n + 1) = i * (n + 1) + (n + 1) := by rw [Nat.add_mul]; omega
          rw [e]
          have e2 : vals .i32 (rowsL n m (i + 1)) = vals .i32 (rowsL n m i) ++ (List.range (n + 1)).map (fun c => Value.int .i32 (m i c)) := by
            simp [vals, rowsL]
          rw [e2, List.range_succ, List.map_append]; exact hown)
      clear hown hgrow
      go_wp2
      go_roundg (gk - 1)
      case measure => have h := HG.out; omega
      case rel => exact ⟨i + 1, by go_num, HS3.out, by have h := HG.out; show _ = _; omega⟩
    · have hii : ¬ (i : Int) < (n : Int) + 1 := by omega
      have e : i = n + 1 := by have := HR.out.2.2; omega
      subst e
      have hown := ShutR.own HR.out
      obtain ⟨A, c, rfl, hints⟩ := hown.slice
      have HOF := Lib.hid (of_any n A c (flat n m) wr hints (by rw [flat_length, ← HN.out]; omega) (fun q hq => by
        rw [flat_length] at hq
        rw [flat_getD _ _ _ hq]
        have a1 : q / (n + 1) < n + 1 := Nat.div_lt_of_lt_mul hq
        have a2 := Nat.mod_lt q (show 0 < n + 1 by omega)
        exact HK.out _ _ a1 a2))
      have HB := Lib.hid HR.out.1
      clear hown hints HR HM
      go_wp2_with fail
      refine HOF.out.mono ?_
      rintro e w2 ⟨hb, v, rfl, hv⟩
      have HV := Lib.hid hv
      have HB2 := Lib.hid (HB.out.trans (hb.mono HB.out.size))
      clear hb hv
      obtain ⟨ee, hee⟩ : ∃ ee, ee = (ofP n (flat n m)).2 := ⟨_, rfl⟩
      rw [← hee]
      have HE := Lib.hid hee
      clear hee
      go_wp2
      go_ret2
      exact ⟨HB2.out, v, by rw [HE.out]; rfl, HV.out⟩

end Go.Proofs.YtidcnlecgcobmaaDoor

/- When time passes. -/
namespace Go.Proofs.YtidcnlecgcobmaaDoor
open Go Go.RowKit
set_option linter.unusedVariables false
set_option linter.unusedSimpArgs false
attribute [local go_sem] min_ints max_ints

/-- All cells are numbers of 32 bits. -/
def Rng (n : Nat) (m : Mat) : Prop := ∀ i j, i < n + 1 → j < n + 1 → -2147483648 ≤ m i j ∧ m i j ≤ 2147483647
theorem rng_upd {n : Nat} {m : Mat} (h : Rng n m) (a b : Nat) (x : Int) (h0 : -2147483648 ≤ x) (h1 : x ≤ 2147483647) : Rng n (upd m a b x) := fun i j hi hj => by
  unfold upd
  by_cases e : i = a ∧ j = b
  · rw [if_pos e]; exact ⟨h0, h1⟩
  · rw [if_neg e]; exact h i j hi hj
/-- The opened cells of a zone. -/
def openW (z : Option (Nat × Mat)) : Mat := fillUp (dimN z) (cellsP z) (cellsP z).length
theorem openW_in {n : Nat} {m : Mat} {i j : Nat} (hi : i < n + 1) (hj : j < n + 1) : openW (some (n, m)) i j = m i j := by
  show fillUp n (flat n m) (flat n m).length i j = m i j
  unfold fillUp
  have hlt : i * (n + 1) + j < (n + 1) * (n + 1) := by
    have := Nat.mul_le_mul_right (n + 1) (show i ≤ n by omega)
    have e : (n + 1) * (n + 1) = n * (n + 1) + (n + 1) := by rw [Nat.add_mul]; omega
    omega
  rw [if_pos ⟨hi, hj, by rw [flat_length]; exact hlt⟩, flat_at m hi hj]
theorem rng_open {n : Nat} {m : Mat} (h : RightM n m) : Rng n (openW (some (n, m))) := fun i j hi hj => by
  rw [openW_in hi hj]
  have := h i j (by omega) (by omega)
  unfold rightB at this
  have := of_decide_eq_true this
  omega

/-- No bound on how great the first p clocks are. -/
def upUp (m : Mat) : Nat → Mat
  | 0 => m
  | p + 1 => if p = 0 then upUp m p else upd (upUp m p) p 0 2147483647
theorem rng_up {n : Nat} {m : Mat} (h : Rng n m) : ∀ p, Rng n (upUp m p)
  | 0 => h
  | p + 1 => by
    unfold upUp
    split
    · exact rng_up h p
    · exact rng_upd (rng_up h p) _ _ _ (by decide) (by decide)
/-- The cells behind Up. -/
def upW (z : Option (Nat × Mat)) : Mat := if emptyP z then openW z else upUp (openW z) (dimN z + 1)

theorem oempty_any (b n : Nat) (m : Mat) (w : World) (hm : MatAt w b 126 .i32 n m) : Calls Tryd.prog 39 #[.pointer (some ⟨b, 0, none⟩)] w fun e w' => e = .returned (.bool (emptyP (some (n, m)))) ∧ w = w' := empty_zone b n m w hm

set_option maxHeartbeats 1000000 in
set_option maxRecDepth 100000 in
theorem up_nil (w : World) : Calls Tryd.prog 20 #[.pointer none] w fun e w' => e = .returned (.tuple #[.pointer none, .int .i64 1]) ∧ w = w' := by
  go_enter Tryd.func20, Tryd.ntmps20
  go_wp2
  go_ret2
  exact ⟨rfl, rfl⟩

set_option maxHeartbeats 1000000 in
set_option maxRecDepth 100000 in
theorem up_zone (v : Value) (n : Nat) (m : Mat) (w : World) (h : ZoneV 126 w v (some (n, m))) : Calls Tryd.prog 20 #[v] w (MakesZ w n (ofP n (flat n (upW (some (n, m)))))) := by
  have HZ := Lib.hid h
  obtain ⟨b, rfl, hn, hr, hm⟩ := h
  have hl : (cellsP (some (n, m))).length ≤ 81 := cellsP_short _ fun k m' e => by simp at e; omega
  have HO := Lib.hid (fun w h => oopen_any (.pointer (some ⟨b, 0, none⟩)) (some (n, m)) w h hn hl)
  have HM := Lib.hid hm
  have HRG := Lib.hid (rng_open hr)
  have HSH := Lib.hid (fun c m' w h hk => shut_any c n m' w hn h hk)
  clear hm hl hr
  go_enter Tryd.func20, Tryd.ntmps20
  go_wp2_with fail
  refine (HO.out _ HZ.out).mono ?_
  rintro e w1 ⟨rfl, hb, hw⟩
  have HB1 := Lib.hid hb
  have HW1 := Lib.hid (show MatAt w1 w.heap.size 103 .i32 n (openW (some (n, m))) from hw)
  have HM1 := Lib.hid (HM.out.later hb)
  clear hb hw HM HZ HO
  go_wp2_with fail
  refine (oempty_any b n m _ HM1.out).mono ?_
  cases he : emptyP (some (n, m)) with
  | true =>
    have HEQ := Lib.hid (show upW (some (n, m)) = openW (some (n, m)) by unfold upW; rw [if_pos he])
    rintro e w2 ⟨rfl, rfl⟩
    go_wp2_with fail
    refine (HSH.out _ _ _ HW1.out HRG.out).mono ?_
    rintro e w2 hz
    have HZ2 := Lib.hid hz
    obtain ⟨hb, v, rfl, hv⟩ := hz
    have HB2 := Lib.hid (HB1.out.trans (hb.mono HB1.out.size))
    clear hb hv
    go_wp2
    go_ret2
    rw [HEQ.out]
    exact ⟨HB2.out, HZ2.out.2⟩
  | false =>
    have HEQ := Lib.hid (show upW (some (n, m)) = upUp (openW (some (n, m))) (n + 1) by unfold upW; rw [if_neg (by simp [he])]; rfl)
    rintro e w2 ⟨rfl, rfl⟩
    obtain ⟨M, hM⟩ : ∃ M, M = openW (some (n, m)) := ⟨_, rfl⟩
    rw [← hM] at HEQ HW1 HRG
    clear hM he HM1
    go_wp2
    go_loopg [5] n (fun g v wr => ∃ p : Nat, v = .int .i64 p ∧ Hid (Only w.heap.size w1 wr ∧ MatAt wr w.heap.size 103 .i32 n (upUp M p)) ∧ Hid (1 ≤ p ∧ p ≤ n + 1 ∧ g + p = n + 1))
    case atStart => exact ⟨1, by simp, ⟨Only.refl _ _, HW1.out⟩, by omega, by omega, by omega⟩
    case round =>
      clear HW1
      obtain ⟨p, rfl, HR, HG⟩ := hrel
      have c0 := HR.out.2.head
      have hlt := HR.out.2.lt
      by_cases hp : p ≤ n
      · have hpi : (p : Int) ≤ (n : Int) := by omega
        have hp9 : (p : Int) < 9 := by omega
        have c1 := HR.out.2.cell p 0 (by omega) (by omega)
        have f1 := HR.out.2.frozen (1 + p * 9)
        simp only [Nat.add_zero] at c1
        go_wp2
        go_roundg (gk - 1)
        case measure => have h := HG.out; omega
        case rel =>
          refine ⟨p + 1, by go_num, ⟨HR.out.1.setCell _ _, ?_⟩, by omega, by omega, by have h := HG.out; omega⟩
          have e : upUp M (p + 1) = upd (upUp M p) p 0 2147483647 := by
            have h := HG.out
            rw [upUp, if_neg (by omega)]
          rw [e]
          exact HR.out.2.set p 0 (by omega) (by omega) _
      · have e : p = n + 1 := by have := HG.out; omega
        subst e
        have hpi : ¬ (((n + 1 : Nat) : Int) ≤ (n : Int)) := by omega
        have HB2 := Lib.hid (HB1.out.trans (HR.out.1.below (Nat.le_refl _) HB1.out.size))
        go_wp2_with fail
        refine (HSH.out _ _ _ HR.out.2 (rng_up HRG.out _)).mono ?_
        rintro e w2 hz
        have HZ2 := Lib.hid hz
        obtain ⟨hb, v, rfl, hv⟩ := hz
        have HB3 := Lib.hid (HB2.out.trans (hb.mono HB2.out.size))
        clear hb hv
        go_wp2
        go_ret2
        rw [HEQ.out]
        exact ⟨HB3.out, HZ2.out.2⟩

end Go.Proofs.YtidcnlecgcobmaaDoor

/- All from which time leads to a zone. -/
namespace Go.Proofs.YtidcnlecgcobmaaDoor
open Go Go.RowKit
set_option linter.unusedVariables false
set_option linter.unusedSimpArgs false
attribute [local go_sem] min_ints max_ints

theorem rng_less {n : Nat} {m : Mat} (h : Rng n m) (a b : Nat) (ha : a < n + 1) (hb : b < n + 1) (x : Int) (h0 : -2147483648 ≤ x) (h1 : x ≤ 2147483647) : Rng n (lessM m a b x) := by
  have := h a b ha hb
  unfold lessM
  exact rng_upd h a b _ (by omega) (by omega)
/-- Column i made as strict as the first j cells. -/
def downIn (m : Mat) (i : Nat) : Nat → Mat
  | 0 => m
  | j + 1 => if j = 0 then downIn m i j else lessM (downIn m i j) 0 i (downIn m i j j i)
def downUp (n : Nat) (m : Mat) : Nat → Mat
  | 0 => m
  | i + 1 => if i = 0 then downUp n m i else downIn (upd (downUp n m i) 0 i 1) i (n + 1)
theorem rng_downIn {n : Nat} {m : Mat} (h : Rng n m) (i : Nat) (hi : i < n + 1) : ∀ j, j ≤ n + 1 → Rng n (downIn m i j)
  | 0, _ => h
  | j + 1, hj => by
    have := rng_downIn h i hi j (by omega)
    unfold downIn
    split
    · exact this
    · exact rng_less this 0 i (by omega) hi _ (this j i (by omega) hi).1 (this j i (by omega) hi).2
theorem rng_down {n : Nat} {m : Mat} (h : Rng n m) : ∀ i, i ≤ n + 1 → Rng n (downUp n m i)
  | 0, _ => h
  | i + 1, hi => by
    have := rng_down h i (by omega)
    unfold downUp
    split
    · exact this
    · exact rng_downIn (rng_upd this _ _ _ (by decide) (by decide)) i (by omega) _ (Nat.le_refl _)
/-- The cells behind Down. -/
def downW (z : Option (Nat × Mat)) : Mat := if emptyP z then openW z else downUp (dimN z) (openW z) (dimN z + 1)

set_option maxHeartbeats 1000000 in
set_option maxRecDepth 100000 in
theorem down_nil (w : World) : Calls Tryd.prog 22 #[.pointer none] w fun e w' => e = .returned (.tuple #[.pointer none, .int .i64 1]) ∧ w = w' := by
  go_enter Tryd.func22, Tryd.ntmps22
  go_wp2
  go_ret2
  exact ⟨rfl, rfl⟩

set_option maxHeartbeats 1000000 in
set_option maxRecDepth 100000 in
theorem down_zone (v : Value) (n : Nat) (m : Mat) (w : World) (h : ZoneV 126 w v (some (n, m))) : Calls Tryd.prog 22 #[v] w (MakesZ w n (ofP n (flat n (downW (some (n, m)))))) := by
  have HZ := Lib.hid h
  obtain ⟨b, rfl, hn, hr, hm⟩ := h
  have hl : (cellsP (some (n, m))).length ≤ 81 := cellsP_short _ fun k m' e => by simp at e; omega
  have HO := Lib.hid (fun w h => oopen_any (.pointer (some ⟨b, 0, none⟩)) (some (n, m)) w h hn hl)
  have HM := Lib.hid hm
  have HRG := Lib.hid (rng_open hr)
  have HSH := Lib.hid (fun c m' w h hk => shut_any c n m' w hn h hk)
  clear hm hl hr
  go_enter Tryd.func22, Tryd.ntmps22
  go_wp2_with fail
  refine (HO.out _ HZ.out).mono ?_
  rintro e w1 ⟨rfl, hb, hw⟩
  have HB1 := Lib.hid hb
  have HW1 := Lib.hid (show MatAt w1 w.heap.size 103 .i32 n (openW (some (n, m))) from hw)
  have HM1 := Lib.hid (HM.out.later hb)
  clear hb hw HM HZ HO
  go_wp2_with fail
  refine (oempty_any b n m _ HM1.out).mono ?_
  cases he : emptyP (some (n, m)) with
  | true =>
    have HEQ := Lib.hid (show downW (some (n, m)) = openW (some (n, m)) by unfold downW; rw [if_pos he])
    rintro e w2 ⟨rfl, rfl⟩
    go_wp2_with fail
    refine (HSH.out _ _ _ HW1.out HRG.out).mono ?_
    rintro e w2 hz
    have HZ2 := Lib.hid hz
    obtain ⟨hb, v, rfl, hv⟩ := hz
    have HB2 := Lib.hid (HB1.out.trans (hb.mono HB1.out.size))
    clear hb hv
    go_wp2
    go_ret2
    rw [HEQ.out]
    exact ⟨HB2.out, HZ2.out.2⟩
  | false =>
    have HEQ := Lib.hid (show downW (some (n, m)) = downUp n (openW (some (n, m))) (n + 1) by unfold downW; rw [if_neg (by simp [he])]; rfl)
    rintro e w2 ⟨rfl, rfl⟩
    obtain ⟨M, hM⟩ : ∃ M, M = openW (some (n, m)) := ⟨_, rfl⟩
    rw [← hM] at HEQ HW1 HRG
    clear hM he HM1
    go_wp2
    go_loopg [5] n (fun g v wr => ∃ p : Nat, v = .int .i64 p ∧ Hid (Only w.heap.size w1 wr ∧ MatAt wr w.heap.size 103 .i32 n (downUp n M p)) ∧ Hid (1 ≤ p ∧ p ≤ n + 1 ∧ g + p = n + 1))
    case atStart => exact ⟨1, by simp, ⟨Only.refl _ _, HW1.out⟩, by omega, by omega, by omega⟩
    case round =>
      clear HW1
      obtain ⟨p, rfl, HR, HG⟩ := hrel
      have c0 := HR.out.2.head
      have hlt := HR.out.2.lt
      by_cases hp : p ≤ n
      · have hpi : (p : Int) ≤ (n : Int) := by omega
        have hp9 : (p : Int) < 9 := by omega
        have c1 := HR.out.2.cell 0 p (by omega) (by omega)
        have f1 := HR.out.2.frozen (1 + p)
        simp only [Nat.zero_mul, Nat.add_zero] at c1
        go_wp2_with fail
        have HM2 := Lib.hid (HR.out.2.set 0 p (by omega) (by omega) 1)
        have HO2 := Lib.hid (HR.out.1.setCell (1 + p) (.int .i32 1))
        simp only [Nat.zero_mul, Nat.add_zero] at HM2
        generalize wr.setCell ⟨w.heap.size, 1 + p, none⟩ (.int .i32 1) = w3 at *
        go_loopg [6] n (fun g v wr => ∃ q : Nat, v = .int .i64 q ∧ Hid (Only w.heap.size w1 wr ∧ MatAt wr w.heap.size 103 .i32 n (downIn (upd (downUp n M p) 0 p 1) p q)) ∧ Hid (1 ≤ q ∧ q ≤ n + 1 ∧ g + q = n + 1))
        case atStart => exact ⟨1, by simp, ⟨HO2.out, HM2.out⟩, by omega, by omega, by omega⟩
        case round =>
          clear HM2 HO2 c0 hlt c1 f1
          obtain ⟨q, rfl, HS, HH⟩ := hrel
          have c0 := HS.out.2.head
          have hlt := HS.out.2.lt
          by_cases hq : q ≤ n
          · have hqi : (q : Int) ≤ (n : Int) := by omega
            have hq9 : (q : Int) < 9 := by omega
            have c1 := HS.out.2.cell q p (by omega) (by omega)
            obtain ⟨x, hx⟩ : ∃ x, x = downIn (upd (downUp n M p) 0 p 1) p q q p := ⟨_, rfl⟩
            rw [← hx] at c1
            have HX := Lib.hid hx
            clear hx
            go_wp2_with fail
            refine (less_any w.heap.size 0 p n _ x _ (by omega) (by omega) HS.out.2).mono ?_
            rintro e w4 ⟨rfl, ho, hm⟩
            have HS4 := Lib.hid (And.intro (HS.out.1.trans ho) hm)
            clear ho hm
            go_wp2
            go_roundg (gk - 1)
            case measure => have h := HH.out; omega
            case rel =>
              refine ⟨q + 1, by go_num, ⟨HS4.out.1, ?_⟩, by omega, by omega, by have h := HH.out; omega⟩
              have e : downIn (upd (downUp n M p) 0 p 1) p (q + 1) = lessM (downIn (upd (downUp n M p) 0 p 1) p q) 0 p x := by
                have h := HH.out
                rw [downIn, if_neg (by omega), HX.out]
              rw [e]
              exact HS4.out.2
          · have e : q = n + 1 := by have := HH.out; omega
            subst e
            have hqi : ¬ (((n + 1 : Nat) : Int) ≤ (n : Int)) := by omega
            go_wp2
            go_roundg (n - p)
            case measure => have h := HG.out; omega
            case rel =>
              refine ⟨p + 1, by go_num, ⟨HS.out.1, ?_⟩, by omega, by omega, by have h := HG.out; omega⟩
              have e : downUp n M (p + 1) = downIn (upd (downUp n M p) 0 p 1) p (n + 1) := by
                have h := HG.out
                rw [downUp, if_neg (by omega)]
              rw [e]
              exact HS.out.2
      · have e : p = n + 1 := by have := HG.out; omega
        subst e
        have hpi : ¬ (((n + 1 : Nat) : Int) ≤ (n : Int)) := by omega
        have HB2 := Lib.hid (HB1.out.trans (HR.out.1.below (Nat.le_refl _) HB1.out.size))
        go_wp2_with fail
        refine (HSH.out _ _ _ HR.out.2 (rng_down HRG.out _ (Nat.le_refl _))).mono ?_
        rintro e w2 hz
        have HZ2 := Lib.hid hz
        obtain ⟨hb, v, rfl, hv⟩ := hz
        have HB3 := Lib.hid (HB2.out.trans (hb.mono HB2.out.size))
        clear hb hv
        go_wp2
        go_ret2
        rw [HEQ.out]
        exact ⟨HB3.out, HZ2.out.2⟩

end Go.Proofs.YtidcnlecgcobmaaDoor
