/- Texts of ours, laid together: Df, Dg, Bl, Dh, Py, Ap, Ot, Ph, Pu. -/
import Derived.Deep.MidRow
import Derived.Test.YtncgapnooabdgaaDoorProg
import Derived.Lib.Hide
import Derived.Deep.LoopGhost
import Derived.Deep.QuietTactic
import Derived.BigQuiet
import Derived.BigRegion
import Derived.StillTailTactics
import Derived.KernelRfl
import Derived.Deep.RegionHeld3
import Derived.WalkKit
import Derived.Test.YtncgapnooabdgaaDoorMg2
/- Does a zone include another one? -/
namespace Go.Proofs.YtncgapnooabdgaaDoor
open Go.RowKit
set_option linter.unusedVariables false
set_option linter.unusedSimpArgs false

theorem empty_yes (b n : Nat) (m : Mat) (w : World) (h : MatAt w b 88 .i32 n m) (hm : m 0 0 < 1) : Calls Tryd.prog 23 #[.pointer (some ⟨b, 0, none⟩)] w fun e w' => e = .returned (.bool true) ∧ w' = w :=
  (empty_zone b n m w h).mono fun _ _ k => ⟨by rw [k.1, decide_eq_true hm], k.2.symm⟩
theorem empty_no (b n : Nat) (m : Mat) (w : World) (h : MatAt w b 88 .i32 n m) (hm : ¬ m 0 0 < 1) : Calls Tryd.prog 23 #[.pointer (some ⟨b, 0, none⟩)] w fun e w' => e = .returned (.bool false) ∧ w' = w :=
  (empty_zone b n m w h).mono fun _ _ k => ⟨by rw [k.1, decide_eq_false hm], k.2.symm⟩

/-- Is o in m? -/
def inclM (n : Nat) (m o : Mat) : Bool := decide (o 0 0 < 1 ∨ ∀ i, i ≤ n → ∀ j, j ≤ n → o i j ≤ m i j)
def inclP (z o : Option (Nat × Mat)) : Bool := match z, o with
  | some (n, m), some (k, o) => decide (n = k) && inclM n m o
  | _, _ => false

/-- What was there is there; so far no cell of o is greater. -/
def InclR (w0 : World) (n : Nat) (m o : Mat) (i j : Nat) (wr : World) : Prop :=
  Below w0.heap.size w0 wr ∧ (∀ a c, a < i ∨ (a = i ∧ c < j) → c ≤ n → o a c ≤ m a c) ∧ i ≤ n + 1 ∧ j ≤ n + 1

set_option maxRecDepth 100000 in
set_option maxHeartbeats 2000000 in
theorem incl_full (b c n : Nat) (m o : Mat) (w : World) (hn : n ≤ 8) (h : MatAt w b 88 .i32 n m) (h' : MatAt w c 88 .i32 n o) (he : ¬ o 0 0 < 1) :
    Calls Tryd.prog 29 #[.pointer (some ⟨b, 0, none⟩), .pointer (some ⟨c, 0, none⟩)] w fun e w' => e = .returned (.bool (inclM n m o)) ∧ Below w.heap.size w w' := by
  have H := Lib.hid h
  have H' := Lib.hid h'
  have HE := Lib.hid he
  clear h h' he
  go_enter Tryd.func29, Tryd.ntmps29
  go_wp2_with fail
  refine (alike_two b n c n m o _ H.out H'.out).mono ?_
  rintro e w1 ⟨rfl, q, rfl⟩
  have hd : decide ((n : Int) = n) = true := decide_eq_true rfl
  have h0 := (H.out.drewN q).head
  have HS := Lib.hid (show InclR w n m o 0 0 (w.drewN q) from ⟨belowN (Below.refl _ _) q, fun a c h => by omega, by omega, by omega⟩)
  generalize w.drewN q = wq at *
  go_wp2
  clear hd
  go_loopg [17] (n + 1) (fun g v wr => ∃ i : Nat, v = .int .i64 i ∧ InclR w n m o i 0 wr ∧ Hid (g + i = n + 1))
  case atStart => exact ⟨0, by simp, HS.out, by show _ = _; omega⟩
  case round =>
    clear HS h0
    obtain ⟨i, rfl, HA, HG⟩ := hrel
    have HI := Lib.hid HA
    have h0 := (H.out.later HA.1).head
    clear HA
    by_cases hi : i < n + 1
    · have hii : (i : Int) < (n : Int) + 1 := by omega
      go_wp2
      go_loopg [26] (n + 1) (fun g v wr => ∃ j : Nat, v = .int .i64 j ∧ InclR w n m o i j wr ∧ Hid (g + j = n + 1))
      case atStart => exact ⟨0, by simp, HI.out, by show _ = _; omega⟩
      case round =>
        clear HI h0
        obtain ⟨j, rfl, HA, HG2⟩ := hrel
        have HJ := Lib.hid HA
        by_cases hj : j < n + 1
        · have hjj : (j : Int) < (n : Int) + 1 := by omega
          have c1 := (H.out.later HA.1).cell i j (by omega) (by omega)
          have c2 := (H'.out.later HA.1).cell i j (by omega) (by omega)
          have HO := Lib.hid (H'.out.later HA.1)
          have i9 : (i : Int) < 9 := by omega
          have j9 : (j : Int) < 9 := by omega
          clear HA
          go_wp2_with fail
          go_quiet ((go_at_call 23; exact Calls.quiet_of_same (empty_no c n o _ (by exact HO.out.drewN _) (by have h := HE.out; omega))))
          by_cases hc : m i j < o i j
          · have d1 : decide (m i j < o i j) = true := decide_eq_true hc
            go_wp2
            go_ret
            have hf : inclM n m o = false := by
              unfold inclM
              rw [decide_eq_false_iff_not]
              rintro (h1 | h1)
              · have h2 := HE.out; omega
              · have := h1 i (by omega) j (by omega); omega
            exact ⟨by rw [hf]; rfl, belowN HJ.out.1 _⟩
          · have d1 : decide (m i j < o i j) = false := decide_eq_false hc
            go_wp2
            go_roundg (gk - 1)
            case measure => have h := HG2.out; omega
            case rel =>
              refine ⟨j + 1, by go_num, ⟨belowN HJ.out.1 _, fun a e hae he => ?_, HJ.out.2.2.1, by omega⟩, by have h := HG2.out; show _ = _; omega⟩
              by_cases e2 : a = i ∧ e = j
              · obtain ⟨rfl, rfl⟩ := e2; omega
              · exact HJ.out.2.1 a e (by omega) he
        · have hjj : ¬ (j : Int) < (n : Int) + 1 := by omega
          clear HA
          go_wp2
          go_roundg (n - i)
          case measure => have h := HG.out; omega
          case rel => exact ⟨i + 1, by go_num, ⟨HJ.out.1, fun a e hae he => HJ.out.2.1 a e (by omega) he, by omega, by omega⟩, by show _ = _; omega⟩
    · have hii : ¬ (i : Int) < (n : Int) + 1 := by omega
      go_wp2
      go_ret
      have hf : inclM n m o = true := by
        unfold inclM
        rw [decide_eq_true_iff]
        right
        intro a ha e he
        exact HI.out.2.1 a e (by omega) he
      exact ⟨by rw [hf]; rfl, HI.out.1⟩

set_option maxRecDepth 100000 in
set_option maxHeartbeats 2000000 in
theorem incl_none (b c n : Nat) (m o : Mat) (w : World) (hn : n ≤ 8) (h : MatAt w b 88 .i32 n m) (h' : MatAt w c 88 .i32 n o) (he : o 0 0 < 1) :
    Calls Tryd.prog 29 #[.pointer (some ⟨b, 0, none⟩), .pointer (some ⟨c, 0, none⟩)] w fun e w' => e = .returned (.bool (inclM n m o)) ∧ Below w.heap.size w w' := by
  have hf : inclM n m o = true := by unfold inclM; rw [decide_eq_true_iff]; exact .inl he
  rw [hf]
  clear hf
  have H := Lib.hid h
  have H' := Lib.hid h'
  have HE := Lib.hid he
  clear h h' he
  go_enter Tryd.func29, Tryd.ntmps29
  go_wp2_with fail
  refine (alike_two b n c n m o _ H.out H'.out).mono ?_
  rintro e w1 ⟨rfl, q, rfl⟩
  have hd : decide ((n : Int) = n) = true := decide_eq_true rfl
  have h0 := (H.out.drewN q).head
  have HS := Lib.hid (show Below w.heap.size w (w.drewN q) from belowN (Below.refl _ _) q)
  generalize w.drewN q = wq at *
  go_wp2
  clear hd
  go_loopg [17] (n + 1) (fun g v wr => ∃ i : Nat, v = .int .i64 i ∧ Below w.heap.size w wr ∧ Hid (g + i = n + 1))
  case atStart => exact ⟨0, by simp, HS.out, by show _ = _; omega⟩
  case round =>
    clear HS h0
    obtain ⟨i, rfl, HA, HG⟩ := hrel
    have HI := Lib.hid HA
    have h0 := (H.out.later HA).head
    clear HA
    by_cases hi : i < n + 1
    · have hii : (i : Int) < (n : Int) + 1 := by omega
      go_wp2
      go_loopg [26] (n + 1) (fun g v wr => ∃ j : Nat, v = .int .i64 j ∧ Below w.heap.size w wr ∧ Hid (g + j = n + 1))
      case atStart => exact ⟨0, by simp, HI.out, by show _ = _; omega⟩
      case round =>
        clear HI h0
        obtain ⟨j, rfl, HA, HG2⟩ := hrel
        have HJ := Lib.hid HA
        have HO := Lib.hid (H'.out.later HA)
        clear HA
        by_cases hj : j < n + 1
        · have hjj : (j : Int) < (n : Int) + 1 := by omega
          go_wp2_with fail
          go_quiet ((go_at_call 23; exact Calls.quiet_of_same (empty_yes c n o _ (by exact HO.out.drewN _) (by have h := HE.out; omega))))
          go_wp2
          go_roundg (gk - 1)
          case measure => have h := HG2.out; omega
          case rel => exact ⟨j + 1, by go_num, belowN HJ.out _, by have h := HG2.out; show _ = _; omega⟩
        · have hjj : ¬ (j : Int) < (n : Int) + 1 := by omega
          go_wp2
          go_roundg (n - i)
          case measure => have h := HG.out; omega
          case rel => exact ⟨i + 1, by go_num, HJ.out, by show _ = _; omega⟩
    · have hii : ¬ (i : Int) < (n : Int) + 1 := by omega
      go_wp2
      go_ret
      exact ⟨rfl, HI.out⟩

set_option maxRecDepth 100000 in
set_option maxHeartbeats 1000000 in
theorem incl_unlike (b c n k : Nat) (m o : Mat) (w : World) (h : MatAt w b 88 .i32 n m) (h' : MatAt w c 88 .i32 k o) (hne : n ≠ k) :
    Calls Tryd.prog 29 #[.pointer (some ⟨b, 0, none⟩), .pointer (some ⟨c, 0, none⟩)] w fun e w' => e = .returned (.bool false) ∧ Below w.heap.size w w' := by
  have hd : decide ((n : Int) = k) = false := decide_eq_false (by omega)
  go_enter Tryd.func29, Tryd.ntmps29
  go_wp2_with fail
  refine (alike_two b n c k m o _ h h').mono ?_
  rintro e w1 ⟨rfl, q, rfl⟩
  clear h h'
  go_wp2
  go_ret
  exact ⟨rfl, belowN (Below.refl _ _) q⟩
set_option maxRecDepth 100000 in
set_option maxHeartbeats 1000000 in
theorem incl_nil (v : Value) (w : World) : Calls Tryd.prog 29 #[.pointer none, v] w fun e w' => e = .returned (.bool false) ∧ Below w.heap.size w w' := by
  go_enter Tryd.func29, Tryd.ntmps29
  go_wp2_with fail
  refine (alike_nil v _).mono ?_
  rintro e w1 ⟨rfl, q, rfl⟩
  go_wp2
  go_ret
  exact ⟨rfl, belowN (Below.refl _ _) q⟩
set_option maxRecDepth 100000 in
set_option maxHeartbeats 1000000 in
theorem incl_ofnil (b n : Nat) (m : Mat) (w : World) (h : MatAt w b 88 .i32 n m) : Calls Tryd.prog 29 #[.pointer (some ⟨b, 0, none⟩), .pointer none] w fun e w' => e = .returned (.bool false) ∧ Below w.heap.size w w' := by
  go_enter Tryd.func29, Tryd.ntmps29
  go_wp2_with fail
  refine (alike_none b n m _ h).mono ?_
  rintro e w1 ⟨rfl, q, rfl⟩
  clear h
  go_wp2
  go_ret
  exact ⟨rfl, belowN (Below.refl _ _) q⟩

/-- Includes, of any two. -/
theorem includes_any (v v' : Value) (z o : Option (Nat × Mat)) (w : World) (h : ZoneV 88 w v z) (h' : ZoneV 88 w v' o) :
    Calls Tryd.prog 29 #[v, v'] w fun e w' => e = .returned (.bool (inclP z o)) ∧ Below w.heap.size w w' := by
  match z, h with
  | none, h =>
    have h : v = .pointer none := h
    subst h
    exact incl_nil v' w
  | some (n, m), ⟨b, e, hn, _, hm⟩ =>
    subst e
    match o, h' with
    | none, h' =>
      have h' : v' = .pointer none := h'
      subst h'
      exact incl_ofnil b n m w hm
    | some (k, o), ⟨c, e, _, _, ho⟩ =>
      subst e
      by_cases hk : n = k
      · subst hk
        have e : inclP (some (n, m)) (some (n, o)) = inclM n m o := by simp [inclP]
        rw [e]
        by_cases he : o 0 0 < 1
        · exact incl_none b c n m o w hn hm ho he
        · exact incl_full b c n m o w hn hm ho he
      · have e : inclP (some (n, m)) (some (k, o)) = false := by simp [inclP, hk]
        rw [e]
        exact incl_unlike b c n k m o w hm ho hk

end Go.Proofs.YtncgapnooabdgaaDoor

/- Are two zones the same? Their arrays are held against one another as wholes. -/
namespace Go.Proofs.YtncgapnooabdgaaDoor
open Go Go.RowKit
set_option linter.unusedVariables false
set_option linter.unusedSimpArgs false
section
variable {P : Program}
theorem eq_loop (d : Nat) (E n : Nat) (xs ys : Array Value) (f : Nat → Bool) (L : List Nat)
    (hpart : ∀ i, i ∈ L → ∀ w, ∃ a b, (part E xs (i * n)).run P w = .ok a w ∧ (part E ys (i * n)).run P w = .ok b w ∧ (Op.equalIn d E a b).run P w = .ok (f i) w) : ∀ (w : World),
    Sem.run P (forIn L ((none, ()) : Option Bool × Unit) fun i (__s : Option Bool × Unit) => (do
            let __do_lift ← part E xs (i * n)
            let __do_lift_1 ← part E ys (i * n)
            let __do_lift ← Op.equalIn d E __do_lift __do_lift_1
            if (!__do_lift) = true then pure (ForInStep.done ((some false, ()) : Option Bool × Unit)) else pure (ForInStep.yield ((none, ()) : Option Bool × Unit)) : Sem (ForInStep (Option Bool × Unit))))
          w = .ok (if L.all f then (none, ()) else (some false, ())) w := by
  induction L with
  | nil => intro w; simp
  | cons i L ih =>
    intro w
    obtain ⟨a, b, h1, h2, h3⟩ := hpart i (by simp) w
    simp only [List.forIn_cons, Sem.run_bind, h1, h2, h3, Result.andThen_ok]
    cases hf : f i with
    | false => simp [hf]
    | true =>
      simp only [Bool.not_true, Bool.false_eq_true, if_false, Sem.run_pure, Result.andThen_ok]
      rw [ih (fun j hj => hpart j (by simp [hj])) w]
      simp [hf]
/-- Equality of arrays, element by element. -/
theorem run_eq_array (d : Nat) (T len E n : Nat) (hu : P.underlying T = some (.array len E)) (hs : ∀ w, (sizeOf E).run P w = .ok n w) (xs ys : Array Value) (f : Nat → Bool)
    (hpart : ∀ i, i < len → ∀ w, ∃ a b, (part E xs (i * n)).run P w = .ok a w ∧ (part E ys (i * n)).run P w = .ok b w ∧ (Op.equalIn d E a b).run P w = .ok (f i) w) (w : World) :
    (Op.equalIn (d + 1) T (.agg xs) (.agg ys)).run P w = .ok ((List.range len).all f) w := by
  simp only [Op.equalIn, Sem.run_bind, run_underlying hu, Result.andThen_ok, hs]
  rw [Std.Legacy.Range.forIn_eq_forIn_range']
  simp only [Std.Legacy.Range.size, Nat.sub_zero, Nat.add_sub_cancel, Nat.div_one]
  rw [← List.range_eq_range', eq_loop d E n xs ys f (List.range len) (fun i hi => hpart i (by simpa using hi)) w]
  cases h : (List.range len).all f <;> simp
theorem part_cell (E : Nat) (xs : Array Value) (o : Nat) (v : Value) (ha : ∀ w, (isAgg E).run P w = .ok false w) (hv : xs[o]? = some v) (w : World) : (part E xs o).run P w = .ok v w := by
  simp [part, ha, hv]
theorem part_row (E s : Nat) (xs : Array Value) (o : Nat) (ha : ∀ w, (isAgg E).run P w = .ok true w) (hs : ∀ w, (sizeOf E).run P w = .ok s w) (w : World) : (part E xs o).run P w = .ok (.agg (xs.extract o (o + s))) w := by
  simp [part, ha, hs]
end

/-- The 81 cells as a list. -/
def cellsOf (k : IntKind) (m : Mat) : List Value := (List.range 81).map fun p => Value.int k (m (p / 9) (p % 9))
def eqM (m o : Mat) : Bool := (List.range 9).all fun i => (List.range 9).all fun j => m i j == o i j
theorem cellsOf_get (k : IntKind) (m : Mat) (p : Nat) (hp : p < 81) : (cellsOf k m).toArray[p]? = some (.int k (m (p / 9) (p % 9))) := by
  simp [cellsOf, hp]
theorem range_mat {w : World} {b n : Nat} {T : TypeId} {k : IntKind} {m : Mat} (h : MatAt w b T k n m) : w.rangeAt b 1 (cellsOf k m) := by
  intro j v hv
  by_cases hj : j < 81
  · simp [cellsOf, hj] at hv
    subst hv
    have := h.cell (j / 9) (j % 9) (by omega) (by omega)
    have e : 1 + j / 9 * 9 + j % 9 = 1 + j := by omega
    rw [e] at this; exact this
  · simp [cellsOf, hj] at hv

theorem eq_row (d : Nat) (m o : Mat) (i : Nat) (hi : i < 9) (w : World) :
    (Op.equalIn (d + 2) 83 (.agg ((cellsOf .i32 m).toArray.extract (i * 9) (i * 9 + 9))) (.agg ((cellsOf .i32 o).toArray.extract (i * 9) (i * 9 + 9)))).run Tryd.prog w =
      .ok ((List.range 9).all fun j => m i j == o i j) w := by
  refine run_eq_array (P := Tryd.prog) (d + 1) 83 9 44 1 Tryd.underlying83 (fun w => by kernel_rfl) _ _ _ (fun j hj w => ?_) w
  have e1 : (i * 9 + j) / 9 = i := by omega
  have e2 : (i * 9 + j) % 9 = j := by omega
  refine ⟨.int .i32 (m i j), .int .i32 (o i j), ?_, ?_, ?_⟩
  · refine part_cell _ _ _ _ (fun w => by kernel_rfl) ?_ w
    rw [Array.getElem?_extract, if_pos (by simp [cellsOf]; omega), Nat.mul_one, cellsOf_get _ _ _ (by omega), e1, e2]
  · refine part_cell _ _ _ _ (fun w => by kernel_rfl) ?_ w
    rw [Array.getElem?_extract, if_pos (by simp [cellsOf]; omega), Nat.mul_one, cellsOf_get _ _ _ (by omega), e1, e2]
  · exact run_equalIn_int w d _ .i32 .i32 _ _ Tryd.underlying44
theorem eq_mat (d : Nat) (m o : Mat) (w : World) :
    (Op.equalIn (d + 3) 84 (.agg (cellsOf .i32 m).toArray) (.agg (cellsOf .i32 o).toArray)).run Tryd.prog w = .ok (eqM m o) w :=
  run_eq_array (P := Tryd.prog) (d + 2) 84 9 83 9 Tryd.underlying84 (fun w => by kernel_rfl) _ _ _ (fun i hi w =>
    ⟨_, _, part_row _ 9 _ _ (fun w => by kernel_rfl) (fun w => by kernel_rfl) w, part_row _ 9 _ _ (fun w => by kernel_rfl) (fun w => by kernel_rfl) w, eq_row d m o i hi w⟩) w

theorem load_mat {w : World} {b n : Nat} {m : Mat} (h : MatAt w b 88 .i32 n m) :
    (Instr.loadAt 84 (.pointer (some ⟨b, 1, none⟩))).run Tryd.prog w = .ok (.agg (cellsOf .i32 m).toArray) w :=
  run_loadAt_mid w b 1 _ _ _ (range_mat h) Tryd.underlying84 rfl (by simp only [cellsOf, List.length_map, List.length_range]; kernel_rfl)

theorem quiet_value {P : Program} {ops : Array Oper} {w : World} {Q : Act → Prop} {a : Act} {o : Oper} {rest : List Oper} (v : Value) (hw : Region.wanted o (yielded ops a.tmps) = true)
    (hr : ∀ q, (execOp a.eval o).run P (w.drewN q) = .ok (.value v) (w.drewN q)) (h : wpQuiet P ops (fun w' => ∃ n, w' = w.drewN n) Q rest (a.put o.dst v)) :
    wpQuiet P ops (fun w' => ∃ n, w' = w.drewN n) Q (o :: rest) a := by
  unfold wpQuiet
  rw [if_pos hw]
  refine ⟨v, fun w' hw' => ?_, h⟩
  obtain ⟨n, rfl⟩ := hw'
  unfold Oper.quietAt
  rw [hr]
  exact ⟨rfl, rfl⟩
theorem exec_load {P : Program} {a : Act} {o : Oper} {w : World} {v p : Value} (ty : TypeId) (x : Operand) (ho : o.op = .load ty x) (hx : a.eval x = p) (hl : (Instr.loadAt ty p).run P w = .ok v w) :
    (execOp a.eval o).run P w = .ok (.value v) w := by
  simp only [execOp, ho, hx, Sem.run_bind, hl, Result.andThen_ok, Sem.run_pure]

set_option maxRecDepth 100000 in
set_option maxHeartbeats 400000 in
theorem equal_two (b c n : Nat) (m o : Mat) (w : World) (h : MatAt w b 88 .i32 n m) (h' : MatAt w c 88 .i32 n o) :
    Calls Tryd.prog 30 #[.pointer (some ⟨b, 0, none⟩), .pointer (some ⟨c, 0, none⟩)] w fun e w' => e = .returned (.bool (eqM m o)) ∧ Below w.heap.size w w' := by
  have H := Lib.hid h
  have H' := Lib.hid h'
  have L1 : ∀ q, (Instr.loadAt 84 (.pointer (some ⟨b, 1, none⟩))).run Tryd.prog (w.drewN q) = .ok (.agg (cellsOf .i32 m).toArray) (w.drewN q) := fun q => load_mat (h.drewN q)
  have L2 : ∀ q, (Instr.loadAt 84 (.pointer (some ⟨c, 1, none⟩))).run Tryd.prog (w.drewN q) = .ok (.agg (cellsOf .i32 o).toArray) (w.drewN q) := fun q => load_mat (h'.drewN q)
  have E : ∀ w, (Op.equalIn 10000 84 (.agg (cellsOf .i32 m).toArray) (.agg (cellsOf .i32 o).toArray)).run Tryd.prog w = .ok (eqM m o) w := fun w => eq_mat 9997 m o w
  clear h h'
  go_enter Tryd.func30, Tryd.ntmps30
  go_wp2_with fail
  refine wp_region_quiet_lit (by kernel_rfl) (by kernel_rfl) ?_
  repeat (quiet_step ((go_at_call 54; exact Calls.quiet_of (alike_same b c n m o _ (by exact H.out.drewN _) (by exact H'.out.drewN _)))))
  refine quiet_value (.agg (cellsOf .i32 m).toArray) rfl (fun q => exec_load _ _ rfl rfl (L1 q)) ?_
  repeat (quiet_step (fail))
  refine quiet_value (.agg (cellsOf .i32 o).toArray) rfl (fun q => exec_load _ _ rfl rfl (L2 q)) ?_
  repeat (quiet_step (fail))
  refine wpQuiet_nil ?_
  intro _ hw'
  obtain ⟨nq, hw''⟩ := hw'
  subst hw''
  clear L1 L2 E
  go_wp2
  go_ret
  exact ⟨rfl, belowN (Below.refl _ _) _⟩

set_option maxRecDepth 100000 in
set_option maxHeartbeats 400000 in
theorem equal_other (b c n k : Nat) (m o : Mat) (w : World) (h : MatAt w b 88 .i32 n m) (h' : MatAt w c 88 .i32 k o) (hne : n ≠ k) :
    Calls Tryd.prog 30 #[.pointer (some ⟨b, 0, none⟩), .pointer (some ⟨c, 0, none⟩)] w fun e w' => e = .returned (.bool false) ∧ Below w.heap.size w w' := by
  have H := Lib.hid h
  have H' := Lib.hid h'
  clear h h'
  go_enter Tryd.func30, Tryd.ntmps30
  go_wp2_with fail
  go_quiet ((go_at_call 54; exact Calls.quiet_of (alike_other b c n k m o _ (by exact H.out.drewN _) (by exact H'.out.drewN _) hne)))
  go_wp2
  go_ret
  exact ⟨rfl, belowN (Below.refl _ _) _⟩
set_option maxRecDepth 100000 in
set_option maxHeartbeats 400000 in
theorem equal_nil (v : Value) (w : World) : Calls Tryd.prog 30 #[.pointer none, v] w fun e w' => e = .returned (.bool false) ∧ Below w.heap.size w w' := by
  go_enter Tryd.func30, Tryd.ntmps30
  go_wp2_with fail
  go_quiet ((go_at_call 54; exact Calls.quiet_of (alike_nil v _)))
  go_wp2
  go_ret
  exact ⟨rfl, belowN (Below.refl _ _) _⟩
set_option maxRecDepth 100000 in
set_option maxHeartbeats 400000 in
theorem equal_ofnil (b n : Nat) (m : Mat) (w : World) (h : MatAt w b 88 .i32 n m) : Calls Tryd.prog 30 #[.pointer (some ⟨b, 0, none⟩), .pointer none] w fun e w' => e = .returned (.bool false) ∧ Below w.heap.size w w' := by
  have H := Lib.hid h
  clear h
  go_enter Tryd.func30, Tryd.ntmps30
  go_wp2_with fail
  go_quiet ((go_at_call 54; exact Calls.quiet_of (alike_none b n m _ (by exact H.out.drewN _))))
  go_wp2
  go_ret
  exact ⟨rfl, belowN (Below.refl _ _) _⟩

def equalP (z o : Option (Nat × Mat)) : Bool := match z, o with
  | some (n, m), some (k, o) => decide (n = k) && eqM m o
  | _, _ => false
/-- Equal, of any two. -/
theorem equal_any (v v' : Value) (z o : Option (Nat × Mat)) (w : World) (h : ZoneV 88 w v z) (h' : ZoneV 88 w v' o) :
    Calls Tryd.prog 30 #[v, v'] w fun e w' => e = .returned (.bool (equalP z o)) ∧ Below w.heap.size w w' := by
  match z, h with
  | none, h =>
    have h : v = .pointer none := h
    subst h
    exact equal_nil v' w
  | some (n, m), ⟨b, e, hn, _, hm⟩ =>
    subst e
    match o, h' with
    | none, h' =>
      have h' : v' = .pointer none := h'
      subst h'
      exact equal_ofnil b n m w hm
    | some (k, o), ⟨c, e, _, _, ho⟩ =>
      subst e
      by_cases hk : n = k
      · subst hk
        have e : equalP (some (n, m)) (some (n, o)) = eqM m o := by simp [equalP]
        rw [e]
        exact equal_two b c n m o w hm ho
      · have e : equalP (some (n, m)) (some (k, o)) = false := by simp [equalP, hk]
        rw [e]
        exact equal_other b c n k m o w hm ho hk

end Go.Proofs.YtncgapnooabdgaaDoor

/- The strictest of bounds. -/
namespace Go.Proofs.YtncgapnooabdgaaDoor
open Go Go.RowKit
set_option linter.unusedVariables false
set_option linter.unusedSimpArgs false

attribute [local go_sem] min_ints max_ints


theorem least_fn (a b : Int) (w : World) : Calls Tryd.prog 76 #[.int .i32 a, .int .i32 b] w fun e w' => e = .returned (.int .i32 (min a b)) ∧ w = w' := by
  go_enter Tryd.func76, Tryd.ntmps76
  go_wp2
  go_ret
  exact ⟨rfl, rfl⟩

/-- The least of the first p, and of a number. -/
def minUp (a : Int) (l : List Int) : Nat → Int
  | 0 => a
  | p + 1 => min (minUp a l p) (l.getD p 0)

set_option maxRecDepth 100000 in
set_option maxHeartbeats 400000 in
theorem fold_min (a : Int) (A : Option Addr) (c : Nat) (l : List Int) (w : World) (hI : Ints w .i32 A l) (hmax : l.length ≤ 4611686018427387904) :
    Calls Tryd.prog 75 #[.int .i32 a, .slice A l.length c, .func (.func 76) #[] #[]] w fun e w' => e = .returned (.int .i32 (minUp a l l.length)) ∧ w = w' := by
  have HI := Lib.hid hI
  clear hI
  go_enter Tryd.func75, Tryd.ntmps75
  go_wp2
  go_loopg [0, 11] l.length (fun g x v wr => ∃ p : Nat, v = .int .i64 p ∧ x = .int .i32 (minUp a l p) ∧ w = wr ∧ Hid (p ≤ l.length ∧ g + p = l.length))
  case atStart => exact ⟨0, by simp, rfl, rfl, by omega, by omega⟩
  case round =>
    obtain ⟨p, rfl, rfl, rfl, HG⟩ := hrel
    by_cases hp : p < l.length
    · obtain ⟨b, off, rfl, hc⟩ := HI.out p hp
      obtain ⟨x, hx⟩ : ∃ x, x = l.getD p 0 := ⟨_, rfl⟩
      rw [← hx] at hc
      have HX := Lib.hid hx
      clear hx
      go_wp2_with fail
      refine (least_fn _ _ _).mono ?_
      rintro e w' ⟨rfl, rfl⟩
      go_wp2
      go_roundg (gk - 1)
      case measure => have h := HG.out; omega
      case rel => exact ⟨p + 1, by go_num, by rw [show minUp a l (p + 1) = min (minUp a l p) (l.getD p 0) from rfl, ← HX.out], rfl, by omega, by have h := HG.out; omega⟩
    · have e : p = l.length := by have := HG.out.1; omega
      subst e
      go_wp2
      go_ret
      exact ⟨rfl, rfl⟩

theorem least_any (A : Option Addr) (c : Nat) (l : List Int) (w : World) (hI : Ints w .i32 A l) (hmax : l.length ≤ 4611686018427387904) :
    Calls Tryd.prog 68 #[.slice A l.length c] w fun e w' => e = .returned (.int .i32 (minUp 2147483647 l l.length)) ∧ w = w' := by
  go_enter Tryd.func68, Tryd.ntmps68
  go_wp2_with fail
  refine (fold_min _ A c l _ hI hmax).mono ?_
  rintro e w' ⟨rfl, rfl⟩
  clear hI
  go_wp2
  go_ret
  exact ⟨rfl, rfl⟩

end Go.Proofs.YtncgapnooabdgaaDoor

/- Have two zones a valuation in common? The strictest of bounds. -/
namespace Go.Proofs.YtncgapnooabdgaaDoor
open Go Go.RowKit
set_option linter.unusedVariables false
set_option linter.unusedSimpArgs false
attribute [local go_sem] min_ints max_ints
theorem least_two {w : World} {b : Nat} {x y : Int} (h0 : w.cell? ⟨b, 0, none⟩ = some (.int .i32 x)) (h1 : w.cell? ⟨b, 1, none⟩ = some (.int .i32 y)) : Ints w .i32 (some ⟨b, 0, none⟩) [x, y] := by
  intro j hj
  refine ⟨b, 0, rfl, ?_⟩
  match j, hj with
  | 0, _ => simpa using h0
  | 1, _ => simpa using h1

/-- The strictest cells of both. -/
def minM (m o : Mat) : Mat := fun i j => min (min 2147483647 (m i j)) (o i j)
theorem minM_right {n : Nat} {m o : Mat} (h : RightM n m) (h' : RightM n o) : RightM n (minM m o) := fun i j hi hj => by
  have h1 := h i j hi hj
  have h2 := h' i j hi hj
  unfold rightB at h1 h2 ⊢
  rw [decide_eq_true_iff] at h1 h2 ⊢
  simp only [minM, Int.min_def]
  split <;> split <;> omega
/-- The wide matrix of what two have in common. -/
def meetM (n : Nat) (m o : Mat) (p : Nat) : Mat := keepUp n (flat n (minM m o)) p
theorem meetM_fit {n : Nat} {m o : Mat} (h : RightM n (minM m o)) (p : Nat) (hp : p ≤ (n + 1) * (n + 1)) : Fit n 1073741824 (meetM n m o p) := by
  refine keepUp_fit _ _ _ fun q hq => ?_
  rw [flat_getD _ _ _ (by omega)]
  have : q / (n + 1) < n + 1 := Nat.div_lt_of_lt_mul (by omega)
  have := Nat.mod_lt q (show 0 < n + 1 by omega)
  exact h _ _ (by omega) (by omega)
theorem meetM_step {n : Nat} {m o : Mat} {i j : Nat} (hi : i < n + 1) (hj : j < n + 1) : meetM n m o (i * (n + 1) + j + 1) = keepM (meetM n m o (i * (n + 1) + j)) i j (min (min 2147483647 (m i j)) (o i j)) := by
  have h := at_row (i := i) hj
  have hlt : i * (n + 1) + j < (n + 1) * (n + 1) := by
    have : i * (n + 1) ≤ n * (n + 1) := Nat.mul_le_mul_right _ (by omega)
    rw [Nat.add_mul, Nat.one_mul]; omega
  show keepM (keepUp n (flat n (minM m o)) (i * (n + 1) + j)) ((i * (n + 1) + j) / (n + 1)) ((i * (n + 1) + j) % (n + 1)) ((flat n (minM m o)).getD (i * (n + 1) + j) 0) = _
  rw [flat_getD _ _ _ hlt, h.1, h.2]; rfl

/-- The wide matrix in the first new block, so far. -/
def MeetR (w0 : World) (n : Nat) (m o : Mat) (i j : Nat) (wr : World) : Prop :=
  Below w0.heap.size w0 wr ∧ MatAt wr w0.heap.size 115 .i64 n (meetM n m o (i * (n + 1) + j)) ∧ i ≤ n + 1 ∧ j ≤ n + 1

def meetsP (z o : Option (Nat × Mat)) : Bool := match z, o with
  | some (n, m), some (k, o) => decide (n = k) && (closed n (meetM n m o ((n + 1) * (n + 1)))).isSome
  | _, _ => false
def meets1 (n : Nat) (m o : Mat) : Bool := (closed n (meetM n m o ((n + 1) * (n + 1)))).isSome

theorem meet_below {w0 wr w3 : World} {o : Obj} (h : Below w0.heap.size w0 wr) (ho : Only w0.heap.size (wr.alloc o).drew w3) : Below w0.heap.size w0 w3 :=
  ((h.alloc h.size o).drew).trans (ho.below (Nat.le_refl _) (by have := h.size; simp; omega))

set_option maxRecDepth 100000 in
set_option maxHeartbeats 2000000 in
theorem meets_two (b c n : Nat) (m o : Mat) (w : World) (hn : n ≤ 8) (hrm : RightM n m) (hro : RightM n o) (h : MatAt w b 88 .i32 n m) (h' : MatAt w c 88 .i32 n o) :
    Calls Tryd.prog 58 #[.pointer (some ⟨b, 0, none⟩), .pointer (some ⟨c, 0, none⟩)] w fun e w' => e = .returned (.bool (meets1 n m o)) ∧ Below w.heap.size w w' := by
  have H := Lib.hid h
  have H' := Lib.hid h'
  have HR := Lib.hid (minM_right hrm hro)
  clear h h' hrm hro
  go_enter Tryd.func58, Tryd.ntmps58
  go_wp2_with fail
  refine (alike_same b c n m o _ H.out H'.out).mono ?_
  rintro e w1 ⟨rfl, q, rfl⟩
  have h0 := (H.out.drewN q).head
  have HB := Lib.hid (show Below w.heap.size w (w.drewN q) from belowN (Below.refl _ _) q)
  have hsz : (w.drewN q).heap.size = w.heap.size := rfl
  have HZ := Lib.hid hsz
  clear hsz
  generalize w.drewN q = wq at *
  go_wp2_with fail
  refine (open_any n _ hn).mono ?_
  rintro e w1 ⟨rfl, hb1, hm1⟩
  rw [HZ.out] at hb1 hm1 ⊢
  have hB1 : Below w.heap.size w w1 := HB.out.trans hb1
  have h0 := (H.out.later hB1).head
  have HS := Lib.hid (show MeetR w n m o 0 0 w1 from ⟨hB1, by simpa [meetM, keepUp] using hm1, by omega, by omega⟩)
  clear hb1 hm1 hB1
  go_wp2
  go_loopg [24] (n + 1) (fun g v wr => ∃ i : Nat, v = .int .i64 i ∧ MeetR w n m o i 0 wr ∧ Hid (g + i = n + 1))
  case atStart => exact ⟨0, by simp, HS.out, by show _ = _; omega⟩
  case round =>
    clear HS h0
    obtain ⟨i, rfl, HA, HG⟩ := hrel
    have HI := Lib.hid HA
    have h0 := (H.out.later HA.1).head
    clear HA
    by_cases hi : i < n + 1
    · have hii : (i : Int) < (n : Int) + 1 := by omega
      go_wp2
      go_loopg [33] (n + 1) (fun g v wr => ∃ j : Nat, v = .int .i64 j ∧ MeetR w n m o i j wr ∧ Hid (g + j = n + 1))
      case atStart => exact ⟨0, by simp, HI.out, by show _ = _; omega⟩
      case round =>
        clear HI h0
        obtain ⟨j, rfl, HA, HG2⟩ := hrel
        have HJ := Lib.hid HA
        by_cases hj : j < n + 1
        · have hjj : (j : Int) < (n : Int) + 1 := by omega
          have c1 := (H.out.later HA.1).cell i j (by omega) (by omega)
          have c2 := (H'.out.later HA.1).cell i j (by omega) (by omega)
          clear HA
          have i9 : (i : Int) < 9 := by omega
          have j9 : (j : Int) < 9 := by omega
          obtain ⟨x, hx⟩ : ∃ x, x = m i j := ⟨_, rfl⟩
          obtain ⟨y, hy⟩ : ∃ y, y = o i j := ⟨_, rfl⟩
          rw [← hx] at c1
          rw [← hy] at c2
          have hxy := HR.out i j (by omega) (by omega)
          have hstep := meetM_step (m := m) (o := o) hi hj
          rw [← hx, ← hy] at hstep
          have hmin : minM m o i j = min (min 2147483647 x) y := by rw [hx, hy]; rfl
          rw [hmin] at hxy
          have hb : -2147483648 ≤ min (min 2147483647 x) y ∧ min (min 2147483647 x) y ≤ 2147483647 := by
            unfold rightB at hxy; have := of_decide_eq_true hxy; omega
          have HSt := Lib.hid hstep
          have HXY := Lib.hid hxy
          have HBB := Lib.hid hb
          have HX := Lib.hid hx
          have HY := Lib.hid hy
          clear hx hy hxy hstep hmin hb
          have hlt1 : b < wr.heap.size := (H.out.later HJ.out.1).lt
          have hlt2 : c < wr.heap.size := (H'.out.later HJ.out.1).lt
          go_wp2_with fail
          go_region_held3 (fun w' => w'.cell? ⟨b, 1 + i * 9 + j, none⟩ = some (.int .i32 x) ∧ w'.cell? ⟨c, 1 + i * 9 + j, none⟩ = some (.int .i32 y)) (first | go_keep | exact ⟨k1, k2⟩)
            (first | (go_at_call 68; refine (least_any _ _ [x, y] _ (by exact least_two (by simp) (by simp)) (by simp)).mono ?_; rintro e w' ⟨rfl, rfl⟩) | (go_at_call 51; refine (keep_any _ _ _ i j n _ _ _ (by omega) (by omega) (by exact (HJ.out.2.1.drew.alloc _)) (by rfl) (by rfl) (by exact HBB.out.1) (by exact HBB.out.2)).mono ?_; rintro e w3 ⟨rfl, ho, hm3⟩; have HM3 := Lib.hid hm3; have HB3 := Lib.hid (meet_below HJ.out.1 ho); have k1 : w3.cell? ⟨b, 1 + i * 9 + j, none⟩ = some (.int .i32 x) := (by rw [HX.out]; exact (H.out.later HB3.out).cell i j (by omega) (by omega)); have k2 : w3.cell? ⟨c, 1 + i * 9 + j, none⟩ = some (.int .i32 y) := (by rw [HY.out]; exact (H'.out.later HB3.out).cell i j (by omega) (by omega)); clear ho hm3))
          go_wp2
          go_roundg (gk - 1)
          case measure => have h := HG2.out; omega
          case rel =>
            refine ⟨j + 1, by go_num, ⟨HB3.out, ?_, HJ.out.2.2.1, by omega⟩, by have h := HG2.out; show _ = _; omega⟩
            have e : i * (n + 1) + (j + 1) = i * (n + 1) + j + 1 := by omega
            rw [e, HSt.out]
            exact HM3.out
        · have hjj : ¬ (j : Int) < (n : Int) + 1 := by omega
          clear HA
          go_wp2
          go_roundg (n - i)
          case measure => have h := HG.out; omega
          case rel =>
            refine ⟨i + 1, by go_num, ⟨HJ.out.1, ?_, by omega, by omega⟩, by show _ = _; omega⟩
            have e : (i + 1) * (n + 1) + 0 = i * (n + 1) + j := by have := HJ.out.2.2.2; rw [Nat.add_mul]; omega
            rw [e]
            exact HJ.out.2.1
    · have hii : ¬ (i : Int) < (n : Int) + 1 := by omega
      have e : i = n + 1 := by have := HI.out.2.2.1; omega
      go_wp2_with fail
      refine (close_any w.heap.size n (meetM n m o ((n + 1) * (n + 1))) wr hn (by have := HI.out.2.1; rw [e, Nat.add_zero] at this; exact this) (meetM_fit HR.out _ (Nat.le_refl _))).mono ?_
      rintro e2 w4 ⟨ho, hcl⟩
      have HB4 := Lib.hid (HI.out.1.trans (ho.below (Nat.le_refl _) HI.out.1.size))
      clear ho h0
      rcases hcl with ⟨hc, rfl⟩ | ⟨m', hc, rfl, hm⟩
      · have hf : meets1 n m o = false := by unfold meets1; rw [hc]; rfl
        clear hc
        go_wp2
        go_ret
        exact ⟨by rw [hf]; rfl, HB4.out⟩
      · have hf : meets1 n m o = true := by unfold meets1; rw [hc]; rfl
        clear hc hm
        go_wp2
        go_ret
        exact ⟨by rw [hf]; rfl, HB4.out⟩

set_option maxRecDepth 100000 in
set_option maxHeartbeats 1000000 in
theorem meets_other (b c n k : Nat) (m o : Mat) (w : World) (h : MatAt w b 88 .i32 n m) (h' : MatAt w c 88 .i32 k o) (hne : n ≠ k) :
    Calls Tryd.prog 58 #[.pointer (some ⟨b, 0, none⟩), .pointer (some ⟨c, 0, none⟩)] w fun e w' => e = .returned (.bool false) ∧ Below w.heap.size w w' := by
  go_enter Tryd.func58, Tryd.ntmps58
  go_wp2_with fail
  refine (alike_other b c n k m o _ h h' hne).mono ?_
  rintro e w1 ⟨rfl, q, rfl⟩
  clear h h'
  go_wp2
  go_ret
  exact ⟨rfl, belowN (Below.refl _ _) q⟩
set_option maxRecDepth 100000 in
set_option maxHeartbeats 1000000 in
theorem meets_nil (v : Value) (w : World) : Calls Tryd.prog 58 #[.pointer none, v] w fun e w' => e = .returned (.bool false) ∧ Below w.heap.size w w' := by
  go_enter Tryd.func58, Tryd.ntmps58
  go_wp2_with fail
  refine (alike_nil v _).mono ?_
  rintro e w1 ⟨rfl, q, rfl⟩
  go_wp2
  go_ret
  exact ⟨rfl, belowN (Below.refl _ _) q⟩
set_option maxRecDepth 100000 in
set_option maxHeartbeats 1000000 in
theorem meets_ofnil (b n : Nat) (m : Mat) (w : World) (h : MatAt w b 88 .i32 n m) : Calls Tryd.prog 58 #[.pointer (some ⟨b, 0, none⟩), .pointer none] w fun e w' => e = .returned (.bool false) ∧ Below w.heap.size w w' := by
  go_enter Tryd.func58, Tryd.ntmps58
  go_wp2_with fail
  refine (alike_none b n m _ h).mono ?_
  rintro e w1 ⟨rfl, q, rfl⟩
  clear h
  go_wp2
  go_ret
  exact ⟨rfl, belowN (Below.refl _ _) q⟩

/-- Meets, of any two. -/
theorem meets_any (v v' : Value) (z o : Option (Nat × Mat)) (w : World) (h : ZoneV 88 w v z) (h' : ZoneV 88 w v' o) :
    Calls Tryd.prog 58 #[v, v'] w fun e w' => e = .returned (.bool (meetsP z o)) ∧ Below w.heap.size w w' := by
  match z, h with
  | none, h =>
    have h : v = .pointer none := h
    subst h
    exact meets_nil v' w
  | some (n, m), ⟨b, e, hn, hr, hm⟩ =>
    subst e
    match o, h' with
    | none, h' =>
      have h' : v' = .pointer none := h'
      subst h'
      exact meets_ofnil b n m w hm
    | some (k, o), ⟨c, e, _, hr', ho⟩ =>
      subst e
      by_cases hk : n = k
      · subst hk
        have e : meetsP (some (n, m)) (some (n, o)) = meets1 n m o := by simp [meetsP, meets1]
        rw [e]
        exact meets_two b c n m o w hn hr hr' hm ho
      · have e : meetsP (some (n, m)) (some (k, o)) = false := by simp [meetsP, hk]
        rw [e]
        exact meets_other b c n k m o w hm ho hk

end Go.Proofs.YtncgapnooabdgaaDoor

/- And is Constrain by all cells: plain. -/
namespace Go.Proofs.YtncgapnooabdgaaDoor
set_option linter.unusedVariables false
set_option linter.unusedSimpArgs false

theorem ofP_min {n : Nat} {m o : Mat} (hn : n ≤ 8) (hr : RightM n (minM m o)) : ofP n (flat n (minM m o)) = zoneP n (meetM n m o ((n + 1) * (n + 1))) := by
  unfold ofP
  rw [if_pos (by omega), if_pos (by rw [flat_length]; simp), if_pos (flat_right hr), flat_length, Int.toNat_natCast]
  rfl
theorem minM_cell {n : Nat} {m o : Mat} (hm : RightM n m) {i j : Nat} (hi : i ≤ n) (hj : j ≤ n) : minM m o i j = min (m i j) (o i j) := by
  have := right_hi (hm i j hi hj)
  unfold minM
  omega
theorem and_one {n : Nat} {m o : Mat} (hm : RightM n m) : Agree n (andUp n (openW (some (n, m))) [o] 1) (minM m o) := fun i j hi hj => by
  show minW n (openW (some (n, m))) (openW (some (n, o))) i j = _
  rw [minW_in hi hj, open_agree n m i j hi hj, open_agree n o i j hi hj, minM_cell hm hi hj]
theorem and_two {n : Nat} {m o : Mat} (hm : RightM n m) : Agree n (andUp n (openW (some (n, o))) [m, o] 2) (minM m o) := fun i j hi hj => by
  show minW n (minW n (openW (some (n, o))) (openW (some (n, m)))) (openW (some (n, o))) i j = _
  rw [minW_in hi hj, minW_in hi hj, open_agree n m i j hi hj, open_agree n o i j hi hj, minM_cell hm hi hj]
  omega

/-- All cells, as limits, from the last row on. -/
def rowL (o : Mat) (i q : Nat) : List (Int × Int × Int) := (List.range q).map fun (j : Nat) => ((i : Int), (j : Int), o i j)
def allL (n : Nat) (o : Mat) : Nat → List (Int × Int × Int)
  | 0 => []
  | p + 1 => allL n o p ++ rowL o (n - p) (n + 1)
theorem rowL_next (o : Mat) (i q : Nat) : rowL o i (q + 1) = rowL o i q ++ [((i : Int), (q : Int), o i q)] := by simp [rowL, List.range_succ]
theorem rowL_length (o : Mat) (i q : Nat) : (rowL o i q).length = q := by simp [rowL]
theorem allL_length (n : Nat) (o : Mat) : ∀ p, (allL n o p).length = p * (n + 1)
  | 0 => by simp [allL]
  | p + 1 => by rw [allL, List.length_append, allL_length n o p, rowL_length, Nat.add_mul, Nat.one_mul]
theorem allL_is (n : Nat) (o : Mat) : ∀ p x, x ∈ allL n o p → ∃ i j : Nat, i ≤ n ∧ j ≤ n ∧ x = ((i : Int), (j : Int), o i j)
  | 0, x, h => by simp [allL] at h
  | p + 1, x, h => by
    rw [allL, List.mem_append] at h
    rcases h with h | h
    · exact allL_is n o p x h
    · simp only [rowL, List.mem_map, List.mem_range] at h
      obtain ⟨j, hj, e⟩ := h
      exact ⟨n - p, j, by omega, by omega, e.symm⟩
theorem allL_mem (n : Nat) (o : Mat) (i j : Nat) (hi : i ≤ n) (hj : j ≤ n) : ∀ p, n - i < p → ((i : Int), (j : Int), o i j) ∈ allL n o p
  | 0, h => by omega
  | p + 1, h => by
    rw [allL, List.mem_append]
    by_cases e : n - i = p
    · right
      have : n - p = i := by omega
      rw [this]
      exact List.mem_map.2 ⟨j, List.mem_range.2 (by omega), rfl⟩
    · left; exact allL_mem n o i j hi hj p (by omega)
theorem allL_conE {n : Nat} {o : Mat} (ho : RightM n o) (p : Nat) : (allL n o p).all (clkB n) = true ∧ (allL n o p).all bdB = true := by
  refine ⟨List.all_eq_true.2 fun x hx => ?_, List.all_eq_true.2 fun x hx => ?_⟩
  · obtain ⟨i, j, hi, hj, rfl⟩ := allL_is n o p x hx
    unfold clkB anyB
    simp only [Bool.and_eq_true, decide_eq_true_eq]
    omega
  · obtain ⟨i, j, hi, hj, rfl⟩ := allL_is n o p x hx
    exact ho i j hi hj
theorem con_hit {M o : Mat} {l : List (Int × Int × Int)} (hx : ∀ q, q < l.length → (l.getD q (0, 0, 0)).2.2 = o (l.getD q (0, 0, 0)).1.toNat (l.getD q (0, 0, 0)).2.1.toNat) (i j : Nat) : ∀ p, p ≤ l.length →
    (conUp M l p i j = M i j ∧ ∀ q, q < p → ¬ (i = (l.getD q (0, 0, 0)).1.toNat ∧ j = (l.getD q (0, 0, 0)).2.1.toNat)) ∨ conUp M l p i j = min (M i j) (o i j)
  | 0, _ => .inl ⟨rfl, fun q hq => by omega⟩
  | p + 1, hp => by
    have ih := con_hit (M := M) hx i j p (by omega)
    unfold conUp lessM upd
    by_cases e : i = (l.getD p (0, 0, 0)).1.toNat ∧ j = (l.getD p (0, 0, 0)).2.1.toNat
    · rw [if_pos e, hx p (by omega), ← e.1, ← e.2]
      right
      rcases ih with ⟨h, _⟩ | h
      · rw [h]
      · rw [h]; omega
    · rw [if_neg e]
      rcases ih with ⟨h, h2⟩ | h
      · refine .inl ⟨h, fun q hq => ?_⟩
        by_cases e2 : q = p
        · subst e2; exact e
        · exact h2 q (by omega)
      · exact .inr h
theorem con_all {n : Nat} {m o : Mat} (hm : RightM n m) : Agree n (conUp (openW (some (n, m))) (allL n o (n + 1)) (allL n o (n + 1)).length) (minM m o) := fun i j hi hj => by
  have hx : ∀ q, q < (allL n o (n + 1)).length → ((allL n o (n + 1)).getD q (0, 0, 0)).2.2 = o ((allL n o (n + 1)).getD q (0, 0, 0)).1.toNat ((allL n o (n + 1)).getD q (0, 0, 0)).2.1.toNat := fun q hq => by
    have hm : (allL n o (n + 1)).getD q (0, 0, 0) ∈ allL n o (n + 1) := by
      rw [List.getD_eq_getElem?_getD, List.getElem?_eq_getElem hq]; exact List.getElem_mem hq
    obtain ⟨a, b, _, _, e⟩ := allL_is n o _ _ hm
    rw [e]; simp
  rcases con_hit (M := openW (some (n, m))) hx i j _ (Nat.le_refl _) with ⟨_, h⟩ | h
  · obtain ⟨q, hq, e⟩ := List.getElem_of_mem (allL_mem n o i j hi hj (n + 1) (by omega))
    refine absurd ?_ (h q hq)
    rw [List.getD_eq_getElem?_getD, List.getElem?_eq_getElem hq, e]
    simp
  · rw [h, open_agree n m i j hi hj, minM_cell hm hi hj]
theorem con_cells {n : Nat} {m o : Mat} (hn : n ≤ 8) (hm : RightM n m) (ho : RightM n o) : conP n (openW (some (n, m))) (allL n o (n + 1)) = zoneP n (meetM n m o ((n + 1) * (n + 1))) := by
  have h := allL_conE ho (n + 1)
  unfold conP conE
  rw [h.1, h.2, if_pos rfl, if_pos rfl, if_pos rfl, flat_congr (con_all hm), ofP_min hn (minM_right hm ho)]

theorem zoneP_cases (n : Nat) (M : Mat) : (∃ a, zoneP n M = (some a, 0)) ∨ zoneP n M = (none, 10) := by
  unfold zoneP
  split
  · exact .inl ⟨_, rfl⟩
  · split
    · exact .inl ⟨_, rfl⟩
    · exact .inr rfl
theorem eqM_self (a : Mat) : eqM a a = true := by unfold eqM; simp
/-- What two have in common is in both; it is empty just if they do not meet. -/
theorem meet_zone {n : Nat} {m o a : Mat} {e : Int} (hn : n ≤ 8) (hm : RightM n m) (ho : RightM n o) (h : zoneP n (meetM n m o ((n + 1) * (n + 1))) = (some a, e)) :
    inclM n m a = true ∧ inclM n o a = true ∧ decide (a 0 0 < 1) = !meets1 n m o := by
  have hr := minM_right hm ho
  have hf := meetM_fit hr ((n + 1) * (n + 1)) (Nat.le_refl _)
  have h1 : (zoneP n (meetM n m o ((n + 1) * (n + 1)))).1 = some a := by rw [h]
  rcases zoneP_is hn hf h1 with ⟨ha, hc⟩ | ⟨m', hc, ha, hz, hcl⟩
  · subst ha
    refine ⟨decide_eq_true (.inl (by decide)), decide_eq_true (.inl (by decide)), ?_⟩
    unfold meets1
    rw [hc]; rfl
  · have h00 : a 0 0 = 1 := by
      rw [hz]
      unfold narM nar
      rw [if_pos ⟨by omega, by omega⟩, hcl.one 0 (by omega), if_neg (by decide)]
    have hcell : ∀ i j, i ≤ n → j ≤ n → a i j ≤ m i j ∧ a i j ≤ o i j := fun i j hi hj => by
      have e1 : a i j = nar (m' i j) := by rw [hz]; unfold narM; rw [if_pos ⟨hi, hj⟩]
      have e2 := hcl.le i j
      have e3 : meetM n m o ((n + 1) * (n + 1)) i j ≤ wid (minM m o i j) := by
        unfold meetM
        rw [keepUp_cell n (flat n (minM m o)) i j hi hj (fun q hq => by
          have := (all_getD _ rightB 0).1 (flat_right hr) q (by rw [flat_length]; exact hq)
          exact this) _ (Nat.le_refl _), if_pos (at_lt (by omega) (by omega)), flat_at _ (by omega) (by omega)]
        split <;> omega
      have e4 := minM_cell (o := o) hm hi hj
      have r1 := right_hi (hm i j hi hj)
      have r2 := right_hi (ho i j hi hj)
      have r3 := ha i hi j hj
      have b1 := hm i j hi hj
      have b2 := ho i j hi hj
      rw [e4] at e3
      unfold rightB at b1 b2
      simp only [decide_eq_true_eq] at b1 b2
      rw [e1]
      unfold inR at r3
      unfold wid at e3
      unfold nar
      unfold none62 at *
      split at e3 <;> split <;> omega
    refine ⟨decide_eq_true (.inr fun i hi j hj => (hcell i j hi hj).1), decide_eq_true (.inr fun i hi j hj => (hcell i j hi hj).2), ?_⟩
    unfold meets1
    rw [hc, decide_eq_false (by omega)]; rfl

end Go.Proofs.YtncgapnooabdgaaDoor

/- append onto nil, the source nil or not; rows of bounds of differences of the call's own. -/
namespace Go.Proofs.YtncgapnooabdgaaDoor
open Go Go.RowKit
set_option linter.unusedVariables false
set_option linter.unusedSimpArgs false

theorem run_append_fresh {P : Program} (w : World) (t ty e : TypeId) (i : TypeInfo) (z : Value) (size bytes : Nat) (ht : P.underlying t = some (.slice e)) (hi : P.info? e = some i) (hz : i.zero = some z)
    (hsize : i.size = size) (hby : i.bytes = bytes) (hzs : z.cells.size = size) (hsz : 0 < size) (A : Option Addr) (m c : Nat) (news : List Value) (hl : news.length = m * size) (h0 : A = none → m = 0)
    (hnews : ∀ ad, A = some ad → ∀ j u, news[j]? = some u → w.cell? (ad.add j) = some u) (h1 : ∀ u ∈ news, u.oneCell' = true) (h63 : m ≤ maxLen) (hbytes : m * bytes ≤ 140737488355328) :
    ∃ v' w', (Builtin.append_ #[t, t] ty #[.slice none 0 0, .slice A m c]).run P w = .ok v' w' ∧ w'.ownsRow w.heap.size e size v' m news ∧ w.grownBy w' none := by
  match A, h0, hnews with
  | none, h0, _ =>
    obtain rfl := h0 rfl
    have hn : news = [] := by simpa using hl
    subst hn
    refine ⟨.slice none 0 0, w, ?_, World.ownsRow_nil w _ _ _, ⟨rfl, rfl, rfl, Nat.le_refl _, fun _ _ _ => rfl⟩⟩
    simp [Builtin.append_, run_underlying ht, sizeOf, typeInfo, hi, Builtin.lenOf, Builtin.firstCells]
  | some ad, _, hnews =>
    obtain ⟨v', w', h2, h3, h4, _⟩ := run_append_own w w.heap.size t ty e i z size bytes ht hi hz hsize hby hzs hsz (.slice none 0 0) 0 [] (World.ownsRow_nil w _ _ _) ad m c news hl (hnews ad rfl) h1 (by omega) (by rw [Nat.zero_add]; exact hbytes) (Nat.le_refl _)
    refine ⟨v', w', h2, by simpa using h3, h4⟩

/-- An append whose run is known. -/
theorem wpList_append_run {P : Program} {w : World} {ops : Array Oper} {rest : List Oper} {o : Oper} {a : Act} {Q : Exit → Act → World → Prop} (hgd : o.guard = none) (s x : Operand) (t : TypeId)
    (ho : o.op = .call { callee := .builtin .append, args := #[s, x], argTypes := #[t, t] }) (v0 x0 v' : Value) (w' : World) (hs : a.eval s = v0) (hx : a.eval x = x0)
    (hr : (Builtin.append_ #[t, t] o.type #[v0, x0]).run P w = .ok v' w') (h : wpList P ops Q rest (a.put o.dst v') w') : wpList P ops Q (o :: rest) a w := by
  refine wpList_plain hgd fun _ hK => ?_
  unfold Oper.wp execOp
  simp only [ho, resolve, invoke, builtin, Sem.run_bind, Sem.run_pure, Result.andThen_ok, List.map_toArray, List.map_cons, List.map_nil, hs, hx, hr]
  exact hK _ _ h

/-- The cells of bounds of differences. -/
def lcells (l : List (Int × Int × Int)) : List Value := l.flatMap fun x => [.int .i64 x.1, .int .i64 x.2.1, .int .i32 x.2.2]
theorem lcells_length (l : List (Int × Int × Int)) : (lcells l).length = l.length * 3 := by
  induction l with
  | nil => rfl
  | cons x l ih => simp only [lcells, List.flatMap_cons, List.length_append, List.length_cons, List.length_nil] at ih ⊢; omega
theorem lcells_at : ∀ (l : List (Int × Int × Int)) (j : Nat), j < l.length → (lcells l)[j * 3]? = some (.int .i64 (l.getD j (0, 0, 0)).1) ∧ (lcells l)[j * 3 + 1]? = some (.int .i64 (l.getD j (0, 0, 0)).2.1) ∧ (lcells l)[j * 3 + 2]? = some (.int .i32 (l.getD j (0, 0, 0)).2.2)
  | [], j, h => by simp at h
  | x :: l, 0, _ => by simp [lcells]
  | x :: l, j + 1, h => by
    have ih := lcells_at l j (by simpa using h)
    have e : ∀ q, (lcells (x :: l))[(j + 1) * 3 + q]? = (lcells l)[j * 3 + q]? := fun q => by
      rw [show lcells (x :: l) = [.int .i64 x.1, .int .i64 x.2.1, .int .i32 x.2.2] ++ lcells l from rfl, List.getElem?_append_right (by simp; omega)]
      congr 1
      simp; omega
    have e0 := e 0
    rw [Nat.add_zero, Nat.add_zero] at e0
    rw [e0, e 1, e 2, List.getD_cons_succ]
    exact ih
theorem lcells_one (l : List (Int × Int × Int)) : ∀ u ∈ lcells l, u.oneCell' = true := by
  intro u hu
  obtain ⟨x, _, h⟩ := List.mem_flatMap.1 hu
  simp only [List.mem_cons, List.mem_nil_iff, or_false] at h
  rcases h with rfl | rfl | rfl <;> rfl
theorem lcells_index (l : List (Int × Int × Int)) (j : Nat) (u : Value) (h : (lcells l)[j]? = some u) : ∃ p, p < l.length ∧ ((j = p * 3 ∧ u = .int .i64 (l.getD p (0, 0, 0)).1) ∨ (j = p * 3 + 1 ∧ u = .int .i64 (l.getD p (0, 0, 0)).2.1) ∨ (j = p * 3 + 2 ∧ u = .int .i32 (l.getD p (0, 0, 0)).2.2)) := by
  have hj : j < l.length * 3 := by
    rw [← lcells_length]
    exact (List.getElem?_eq_some_iff.1 h).1
  have hp : j / 3 < l.length := by omega
  obtain ⟨h0, h1, h2⟩ := lcells_at l (j / 3) hp
  refine ⟨j / 3, hp, ?_⟩
  rcases (show j % 3 = 0 ∨ j % 3 = 1 ∨ j % 3 = 2 by omega) with e | e | e
  · left
    have e' : j = j / 3 * 3 := by omega
    rw [← e'] at h0
    rw [h0] at h
    exact ⟨e', (Option.some.inj h).symm⟩
  · right; left
    have e' : j = j / 3 * 3 + 1 := by omega
    rw [← e'] at h1
    rw [h1] at h
    exact ⟨e', (Option.some.inj h).symm⟩
  · right; right
    have e' : j = j / 3 * 3 + 2 := by omega
    rw [← e'] at h2
    rw [h2] at h
    exact ⟨e', (Option.some.inj h).symm⟩
theorem lims_news {w : World} {A : Option Addr} {l : List (Int × Int × Int)} (h : Lims w A l) : ∀ ad, A = some ad → ∀ j u, (lcells l)[j]? = some u → w.cell? (ad.add j) = some u := by
  intro ad e j u hu
  obtain ⟨p, hp, hc⟩ := lcells_index l j u hu
  obtain ⟨b, off, e', c0, c1, c2⟩ := h p hp
  subst e
  simp only [Option.some.injEq] at e'
  subst e'
  have ea : ∀ k, (⟨b, off, none⟩ : Addr).add k = ⟨b, off + k, none⟩ := fun k => by unfold Addr.add; split <;> simp_all
  rw [ea]
  rcases hc with ⟨rfl, rfl⟩ | ⟨rfl, rfl⟩ | ⟨rfl, rfl⟩
  · exact c0
  · rw [← Nat.add_assoc]; exact c1
  · rw [← Nat.add_assoc]; exact c2
theorem ints_news {w : World} {k : IntKind} {A : Option Addr} {xs : List Int} (h : Ints w k A xs) : ∀ ad, A = some ad → ∀ j u, (vals k xs)[j]? = some u → w.cell? (ad.add j) = some u := by
  intro ad e j u hu
  have hj : j < xs.length := by
    have := (List.getElem?_eq_some_iff.1 hu).1
    simpa [vals] using this
  obtain ⟨b, off, e', c0⟩ := h j hj
  subst e
  simp only [Option.some.injEq] at e'
  subst e'
  have ea : ∀ k, (⟨b, off, none⟩ : Addr).add k = ⟨b, off + k, none⟩ := fun k => by unfold Addr.add; split <;> simp_all
  rw [ea, c0]
  simp [vals, List.getElem?_map, List.getElem?_eq_getElem hj] at hu
  rw [← hu, List.getD_eq_getElem?_getD, List.getElem?_eq_getElem hj]
  rfl
/-- A row of the call's own of bounds of differences. -/
def OwnL (w : World) (base : Nat) (e : TypeId) (v : Value) (l : List (Int × Int × Int)) : Prop := w.ownsRow base e 3 v l.length (lcells l)
theorem OwnL.lims {w : World} {base : Nat} {e : TypeId} {v : Value} {l : List (Int × Int × Int)} (h : OwnL w base e v l) : ∃ A cap, v = .slice A l.length cap ∧ Lims w A l := by
  obtain ⟨hl, h⟩ := h
  rcases h with ⟨rfl, h0⟩ | ⟨g, cap, cur, rfl, _, h1, _, _, _, h2⟩
  · refine ⟨none, 0, by rw [h0], fun j hj => by omega⟩
  · refine ⟨some ⟨g, 0, none⟩, cap, rfl, fun j hj => ?_⟩
    have hc : ∀ q u, (lcells l)[q]? = some u → w.cell? ⟨g, q, none⟩ = some u := fun q u hu => by
      have hq : q < l.length * 3 := by rw [← lcells_length]; exact (List.getElem?_eq_some_iff.1 hu).1
      rw [← h2, List.getElem?_take, if_pos hq] at hu
      simp only [World.cell?, h1]
      simpa using hu
    obtain ⟨a0, a1, a2⟩ := lcells_at l j hj
    exact ⟨g, 0, rfl, by rw [Nat.zero_add]; exact hc _ _ a0, by rw [Nat.zero_add]; exact hc _ _ a1, by rw [Nat.zero_add]; exact hc _ _ a2⟩
theorem OwnL.later {w w' : World} {base : Nat} {e : TypeId} {v : Value} {l : List (Int × Int × Int)} (h : OwnL w base e v l) (hb : Below w.heap.size w w') : OwnL w' base e v l := by
  obtain ⟨hl, h⟩ := h
  refine ⟨hl, ?_⟩
  rcases h with h | ⟨g, cap, cur, e1, e2, h1, h2⟩
  · exact .inl h
  · exact .inr ⟨g, cap, cur, e1, e2, (hb.block g (Array.getElem?_eq_some_iff.1 h1).1).trans h1, h2⟩

end Go.Proofs.YtncgapnooabdgaaDoor

/- The least zone that includes some. -/
namespace Go.Proofs.YtncgapnooabdgaaDoor
open Go Go.RowKit
set_option linter.unusedVariables false
set_option linter.unusedSimpArgs false
attribute [local go_sem] min_ints max_ints

theorem infoPZ : (Tryd.prog.info? 25).map (fun i => (i.zero, i.size, i.bytes)) = some (some (.pointer none), 1, 8) := by kernel_rfl
/-- What a row of the call's own of addresses holds. -/
theorem own_ptrs {w : World} {base : Nat} {e : TypeId} {v : Value} {vs : List Value} (h : w.ownsRow base e 1 v vs.length vs) : ∃ A cap, v = .slice A vs.length cap ∧ Ptrs w A vs := by
  obtain ⟨hl, h⟩ := h
  rcases h with ⟨rfl, h0⟩ | ⟨g, cap, cur, rfl, _, h1, _, _, _, h2⟩
  · refine ⟨none, 0, by rw [h0], fun j hj => by omega⟩
  · refine ⟨some ⟨g, 0, none⟩, cap, rfl, fun j hj => ⟨g, 0, rfl, ?_⟩⟩
    have e1 : cur.toList[j]? = vs[j]? := by rw [← h2, List.getElem?_take, if_pos (by omega)]
    rw [Nat.zero_add, World.cell?, h1]
    simp only [Option.isSome_none, Bool.false_eq_true, if_false]
    rw [← Array.getElem?_toList, e1, List.getD_eq_getElem?_getD, List.getElem?_eq_getElem hj]
    rfl
/-- The widest of both cells, in the first n + 1 rows. -/
def maxF (M V : Mat) : Mat := fun a c => max (M a c) (V a c)
def maxW (n : Nat) (M V : Mat) : Mat := mix (maxF M V) M n (n + 1) 0
theorem maxW_in {n : Nat} {M V : Mat} {a c : Nat} (ha : a ≤ n) (hc : c ≤ n) : maxW n M V a c = max (M a c) (V a c) := by
  unfold maxW mix
  rw [if_pos (.inl ⟨by omega, hc⟩)]; rfl
/-- The hull of the first p zones; none: so far all are empty. -/
def hullUp (n : Nat) (ms : List Mat) : Nat → Option Mat
  | 0 => none
  | p + 1 => if (ms.getD p fun _ _ => 0) 0 0 < 1 then hullUp n ms p else match hullUp n ms p with
    | none => some (openW (some (n, ms.getD p fun _ _ => 0)))
    | some H => some (maxW n H (openW (some (n, ms.getD p fun _ _ => 0))))
/-- What Hull answers. -/
def hullA (n : Nat) (m : Mat) (ms : List Mat) : Option Mat × Int := match hullUp n (m :: ms) (m :: ms).length with
  | none => ofP n (flat n (openW (some (n, m))))
  | some H => ofP n (flat n H)
theorem hullUp_skip {n p : Nat} {ms : List Mat} {m : Mat} (hm : (ms.getD p fun _ _ => 0) = m) (h : m 0 0 < 1) : hullUp n ms (p + 1) = hullUp n ms p := by rw [hullUp, hm, if_pos h]
theorem hullUp_first {n p : Nat} {ms : List Mat} {m : Mat} (hm : (ms.getD p fun _ _ => 0) = m) (h : ¬ m 0 0 < 1) (hn : hullUp n ms p = none) : hullUp n ms (p + 1) = some (openW (some (n, m))) := by rw [hullUp, hm, if_neg h, hn]
theorem hullUp_more {n p : Nat} {ms : List Mat} {m H : Mat} (hm : (ms.getD p fun _ _ => 0) = m) (h : ¬ m 0 0 < 1) (hn : hullUp n ms p = some H) : hullUp n ms (p + 1) = some (maxW n H (openW (some (n, m)))) := by rw [hullUp, hm, if_neg h, hn]
theorem rng_hull {n : Nat} {ms : List Mat} (hr : ∀ j, j < ms.length → RightM n (ms.getD j fun _ _ => 0)) : ∀ p, p ≤ ms.length → ∀ H, hullUp n ms p = some H → Rng n H
  | 0, _, H, h => by cases h
  | p + 1, hp, H, h => by
    have h2 := rng_open (hr p (by omega))
    unfold hullUp at h
    split at h
    · exact rng_hull hr p (by omega) H h
    · split at h
      · simp only [Option.some.injEq] at h; subst h; exact h2
      · rename_i H' he
        simp only [Option.some.injEq] at h
        subst h
        intro i j hi hj
        have a1 := rng_hull hr p (by omega) H' he i j hi hj
        have a2 := h2 i j hi hj
        rw [maxW_in (by omega) (by omega)]
        omega
end Go.Proofs.YtncgapnooabdgaaDoor

/- The hull of zones: plain. -/
namespace Go.Proofs.YtncgapnooabdgaaDoor
set_option linter.unusedVariables false
set_option linter.unusedSimpArgs false

/-- The zone is not empty, and its cells are the strictest. -/
structure ClosedZ (n : Nat) (m : Mat) : Prop where
  full : FullZ n m
  tri : Tri n (widW m) (n + 1)
theorem closed_of {n : Nat} {M m' : Mat} (h0 : ∀ j, j ≤ n → M 0 j ≤ 1) (ha : allR n m') (hc : Closed n M m') : ClosedZ n (narM n m') := by
  have hcell : ∀ i j, i ≤ n → j ≤ n → widW (narM n m') i j = m' i j := fun i j hi hj => by
    unfold widW narM
    rw [if_pos ⟨hi, hj⟩]
    exact wid_nar (ha i hi j hj)
  refine ⟨full_of h0 ha hc, fun l hl i j hi hj => ?_⟩
  rw [hcell i j hi hj, hcell i l hi (by omega), hcell l j (by omega) hj]
  exact hc.tri l hl i j hi hj
/-- A zone that Of made is empty, or closed. -/
theorem zone_closed {n : Int} {cells : List Int} {k : Nat} {m : Mat} (e : zOf n cells = some (k, m)) : m = (fun _ _ => 0) ∨ ClosedZ k m := by
  unfold zOf at e
  cases hz : (ofP n cells).1 with
  | none => rw [hz] at e; cases e
  | some m0 =>
    rw [hz] at e
    simp only [Option.map_some, Option.some.injEq, Prod.mk.injEq] at e
    obtain ⟨e1, e2⟩ := e
    subst e2
    unfold ofP at hz
    split at hz
    · rename_i hn
      split at hz
      · rename_i hl
        split at hz
        · rename_i hr
          obtain ⟨q, rfl⟩ : ∃ q : Nat, n = q := ⟨n.toNat, by omega⟩
          rw [Int.toNat_natCast] at hz e1
          subst e1
          have hl' : cells.length = (q + 1) * (q + 1) := by exact_mod_cast hl
          have hr' : ∀ p, p < (q + 1) * (q + 1) → rightB (cells.getD p 0) = true := fun p hp => (all_getD cells rightB 0).1 hr p (by omega)
          rw [hl'] at hz
          rcases zoneP_is (by omega) (keepUp_fit q cells _ hr') hz with ⟨h, _⟩ | ⟨m', hm, ha, hzz, hc⟩
          · exact .inl h
          · right; rw [hzz]; exact closed_of (keepUp_top4 hr') ha hc
        · cases hz
      · cases hz
    · cases hz
theorem wid_max {x y : Int} (hx : x ≤ 2147483647) (hy : y ≤ 2147483647) : wid (max x y) = max (wid x) (wid y) := by
  unfold wid none62
  rw [Int.max_def, Int.max_def]
  split <;> split <;> split <;> (try split) <;> omega
theorem right_fb {x : Int} (h : rightB x = true) : FB (wid x) := by
  unfold wid
  split
  · exact .inl rfl
  · rename_i e
    have := rightB_bd h e
    exact .inr (by omega)
theorem right_max {x y : Int} (hx : rightB x = true) (hy : rightB y = true) : rightB (max x y) = true := by
  rw [Int.max_def]; split <;> assumption
theorem ClosedZ.congr {n : Nat} {a b : Mat} (h : ClosedZ n a) (hab : Agree n a b) : ClosedZ n b := by
  refine ⟨⟨fun i j hi hj => ?_, fun i hi => ?_, fun j hj => ?_⟩, fun l hl i j hi hj => ?_⟩
  · rw [← hab i j hi hj]; exact h.full.right i j hi hj
  · rw [← hab i i hi hi]; exact h.full.one i hi
  · rw [← hab 0 j (by omega) hj]; exact h.full.top j hj
  · have := h.tri l hl i j hi hj
    unfold widW at this ⊢
    rw [hab i j hi hj, hab i l hi (by omega), hab l j (by omega) hj] at this
    exact this
theorem ClosedZ.join {n : Nat} {a b : Mat} (h : ClosedZ n a) (h' : ClosedZ n b) : ClosedZ n (maxF a b) := by
  refine ⟨⟨fun i j hi hj => right_max (h.full.right i j hi hj) (h'.full.right i j hi hj), fun i hi => ?_, fun j hj => ?_⟩, fun l hl i j hi hj => ?_⟩
  · show max (a i i) (b i i) = 1
    rw [h.full.one i hi, h'.full.one i hi]; rfl
  · show max (a 0 j) (b 0 j) ≤ 1
    have := h.full.top j hj
    have := h'.full.top j hj
    omega
  · have hcell : ∀ p q, p ≤ n → q ≤ n → widW (maxF a b) p q = max (widW a p q) (widW b p q) := fun p q hp hq =>
      wid_max (right_hi (h.full.right p q hp hq)).2 (right_hi (h'.full.right p q hp hq)).2
    have hl' : l ≤ n := by omega
    rw [hcell i j hi hj, hcell i l hi hl', hcell l j hl' hj]
    have t1 := h.tri l hl i j hi hj
    have t2 := h'.tri l hl i j hi hj
    have f1 : FB (widW a i l) := right_fb (h.full.right i l hi hl')
    have f2 : FB (widW a l j) := right_fb (h.full.right l j hl' hj)
    have f3 : FB (widW b i l) := right_fb (h'.full.right i l hi hl')
    have f4 : FB (widW b l j) := right_fb (h'.full.right l j hl' hj)
    have g1 : FB (Max.max (widW a i l) (widW b i l)) := by rw [Int.max_def]; split <;> assumption
    have g2 : FB (Max.max (widW a l j) (widW b l j)) := by rw [Int.max_def]; split <;> assumption
    have m1 := wsum_le f1 g1 f2 g2 (by omega) (by omega)
    have m2 := wsum_le f3 g1 f4 g2 (by omega) (by omega)
    omega
theorem ofP_closed {n : Nat} {H : Mat} (hn : n ≤ 8) (h : ClosedZ n H) : ofP n (flat n H) = (some (narM n (widW H)), 0) ∧ ∀ i j, i ≤ n → j ≤ n → narM n (widW H) i j = H i j := by
  have hall : allR n (widW H) := fun i hi j hj => by
    have := h.full.right i j hi hj
    unfold rightB at this
    have := of_decide_eq_true this
    unfold widW wid inR none62
    split <;> omega
  constructor
  · rw [ofP_wid hn h.full.ok]
    unfold zoneP
    rw [closed_id h.tri (fun i hi => by unfold widW; rw [h.full.one i hi]; decide)]
    simp only
    rw [if_pos hall]
  · intro i j hi hj
    have := right_hi (h.full.right i j hi hj)
    unfold narM nar widW wid none62
    rw [if_pos ⟨hi, hj⟩]
    split <;> split <;> omega
/-- What is known of the hull of the first p. -/
def HullInv (n : Nat) (ms : List Mat) (p : Nat) : Option Mat → Prop
  | none => ∀ q, q < p → (ms.getD q fun _ _ => 0) 0 0 < 1
  | some H => ClosedZ n H ∧ (∀ q, q < p → (ms.getD q fun _ _ => 0) 0 0 < 1 ∨ ∀ i, i ≤ n → ∀ j, j ≤ n → (ms.getD q fun _ _ => 0) i j ≤ H i j) ∧
    ∀ o : Mat, (∀ q, q < p → (ms.getD q fun _ _ => 0) 0 0 < 1 ∨ ∀ i, i ≤ n → ∀ j, j ≤ n → (ms.getD q fun _ _ => 0) i j ≤ o i j) → ∀ i, i ≤ n → ∀ j, j ≤ n → H i j ≤ o i j
theorem hull_inv {n : Nat} {ms : List Mat} (hk : ∀ j, j < ms.length → (ms.getD j fun _ _ => 0) = (fun _ _ => 0) ∨ ClosedZ n (ms.getD j fun _ _ => 0)) : ∀ p, p ≤ ms.length → HullInv n ms p (hullUp n ms p)
  | 0, _ => fun q hq => by omega
  | p + 1, hp => by
    have ih := hull_inv hk p (by omega)
    have hkp := hk p (by omega)
    obtain ⟨m, hm⟩ : ∃ m, (ms.getD p fun _ _ => 0) = m := ⟨_, rfl⟩
    rw [hm] at hkp
    by_cases he : m 0 0 < 1
    · rw [hullUp_skip hm he]
      cases hu : hullUp n ms p with
      | none =>
        rw [hu] at ih
        intro q hq
        by_cases e : q = p
        · subst e; rw [hm]; exact he
        · exact ih q (by omega)
      | some H =>
        rw [hu] at ih
        obtain ⟨h1, h2, h3⟩ := ih
        refine ⟨h1, fun q hq => ?_, fun o ho => h3 o fun q hq => ho q (by omega)⟩
        by_cases e : q = p
        · subst e; rw [hm]; exact .inl he
        · exact h2 q (by omega)
    · have hcl : ClosedZ n m := by
        rcases hkp with rfl | h
        · exact absurd (by decide) he
        · exact h
      have hag := open_agree n m
      cases hu : hullUp n ms p with
      | none =>
        rw [hullUp_first hm he hu]
        rw [hu] at ih
        refine ⟨hcl.congr fun i j hi hj => (hag i j hi hj).symm, fun q hq => ?_, fun o ho i hi j hj => ?_⟩
        · by_cases e : q = p
          · subst e; rw [hm]; exact .inr fun i hi j hj => by rw [hag i j hi hj]; exact Int.le_refl _
          · exact .inl (ih q (by omega))
        · rw [hag i j hi hj]
          rcases ho p (by omega) with h | h
          · rw [hm] at h; exact absurd h he
          · rw [hm] at h; exact h i hi j hj
      | some H =>
        rw [hullUp_more hm he hu]
        rw [hu] at ih
        obtain ⟨h1, h2, h3⟩ := ih
        have hmx : Agree n (maxF H m) (maxW n H (openW (some (n, m)))) := fun i j hi hj => by
          rw [maxW_in hi hj, hag i j hi hj]; rfl
        refine ⟨(h1.join hcl).congr hmx, fun q hq => ?_, fun o ho i hi j hj => ?_⟩
        · by_cases e : q = p
          · subst e; rw [hm]
            refine .inr fun i hi j hj => ?_
            rw [← hmx i j hi hj]
            show m i j ≤ max (H i j) (m i j)
            omega
          · rcases h2 q (by omega) with h | h
            · exact .inl h
            · refine .inr fun i hi j hj => ?_
              have := h i hi j hj
              rw [← hmx i j hi hj]
              show _ ≤ max (H i j) (m i j)
              omega
        · rw [← hmx i j hi hj]
          show max (H i j) (m i j) ≤ _
          have a1 := h3 o (fun q hq => ho q (by omega)) i hi j hj
          rcases ho p (by omega) with h | h
          · rw [hm] at h; exact absurd h he
          · rw [hm] at h
            have a2 := h i hi j hj
            omega
/-- The hull includes all, and each zone that includes all includes it. -/
theorem hull_law {n : Nat} {m : Mat} {ms : List Mat} (hn : n ≤ 8) (hk : ∀ j, j < (m :: ms).length → ((m :: ms).getD j fun _ _ => 0) = (fun _ _ => 0) ∨ ClosedZ n ((m :: ms).getD j fun _ _ => 0)) :
    ∃ h, hullA n m ms = (some h, 0) ∧ (∀ q, q < (m :: ms).length → inclM n h ((m :: ms).getD q fun _ _ => 0) = true) ∧ ∀ o, (∀ q, q < (m :: ms).length → inclM n o ((m :: ms).getD q fun _ _ => 0) = true) → inclM n o h = true := by
  have hi := hull_inv hk (m :: ms).length (Nat.le_refl _)
  unfold hullA
  cases hu : hullUp n (m :: ms) (m :: ms).length with
  | none =>
    rw [hu] at hi
    have h0 := hi 0 (by simp)
    have hm : m = (fun _ _ => 0) := by
      rcases hk 0 (by simp) with h | h
      · exact h
      · have := h.full.one 0 (by omega); rw [this] at h0; omega
    subst hm
    refine ⟨fun _ _ => 0, ofP_zero n hn, fun q hq => decide_eq_true (.inl (hi q hq)), fun o _ => decide_eq_true (.inl (by decide))⟩
  | some H =>
    rw [hu] at hi
    obtain ⟨h1, h2, h3⟩ := hi
    obtain ⟨e1, e2⟩ := ofP_closed hn h1
    refine ⟨_, e1, fun q hq => decide_eq_true ?_, fun o ho => decide_eq_true (.inr fun i hi j hj => ?_)⟩
    · rcases h2 q hq with h | h
      · exact .inl h
      · exact .inr fun i hi j hj => by rw [e2 i j hi hj]; exact h i hi j hj
    · rw [e2 i j hi hj]
      exact h3 o (fun q hq => of_decide_eq_true (ho q hq)) i hi j hj

end Go.Proofs.YtncgapnooabdgaaDoor

/- The closed form is the greatest closed one below; time that passes twice: plain. -/
namespace Go.Proofs.YtncgapnooabdgaaDoor
set_option linter.unusedVariables false
set_option linter.unusedSimpArgs false

theorem fw_ge {n k : Nat} {m E : Mat} (hk : k ≤ n) (hE : ∀ i j, i ≤ n → j ≤ n → FB (E i j)) (hm : ∀ i j, i ≤ n → j ≤ n → FB (m i j)) (ht : Tri n E (n + 1)) (hle : ∀ i j, i ≤ n → j ≤ n → E i j ≤ m i j) :
    ∀ i j, i ≤ n → j ≤ n → E i j ≤ fw k n m i j := fun i j hi hj => by
  have h1 := hle i j hi hj
  have h2 := ht k (by omega) i j hi hj
  have h3 := wsum_le (hE i k hi hk) (hm i k hi hk) (hE k j hk hj) (hm k j hk hj) (hle i k hi hk) (hle k j hk hj)
  unfold fw
  rw [if_pos ⟨hi, hj⟩]
  omega
theorem closeP_ge {n : Nat} (hn : n ≤ 8) {E : Mat} (hE : ∀ i j, i ≤ n → j ≤ n → FB (E i j)) (ht : Tri n E (n + 1)) (h1 : ∀ i, i ≤ n → E i i = 1) :
    ∀ s k m, k + s = n + 1 → Fit n (1073741824 * 4 ^ k) m → (∀ i j, i ≤ n → j ≤ n → E i j ≤ m i j) → ∃ m', closeP n s k m = some m' ∧ ∀ i j, i ≤ n → j ≤ n → E i j ≤ m' i j
  | 0, k, m, _, _, h => ⟨m, rfl, h⟩
  | s + 1, k, m, hk, hf, h => by
    have hg := fw_ge (show k ≤ n by omega) hE (fun i j hi hj => half_fb (fit_bd hf (by omega) i j hi hj)) ht h
    unfold closeP
    rw [if_pos (fun i hi => by have := hg i i hi hi; rw [h1 i hi] at this; exact this)]
    exact closeP_ge hn hE ht h1 s (k + 1) _ (by omega) (fit_next hf (by omega)) hg
/-- What is closed, and below, is below the closed form; and there is one. -/
theorem closed_ge {n : Nat} (hn : n ≤ 8) {E M : Mat} (hE : ∀ i j, i ≤ n → j ≤ n → FB (E i j)) (ht : Tri n E (n + 1)) (h1 : ∀ i, i ≤ n → E i i = 1) (hf : Fit n 1073741824 M) (hle : ∀ i j, i ≤ n → j ≤ n → E i j ≤ M i j) :
    ∃ m', closed n M = some m' ∧ ∀ i j, i ≤ n → j ≤ n → E i j ≤ m' i j := closeP_ge hn hE ht h1 (n + 1) 0 M (by omega) (by simpa using hf) hle

theorem wid_cases {a : Int} (h : rightB a = true) : (a = 2147483647 ∧ wid a = none62) ∨ (a ≠ 2147483647 ∧ wid a = a ∧ -536870912 ≤ a ∧ a ≤ 536870913) := by
  by_cases e : a = 2147483647
  · exact .inl ⟨e, by unfold wid; rw [if_pos e]⟩
  · have := rightB_bd h e
    exact .inr ⟨e, by unfold wid; rw [if_neg e], this.1, this.2⟩
theorem wid_le {a b : Int} (ha : rightB a = true) (hb : rightB b = true) : wid a ≤ wid b ↔ a ≤ b := by
  rcases wid_cases ha with ⟨h1, h2⟩ | ⟨h1, h2, h3, h4⟩ <;> rcases wid_cases hb with ⟨h5, h6⟩ | ⟨h5, h6, h7, h8⟩ <;> rw [h2, h6] <;> unfold none62 <;> omega
/-- What Of tells of cells that may be. -/
inductive OfIs (n : Nat) (X : Mat) : Option Mat × Int → Prop
  | empty (h : closed n (widW X) = none) : OfIs n X (some (fun _ _ => 0), 0)
  | full (C Y : Mat) (h : closed n (widW X) = some C) (hc : Closed n (widW X) C) (hy : ClosedZ n Y) (he : ∀ i j, i ≤ n → j ≤ n → widW Y i j = C i j) (hle : ∀ i j, i ≤ n → j ≤ n → Y i j ≤ X i j) : OfIs n X (some Y, 0)
  | over (C : Mat) (h : closed n (widW X) = some C) (hc : Closed n (widW X) C) : OfIs n X (none, 10)
theorem of_is {n : Nat} {X : Mat} (hn : n ≤ 8) (h : OkM n X) : OfIs n X (ofP n (flat n X)) := by
  rw [ofP_wid hn h]
  unfold zoneP
  cases hc : closed n (widW X) with
  | none => exact .empty hc
  | some C =>
    have hcl := closed_closed hn h.fit hc
    simp only
    by_cases ha : allR n C
    · rw [if_pos ha]
      have hz := closed_of h.wtop ha hcl
      have he : ∀ i j, i ≤ n → j ≤ n → widW (narM n C) i j = C i j := fun i j hi hj => by
        unfold widW narM
        rw [if_pos ⟨hi, hj⟩]
        exact wid_nar (ha i hi j hj)
      refine .full C _ hc hcl hz he fun i j hi hj => ?_
      refine (wid_le (hz.full.right i j hi hj) (h.right i j hi hj)).1 ?_
      have h1 := he i j hi hj
      have h2 := hcl.le i j
      unfold widW at h1 h2
      omega
    · rw [if_neg ha]
      exact .over C hc hcl
theorem nar_agree {n : Nat} {U : Mat} (hn : n ≤ 8) (h : ClosedZ n U) : Agree n (narM n (widW U)) U := fun i j hi hj => (ofP_closed hn h).2 i j hi hj
theorem nar_closed {n : Nat} {U : Mat} (hn : n ≤ 8) (h : ClosedZ n U) : ClosedZ n (narM n (widW U)) := h.congr fun i j hi hj => (nar_agree hn h i j hi hj).symm
/-- Of cells that are, in range, a closed zone's. -/
theorem of_same {n : Nat} {X U : Mat} (hn : n ≤ 8) (h : ClosedZ n U) (ha : Agree n X U) : ofP n (flat n X) = (some (narM n (widW U)), 0) := by
  rw [flat_congr ha]; exact (ofP_closed hn h).1
theorem nar_same {n : Nat} {U V : Mat} (h : Agree n U V) : narM n (widW U) = narM n (widW V) := narM_agree fun i j hi hj => by unfold widW; rw [h i j hi hj]
theorem ClosedZ.notEmpty {n : Nat} {m : Mat} (h : ClosedZ n m) : emptyP (some (n, m)) = false := decide_eq_false (by rw [h.full.one 0 (Nat.zero_le _)]; omega)
theorem ClosedZ.fb {n : Nat} {m : Mat} (h : ClosedZ n m) {i j : Nat} (hi : i ≤ n) (hj : j ≤ n) : FB (widW m i j) := right_fb (h.full.right i j hi hj)
theorem ClosedZ.wone {n : Nat} {m : Mat} (h : ClosedZ n m) {i : Nat} (hi : i ≤ n) : widW m i i = 1 := by unfold widW; rw [h.full.one i hi]; decide
theorem ClosedZ.wtop {n : Nat} {m : Mat} (h : ClosedZ n m) {j : Nat} (hj : j ≤ n) : widW m 0 j ≤ 1 := h.full.ok.wtop j hj
/-- What is no stricter than a step back to the zero clock. -/
theorem ClosedZ.to0 {n : Nat} {m : Mat} (h : ClosedZ n m) {i j : Nat} (hi : i ≤ n) (hj : j ≤ n) : widW m i j ≤ widW m i 0 := by
  have h1 := h.tri 0 (by omega) i j hi hj
  have h2 := wsum_le (h.fb hi (Nat.zero_le _)) (h.fb hi (Nat.zero_le _)) (h.fb (Nat.zero_le _) hj) (b' := 1) (.inr (by omega)) (Int.le_refl _) (h.wtop hj)
  rw [wsum_one_right] at h2
  omega
theorem ClosedZ.from0 {n : Nat} {m : Mat} (h : ClosedZ n m) {i j : Nat} (hi : i ≤ n) (hj : j ≤ n) : widW m 0 j ≤ widW m i j := by
  have h1 := h.tri i (by omega) 0 j (Nat.zero_le _) hj
  have h2 := wsum_le (h.fb (Nat.zero_le _) hi) (a' := 1) (.inr (by omega)) (h.fb hi hj) (h.fb hi hj) (h.wtop hi) (Int.le_refl _)
  rw [wsum_one_left] at h2
  omega
theorem ClosedZ.col0 {n : Nat} {m : Mat} (h : ClosedZ n m) {i : Nat} (hi : i ≤ n) : 1 ≤ widW m i 0 := by
  have := h.to0 hi hi
  rw [h.wone hi] at this
  exact this

/-! ### Up -/
def upM (m : Mat) : Mat := fun i j => if j = 0 ∧ i ≠ 0 then 2147483647 else m i j
theorem upUp_cell (m : Mat) (i j : Nat) : ∀ p, upUp m p i j = if j = 0 ∧ 1 ≤ i ∧ i < p then 2147483647 else m i j
  | 0 => by rw [if_neg (by omega)]; rfl
  | p + 1 => by
    unfold upUp
    split
    · rw [upUp_cell m i j p]
      split <;> split <;> first | rfl | (exfalso; omega)
    · unfold upd
      rw [upUp_cell m i j p]
      split <;> split <;> (try split) <;> first | rfl | (exfalso; omega)
theorem up_closed {n : Nat} {m : Mat} (h : ClosedZ n m) : ClosedZ n (upM m) := by
  have hr : RightM n (upM m) := fun i j hi hj => by
    unfold upM; split
    · decide
    · exact h.full.right i j hi hj
  refine ⟨⟨hr, fun i hi => ?_, fun j hj => ?_⟩, fun l hl i j hi hj => ?_⟩
  · unfold upM; rw [if_neg (by omega)]; exact h.full.one i hi
  · unfold upM; rw [if_neg (by omega)]; exact h.full.top j hj
  · have hl' : l ≤ n := by omega
    have hfb : FB (widW (upM m) i j) := right_fb (hr i j hi hj)
    have hinf : wid 2147483647 = none62 := by decide
    by_cases e1 : l = 0 ∧ i ≠ 0
    · have : widW (upM m) i l = none62 := by unfold widW upM; rw [if_pos e1, hinf]
      rw [this, wsum_none_left]; exact hfb.le
    · by_cases e2 : j = 0 ∧ l ≠ 0
      · have : widW (upM m) l j = none62 := by unfold widW upM; rw [if_pos e2, hinf]
        rw [this, wsum_none_right]; exact hfb.le
      · have h1 : widW (upM m) i l = widW m i l := by unfold widW upM; rw [if_neg e1]
        have h2 : widW (upM m) l j = widW m l j := by unfold widW upM; rw [if_neg e2]
        have h3 : widW (upM m) i j = widW m i j := by unfold widW upM; rw [if_neg (by omega)]
        rw [h1, h2, h3]
        exact h.tri l hl i j hi hj
theorem upW_agree {n : Nat} {m : Mat} (h : ClosedZ n m) : Agree n (upW (some (n, m))) (upM m) := fun i j hi hj => by
  have e : upW (some (n, m)) = upUp (openW (some (n, m))) (n + 1) := by unfold upW; rw [if_neg (by simp [h.notEmpty])]; rfl
  rw [e, (open_agree n m).up (n + 1) i j hi hj, upUp_cell]
  unfold upM
  split <;> split <;> first | rfl | (exfalso; omega)
theorem incl_of {n : Nat} {m o : Mat} (h : ∀ i j, i ≤ n → j ≤ n → o i j ≤ m i j) : inclM n m o = true := decide_eq_true (.inr fun i hi j hj => h i j hi hj)
theorem incl_zero (n : Nat) (m : Mat) : inclM n m (fun _ _ => 0) = true := decide_eq_true (.inl (by decide))
theorem up_twice {n : Nat} {m : Mat} (hn : n ≤ 8) (h : m = (fun _ _ => 0) ∨ ClosedZ n m) :
    ∃ a, ofP n (flat n (upW (some (n, m)))) = (some a, 0) ∧ ofP n (flat n (upW (some (n, a)))) = (some a, 0) ∧ inclM n a m = true := by
  rcases h with rfl | h
  · exact ⟨_, up_zero n hn, up_zero n hn, incl_zero n _⟩
  · have hc := up_closed h
    refine ⟨_, of_same hn hc (upW_agree h), ?_, ?_⟩
    · have hcc := nar_closed hn hc
      rw [of_same hn (up_closed hcc) (upW_agree hcc)]
      refine Prod.ext (congrArg some (nar_same fun i j hi hj => ?_)) rfl
      have := nar_agree hn hc i j hi hj
      unfold upM at this ⊢
      split
      · rfl
      · rename_i hij
        rw [if_neg hij] at this
        exact this
    · refine incl_of fun i j hi hj => ?_
      rw [nar_agree hn hc i j hi hj]
      unfold upM
      split
      · exact (right_hi (h.full.right i j hi hj)).2
      · exact Int.le_refl _

/-! ### Down -/
theorem downIn_other {m : Mat} {i a b : Nat} (h : a ≠ 0 ∨ b ≠ i) : ∀ j, downIn m i j a b = m a b
  | 0 => rfl
  | j + 1 => by
    unfold downIn
    split
    · exact downIn_other h j
    · unfold lessM upd
      rw [if_neg (by omega)]
      exact downIn_other h j
theorem downIn_val {m : Mat} {i : Nat} : ∀ j, downIn m i j 0 i ≤ m 0 i ∧ (∀ q, 1 ≤ q → q < j → downIn m i j 0 i ≤ m q i) ∧ (downIn m i j 0 i = m 0 i ∨ ∃ q, 1 ≤ q ∧ q < j ∧ downIn m i j 0 i = m q i)
  | 0 => ⟨Int.le_refl _, fun q h1 h2 => by omega, .inl rfl⟩
  | j + 1 => by
    obtain ⟨h1, h2, h3⟩ := downIn_val (m := m) (i := i) j
    unfold downIn
    split
    · subst j
      exact ⟨h1, fun q a b => by omega, .inl (by rcases h3 with h | ⟨q, a, b, _⟩; exact h; omega)⟩
    · rename_i hj
      have e : lessM (downIn m i j) 0 i (downIn m i j j i) 0 i = min (downIn m i j 0 i) (m j i) := by
        unfold lessM upd
        rw [if_pos ⟨rfl, rfl⟩, downIn_other (.inl hj)]
      rw [e]
      refine ⟨by omega, fun q a b => ?_, ?_⟩
      · by_cases e2 : q = j
        · subst e2; omega
        · have := h2 q a (by omega); omega
      · rcases Int.le_total (downIn m i j 0 i) (m j i) with hle | hle
        · rw [Int.min_eq_left hle]
          rcases h3 with h | ⟨q, a, b, c⟩
          · exact .inl h
          · exact .inr ⟨q, a, by omega, c⟩
        · rw [Int.min_eq_right hle]
          exact .inr ⟨j, by omega, by omega, rfl⟩
theorem downUp_other {n : Nat} {m : Mat} {a b : Nat} (h : a ≠ 0 ∨ b = 0) : ∀ p, downUp n m p a b = m a b
  | 0 => rfl
  | p + 1 => by
    unfold downUp
    split
    · exact downUp_other h p
    · rw [downIn_other (by omega)]
      unfold upd
      rw [if_neg (by omega)]
      exact downUp_other h p
theorem downUp_val {n : Nat} {m : Mat} {j : Nat} (h1 : 1 ≤ j) (hj : j ≤ n) (hd : m j j = 1) : ∀ p, j < p → (∀ q, 1 ≤ q → q ≤ n → downUp n m p 0 j ≤ m q j) ∧ ∃ q, 1 ≤ q ∧ q ≤ n ∧ downUp n m p 0 j = m q j
  | 0, h => by omega
  | p + 1, h => by
    unfold downUp
    rw [if_neg (by omega)]
    by_cases e : j = p
    · subst e
      have hq : ∀ q, 1 ≤ q → upd (downUp n m j) 0 j 1 q j = m q j := fun q hq => by
        unfold upd
        rw [if_neg (by omega)]
        exact downUp_other (.inl (by omega)) j
      obtain ⟨a, b, c⟩ := downIn_val (m := upd (downUp n m j) 0 j 1) (i := j) (n + 1)
      have h0 : upd (downUp n m j) 0 j 1 0 j = 1 := by unfold upd; rw [if_pos ⟨rfl, rfl⟩]
      refine ⟨fun q x y => by rw [← hq q x]; exact b q x (by omega), ?_⟩
      rcases c with c | ⟨q, x, y, c⟩
      · exact ⟨j, h1, hj, by rw [c, h0, hd]⟩
      · exact ⟨q, x, by omega, by rw [c, hq q x]⟩
    · have e2 : downIn (upd (downUp n m p) 0 p 1) p (n + 1) 0 j = downUp n m p 0 j := by
        rw [downIn_other (.inr e)]
        unfold upd
        rw [if_neg (by omega)]
      rw [e2]
      exact downUp_val h1 hj hd p (by omega)
def downM (n : Nat) (m : Mat) : Mat := downUp n m (n + 1)
theorem downM_other {n : Nat} {m : Mat} {a b : Nat} (h : a ≠ 0 ∨ b = 0) : downM n m a b = m a b := downUp_other h _
theorem downM_val {n : Nat} {m : Mat} {j : Nat} (h1 : 1 ≤ j) (hj : j ≤ n) (hd : m j j = 1) : (∀ q, 1 ≤ q → q ≤ n → downM n m 0 j ≤ m q j) ∧ ∃ q, 1 ≤ q ∧ q ≤ n ∧ downM n m 0 j = m q j := downUp_val h1 hj hd _ (by omega)
theorem down_closed {n : Nat} {m : Mat} (h : ClosedZ n m) : ClosedZ n (downM n m) := by
  have hr : RightM n (downM n m) := fun i j hi hj => by
    by_cases e : i ≠ 0 ∨ j = 0
    · rw [downM_other e]; exact h.full.right i j hi hj
    · have e1 : i = 0 := by omega
      subst e1
      obtain ⟨_, q, a, b, c⟩ := downM_val (m := m) (j := j) (by omega) hj (h.full.one j hj)
      rw [c]; exact h.full.right q j b hj
  refine ⟨⟨hr, fun i hi => ?_, fun j hj => ?_⟩, fun l hl i j hi hj => ?_⟩
  · rw [downM_other (by omega)]; exact h.full.one i hi
  · by_cases e : j = 0
    · subst e; rw [downM_other (.inr rfl), h.full.one 0 (Nat.zero_le _)]; exact Int.le_refl _
    · have := (downM_val (m := m) (j := j) (by omega) hj (h.full.one j hj)).1 j (by omega) hj
      rw [h.full.one j hj] at this; exact this
  · have hl' : l ≤ n := by omega
    have heq : ∀ a b, a ≠ 0 ∨ b = 0 → widW (downM n m) a b = widW m a b := fun a b hab => by unfold widW; rw [downM_other hab]
    by_cases hi0 : i ≠ 0
    · rw [heq i j (.inl hi0), heq i l (.inl hi0)]
      by_cases hl0 : l ≠ 0 ∨ j = 0
      · rw [heq l j hl0]; exact h.tri l hl i j hi hj
      · have : l = 0 := by omega
        subst this
        obtain ⟨_, q, a, b, c⟩ := downM_val (m := m) (j := j) (by omega) hj (h.full.one j hj)
        have e : widW (downM n m) 0 j = widW m q j := by unfold widW; rw [c]
        rw [e]
        have t1 := h.tri q (by omega) i j hi hj
        have t2 := wsum_le (h.fb hi b) (h.fb hi (Nat.zero_le _)) (h.fb b hj) (h.fb b hj) (h.to0 hi b) (Int.le_refl _)
        omega
    · have : i = 0 := by omega
      subst this
      by_cases hj0 : j = 0
      · subst hj0
        rw [heq 0 0 (.inr rfl), heq l 0 (.inr rfl), h.wone (Nat.zero_le _)]
        by_cases hl0 : l = 0
        · subst hl0; rw [heq 0 0 (.inr rfl), h.wone (Nat.zero_le _)]; decide
        · obtain ⟨_, q, a, b, c⟩ := downM_val (m := m) (j := l) (by omega) hl' (h.full.one l hl')
          have e : widW (downM n m) 0 l = widW m q l := by unfold widW; rw [c]
          rw [e]
          have t1 := h.tri l hl q 0 b (Nat.zero_le _)
          have t2 := h.col0 b
          omega
      · obtain ⟨u, q0, a0, b0, c0⟩ := downM_val (m := m) (j := j) (by omega) hj (h.full.one j hj)
        by_cases hl0 : l = 0
        · subst hl0
          rw [heq 0 0 (.inr rfl), h.wone (Nat.zero_le _), wsum_one_left]
          exact Int.le_refl _
        · obtain ⟨_, q, a, b, c⟩ := downM_val (m := m) (j := l) (by omega) hl' (h.full.one l hl')
          have e : widW (downM n m) 0 l = widW m q l := by unfold widW; rw [c]
          rw [e, heq l j (.inl hl0)]
          have t1 := h.tri l hl q j b hj
          have t2 := (wid_le (hr 0 j (Nat.zero_le _) hj) (h.full.right q j b hj)).2 (u q a b)
          unfold widW at t1 ⊢
          omega
theorem downW_agree {n : Nat} {m : Mat} (h : ClosedZ n m) : Agree n (downW (some (n, m))) (downM n m) := fun i j hi hj => by
  have e : downW (some (n, m)) = downUp n (openW (some (n, m))) (n + 1) := by unfold downW; rw [if_neg (by simp [h.notEmpty])]; rfl
  rw [e, (open_agree n m).down (n + 1) (Nat.le_refl _) i j hi hj]
  rfl
theorem down_idem {n : Nat} {m D : Mat} (h : ClosedZ n m) (hD : Agree n D (downM n m)) : Agree n (downM n D) (downM n m) := fun i j hi hj => by
  by_cases e : i ≠ 0 ∨ j = 0
  · rw [downM_other e]; exact hD i j hi hj
  · have e1 : i = 0 := by omega
    subst e1
    have hdd : D j j = 1 := by rw [hD j j hj hj, downM_other (by omega)]; exact h.full.one j hj
    obtain ⟨u, q, a, b, c⟩ := downM_val (m := m) (j := j) (by omega) hj (h.full.one j hj)
    obtain ⟨u', q', a', b', c'⟩ := downM_val (m := D) (j := j) (by omega) hj hdd
    have x1 := u q' a' b'
    have x2 := u' q a b
    have e2 : D q' j = m q' j := (hD q' j b' hj).trans (downM_other (.inl (Nat.pos_iff_ne_zero.1 a')))
    have e3 : D q j = m q j := (hD q j b hj).trans (downM_other (.inl (Nat.pos_iff_ne_zero.1 a)))
    omega
theorem down_twice {n : Nat} {m : Mat} (hn : n ≤ 8) (h : m = (fun _ _ => 0) ∨ ClosedZ n m) :
    ∃ a, ofP n (flat n (downW (some (n, m)))) = (some a, 0) ∧ ofP n (flat n (downW (some (n, a)))) = (some a, 0) ∧ inclM n a m = true := by
  rcases h with rfl | h
  · exact ⟨_, down_zero n hn, down_zero n hn, incl_zero n _⟩
  · have hc := down_closed h
    refine ⟨_, of_same hn hc (downW_agree h), ?_, ?_⟩
    · have hcc := nar_closed hn hc
      rw [of_same hn (down_closed hcc) (downW_agree hcc)]
      exact Prod.ext (congrArg some (nar_same (down_idem h (nar_agree hn hc)))) rfl
    · refine incl_of fun i j hi hj => ?_
      rw [nar_agree hn hc i j hi hj]
      by_cases e : i ≠ 0 ∨ j = 0
      · rw [downM_other e]; exact Int.le_refl _
      · have e1 : i = 0 := by omega
        subst e1
        obtain ⟨_, q, a, b, c⟩ := downM_val (m := m) (j := j) (by omega) hj (h.full.one j hj)
        rw [c]
        exact (wid_le (h.full.right 0 j hi hj) (h.full.right q j b hj)).1 (h.from0 b hj)

end Go.Proofs.YtncgapnooabdgaaDoor
