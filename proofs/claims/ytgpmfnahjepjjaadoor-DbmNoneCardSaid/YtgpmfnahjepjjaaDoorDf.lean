/- Does a zone include another one? -/
import Derived.Test.YtgpmfnahjepjjaaDoorDe
namespace Go.Proofs.YtgpmfnahjepjjaaDoor
open Go.RowKit
set_option linter.unusedVariables false
set_option linter.unusedSimpArgs false

theorem empty_yes (b n : Nat) (m : Mat) (w : World) (h : MatAt w b 44 .i32 n m) (hm : m 0 0 < 1) : Calls Tryd.prog 8 #[.pointer (some ⟨b, 0, none⟩)] w fun e w' => e = .returned (.bool true) ∧ w' = w :=
  (empty_zone b n m w h).mono fun _ _ k => ⟨by rw [k.1, decide_eq_true hm], k.2.symm⟩
theorem empty_no (b n : Nat) (m : Mat) (w : World) (h : MatAt w b 44 .i32 n m) (hm : ¬ m 0 0 < 1) : Calls Tryd.prog 8 #[.pointer (some ⟨b, 0, none⟩)] w fun e w' => e = .returned (.bool false) ∧ w' = w :=
  (empty_zone b n m w h).mono fun _ _ k => ⟨by rw [k.1, decide_eq_false hm], k.2.symm⟩

/-- Is o in m? -/
def inclM (n : Nat) (m o : Mat) : Bool := decide (o 0 0 < 1 ∨ ∀ i, i ≤ n → ∀ j, j ≤ n → o i j ≤ m i j)
def inclP (z o : Option (Nat × Mat)) : Bool := match z, o with
  | some (n, m), some (k, o) => decide (n = k) && inclM n m o
  | _, _ => false

/-- What was there is there; so far no cell of o is greater. -/
def InclR (w0 : World) (n : Nat) (m o : Mat) (i j : Nat) (wr : World) : Prop :=
  Below w0.heap.size w0 wr ∧ (∀ a c, a < i ∨ (a = i ∧ c < j) → c ≤ n → o a c ≤ m a c) ∧ i ≤ n + 1 ∧ j ≤ n + 1

set_option maxRecDepth 100000 in
set_option maxHeartbeats 2000000 in
theorem incl_full (b c n : Nat) (m o : Mat) (w : World) (hn : n ≤ 8) (h : MatAt w b 44 .i32 n m) (h' : MatAt w c 44 .i32 n o) (he : ¬ o 0 0 < 1) :
    Calls Tryd.prog 10 #[.pointer (some ⟨b, 0, none⟩), .pointer (some ⟨c, 0, none⟩)] w fun e w' => e = .returned (.bool (inclM n m o)) ∧ Below w.heap.size w w' := by
  have H := Lib.hid h
  have H' := Lib.hid h'
  have HE := Lib.hid he
  clear h h' he
  go_enter Tryd.func10, Tryd.ntmps10
  go_wp2_with fail
  refine (alike_two b n c n m o _ H.out H'.out).mono ?_
  rintro e w1 ⟨rfl, q, rfl⟩
  have hd : decide ((n : Int) = n) = true := decide_eq_true rfl
  have h0 := (H.out.drewN q).head
  have HS := Lib.hid (show InclR w n m o 0 0 (w.drewN q) from ⟨belowN (Below.refl _ _) q, fun a c h => by omega, by omega, by omega⟩)
  generalize w.drewN q = wq at *
  go_wp2
  clear hd
  go_loopg [17] (n + 1) (fun g v wr => ∃ i : Nat, v = .int .i64 i ∧ InclR w n m o i 0 wr ∧ Hid (g + i = n + 1))
  case atStart => exact ⟨0, by simp, HS.out, by show _ = _; omega⟩
  case round =>
    clear HS h0
    obtain ⟨i, rfl, HA, HG⟩ := hrel
    have HI := Lib.hid HA
    have h0 := (H.out.later HA.1).head
    clear HA
    by_cases hi : i < n + 1
    · have hii : (i : Int) < (n : Int) + 1 := by omega
      go_wp2
      go_loopg [26] (n + 1) (fun g v wr => ∃ j : Nat, v = .int .i64 j ∧ InclR w n m o i j wr ∧ Hid (g + j = n + 1))
      case atStart => exact ⟨0, by simp, HI.out, by show _ = _; omega⟩
      case round =>
        clear HI h0
        obtain ⟨j, rfl, HA, HG2⟩ := hrel
        have HJ := Lib.hid HA
        by_cases hj : j < n + 1
        · have hjj : (j : Int) < (n : Int) + 1 := by omega
          have c1 := (H.out.later HA.1).cell i j (by omega) (by omega)
          have c2 := (H'.out.later HA.1).cell i j (by omega) (by omega)
          have HO := Lib.hid (H'.out.later HA.1)
          have i9 : (i : Int) < 9 := by omega
          have j9 : (j : Int) < 9 := by omega
          clear HA
          go_wp2_with fail
          go_quiet ((go_at_call 8; exact Calls.quiet_of_same (empty_no c n o _ (by exact HO.out.drewN _) (by have h := HE.out; omega))))
          by_cases hc : m i j < o i j
          · have d1 : decide (m i j < o i j) = true := decide_eq_true hc
            go_wp2
            go_ret
            have hf : inclM n m o = false := by
              unfold inclM
              rw [decide_eq_false_iff_not]
              rintro (h1 | h1)
              · have h2 := HE.out; omega
              · have := h1 i (by omega) j (by omega); omega
            exact ⟨by rw [hf]; rfl, belowN HJ.out.1 _⟩
          · have d1 : decide (m i j < o i j) = false := decide_eq_false hc
            go_wp2
            go_roundg (gk - 1)
            case measure => have h := HG2.out; omega
            case rel =>
              refine ⟨j + 1, by go_num, ⟨belowN HJ.out.1 _, fun a e hae he => ?_, HJ.out.2.2.1, by omega⟩, by have h := HG2.out; show _ = _; omega⟩
              by_cases e2 : a = i ∧ e = j
              · obtain ⟨rfl, rfl⟩ := e2; omega
              · exact HJ.out.2.1 a e (by omega) he
        · have hjj : ¬ (j : Int) < (n : Int) + 1 := by omega
          clear HA
          go_wp2
          go_roundg (n - i)
          case measure => have h := HG.out; omega
          case rel => exact ⟨i + 1, by go_num, ⟨HJ.out.1, fun a e hae he => HJ.out.2.1 a e (by omega) he, by omega, by omega⟩, by show _ = _; omega⟩
    · have hii : ¬ (i : Int) < (n : Int) + 1 := by omega
      go_wp2
      go_ret
      have hf : inclM n m o = true := by
        unfold inclM
        rw [decide_eq_true_iff]
        right
        intro a ha e he
        exact HI.out.2.1 a e (by omega) he
      exact ⟨by rw [hf]; rfl, HI.out.1⟩

set_option maxRecDepth 100000 in
set_option maxHeartbeats 2000000 in
theorem incl_none (b c n : Nat) (m o : Mat) (w : World) (hn : n ≤ 8) (h : MatAt w b 44 .i32 n m) (h' : MatAt w c 44 .i32 n o) (he : o 0 0 < 1) :
    Calls Tryd.prog 10 #[.pointer (some ⟨b, 0, none⟩), .pointer (some ⟨c, 0, none⟩)] w fun e w' => e = .returned (.bool (inclM n m o)) ∧ Below w.heap.size w w' := by
  have hf : inclM n m o = true := by unfold inclM; rw [decide_eq_true_iff]; exact .inl he
  rw [hf]
  clear hf
  have H := Lib.hid h
  have H' := Lib.hid h'
  have HE := Lib.hid he
  clear h h' he
  go_enter Tryd.func10, Tryd.ntmps10
  go_wp2_with fail
  refine (alike_two b n c n m o _ H.out H'.out).mono ?_
  rintro e w1 ⟨rfl, q, rfl⟩
  have hd : decide ((n : Int) = n) = true := decide_eq_true rfl
  have h0 := (H.out.drewN q).head
  have HS := Lib.hid (show Below w.heap.size w (w.drewN q) from belowN (Below.refl _ _) q)
  generalize w.drewN q = wq at *
  go_wp2
  clear hd
  go_loopg [17] (n + 1) (fun g v wr => ∃ i : Nat, v = .int .i64 i ∧ Below w.heap.size w wr ∧ Hid (g + i = n + 1))
  case atStart => exact ⟨0, by simp, HS.out, by show _ = _; omega⟩
  case round =>
    clear HS h0
    obtain ⟨i, rfl, HA, HG⟩ := hrel
    have HI := Lib.hid HA
    have h0 := (H.out.later HA).head
    clear HA
    by_cases hi : i < n + 1
    · have hii : (i : Int) < (n : Int) + 1 := by omega
      go_wp2
      go_loopg [26] (n + 1) (fun g v wr => ∃ j : Nat, v = .int .i64 j ∧ Below w.heap.size w wr ∧ Hid (g + j = n + 1))
      case atStart => exact ⟨0, by simp, HI.out, by show _ = _; omega⟩
      case round =>
        clear HI h0
        obtain ⟨j, rfl, HA, HG2⟩ := hrel
        have HJ := Lib.hid HA
        have HO := Lib.hid (H'.out.later HA)
        clear HA
        by_cases hj : j < n + 1
        · have hjj : (j : Int) < (n : Int) + 1 := by omega
          go_wp2_with fail
          go_quiet ((go_at_call 8; exact Calls.quiet_of_same (empty_yes c n o _ (by exact HO.out.drewN _) (by have h := HE.out; omega))))
          go_wp2
          go_roundg (gk - 1)
          case measure => have h := HG2.out; omega
          case rel => exact ⟨j + 1, by go_num, belowN HJ.out _, by have h := HG2.out; show _ = _; omega⟩
        · have hjj : ¬ (j : Int) < (n : Int) + 1 := by omega
          go_wp2
          go_roundg (n - i)
          case measure => have h := HG.out; omega
          case rel => exact ⟨i + 1, by go_num, HJ.out, by show _ = _; omega⟩
    · have hii : ¬ (i : Int) < (n : Int) + 1 := by omega
      go_wp2
      go_ret
      exact ⟨rfl, HI.out⟩

set_option maxRecDepth 100000 in
set_option maxHeartbeats 1000000 in
theorem incl_unlike (b c n k : Nat) (m o : Mat) (w : World) (h : MatAt w b 44 .i32 n m) (h' : MatAt w c 44 .i32 k o) (hne : n ≠ k) :
    Calls Tryd.prog 10 #[.pointer (some ⟨b, 0, none⟩), .pointer (some ⟨c, 0, none⟩)] w fun e w' => e = .returned (.bool false) ∧ Below w.heap.size w w' := by
  have hd : decide ((n : Int) = k) = false := decide_eq_false (by omega)
  go_enter Tryd.func10, Tryd.ntmps10
  go_wp2_with fail
  refine (alike_two b n c k m o _ h h').mono ?_
  rintro e w1 ⟨rfl, q, rfl⟩
  clear h h'
  go_wp2
  go_ret
  exact ⟨rfl, belowN (Below.refl _ _) q⟩
set_option maxRecDepth 100000 in
set_option maxHeartbeats 1000000 in
theorem incl_nil (v : Value) (w : World) : Calls Tryd.prog 10 #[.pointer none, v] w fun e w' => e = .returned (.bool false) ∧ Below w.heap.size w w' := by
  go_enter Tryd.func10, Tryd.ntmps10
  go_wp2_with fail
  refine (alike_nil v _).mono ?_
  rintro e w1 ⟨rfl, q, rfl⟩
  go_wp2
  go_ret
  exact ⟨rfl, belowN (Below.refl _ _) q⟩
set_option maxRecDepth 100000 in
set_option maxHeartbeats 1000000 in
theorem incl_ofnil (b n : Nat) (m : Mat) (w : World) (h : MatAt w b 44 .i32 n m) : Calls Tryd.prog 10 #[.pointer (some ⟨b, 0, none⟩), .pointer none] w fun e w' => e = .returned (.bool false) ∧ Below w.heap.size w w' := by
  go_enter Tryd.func10, Tryd.ntmps10
  go_wp2_with fail
  refine (alike_none b n m _ h).mono ?_
  rintro e w1 ⟨rfl, q, rfl⟩
  clear h
  go_wp2
  go_ret
  exact ⟨rfl, belowN (Below.refl _ _) q⟩

/-- Includes, of any two. -/
theorem includes_any (v v' : Value) (z o : Option (Nat × Mat)) (w : World) (h : ZoneV 44 w v z) (h' : ZoneV 44 w v' o) :
    Calls Tryd.prog 10 #[v, v'] w fun e w' => e = .returned (.bool (inclP z o)) ∧ Below w.heap.size w w' := by
  match z, h with
  | none, h =>
    have h : v = .pointer none := h
    subst h
    exact incl_nil v' w
  | some (n, m), ⟨b, e, hn, _, hm⟩ =>
    subst e
    match o, h' with
    | none, h' =>
      have h' : v' = .pointer none := h'
      subst h'
      exact incl_ofnil b n m w hm
    | some (k, o), ⟨c, e, _, _, ho⟩ =>
      subst e
      by_cases hk : n = k
      · subst hk
        have e : inclP (some (n, m)) (some (n, o)) = inclM n m o := by simp [inclP]
        rw [e]
        by_cases he : o 0 0 < 1
        · exact incl_none b c n m o w hn hm ho he
        · exact incl_full b c n m o w hn hm ho he
      · have e : inclP (some (n, m)) (some (k, o)) = false := by simp [inclP, hk]
        rw [e]
        exact incl_unlike b c n k m o w hm ho hk

end Go.Proofs.YtgpmfnahjepjjaaDoor
