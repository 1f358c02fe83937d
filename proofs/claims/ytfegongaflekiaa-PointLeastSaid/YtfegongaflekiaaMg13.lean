/- Texts of ours, laid together: Je, Ju, Jv, Jw, Row9, Row12. -/
import Derived.OpenShut
import Derived.Lib.SmallJoins
import Derived.SizedLaws
import Derived.Deep.Slices
import Derived.Deep.Fields
import Derived.Test.YtfegongaflekiaaMg12
/- Behind which delays a valuation is in a zone: plain. -/
namespace Go.Proofs.Ytfegongaflekiaa
set_option linter.unusedVariables false
set_option linter.unusedSimpArgs false

def spanOk (s : SpanP) : Prop := rightR s.lo = true ∧ (s.ever = true ∨ rightR s.hi = true)
def spanHas (s : SpanP) (q : Rat) : Prop := (qv s.lo < q ∨ (qv s.lo = q ∧ s.loIn = true)) ∧ (s.ever = true ∨ q < qv s.hi ∨ (q = qv s.hi ∧ s.hiIn = true))
theorem right_one (n : Int) : rightR (n, 1) = true := by
  unfold rightR
  refine decide_eq_true ⟨by show (0 : Int) < 1; omega, ?_⟩
  show Nat.gcd n.natAbs 1 = 1
  exact Nat.gcd_one_right _
theorem narrow_has {s s' : SpanP} {x : Int × Int} {b : Int} {above : Bool} (hs : spanOk s) (hx : rightR x = true) (hb : b ≠ 2147483647) (h : narrowP s x b above = some s') :
    spanOk s' ∧ ∀ q, spanHas s' q ↔ spanHas s q ∧ kq b (if above = true then qv x + q else -(qv x + q)) := by
  unfold narrowP at h
  obtain ⟨n, hn⟩ : ∃ n, n = b / 2 := ⟨_, rfl⟩
  rw [← hn] at h
  have hm : b % 2 = 0 ∨ b % 2 = 1 := by omega
  cases above with
  | true =>
    simp only [if_true] at h
    split at h
    · rename_i hk
      obtain ⟨dr, dv⟩ := sub_qv (right_one n) hx hk
      rw [qv_int] at dv
      obtain ⟨d, hd⟩ : ∃ d, d = (subP (n, 1) x).1 := ⟨_, rfl⟩
      rw [← hd] at h dr dv
      split at h
      · rename_i hc
        cases h
        refine ⟨⟨hs.1, .inr dr⟩, fun q => ?_⟩
        unfold spanHas kq
        rw [if_pos rfl, ← hn]
        simp only [Bool.false_eq_true, false_or, decide_eq_true_eq]
        rcases hc with hc | hc
        · rw [hc]; simp only [true_or, and_true]; grind
        · rcases hs.2 with he | he
          · rw [he]; simp only [true_or, and_true]; grind
          · obtain ⟨c1, c2, c3⟩ := cmp_qv dr he
            rw [c1, c2] at hc
            grind
      · rename_i hc
        cases h
        refine ⟨hs, fun q => ?_⟩
        have he : s.ever = false := by
          cases e : s.ever with
          | false => rfl
          | true => exact absurd (.inl e) hc
        rcases hs.2 with he' | he'
        · rw [he] at he'; cases he'
        · obtain ⟨c1, c2, c3⟩ := cmp_qv dr he'
          rw [c1, c2] at hc
          unfold spanHas kq
          rw [if_pos rfl, ← hn]
          grind
    · cases h
  | false =>
    simp only [Bool.false_eq_true, if_false] at h
    split at h
    · rename_i hk
      obtain ⟨dr, dv⟩ := sub_qv (right_one (-n)) hx hk
      rw [qv_int, Rat.intCast_neg] at dv
      obtain ⟨d, hd⟩ : ∃ d, d = (subP (-n, 1) x).1 := ⟨_, rfl⟩
      rw [← hd] at h dr dv
      obtain ⟨c1, c2, c3⟩ := cmp_qv dr hs.1
      split at h
      · rename_i hc
        rw [c2, c3] at hc
        cases h
        refine ⟨⟨dr, hs.2⟩, fun q => ?_⟩
        unfold spanHas kq
        rw [if_neg (by decide), ← hn]
        simp only [decide_eq_true_eq]
        grind
      · rename_i hc
        rw [c2, c3] at hc
        cases h
        refine ⟨hs, fun q => ?_⟩
        unfold spanHas kq
        rw [if_neg (by decide), ← hn]
        grind
    · cases h

/-- A clock behind a delay. -/
def dq (v : List (Int × Int)) (q : Rat) (i : Nat) : Rat := if i = 0 then 0 else cq v i + q
/-- The ends of what a bound lets can be held. -/
def endsHeld (n : Nat) (m : Mat) (v : List (Int × Int)) : Prop := ∀ i j, i ≤ n → j ≤ n → m i j ≠ 2147483647 → ∀ k, 0 < k → k ≤ n → (subP (m i j / 2, 1) (clockV v k)).2 = 0 ∧ (subP (-(m i j / 2), 1) (clockV v k)).2 = 0
theorem narrow_held {s : SpanP} {x : Int × Int} {b : Int} {above : Bool} (h1 : (subP (b / 2, 1) x).2 = 0) (h2 : (subP (-(b / 2), 1) x).2 = 0) : narrowP s x b above ≠ none := by
  unfold narrowP
  rw [if_pos (by cases above <;> simp [h1, h2])]
  cases above with
  | true => rw [if_pos rfl]; split <;> exact fun h => by cases h
  | false => rw [if_neg (by decide)]; split <;> exact fun h => by cases h
theorem step_has {n : Nat} {m : Mat} {v : List (Int × Int)} {i j : Nat} {s : SpanP} (hv : rightV v = true) (hl : v.length = n) (hi : i ≤ n) (hj : j ≤ n) (hs : spanOk s) :
    (∀ s', delayStep n m v i j s = some s' → spanOk s' ∧ ∀ q, spanHas s' q ↔ spanHas s q ∧ kq (m i j) (dq v q i - dq v q j)) ∧
    (endsHeld n m v → delayStep n m v i j s = none → ∀ q, ¬ kq (m i j) (dq v q i - dq v q j)) := by
  have hkq := keeps_kq (clock_pos hv (i := i) (by omega)) (clock_pos hv (i := j) (by omega)) (m i j)
  have z := cq_zero v
  by_cases h0 : decide (i = 0) = decide (j = 0)
  · have hd : ∀ q, dq v q i - dq v q j = cq v i - cq v j := fun q => by
      have h0 := decide_eq_decide.1 h0
      unfold dq
      by_cases e : i = 0
      · rw [if_pos e, if_pos (h0.1 e), e, h0.1 e]; grind
      · rw [if_neg e, if_neg (fun h => e (h0.2 h))]; grind
    constructor
    · intro s' h
      unfold delayStep at h
      rw [if_pos h0] at h
      split at h
      · rename_i hk
        cases h
        refine ⟨hs, fun q => ?_⟩
        rw [hd q]
        exact ⟨fun a => ⟨a, hkq.1 hk⟩, fun a => a.1⟩
      · cases h
    · intro _ h q
      unfold delayStep at h
      rw [if_pos h0] at h
      split at h
      · cases h
      · rename_i hk
        rw [hd q]
        exact fun a => hk (hkq.2 a)
  · by_cases hb : m i j = 2147483647
    · constructor
      · intro s' h
        unfold delayStep at h
        rw [if_neg h0, if_pos hb] at h
        cases h
        exact ⟨hs, fun q => ⟨fun a => ⟨a, .inl hb⟩, fun a => a.1⟩⟩
      · intro _ h
        unfold delayStep at h
        rw [if_neg h0, if_pos hb] at h
        cases h
    · have hne : ¬ (i = 0 ↔ j = 0) := fun h => h0 (decide_eq_decide.2 h)
      have hr := (clock_right hv (i := max i j) (by omega)).1
      constructor
      · intro s' h
        unfold delayStep at h
        rw [if_neg h0, if_neg hb] at h
        obtain ⟨a, b⟩ := narrow_has hs hr hb h
        refine ⟨a, fun q => ?_⟩
        rw [b q]
        have e : (if decide (0 < i) = true then qv (clockV v (max i j)) + q else -(qv (clockV v (max i j)) + q)) = dq v q i - dq v q j := by
          unfold dq
          by_cases hi0 : i = 0
          · have hj0 : j ≠ 0 := fun hh => hne ⟨fun _ => hh, fun _ => hi0⟩
            rw [if_neg (by simp [hi0]), if_pos hi0, if_neg hj0, show max i j = j by omega]
            show -(cq v j + q) = 0 - (cq v j + q)
            grind
          · have hj0 : j = 0 := Classical.byContradiction fun hh => hne ⟨fun h => absurd h hi0, fun h => absurd h hh⟩
            rw [if_pos (by simp; omega), if_neg hi0, if_pos hj0, show max i j = i by omega]
            show cq v i + q = cq v i + q - 0
            grind
        rw [e]
      · intro hE h
        unfold delayStep at h
        rw [if_neg h0, if_neg hb] at h
        obtain ⟨a, b⟩ := hE i j hi hj hb (max i j) (by omega) (by omega)
        exact absurd h (narrow_held a b)
theorem from_has {n : Nat} {m : Mat} {v : List (Int × Int)} (hv : rightV v = true) (hl : v.length = n) : ∀ g k s, k + g ≤ (n + 1) * (n + 1) → spanOk s →
    (∀ s', delayFrom n m v g k s = some s' → spanOk s' ∧ ∀ q, spanHas s' q ↔ spanHas s q ∧ ∀ p, k ≤ p → p < k + g → kq (m (p / (n + 1)) (p % (n + 1))) (dq v q (p / (n + 1)) - dq v q (p % (n + 1)))) ∧
    (endsHeld n m v → delayFrom n m v g k s = none → ∀ q, ¬ ∀ p, k ≤ p → p < k + g → kq (m (p / (n + 1)) (p % (n + 1))) (dq v q (p / (n + 1)) - dq v q (p % (n + 1))))
  | 0, k, s, hk, hs => ⟨fun s' h => by
      cases h
      exact ⟨hs, fun q => ⟨fun a => ⟨a, fun p h1 h2 => absurd h2 (by omega)⟩, fun a => a.1⟩⟩, fun _ h => by cases h⟩
  | g + 1, k, s, hk, hs => by
    have h1 : k / (n + 1) < n + 1 := Nat.div_lt_of_lt_mul (by omega)
    have h2 := Nat.mod_lt k (show 0 < n + 1 by omega)
    obtain ⟨a, b⟩ := step_has (m := m) (i := k / (n + 1)) (j := k % (n + 1)) (s := s) hv hl (by omega) (by omega) hs
    unfold delayFrom
    cases e : delayStep n m v (k / (n + 1)) (k % (n + 1)) s with
    | none =>
      rw [Option.bind_none]
      refine ⟨fun s' h => (by cases h), fun hE _ q hall => ?_⟩
      exact b hE e q (hall k (Nat.le_refl _) (by omega))
    | some s1 =>
      rw [Option.bind_some]
      obtain ⟨a1, a2⟩ := a s1 e
      obtain ⟨c, d⟩ := from_has hv hl g (k + 1) s1 (by omega) a1
      refine ⟨fun s' h => ?_, fun hE h q hall => d hE h q fun p hp1 hp2 => hall p (by omega) (by omega)⟩
      obtain ⟨c1, c2⟩ := c s' h
      refine ⟨c1, fun q => ?_⟩
      rw [c2 q, a2 q]
      constructor
      · rintro ⟨⟨x1, x2⟩, x3⟩
        refine ⟨x1, fun p hp1 hp2 => ?_⟩
        by_cases ep : p = k
        · rw [ep]; exact x2
        · exact x3 p (by omega) (by omega)
      · rintro ⟨x1, x2⟩
        exact ⟨⟨x1, x2 k (Nat.le_refl _) (by omega)⟩, fun p hp1 hp2 => x2 p (by omega) (by omega)⟩
/-- A delay is of the span that is told, or none is told. -/
def spanTold (o : Option SpanP) (d : Int × Int) : Bool := match o with
  | none => false
  | some s => (decide (cmpP s.lo d < 0) || (decide (cmpP s.lo d = 0) && s.loIn)) && (s.ever || (decide (cmpP d s.hi < 0) || (decide (cmpP d s.hi = 0) && s.hiIn)))
theorem span_told {s : SpanP} {d : Int × Int} (hs : spanOk s) (hd : rightR d = true) : spanTold (some s) d = true ↔ spanHas s (qv d) := by
  obtain ⟨a1, a2, a3⟩ := cmp_qv hs.1 hd
  unfold spanTold spanHas
  simp only [Bool.and_eq_true, Bool.or_eq_true, decide_eq_true_eq]
  rw [a1, a2]
  rcases hs.2 with he | he
  · rw [he]; simp
  · obtain ⟨b1, b2, b3⟩ := cmp_qv hd he
    rw [b1, b2]
theorem span_end {s : SpanP} (hs : spanOk s) (h : spanEnd s = false) (q : Rat) : ¬ spanHas s q := by
  unfold spanEnd at h
  rw [Bool.or_eq_false_iff] at h
  obtain ⟨h1, h2⟩ := h
  rcases hs.2 with he | he
  · rw [h1] at he; cases he
  · obtain ⟨a1, a2, a3⟩ := cmp_qv hs.1 he
    simp only [Bool.and_eq_false_iff, Bool.or_eq_false_iff, Bool.not_eq_false', decide_eq_true_iff] at h2
    rw [a2, a3] at h2
    unfold spanHas
    rw [h1]
    grind
theorem span_law {n : Nat} {m : Mat} {v v' : List (Int × Int)} {d : Int × Int} (hv : rightV v = true) (hl : v.length = n) (hd : rightR d = true) (hd0 : 0 ≤ d.1) (hv' : rightV v' = true) (hl' : v'.length = n)
    (hw : ∀ i, 0 < i → i ≤ n → cq v' i = cq v i + qv d) (hE : endsHeld n m v) : inP n m v' = spanTold (delaysP n m v) d := by
  have hq : ∀ i, i ≤ n → cq v' i = dq v (qv d) i := fun i hi => by
    unfold dq
    by_cases e : i = 0
    · rw [if_pos e, e, cq_zero]
    · rw [if_neg e]; exact hw i (by omega) hi
  have hin : inP n m v' = true ↔ ∀ i j, i ≤ n → j ≤ n → kq (m i j) (dq v (qv d) i - dq v (qv d) j) := by
    rw [in_iff]
    constructor
    · rintro ⟨_, _, h⟩ i j hi hj
      have := h i j hi hj
      rwa [hq i hi, hq j hj] at this
    · intro h
      refine ⟨hv', hl', fun i j hi hj => ?_⟩
      rw [hq i hi, hq j hj]; exact h i j hi hj
  rw [← cells_all (n := n) (P := fun i j => kq (m i j) (dq v (qv d) i - dq v (qv d) j))] at hin
  unfold delaysP
  by_cases h0 : m 0 0 < 1
  · rw [if_neg (fun h => h.2.2 h0)]
    show inP n m v' = false
    rw [Bool.eq_false_iff]
    intro h
    have := (hin.1 h) 0 (by have := Nat.mul_le_mul (show 1 ≤ n + 1 by omega) (show 1 ≤ n + 1 by omega); omega)
    rw [Nat.zero_div, Nat.zero_mod, show dq v (qv d) 0 - dq v (qv d) 0 = 0 by grind] at this
    rcases this with e | e | e
    · omega
    · have e : ((0 : Int) : Rat) < ((m 0 0 / 2 : Int) : Rat) := e
      have : (0 : Int) < m 0 0 / 2 := by exact_mod_cast e
      omega
    · have e2 : ((0 : Int) : Rat) = ((m 0 0 / 2 : Int) : Rat) := e.2
      have : (0 : Int) = m 0 0 / 2 := by exact_mod_cast e2
      omega
  · rw [if_pos ⟨hv, hl, h0⟩]
    have hs0 : spanOk ⟨(0, 1), (0, 0), true, false, true⟩ := ⟨right_one 0, .inl rfl⟩
    have hz : spanHas ⟨(0, 1), (0, 0), true, false, true⟩ (qv d) := by
      unfold spanHas
      rw [qv_int]
      have := (qv_pos (rq_pos hd)).2 hd0
      have z : ((0 : Int) : Rat) = 0 := rfl
      refine ⟨?_, .inl rfl⟩
      rw [z]
      grind
    obtain ⟨a, b⟩ := from_has (m := m) hv hl ((n + 1) * (n + 1)) 0 ⟨(0, 1), (0, 0), true, false, true⟩ (by omega) hs0
    cases e : delayFrom n m v ((n + 1) * (n + 1)) 0 ⟨(0, 1), (0, 0), true, false, true⟩ with
    | none =>
      rw [Option.bind_none]
      show inP n m v' = false
      rw [Bool.eq_false_iff]
      intro h
      exact b hE e (qv d) fun p _ hp => hin.1 h p (by omega)
    | some s =>
      rw [Option.bind_some]
      obtain ⟨a1, a2⟩ := a s e
      have key : inP n m v' = true ↔ spanHas s (qv d) := by
        rw [hin, a2]
        exact ⟨fun h => ⟨hz, fun p _ hp => h p (by omega)⟩, fun h p hp => h.2 p (Nat.zero_le _) (by omega)⟩
      by_cases he : spanEnd s = true
      · rw [if_pos he, Bool.eq_iff_iff, key, span_told a1 hd]
      · rw [if_neg he]
        show inP n m v' = false
        rw [Bool.eq_false_iff]
        exact fun h => span_end a1 (by simpa using he) _ (key.1 h)

end Go.Proofs.Ytfegongaflekiaa

/- A valuation when time has passed: plain; the spans law. -/
namespace Go.Proofs.Ytfegongaflekiaa
set_option linter.unusedVariables false
set_option linter.unusedSimpArgs false

/-- The first error of the sums from p on; fuel: how many are left. -/
def waitEF (v : List (Int × Int)) (d : Int × Int) : Nat → Nat → Int
  | 0, _ => 0
  | g + 1, p => if (addP (v.getD p (0, 0)) d).2 = 0 then waitEF v d g (p + 1) else (addP (v.getD p (0, 0)) d).2
def waitV (v : List (Int × Int)) (d : Int × Int) : List (Int × Int) := v.map fun r => (addP r d).1
def waitA (v : List (Int × Int)) (d : Int × Int) : List (Int × Int) × Int :=
  if rightV v = true ∧ rightR d = true ∧ 0 ≤ d.1 then (if waitEF v d v.length 0 = 0 then (waitV v d, 0) else ([], waitEF v d v.length 0)) else ([], 7)
theorem waitV_length (v : List (Int × Int)) (d : Int × Int) : (waitV v d).length = v.length := by simp [waitV]
theorem waitV_getD {v : List (Int × Int)} {d : Int × Int} {i : Nat} (hi : i < v.length) (z : Int × Int) : (waitV v d).getD i z = (addP (v.getD i (0, 0)) d).1 := by
  rw [List.getD_eq_getElem?_getD, List.getD_eq_getElem?_getD]
  unfold waitV
  simp [hi]
theorem waitV_take {v : List (Int × Int)} {d : Int × Int} {p : Nat} (hp : p < v.length) : (waitV v d).take (p + 1) = (waitV v d).take p ++ [(addP (v.getD p (0, 0)) d).1] := by
  rw [List.take_add_one, show (waitV v d)[p]? = some ((waitV v d).getD p (0, 0)) by
    rw [List.getD_eq_getElem?_getD, List.getElem?_eq_getElem (by rw [waitV_length]; exact hp)]; rfl, waitV_getD hp]; rfl
theorem wait_each {v : List (Int × Int)} {d : Int × Int} : ∀ g p, waitEF v d g p = 0 → ∀ q, p ≤ q → q < p + g → (addP (v.getD q (0, 0)) d).2 = 0
  | 0, p, _, q, h1, h2 => by omega
  | g + 1, p, h, q, h1, h2 => by
    unfold waitEF at h
    by_cases e : (addP (v.getD p (0, 0)) d).2 = 0
    · rw [if_pos e] at h
      by_cases eq : q = p
      · rw [eq]; exact e
      · exact wait_each g (p + 1) h q (by omega) (by omega)
    · rw [if_neg e] at h; exact absurd h e
/-- What Wait tells, where it tells no error. -/
theorem wait_good {v : List (Int × Int)} {d : Int × Int} (h : (waitA v d).2 = 0) : (waitA v d).1 = waitV v d ∧ rightV v = true ∧ rightR d = true ∧ 0 ≤ d.1 ∧ rightV (waitV v d) = true ∧ ∀ i, 0 < i → i ≤ v.length → cq (waitV v d) i = cq v i + qv d := by
  unfold waitA at h ⊢
  by_cases hc : rightV v = true ∧ rightR d = true ∧ 0 ≤ d.1
  · rw [if_pos hc] at h ⊢
    by_cases he : waitEF v d v.length 0 = 0
    · rw [if_pos he] at h ⊢
      obtain ⟨hv, hd, hd0⟩ := hc
      have hall := wait_each v.length 0 he
      have hlen : v.length ≤ 8 := by
        unfold rightV at hv
        exact of_decide_eq_true (Bool.and_eq_true_iff.1 hv).1
      have each : ∀ q, q < v.length → rightR (addP (v.getD q (0, 0)) d).1 = true ∧ qv (addP (v.getD q (0, 0)) d).1 = qv (v.getD q (0, 0)) + qv d ∧ 0 ≤ (addP (v.getD q (0, 0)) d).1.1 := fun q hq => by
        obtain ⟨r1, r0⟩ := clock_right hv (i := q + 1) (by omega)
        have e : clockV v (q + 1) = v.getD q (0, 0) := by unfold clockV; rw [if_neg (by omega)]; rfl
        rw [e] at r1 r0
        obtain ⟨a, b⟩ := add_qv r1 hd (hall q (Nat.zero_le _) (by omega))
        refine ⟨a, b, (qv_pos (rq_pos a)).1 ?_⟩
        rw [b]
        have p1 := (qv_pos (rq_pos r1)).2 r0
        have p2 := (qv_pos (rq_pos hd)).2 hd0
        grind
      refine ⟨rfl, hv, hd, hd0, ?_, fun i hi0 hi => ?_⟩
      · unfold rightV
        rw [waitV_length, decide_eq_true hlen, Bool.true_and, List.all_eq_true]
        intro r hr
        obtain ⟨q, hq, rfl⟩ := List.getElem_of_mem hr
        rw [waitV_length] at hq
        have e := waitV_getD (d := d) hq (0, 0)
        rw [List.getD_eq_getElem?_getD, List.getElem?_eq_getElem (by rw [waitV_length]; exact hq)] at e
        have e : (waitV v d)[q] = (addP (v.getD q (0, 0)) d).1 := e
        rw [e]
        obtain ⟨a, _, b⟩ := each q hq
        rw [a, decide_eq_true b]; rfl
      · unfold cq clockV
        rw [if_neg (by omega), if_neg (by omega), waitV_getD (by omega)]
        exact (each (i - 1) (by omega)).2.1
    · rw [if_neg he] at h
      exact absurd h he
  · rw [if_neg hc] at h
    exact absurd h (by decide)
theorem frac_fits {X D : Int} (h1 : -9223372036854775808 ≤ X) (h2 : X ≤ 9223372036854775807) (hd0 : 0 < D) (hd : D ≤ 9223372036854775807) : (fracP X D).2 = 0 := by
  unfold fracP
  have b1 := Nat.div_le_self X.natAbs (Nat.gcd X.natAbs D.natAbs)
  have b2 := Nat.div_le_self D.natAbs (Nat.gcd X.natAbs D.natAbs)
  rw [if_pos]
  refine ⟨decide_eq_true ?_, by omega⟩
  rw [show decide (D < 0) = false from decide_eq_false (by omega)]
  generalize X.natAbs / Nat.gcd X.natAbs D.natAbs = q at *
  unfold sgnI
  by_cases hx : X < 0
  · rw [decide_eq_true hx]
    simp only [bne_self_eq_false, Bool.true_bne, Bool.not_false, if_true]
    omega
  · rw [decide_eq_false hx]
    simp only [bne_self_eq_false, Bool.false_eq_true, if_false]
    omega
/-- Ends of spans of small fractions can be held. -/
theorem ends_held {n : Nat} {m : Mat} {v : List (Int × Int)} (hr : RightM n m) (hv : rightV v = true) (hl : v.length = n) (hs : ∀ i, i < n → (v.getD i (0, 0)).2 ≤ 1000 ∧ (v.getD i (0, 0)).1 ≤ 1099511627776) : endsHeld n m v := fun i j hi hj hne k hk0 hk => by
  have hb := rightB_bd (hr i j hi hj) hne
  obtain ⟨r1, r0⟩ := clock_right hv (i := k) (by omega)
  have e : clockV v k = v.getD (k - 1) (0, 0) := by unfold clockV; rw [if_neg (by omega)]
  have hsk := hs (k - 1) (by omega)
  rw [e] at r1 r0 ⊢
  have hp := rq_pos r1
  obtain ⟨x, hx⟩ : ∃ x, x = v.getD (k - 1) (0, 0) := ⟨_, rfl⟩
  rw [← hx] at r1 r0 hsk hp ⊢
  have one : ∀ q : Int, -268435456 ≤ q → q ≤ 268435456 → (subP (q, 1) x).2 = 0 := fun q h1 h2 => by
    have e : subP (q, 1) x = fracP (q * x.2 - x.1 * 1) (1 * x.2) := by unfold subP; rw [if_pos (by rw [right_one, r1]; rfl)]
    rw [e]
    have m1 : q * x.2 ≤ 268435456 * 1000 := by
      rcases (show 0 ≤ q ∨ q ≤ 0 by omega) with h | h
      · exact Int.mul_le_mul (by omega) (by omega) (by omega) (by omega)
      · have := Int.mul_le_mul_of_nonneg_right (a := q) (b := 0) (c := x.2) h (by omega); omega
    have m2 : -(268435456 * 1000) ≤ q * x.2 := by
      have a1 : -268435456 * x.2 ≤ q * x.2 := Int.mul_le_mul_of_nonneg_right h1 (by omega)
      omega
    refine frac_fits (by omega) (by omega) (by omega) (by omega)
  exact ⟨one _ (by omega) (by omega), one _ (by omega) (by omega)⟩
/-- What PointSpans compares. -/
theorem spans_law {n : Nat} {m : Mat} {v : List (Int × Int)} {d : Int × Int} (hr : RightM n m) (hw : (waitA v d).2 = 0) (hl : v.length = n) (hs : ∀ i, i < n → (v.getD i (0, 0)).2 ≤ 1000 ∧ (v.getD i (0, 0)).1 ≤ 1099511627776) : inP n m (waitA v d).1 = spanTold (delaysP n m v) d := by
  obtain ⟨e, hv, hd, hd0, hv', hc⟩ := wait_good hw
  rw [e]
  exact span_law hv hl hd hd0 hv' (by rw [waitV_length]; exact hl) (fun i h1 h2 => hc i h1 (by omega)) (ends_held hr hv hl hs)

end Go.Proofs.Ytfegongaflekiaa

/- A valuation when time has passed, as point has it. -/
namespace Go.Proofs.Ytfegongaflekiaa
open Go Go.RowKit
set_option linter.unusedVariables false
set_option linter.unusedSimpArgs false

set_option maxRecDepth 100000 in
set_option maxHeartbeats 4000000 in
theorem wait_bad (A : Option Addr) (c : Nat) (l : List (Int × Int)) (d1 d2 : Int) (w : World) (hI : RatsA w A l) (hmax : l.length ≤ 8796093022000) (h64 : All64v l) (hd1 : I64 d1) (hd2 : I64 d2) (hbad : ¬ (rightV l = true ∧ rightR (d1, d2) = true ∧ 0 ≤ d1)) :
    Calls Try.prog 22 #[.slice A l.length c, .agg #[.int .i64 d1, .int .i64 d2]] w (LstEnds w [] 7) := by
  have HR := Lib.hid (fun W (hb : Below w.heap.size w W) => right_val A c l W (hI.below hb) hmax h64)
  have HRD := Lib.hid (fun W => rightq_any d1 d2 hd1 hd2 W)
  have K := Lib.hid ((Blx.start w).new #[.int .i64 d1, .int .i64 d2] 59)
  have HO := Lib.hid ((OwnQ.start w).step (below_one w (.cells #[.int .i64 d1, .int .i64 d2] 59)))
  obtain ⟨rv, hrv⟩ : ∃ q, q = rightV l := ⟨_, rfl⟩
  obtain ⟨rd, hrd⟩ : ∃ q, q = rightR (d1, d2) := ⟨_, rfl⟩
  rw [← hrv] at HR hbad
  rw [← hrd] at HRD hbad
  clear hI h64 hd1 hd2 hmax hrv hrd
  go_enter Try.func22, Try.ntmps22
  go_upto_region 1 with fail
  generalize w.alloc (.cells #[.int .i64 d1, .int .i64 d2] 59) = w1 at *
  simp only [List.nil_append] at K
  go_wp2_with fail
  refine (HR.out _ K.out.below).mono ?_
  rintro e w2 ⟨rfl, hb⟩
  replace K := Lib.hid (K.out.step hb)
  replace HO := Lib.hid (HO.out.step hb)
  clear hb
  cases rv with
  | false =>
    go_wp2
    go_ret2
    exact ⟨_, rfl, HO.out⟩
  | true =>
    obtain ⟨k1, k2, _, _⟩ := K.out.cells2 0 rfl
    go_wp2_with fail
    refine (HRD.out _).mono ?_
    rintro e w3 ⟨rfl, hb⟩
    replace K := Lib.hid (K.out.step hb)
    replace HO := Lib.hid (HO.out.step hb)
    clear hb k1 k2
    cases rd with
    | false =>
      go_wp2
      go_ret2
      exact ⟨_, rfl, HO.out⟩
    | true =>
      have hneg : d1 < 0 := by
        have : ¬ 0 ≤ d1 := fun h => hbad ⟨by simp, by simp, h⟩
        omega
      obtain ⟨k1, k2, _, _⟩ := K.out.cells2 0 rfl
      clear hbad
      go_wp2
      go_ret2
      exact ⟨_, rfl, HO.out⟩

set_option maxRecDepth 100000 in
set_option maxHeartbeats 4000000 in
theorem wait_goods (A : Option Addr) (c : Nat) (l : List (Int × Int)) (d1 d2 : Int) (w : World) (hI : RatsA w A l) (hmax : l.length ≤ 8796093022000) (h64 : All64v l) (hd1 : I64 d1) (hd2 : I64 d2) (hrv : rightV l = true) (hrd : rightR (d1, d2) = true) (hd0 : 0 ≤ d1) :
    Calls Try.prog 22 #[.slice A l.length c, .agg #[.int .i64 d1, .int .i64 d2]] w (LstEnds w (waitA l (d1, d2)).1 (waitA l (d1, d2)).2) := by
  have HR := Lib.hid (fun W (hb : Below w.heap.size w W) => right_val A c l W (hI.below hb) hmax h64)
  have HRD := Lib.hid (fun W => rightq_any d1 d2 hd1 hd2 W)
  have K := Lib.hid ((Blx.start w).new #[.int .i64 d1, .int .i64 d2] 59)
  have HI := Lib.hid hI
  have H64 := Lib.hid h64
  have HAD := Lib.hid (fun (x1 x2 : Int) (h1 : I64 x1) (h2 : I64 x2) W => addq_any x1 x2 d1 d2 h1 h2 hd1 hd2 W)
  have hl8 : l.length ≤ 8 := by
    unfold rightV at hrv
    exact of_decide_eq_true (Bool.and_eq_true_iff.1 hrv).1
  obtain ⟨R, hR⟩ : ∃ q, q = waitEF l (d1, d2) l.length 0 := ⟨_, rfl⟩
  have HA : Hid (waitA l (d1, d2) = if R = 0 then (waitV l (d1, d2), 0) else ([], R)) := Lib.hid (by unfold waitA; rw [if_pos ⟨hrv, hrd, hd0⟩, ← hR])
  have HR0 := Lib.hid hR
  obtain ⟨res, hres⟩ : ∃ q, q = waitA l (d1, d2) := ⟨_, rfl⟩
  rw [← hres] at HA ⊢
  rw [hrv] at HR
  rw [hrd] at HRD
  have n0 : ¬ d1 < 0 := by omega
  clear hI h64 hd1 hd2 hmax hrv hrd hres hR
  go_enter Try.func22, Try.ntmps22
  go_upto_region 1 with fail
  generalize w.alloc (.cells #[.int .i64 d1, .int .i64 d2] 59) = w1 at *
  simp only [List.nil_append] at K
  go_wp2_with fail
  refine (HR.out _ K.out.below).mono ?_
  rintro e w2 ⟨rfl, hb⟩
  replace K := Lib.hid (K.out.step hb)
  clear hb HR
  obtain ⟨k1, k2, _, _⟩ := K.out.cells2 0 rfl
  go_wp2_with fail
  refine (HRD.out _).mono ?_
  rintro e w3 ⟨rfl, hb⟩
  replace K := Lib.hid (K.out.step hb)
  clear hb k1 k2 HRD
  obtain ⟨k1, k2, _, _⟩ := K.out.cells2 0 rfl
  have HO := Lib.hid (OwnQ.start w3)
  go_wp2
  clear k1 k2
  go_loopg [6, 26] l.length (fun g v x wr => ∃ p : Nat, x = .int .i64 p ∧ Hid (OwnQ w3 ((waitV l (d1, d2)).take p) v wr) ∧ Hid (p ≤ l.length ∧ g + p = l.length ∧ R = waitEF l (d1, d2) g p))
  case atStart => exact ⟨0, by simp, Lib.hid HO.out, Lib.hid ⟨by omega, by omega, HR0.out⟩⟩
  case round =>
    clear HO HR0
    obtain ⟨p, rfl, HO, HG⟩ := hrel
    have q5 : IntKind.i64.wrap ((p : Int) + 1) = ((p + 1 : Nat) : Int) := by rw [IntWalk.i64_in _ (by have := HG.out.1; omega)]; omega
    by_cases hp : p < l.length
    · have hpi : (p : Int) < (l.length : Int) := by omega
      obtain ⟨ba, oa, rfl, e1, e2⟩ := HI.out.below (K.out.below.trans (HO.out.1.mono K.out.below.size)) p hp
      have x64 := H64.out p hp
      have HST : Hid (R = if (addP (l.getD p (0, 0)) (d1, d2)).2 = 0 then waitEF l (d1, d2) (l.length - (p + 1)) (p + 1) else (addP (l.getD p (0, 0)) (d1, d2)).2) := Lib.hid (by
        have h := HG.out.2.2
        rw [show gk = (l.length - (p + 1)) + 1 by have := HG.out.2.1; omega] at h
        exact h)
      have HTK := Lib.hid (waitV_take (v := l) (d := (d1, d2)) hp)
      have HLN : Hid (((waitV l (d1, d2)).take p).length ≤ 8) := Lib.hid (by rw [List.length_take, waitV_length]; omega)
      obtain ⟨x, hx⟩ : ∃ x, x = l.getD p (0, 0) := ⟨_, rfl⟩
      rw [← hx] at e1 e2 x64 HST HTK
      obtain ⟨x1, x2⟩ := x
      have HAX := Lib.hid (fun W => HAD.out x1 x2 x64.1 x64.2 W)
      obtain ⟨y, hy⟩ : ∃ y, y = addP (x1, x2) (d1, d2) := ⟨_, rfl⟩
      rw [← hy] at HST HTK HAX
      obtain ⟨⟨y1, y2⟩, ye⟩ := y
      unfold rtV at HAX
      clear hx hy x64
      go_upto_region 7 with fail
      have KD := Lib.hid ((K.out.step HO.out.1).new #[.int .i64 x1, .int .i64 x2] 59)
      replace HO := Lib.hid (HO.out.step (below_one wr (.cells #[.int .i64 x1, .int .i64 x2] 59)))
      generalize wr.alloc (.cells #[.int .i64 x1, .int .i64 x2] 59) = w4 at *
      generalize wr.heap.size = g4 at *
      simp only [List.cons_append, List.nil_append] at KD
      obtain ⟨k1, k2, _, _⟩ := KD.out.cells2 0 rfl
      obtain ⟨k3, k4, _, _⟩ := KD.out.cells2 1 rfl
      clear e1 e2 KD
      go_wp2_with fail
      refine (HAX.out _).mono ?_
      rintro e w5 ⟨rfl, hb⟩
      replace HO := Lib.hid (HO.out.step hb)
      clear hb k1 k2 k3 k4 HAX
      go_upto_region 8 with fail
      have K5 := Lib.hid ((Blx.start w5).new #[.int .i64 y1, .int .i64 y2] 59)
      replace HO := Lib.hid (HO.out.step (below_one w5 (.cells #[.int .i64 y1, .int .i64 y2] 59)))
      generalize w5.alloc (.cells #[.int .i64 y1, .int .i64 y2] 59) = w6 at *
      generalize w5.heap.size = g6 at *
      obtain ⟨k1, k2, _, _⟩ := K5.out.cells2 0 rfl
      by_cases hye : ye = 0
      · subst hye
        have HE := Lib.hid (HST.out.trans (if_pos rfl))
        go_upto_region 10 with fail
        have K2 := Lib.hid ((Blx.start w6).new #[.int .i64 y1, .int .i64 y2] 59)
        replace HO := Lib.hid (HO.out.step (below_one w6 (.cells #[.int .i64 y1, .int .i64 y2] 59)))
        obtain ⟨k3, k4, _, _⟩ := K2.out.cells2 0 rfl
        obtain ⟨v', w', hrun, hnext⟩ := HO.out.next w6.heap.size 1 y1 y2 ⟨k3, k4⟩ (by have := HLN.out; omega)
        have HO := Lib.hid hnext
        rw [← HTK.out] at HO
        clear hnext k3 k4
        go_wp2_with (at_builtin; refine wpList_append_run rfl _ _ 27 rfl _ _ v' w' rfl rfl hrun ?_)
        clear hrun
        go_wp2
        go_roundg (gk - 1)
        case measure => have h := HG.out.2.1; omega
        case rel => exact ⟨p + 1, by go_num, HO, Lib.hid ⟨by omega, by have h := HG.out.2.1; omega, by rw [show gk - 1 = l.length - (p + 1) by have h := HG.out.2.1; omega]; exact HE.out⟩⟩
      · have t1 : (ye != 0) = true := by simp [hye]
        have HE : Hid (res = ([], ye)) := Lib.hid (by
          have e := HST.out.trans (if_neg hye)
          rw [HA.out, e, if_neg hye])
        have HF := Lib.hid (((OwnQ.start w).step K.out.below).step HO.out.1)
        clear hye
        go_wp2
        go_ret2
        rw [HE.out]
        exact ⟨_, rfl, HF.out⟩
    · have hpi : ¬ (p : Int) < (l.length : Int) := by omega
      have HE : Hid (res = (waitV l (d1, d2), 0)) := Lib.hid (by
        have e := HG.out.2.2
        rw [show gk = 0 by have := HG.out.2.1; omega] at e
        have e : R = 0 := e
        rw [HA.out, if_pos e])
      have hfull : (waitV l (d1, d2)).take p = waitV l (d1, d2) := List.take_of_length_le (by rw [waitV_length]; have := HG.out.1; omega)
      rw [hfull] at HO
      have HF := Lib.hid (HO.out.from K.out.below)
      clear hfull HO
      go_wp2
      go_ret2
      rw [HE.out]
      exact ⟨_, rfl, HF.out⟩
theorem wait_any (A : Option Addr) (c : Nat) (l : List (Int × Int)) (d1 d2 : Int) (w : World) (hI : RatsA w A l) (hmax : l.length ≤ 8796093022000) (h64 : All64v l) (hd1 : I64 d1) (hd2 : I64 d2) :
    Calls Try.prog 22 #[.slice A l.length c, .agg #[.int .i64 d1, .int .i64 d2]] w (LstEnds w (waitA l (d1, d2)).1 (waitA l (d1, d2)).2) := by
  by_cases h : rightV l = true ∧ rightR (d1, d2) = true ∧ 0 ≤ d1
  · exact wait_goods A c l d1 d2 w hI hmax h64 hd1 hd2 h.1 h.2.1 h.2.2
  · have e : waitA l (d1, d2) = ([], 7) := by unfold waitA; exact if_neg h
    rw [e]
    exact wait_bad A c l d1 d2 w hI hmax h64 hd1 hd2 h
theorem waitV64 {l : List (Int × Int)} {d : Int × Int} : All64v (waitV l d) := fun j hj => by
  rw [waitV_length] at hj
  rw [waitV_getD hj]
  unfold addP
  split
  · exact frac64 _ _
  · exact ⟨⟨by decide, by decide⟩, ⟨by decide, by decide⟩⟩
theorem waitA64 {l : List (Int × Int)} {d : Int × Int} : All64v (waitA l d).1 := by
  unfold waitA
  split
  · split
    · exact waitV64
    · exact fun j hj => absurd hj (by simp)
  · exact fun j hj => absurd hj (by simp)

end Go.Proofs.Ytfegongaflekiaa

/- What PointSpans tells. -/
namespace Go.Proofs.Ytfegongaflekiaa
open Go Go.RowKit
set_option linter.unusedVariables false
set_option linter.unusedSimpArgs false

theorem from64 {n : Nat} {m : Mat} {v : List (Int × Int)} : ∀ g k (s s' : SpanP), Span64 s → delayFrom n m v g k s = some s' → Span64 s'
  | 0, k, s, s', hs, h => by cases h; exact hs
  | g + 1, k, s, s', hs, h => by
    have h : (delayStep n m v (k / (n + 1)) (k % (n + 1)) s).bind (delayFrom n m v g (k + 1)) = some s' := h
    cases e : delayStep n m v (k / (n + 1)) (k % (n + 1)) s with
    | none => rw [e] at h; cases h
    | some t =>
      rw [e] at h
      refine from64 g (k + 1) t s' ?_ h
      unfold delayStep at e
      split at e
      · split at e
        · cases e; exact hs
        · cases e
      · split at e
        · cases e; exact hs
        · exact span64_narrow hs e
theorem delays64 {n : Nat} {m : Mat} {v : List (Int × Int)} {s : SpanP} (h : delaysP n m v = some s) : Span64 s := by
  unfold delaysP at h
  split at h
  · cases e : delayFrom n m v ((n + 1) * (n + 1)) 0 ⟨(0, 1), (0, 0), true, false, true⟩ with
    | none => rw [e] at h; cases h
    | some t =>
      rw [e, Option.bind_some] at h
      split at h
      · cases h
        exact from64 _ _ _ _ ⟨⟨⟨by decide, by decide⟩, ⟨by decide, by decide⟩⟩, ⟨by decide, by decide⟩, ⟨by decide, by decide⟩⟩ e
      · cases h
  · cases h

set_option maxRecDepth 100000 in
set_option maxHeartbeats 16000000 in
theorem spans_any (n : Int) (B : Option Addr) (d : Nat) (cells : List Int) (A : Option Addr) (c : Nat) (l : List (Int × Int)) (d1 d2 ck nn : Int) (G : Option Addr) (gl gc : Nat) (w : World) (hJ : Ints w .i32 B cells) (hmax : cells.length ≤ 4611686018427387904)
    (hk : ∀ q, q < cells.length → -2147483648 ≤ cells.getD q 0 ∧ cells.getD q 0 ≤ 2147483647) (hI : RatsA w A l) (hmax' : l.length ≤ 8796093022000) (h64 : All64v l) (hd1 : I64 d1) (hd2 : I64 d2) :
    Calls Try.prog 6 #[.int .i64 n, .slice B cells.length d, .agg #[.slice A l.length c, .int .i64 d1, .int .i64 d2, .int .i64 ck, .int .i64 nn, .slice G gl gc]] w fun e w' => e = .returned (.bool true) ∧ Below w.heap.size w w' := by
  have HLV := Lib.hid (fun W => live06_any W)
  have HOF := Lib.hid (fun W (hb : Below w.heap.size w W) => of_any n B d cells W (hJ.below hb) hmax hk)
  have HWT := Lib.hid (fun W (hb : Below w.heap.size w W) => wait_any A c l d1 d2 W (hI.below hb) hmax' h64 hd1 hd2)
  have HI := Lib.hid hI
  have H64 := Lib.hid h64
  have HM := Lib.hid hmax'
  have HKI := Lib.hid (fun k m (h : (ofP n cells).1.map (fun m => (n.toNat, m)) = some (k, m)) => zone_closed (show zOf n cells = some (k, m) from h))
  have HKN := Lib.hid (fun k m (h : (ofP n cells).1.map (fun m => (n.toNat, m)) = some (k, m)) => (zone_kinds (show zOf n cells = some (k, m) from h)).1)
  have HC1 := Lib.hid (fun x1 x2 (h1 : I64 x1) (h2 : I64 x2) W => dcompare_any x1 x2 d1 d2 h1 h2 hd1 hd2 W)
  have HC2 := Lib.hid (fun x1 x2 (h1 : I64 x1) (h2 : I64 x2) W => dcompare_any d1 d2 x1 x2 hd1 hd2 h1 h2 W)
  have K := Lib.hid ((Blx.start w).new #[.slice A l.length c, .int .i64 d1, .int .i64 d2, .int .i64 ck, .int .i64 nn, .slice G gl gc] 67)
  clear hJ hmax hk hI hmax' h64 hd1 hd2
  go_enter Try.func6, Try.ntmps6
  go_upto_region 1 with fail
  generalize w.alloc (.cells #[.slice A l.length c, .int .i64 d1, .int .i64 d2, .int .i64 ck, .int .i64 nn, .slice G gl gc] 67) = w0 at *
  simp only [List.nil_append] at K
  go_wp2_with fail
  refine (HLV.out _).mono ?_
  rintro e w1 ⟨rfl, hb⟩
  replace K := Lib.hid (K.out.step hb)
  clear hb HLV
  go_wp2_with fail
  refine (HOF.out _ K.out.below).mono ?_
  rintro e w2 ⟨hb, v, rfl, hv⟩
  replace K := Lib.hid (K.out.step hb)
  clear hb HOF
  obtain ⟨z, hz⟩ : ∃ z, z = (ofP n cells).1.map (fun m => (n.toNat, m)) := ⟨_, rfl⟩
  rw [← hz] at hv
  simp only [← hz] at HKI HKN
  have HZ := Lib.hid hv
  clear hz hv
  have m0 := (K.out.cell 0 rfl 0 (v := .slice A l.length c) rfl).1
  have m1 := (K.out.cell 0 rfl 1 (v := .int .i64 d1) rfl).1
  have m2 := (K.out.cell 0 rfl 2 (v := .int .i64 d2) rfl).1
  have HSP := Lib.hid (fun k m (hr : RightM k m) (hw : (waitA l (d1, d2)).2 = 0) (hl : l.length = k) hs => spans_law (n := k) (m := m) (v := l) (d := (d1, d2)) hr hw hl hs)
  have HWG := Lib.hid (fun (hw : (waitA l (d1, d2)).2 = 0) => wait_good hw)
  have HW8 := Lib.hid (waitA64 (l := l) (d := (d1, d2)))
  obtain ⟨wv, hwv⟩ : ∃ q, q = waitA l (d1, d2) := ⟨_, rfl⟩
  have HWE := Lib.hid hwv
  rw [← hwv] at HWT HW8
  simp only [← hwv] at HSP HWG
  clear hwv
  obtain ⟨wl, we⟩ := wv
  go_wp2_with fail
  refine (HWT.out _ K.out.below).mono ?_
  rintro e w3 ⟨v3, rfl, hq⟩
  replace K := Lib.hid (K.out.step hq.1)
  have HB2 := Lib.hid hq.1
  obtain ⟨A3, c3, rfl, hr3⟩ := hq.rats
  have HV := Lib.hid hr3
  clear hq hr3 HWT m0 m1 m2
  match z, HZ with
  | none, HZ =>
    obtain rfl : v = .pointer none := HZ.out
    go_wp2
    go_ret
    exact ⟨rfl, K.out.below⟩
  | some (k, m), HZ =>
    obtain ⟨b, rfl, hk8, hr, hm⟩ := HZ.out
    obtain ⟨hn0, hn8, hkn⟩ := HKN.out k m rfl
    have en : n = (k : Int) := by omega
    subst en
    by_cases hwe : we = 0
    · subst hwe
      have m0 := (K.out.cell 0 rfl 0 (v := .slice A l.length c) rfl).1
      by_cases hl : l.length = k
      · have hlen : ((l.length : Nat) : Int) = (k : Int) := by rw [hl]
        obtain ⟨hw1, hv, hd, hd0, hv', _⟩ := HWG.out rfl
        have HDL := Lib.hid (fun A c W (hb : Below w2.heap.size w2 W) hI => delays_any (.pointer (some ⟨b, 0, none⟩)) k m A c l W (HZ.out.below hb) (HKI.out k m rfl) hI H64.out hv hl)
        have HIN := Lib.hid (fun W (hb : Below w2.heap.size w2 W) hI => in_any (.pointer (some ⟨b, 0, none⟩)) (some (k, m)) A3 c3 wl W (HZ.out.below hb) hI (by
          have e : wl = waitV l (d1, d2) := hw1
          rw [e, waitV_length]; have := HM.out; omega) HW8.out)
        have hlw : wl.length = k := by
          have e : wl = waitV l (d1, d2) := hw1
          rw [e, waitV_length]; exact hl
        have HSS := Lib.hid (HSP.out k m hr rfl hl)
        clear hw1 hv hd hd0 hv' hr hm HWG HKI HKN hn0 hn8 hkn HSP HWE
        go_wp2
        go_loopg [11] k (fun g x wr => ∃ i : Nat, x = .int .i64 i ∧ Hid (wr = w3) ∧ Hid (i ≤ k ∧ g + i = k ∧ ∀ q, q < i → (l.getD q (0, 0)).2 ≤ 1000 ∧ (l.getD q (0, 0)).1 ≤ 1099511627776))
        case atStart => exact ⟨0, by simp, Lib.hid rfl, Lib.hid ⟨by omega, by omega, fun q hq => by omega⟩⟩
        case round =>
          obtain ⟨i, rfl, HWR, HG⟩ := hrel
          have ewr := HWR.out
          subst ewr
          have q5 : IntKind.i64.wrap ((i : Int) + 1) = ((i + 1 : Nat) : Int) := by rw [IntWalk.i64_in _ (by have := HG.out.1; omega)]; omega
          by_cases hi : i < k
          · have hii : (i : Int) < (k : Int) := by omega
            obtain ⟨ba, oa, rfl, e1, e2⟩ := HI.out.below K.out.below i (by omega)
            have HST := Lib.hid (fun (h : (l.getD i (0, 0)).2 ≤ 1000 ∧ (l.getD i (0, 0)).1 ≤ 1099511627776) q (hq : q < i + 1) => show (l.getD q (0, 0)).2 ≤ 1000 ∧ (l.getD q (0, 0)).1 ≤ 1099511627776 from by
              by_cases e : q = i
              · rw [e]; exact h
              · exact HG.out.2.2 q (by omega))
            obtain ⟨x, hx⟩ : ∃ x, x = l.getD i (0, 0) := ⟨_, rfl⟩
            rw [← hx] at e1 e2 HST
            obtain ⟨x1, x2⟩ := x
            clear hx
            by_cases g1 : 1000 < x2
            · have t1 : decide (1000 < x2) = true := decide_eq_true g1
              go_wp2
              go_ret
              exact ⟨rfl, K.out.below⟩
            · have t1 : decide (1000 < x2) = false := decide_eq_false g1
              by_cases g2 : 1099511627776 < x1
              · have t2 : decide (1099511627776 < x1) = true := decide_eq_true g2
                go_wp2
                go_ret
                exact ⟨rfl, K.out.below⟩
              · have t2 : decide (1099511627776 < x1) = false := decide_eq_false g2
                have HS2 := Lib.hid (HST.out ⟨by simp only; omega, by simp only; omega⟩)
                clear g1 g2 HST
                go_wp2
                go_roundg (gk - 1)
                case measure => have h := HG.out.2.1; omega
                case rel => exact ⟨i + 1, by go_num, Lib.hid rfl, Lib.hid ⟨by omega, by have h := HG.out.2.1; omega, HS2.out⟩⟩
          · have hii : ¬ (i : Int) < (k : Int) := by omega
            have HX := Lib.hid (HSS.out (fun q hq => HG.out.2.2 q (by have := HG.out.1; omega)))
            have HIN : Hid (∀ W, Below w2.heap.size w2 W → RatsA W A3 wl → Calls Try.prog 19 #[.pointer (some ⟨b, 0, none⟩), .slice A3 wl.length c3] W fun e w' => e = .returned (.bool (inP k m wl)) ∧ Below W.heap.size W w') := HIN
            obtain ⟨X, hX⟩ : ∃ X, X = inP k m wl := ⟨_, rfl⟩
            rw [← hX] at HX HIN
            rw [hlw] at HIN
            rw [hl] at HDL
            have HD64 := Lib.hid (fun s (h : delaysP k m l = some s) => delays64 h)
            obtain ⟨o, ho⟩ : ∃ o, o = delaysP k m l := ⟨_, rfl⟩
            simp only [← ho] at HX HDL HD64
            clear hX ho HG HSS
            go_wp2_with fail
            refine (HDL.out _ _ _ HB2.out (HI.out.below K.out.below)).mono ?_
            rintro e w4 ⟨he, hb⟩
            have K0 := Lib.hid (K.out.step hb)
            have HB4 := Lib.hid (HB2.out.trans (hb.mono HB2.out.size))
            have HV4 := Lib.hid (HV.out.below hb)
            clear hb K HDL HV HB2
            cases o with
            | none =>
              simp only [spanCs, spanZero, Option.getD_none, Option.isSome_none] at he
              subst he
              have HC1 := Lib.hid (fun W => HC1.out 0 0 ⟨by decide, by decide⟩ ⟨by decide, by decide⟩ W)
              go_upto_region 13 with fail
              have K := Lib.hid (K0.out.new #[.int .i64 0, .int .i64 0, .int .i64 0, .int .i64 0, .bool false, .bool false, .bool false] 70)
              have HBK := Lib.hid (fun W (hb : Below w.heap.size w W) => hb)
              have hb5 := below_one w4 (.cells #[.int .i64 0, .int .i64 0, .int .i64 0, .int .i64 0, .bool false, .bool false, .bool false] 70)
              replace HB4 := Lib.hid (HB4.out.trans (hb5.mono HB4.out.size))
              replace HV4 := Lib.hid (HV4.out.below hb5)
              generalize w4.alloc (.cells #[.int .i64 0, .int .i64 0, .int .i64 0, .int .i64 0, .bool false, .bool false, .bool false] 70) = w5 at *
              generalize w4.heap.size = g5 at *
              simp only [List.cons_append, List.nil_append] at K
              have s0 := (K.out.cell 1 rfl 0 (v := .int .i64 0) rfl).1
              have s1 := (K.out.cell 1 rfl 1 (v := .int .i64 0) rfl).1
              have m1 := (K.out.cell 0 rfl 1 (v := .int .i64 d1) rfl).1
              have m2 := (K.out.cell 0 rfl 2 (v := .int .i64 d2) rfl).1
              go_wp2_with fail
              refine (HC1.out _).mono ?_
              rintro e w6 ⟨rfl, hb⟩
              replace K := Lib.hid (K.out.step hb)
              replace HB4 := Lib.hid (HB4.out.trans (hb.mono HB4.out.size))
              replace HV4 := Lib.hid (HV4.out.below hb)
              have eX : X = false := HX.out
              rw [eX] at HIN
              clear hb hb5 s0 s1 m1 m2 eX HX
              go_wp2_with fail
              refine (HIN.out _ HB4.out HV4.out).mono ?_
              rintro e w9 ⟨rfl, hb⟩
              replace K := Lib.hid (K.out.step hb)
              go_wp2
              go_ret
              exact ⟨rfl, K.out.below⟩
            | some s =>
              obtain ⟨⟨s1', s2'⟩, s3', s4'⟩ := HD64.out s rfl
              obtain ⟨⟨a1, a2⟩, ⟨h1, h2⟩, li, hi', ev⟩ := s
              simp only [spanCs, Option.getD_some, Option.isSome_some] at he
              subst he
              have HC1 := Lib.hid (fun W => HC1.out a1 a2 s1' s2' W)
              have HC2 := Lib.hid (fun W => HC2.out h1 h2 s3' s4' W)
              have HT : Hid (spanTold (some ⟨(a1, a2), (h1, h2), li, hi', ev⟩) (d1, d2) = ((decide (cmpP (a1, a2) (d1, d2) < 0) || (decide (cmpP (a1, a2) (d1, d2) = 0) && li)) && (ev || (decide (cmpP (d1, d2) (h1, h2) < 0) || (decide (cmpP (d1, d2) (h1, h2) = 0) && hi'))))) := Lib.hid rfl
              obtain ⟨c1, hc1⟩ : ∃ q, q = cmpP (a1, a2) (d1, d2) := ⟨_, rfl⟩
              obtain ⟨c2, hc2⟩ : ∃ q, q = cmpP (d1, d2) (h1, h2) := ⟨_, rfl⟩
              rw [← hc1] at HC1 HT
              rw [← hc2] at HC2 HT
              clear hc1 hc2 s1' s2' s3' s4' HD64
              go_upto_region 13 with fail
              have K := Lib.hid (K0.out.new #[.int .i64 a1, .int .i64 a2, .int .i64 h1, .int .i64 h2, .bool li, .bool hi', .bool ev] 70)
              have hb5 := below_one w4 (.cells #[.int .i64 a1, .int .i64 a2, .int .i64 h1, .int .i64 h2, .bool li, .bool hi', .bool ev] 70)
              replace HB4 := Lib.hid (HB4.out.trans (hb5.mono HB4.out.size))
              replace HV4 := Lib.hid (HV4.out.below hb5)
              clear hb5 K0
              generalize w4.alloc (.cells #[.int .i64 a1, .int .i64 a2, .int .i64 h1, .int .i64 h2, .bool li, .bool hi', .bool ev] 70) = w5 at *
              generalize w4.heap.size = g5 at *
              simp only [List.cons_append, List.nil_append] at K
              obtain ⟨⟨s0, s1, s2, s3, s4, s5, s6⟩, _⟩ := cells7_at (a0 := .int .i64 a1) (a1 := .int .i64 a2) (a2 := .int .i64 h1) (a3 := .int .i64 h2) (a4 := .bool li) (a5 := .bool hi') (a6 := .bool ev) K.out 1 rfl
              have m1 := (K.out.cell 0 rfl 1 (v := .int .i64 d1) rfl).1
              have m2 := (K.out.cell 0 rfl 2 (v := .int .i64 d2) rfl).1
              go_wp2_with fail
              refine (HC1.out _).mono ?_
              rintro e w6 ⟨rfl, hb⟩
              replace K := Lib.hid (K.out.step hb)
              replace HB4 := Lib.hid (HB4.out.trans (hb.mono HB4.out.size))
              replace HV4 := Lib.hid (HV4.out.below hb)
              clear hb HC1 s0 s1 s2 s3 s4 s5 s6 m1 m2
              by_cases q1 : c1 < 0
              · have t1 : decide (c1 < 0) = true := decide_eq_true q1
                have T1 : (decide (c1 < 0) || decide (c1 = 0) && li) = true := by rw [t1]; rfl
                clear q1
                cases ev with
                | true =>
                  obtain ⟨⟨s0, s1, s2, s3, s4, s5, s6⟩, _⟩ := cells7_at (a0 := .int .i64 a1) (a1 := .int .i64 a2) (a2 := .int .i64 h1) (a3 := .int .i64 h2) (a4 := .bool li) (a5 := .bool hi') (a6 := .bool true) K.out 1 rfl
                  have m1 := (K.out.cell 0 rfl 1 (v := .int .i64 d1) rfl).1
                  have m2 := (K.out.cell 0 rfl 2 (v := .int .i64 d2) rfl).1
                  have eX : X = true := HX.out.trans (by rw [HT.out]; simp [T1])
                  rw [eX] at HIN
                  clear eX HX
                  go_wp2_with fail
                  refine (HIN.out _ HB4.out HV4.out).mono ?_
                  rintro e w9 ⟨rfl, hb⟩
                  replace K := Lib.hid (K.out.step hb)
                  replace HB4 := Lib.hid (HB4.out.trans (hb.mono HB4.out.size))
                  replace HV4 := Lib.hid (HV4.out.below hb)
                  go_wp2
                  go_ret
                  exact ⟨by simp, K.out.below⟩
                | false =>
                  obtain ⟨⟨s0, s1, s2, s3, s4, s5, s6⟩, _⟩ := cells7_at (a0 := .int .i64 a1) (a1 := .int .i64 a2) (a2 := .int .i64 h1) (a3 := .int .i64 h2) (a4 := .bool li) (a5 := .bool hi') (a6 := .bool false) K.out 1 rfl
                  have m1 := (K.out.cell 0 rfl 1 (v := .int .i64 d1) rfl).1
                  have m2 := (K.out.cell 0 rfl 2 (v := .int .i64 d2) rfl).1
                  go_wp2_with fail
                  refine (HC2.out _).mono ?_
                  rintro e w8 ⟨rfl, hb⟩
                  replace K := Lib.hid (K.out.step hb)
                  replace HB4 := Lib.hid (HB4.out.trans (hb.mono HB4.out.size))
                  replace HV4 := Lib.hid (HV4.out.below hb)
                  clear hb s0 s1 s2 s3 s4 s5 s6 m1 m2 HC2
                  by_cases r1 : c2 < 0
                  · have u1 : decide (c2 < 0) = true := decide_eq_true r1
                    obtain ⟨⟨s0, s1, s2, s3, s4, s5, s6⟩, _⟩ := cells7_at (a0 := .int .i64 a1) (a1 := .int .i64 a2) (a2 := .int .i64 h1) (a3 := .int .i64 h2) (a4 := .bool li) (a5 := .bool hi') (a6 := .bool false) K.out 1 rfl
                    have m1 := (K.out.cell 0 rfl 1 (v := .int .i64 d1) rfl).1
                    have m2 := (K.out.cell 0 rfl 2 (v := .int .i64 d2) rfl).1
                    have eX : X = true := HX.out.trans (by rw [HT.out, u1]; simp [T1])
                    rw [eX] at HIN
                    clear eX HX
                    go_wp2_with fail
                    refine (HIN.out _ HB4.out HV4.out).mono ?_
                    rintro e w9 ⟨rfl, hb⟩
                    replace K := Lib.hid (K.out.step hb)
                    replace HB4 := Lib.hid (HB4.out.trans (hb.mono HB4.out.size))
                    replace HV4 := Lib.hid (HV4.out.below hb)
                    go_wp2
                    go_ret
                    exact ⟨by simp, K.out.below⟩
                  · have u1 : decide (c2 < 0) = false := decide_eq_false r1
                    by_cases r2 : c2 = 0
                    · subst r2
                      cases hi' with
                      | true =>
                        obtain ⟨⟨s0, s1, s2, s3, s4, s5, s6⟩, _⟩ := cells7_at (a0 := .int .i64 a1) (a1 := .int .i64 a2) (a2 := .int .i64 h1) (a3 := .int .i64 h2) (a4 := .bool li) (a5 := .bool true) (a6 := .bool false) K.out 1 rfl
                        have m1 := (K.out.cell 0 rfl 1 (v := .int .i64 d1) rfl).1
                        have m2 := (K.out.cell 0 rfl 2 (v := .int .i64 d2) rfl).1
                        have eX : X = true := HX.out.trans (by rw [HT.out]; simp [T1])
                        rw [eX] at HIN
                        clear eX HX
                        go_wp2_with fail
                        refine (HIN.out _ HB4.out HV4.out).mono ?_
                        rintro e w9 ⟨rfl, hb⟩
                        replace K := Lib.hid (K.out.step hb)
                        replace HB4 := Lib.hid (HB4.out.trans (hb.mono HB4.out.size))
                        replace HV4 := Lib.hid (HV4.out.below hb)
                        go_wp2
                        go_ret
                        exact ⟨by simp, K.out.below⟩
                      | false =>
                        obtain ⟨⟨s0, s1, s2, s3, s4, s5, s6⟩, _⟩ := cells7_at (a0 := .int .i64 a1) (a1 := .int .i64 a2) (a2 := .int .i64 h1) (a3 := .int .i64 h2) (a4 := .bool li) (a5 := .bool false) (a6 := .bool false) K.out 1 rfl
                        have m1 := (K.out.cell 0 rfl 1 (v := .int .i64 d1) rfl).1
                        have m2 := (K.out.cell 0 rfl 2 (v := .int .i64 d2) rfl).1
                        have eX : X = false := HX.out.trans (by rw [HT.out]; simp [T1])
                        rw [eX] at HIN
                        clear eX HX
                        go_wp2_with fail
                        refine (HIN.out _ HB4.out HV4.out).mono ?_
                        rintro e w9 ⟨rfl, hb⟩
                        replace K := Lib.hid (K.out.step hb)
                        replace HB4 := Lib.hid (HB4.out.trans (hb.mono HB4.out.size))
                        replace HV4 := Lib.hid (HV4.out.below hb)
                        go_wp2
                        go_ret
                        exact ⟨by simp, K.out.below⟩
                    · have u2 : (c2 == 0) = false := by simp [r2]
                      obtain ⟨⟨s0, s1, s2, s3, s4, s5, s6⟩, _⟩ := cells7_at (a0 := .int .i64 a1) (a1 := .int .i64 a2) (a2 := .int .i64 h1) (a3 := .int .i64 h2) (a4 := .bool li) (a5 := .bool hi') (a6 := .bool false) K.out 1 rfl
                      have m1 := (K.out.cell 0 rfl 1 (v := .int .i64 d1) rfl).1
                      have m2 := (K.out.cell 0 rfl 2 (v := .int .i64 d2) rfl).1
                      have eX : X = false := HX.out.trans (by rw [HT.out, u1, decide_eq_false r2]; simp [T1])
                      rw [eX] at HIN
                      clear eX HX
                      go_wp2_with fail
                      refine (HIN.out _ HB4.out HV4.out).mono ?_
                      rintro e w9 ⟨rfl, hb⟩
                      replace K := Lib.hid (K.out.step hb)
                      replace HB4 := Lib.hid (HB4.out.trans (hb.mono HB4.out.size))
                      replace HV4 := Lib.hid (HV4.out.below hb)
                      go_wp2
                      go_ret
                      exact ⟨by simp, K.out.below⟩
              · have t1 : decide (c1 < 0) = false := decide_eq_false q1
                by_cases q2 : c1 = 0
                · subst q2
                  cases li with
                  | true =>
                    have T1 : (decide ((0 : Int) < 0) || decide ((0 : Int) = 0) && true) = true := rfl
                    cases ev with
                    | true =>
                      obtain ⟨⟨s0, s1, s2, s3, s4, s5, s6⟩, _⟩ := cells7_at (a0 := .int .i64 a1) (a1 := .int .i64 a2) (a2 := .int .i64 h1) (a3 := .int .i64 h2) (a4 := .bool true) (a5 := .bool hi') (a6 := .bool true) K.out 1 rfl
                      have m1 := (K.out.cell 0 rfl 1 (v := .int .i64 d1) rfl).1
                      have m2 := (K.out.cell 0 rfl 2 (v := .int .i64 d2) rfl).1
                      have eX : X = true := HX.out.trans (by rw [HT.out]; simp [T1])
                      rw [eX] at HIN
                      clear eX HX
                      go_wp2_with fail
                      refine (HIN.out _ HB4.out HV4.out).mono ?_
                      rintro e w9 ⟨rfl, hb⟩
                      replace K := Lib.hid (K.out.step hb)
                      replace HB4 := Lib.hid (HB4.out.trans (hb.mono HB4.out.size))
                      replace HV4 := Lib.hid (HV4.out.below hb)
                      go_wp2
                      go_ret
                      exact ⟨by simp, K.out.below⟩
                    | false =>
                      obtain ⟨⟨s0, s1, s2, s3, s4, s5, s6⟩, _⟩ := cells7_at (a0 := .int .i64 a1) (a1 := .int .i64 a2) (a2 := .int .i64 h1) (a3 := .int .i64 h2) (a4 := .bool true) (a5 := .bool hi') (a6 := .bool false) K.out 1 rfl
                      have m1 := (K.out.cell 0 rfl 1 (v := .int .i64 d1) rfl).1
                      have m2 := (K.out.cell 0 rfl 2 (v := .int .i64 d2) rfl).1
                      go_wp2_with fail
                      refine (HC2.out _).mono ?_
                      rintro e w8 ⟨rfl, hb⟩
                      replace K := Lib.hid (K.out.step hb)
                      replace HB4 := Lib.hid (HB4.out.trans (hb.mono HB4.out.size))
                      replace HV4 := Lib.hid (HV4.out.below hb)
                      clear hb s0 s1 s2 s3 s4 s5 s6 m1 m2 HC2
                      by_cases r1 : c2 < 0
                      · have u1 : decide (c2 < 0) = true := decide_eq_true r1
                        obtain ⟨⟨s0, s1, s2, s3, s4, s5, s6⟩, _⟩ := cells7_at (a0 := .int .i64 a1) (a1 := .int .i64 a2) (a2 := .int .i64 h1) (a3 := .int .i64 h2) (a4 := .bool true) (a5 := .bool hi') (a6 := .bool false) K.out 1 rfl
                        have m1 := (K.out.cell 0 rfl 1 (v := .int .i64 d1) rfl).1
                        have m2 := (K.out.cell 0 rfl 2 (v := .int .i64 d2) rfl).1
                        have eX : X = true := HX.out.trans (by rw [HT.out, u1]; simp [T1])
                        rw [eX] at HIN
                        clear eX HX
                        go_wp2_with fail
                        refine (HIN.out _ HB4.out HV4.out).mono ?_
                        rintro e w9 ⟨rfl, hb⟩
                        replace K := Lib.hid (K.out.step hb)
                        replace HB4 := Lib.hid (HB4.out.trans (hb.mono HB4.out.size))
                        replace HV4 := Lib.hid (HV4.out.below hb)
                        go_wp2
                        go_ret
                        exact ⟨by simp, K.out.below⟩
                      · have u1 : decide (c2 < 0) = false := decide_eq_false r1
                        by_cases r2 : c2 = 0
                        · subst r2
                          cases hi' with
                          | true =>
                            obtain ⟨⟨s0, s1, s2, s3, s4, s5, s6⟩, _⟩ := cells7_at (a0 := .int .i64 a1) (a1 := .int .i64 a2) (a2 := .int .i64 h1) (a3 := .int .i64 h2) (a4 := .bool true) (a5 := .bool true) (a6 := .bool false) K.out 1 rfl
                            have m1 := (K.out.cell 0 rfl 1 (v := .int .i64 d1) rfl).1
                            have m2 := (K.out.cell 0 rfl 2 (v := .int .i64 d2) rfl).1
                            have eX : X = true := HX.out.trans (by rw [HT.out]; simp [T1])
                            rw [eX] at HIN
                            clear eX HX
                            go_wp2_with fail
                            refine (HIN.out _ HB4.out HV4.out).mono ?_
                            rintro e w9 ⟨rfl, hb⟩
                            replace K := Lib.hid (K.out.step hb)
                            replace HB4 := Lib.hid (HB4.out.trans (hb.mono HB4.out.size))
                            replace HV4 := Lib.hid (HV4.out.below hb)
                            go_wp2
                            go_ret
                            exact ⟨by simp, K.out.below⟩
                          | false =>
                            obtain ⟨⟨s0, s1, s2, s3, s4, s5, s6⟩, _⟩ := cells7_at (a0 := .int .i64 a1) (a1 := .int .i64 a2) (a2 := .int .i64 h1) (a3 := .int .i64 h2) (a4 := .bool true) (a5 := .bool false) (a6 := .bool false) K.out 1 rfl
                            have m1 := (K.out.cell 0 rfl 1 (v := .int .i64 d1) rfl).1
                            have m2 := (K.out.cell 0 rfl 2 (v := .int .i64 d2) rfl).1
                            have eX : X = false := HX.out.trans (by rw [HT.out]; simp [T1])
                            rw [eX] at HIN
                            clear eX HX
                            go_wp2_with fail
                            refine (HIN.out _ HB4.out HV4.out).mono ?_
                            rintro e w9 ⟨rfl, hb⟩
                            replace K := Lib.hid (K.out.step hb)
                            replace HB4 := Lib.hid (HB4.out.trans (hb.mono HB4.out.size))
                            replace HV4 := Lib.hid (HV4.out.below hb)
                            go_wp2
                            go_ret
                            exact ⟨by simp, K.out.below⟩
                        · have u2 : (c2 == 0) = false := by simp [r2]
                          obtain ⟨⟨s0, s1, s2, s3, s4, s5, s6⟩, _⟩ := cells7_at (a0 := .int .i64 a1) (a1 := .int .i64 a2) (a2 := .int .i64 h1) (a3 := .int .i64 h2) (a4 := .bool true) (a5 := .bool hi') (a6 := .bool false) K.out 1 rfl
                          have m1 := (K.out.cell 0 rfl 1 (v := .int .i64 d1) rfl).1
                          have m2 := (K.out.cell 0 rfl 2 (v := .int .i64 d2) rfl).1
                          have eX : X = false := HX.out.trans (by rw [HT.out, u1, decide_eq_false r2]; simp [T1])
                          rw [eX] at HIN
                          clear eX HX
                          go_wp2_with fail
                          refine (HIN.out _ HB4.out HV4.out).mono ?_
                          rintro e w9 ⟨rfl, hb⟩
                          replace K := Lib.hid (K.out.step hb)
                          replace HB4 := Lib.hid (HB4.out.trans (hb.mono HB4.out.size))
                          replace HV4 := Lib.hid (HV4.out.below hb)
                          go_wp2
                          go_ret
                          exact ⟨by simp, K.out.below⟩
                  | false =>
                    obtain ⟨⟨s0, s1, s2, s3, s4, s5, s6⟩, _⟩ := cells7_at (a0 := .int .i64 a1) (a1 := .int .i64 a2) (a2 := .int .i64 h1) (a3 := .int .i64 h2) (a4 := .bool false) (a5 := .bool hi') (a6 := .bool ev) K.out 1 rfl
                    have m1 := (K.out.cell 0 rfl 1 (v := .int .i64 d1) rfl).1
                    have m2 := (K.out.cell 0 rfl 2 (v := .int .i64 d2) rfl).1
                    have eX : X = false := HX.out.trans (by rw [HT.out]; rfl)
                    rw [eX] at HIN
                    clear eX HX
                    go_wp2_with fail
                    refine (HIN.out _ HB4.out HV4.out).mono ?_
                    rintro e w9 ⟨rfl, hb⟩
                    replace K := Lib.hid (K.out.step hb)
                    replace HB4 := Lib.hid (HB4.out.trans (hb.mono HB4.out.size))
                    replace HV4 := Lib.hid (HV4.out.below hb)
                    go_wp2
                    go_ret
                    exact ⟨by simp, K.out.below⟩
                · have t2 : (c1 == 0) = false := by simp [q2]
                  obtain ⟨⟨s0, s1, s2, s3, s4, s5, s6⟩, _⟩ := cells7_at (a0 := .int .i64 a1) (a1 := .int .i64 a2) (a2 := .int .i64 h1) (a3 := .int .i64 h2) (a4 := .bool li) (a5 := .bool hi') (a6 := .bool ev) K.out 1 rfl
                  have m1 := (K.out.cell 0 rfl 1 (v := .int .i64 d1) rfl).1
                  have m2 := (K.out.cell 0 rfl 2 (v := .int .i64 d2) rfl).1
                  have eX : X = false := HX.out.trans (by rw [HT.out, t1, decide_eq_false q2]; rfl)
                  rw [eX] at HIN
                  clear eX HX
                  go_wp2_with fail
                  refine (HIN.out _ HB4.out HV4.out).mono ?_
                  rintro e w9 ⟨rfl, hb⟩
                  replace K := Lib.hid (K.out.step hb)
                  replace HB4 := Lib.hid (HB4.out.trans (hb.mono HB4.out.size))
                  replace HV4 := Lib.hid (HV4.out.below hb)
                  go_wp2
                  go_ret
                  exact ⟨by simp, K.out.below⟩
      · have hlen : ¬ ((l.length : Nat) : Int) = (k : Int) := by omega
        clear hn0 hn8 hkn hr hm hl
        go_wp2
        go_ret
        exact ⟨rfl, K.out.below⟩
    · have t1 : (we != 0) = true := by simp [hwe]
      clear hwe hn0 hn8 hkn hr hm
      go_wp2
      go_ret
      exact ⟨rfl, K.out.below⟩

end Go.Proofs.Ytfegongaflekiaa

/- How arrays of rows of numbers, and structs of rows and numbers, come in. -/
namespace Go.Proofs.Ytfegongaflekiaa
open Go Go.ChangeShapes Go.WideShapes Go.ChangeAt Go.RowKit Go.Deep
set_option linter.unusedVariables false
set_option linter.unusedSimpArgs false

/-- What a row's datum says of its length. -/
def RowD {H : Type} (d : DataW H) (xs : List Int) : Prop := xs = [] ∨ ∃ el sp, d = .slice el sp ∧ el.length = xs.length
section
variable {H : Type} {enc : TypeId × Value → H} {P : Program} {W W' : World}
theorem row_opened {t e : TypeId} {k : IntKind} {v : Value} {fuel : Nat} {x : DataW H × List MemPlace} (ht : P.underlying t = some (.slice e)) (he : P.underlying e = some (.int k)) (hc : P.cellsOf e = 1)
    (h : DataW.trod enc P W 0 (fun _ => true) true fuel t [v] = some x) :
    ∃ A c xs, v = .slice A xs.length c ∧ Ints W k A xs ∧ (∀ n ∈ xs, (Lit.int k n).wf = true) ∧ RowD x.1 xs := by
  rcases open_ints ht he hc h with ⟨hcs, _⟩ | ⟨a, len, cap, zs, hcs, _, hle, hmax, hall, hx, hcell, hwf⟩
  · simp only [List.cons.injEq, and_true] at hcs
    subst hcs
    exact ⟨none, 0, [], rfl, fun j hj => by simp at hj, by simp, .inl rfl⟩
  · simp only [List.cons.injEq, and_true] at hcs
    subst hcs
    have hz : zs.length = cap := by simpa using hall
    have hlen : (zs.take len).length = len := by rw [List.length_take]; omega
    refine ⟨some a, cap, zs.take len, by rw [hlen], ?_, fun n hn => hwf n (List.mem_of_mem_take hn), .inr ⟨_, _, by rw [hx], by simp [lits]⟩⟩
    intro j hj
    rw [hlen] at hj
    obtain ⟨b, off, rfl, hcell'⟩ := ints_at hcell (by omega)
    refine ⟨b, off, rfl, ?_⟩
    rw [hcell' j (by omega)]
    congr 2
    simp [List.getD_eq_getElem?_getD, List.getElem?_take, hj]
theorem came_rows2 {t e f : TypeId} {k : IntKind} {v : Value} {d : DataW H} {ps : List MemPlace} {r : Reach} {base : Nat} (ht : P.underlying t = some (.array 2 e)) (he : P.underlying e = some (.slice f)) (hf : P.underlying f = some (.int k)) (hc : P.cellsOf e = 1) (hcf : P.cellsOf f = 1) (hct : P.cellsOf t = 2)
    (hval : Value.okWide P W r base t v) (h : DataW.Trod enc P W 0 (fun _ => true) true t v d ps) :
    ∃ A0 c0 l0 A1 c1 l1 d0 d1, v = .agg #[.slice A0 l0.length c0, .slice A1 l1.length c1] ∧ Ints W k A0 l0 ∧ Ints W k A1 l1 ∧ (∀ n ∈ l0, (Lit.int k n).wf = true) ∧ (∀ n ∈ l1, (Lit.int k n).wf = true) ∧ d = .agg [d0, d1] ∧ RowD d0 l0 ∧ RowD d1 l1 := by
  obtain ⟨cs, rfl, hsz, _⟩ : ∃ cs, v = .agg cs ∧ cs.size = P.cellsOf t ∧ Row.okWide P W r base t cs := by
    simpa [Value.okWide, ht] using hval
  rw [hct] at hsz
  obtain ⟨l⟩ := cs
  match l, hsz with
  | [a, b], _ =>
    obtain ⟨fuel, hfu⟩ := h
    obtain ⟨xs, m, _, hx, hlen, hn, hel⟩ := DataW.trod_array ht hfu
    have h0 := hel 0 (by omega)
    have h1 := hel 1 (by omega)
    simp [Value.cells, hc] at h0 h1
    rw [List.getElem?_eq_getElem (by omega)] at h0 h1
    obtain ⟨A0, c0, l0, e0, i0, w0, r0⟩ := row_opened he hf hcf h0
    obtain ⟨A1, c1, l1, e1, i1, w1, r1⟩ := row_opened he hf hcf h1
    subst e0 e1
    match xs, hn with
    | [y0, y1], _ =>
      simp only [Prod.mk.injEq] at hx
      exact ⟨A0, c0, l0, A1, c1, l1, y0.1, y1.1, rfl, i0, i1, w0, w1, hx.1, r0, r1⟩
theorem came_rows3 {t e f : TypeId} {k : IntKind} {v : Value} {d : DataW H} {ps : List MemPlace} {r : Reach} {base : Nat} (ht : P.underlying t = some (.array 3 e)) (he : P.underlying e = some (.slice f)) (hf : P.underlying f = some (.int k)) (hc : P.cellsOf e = 1) (hcf : P.cellsOf f = 1) (hct : P.cellsOf t = 3)
    (hval : Value.okWide P W r base t v) (h : DataW.Trod enc P W 0 (fun _ => true) true t v d ps) :
    ∃ A0 c0 l0 A1 c1 l1 A2 c2 l2 d0 d1 d2, v = .agg #[.slice A0 l0.length c0, .slice A1 l1.length c1, .slice A2 l2.length c2] ∧ Ints W k A0 l0 ∧ Ints W k A1 l1 ∧ Ints W k A2 l2 ∧ (∀ n ∈ l0, (Lit.int k n).wf = true) ∧ (∀ n ∈ l1, (Lit.int k n).wf = true) ∧ (∀ n ∈ l2, (Lit.int k n).wf = true) ∧ d = .agg [d0, d1, d2] ∧ RowD d0 l0 ∧ RowD d1 l1 ∧ RowD d2 l2 := by
  obtain ⟨cs, rfl, hsz, _⟩ : ∃ cs, v = .agg cs ∧ cs.size = P.cellsOf t ∧ Row.okWide P W r base t cs := by
    simpa [Value.okWide, ht] using hval
  rw [hct] at hsz
  obtain ⟨l⟩ := cs
  match l, hsz with
  | [a, b, c], _ =>
    obtain ⟨fuel, hfu⟩ := h
    obtain ⟨xs, m, _, hx, hlen, hn, hel⟩ := DataW.trod_array ht hfu
    have h0 := hel 0 (by omega)
    have h1 := hel 1 (by omega)
    have h2 := hel 2 (by omega)
    simp [Value.cells, hc] at h0 h1 h2
    rw [List.getElem?_eq_getElem (by omega)] at h0 h1 h2
    obtain ⟨A0, c0, l0, e0, i0, w0, r0⟩ := row_opened he hf hcf h0
    obtain ⟨A1, c1, l1, e1, i1, w1, r1⟩ := row_opened he hf hcf h1
    obtain ⟨A2, c2, l2, e2, i2, w2, r2⟩ := row_opened he hf hcf h2
    subst e0 e1 e2
    match xs, hn with
    | [y0, y1, y2], _ =>
      simp only [Prod.mk.injEq] at hx
      exact ⟨A0, c0, l0, A1, c1, l1, A2, c2, l2, y0.1, y1.1, y2.1, rfl, i0, i1, i2, w0, w1, w2, hx.1, r0, r1, r2⟩
theorem mem_all {e : TypeId} {d : DataW H} : ∀ {ds : List (DataW H)}, d ∈ ds → ∀ n ∈ DataW.weights P e d, n ∈ DataW.weightsAll P e ds
  | d' :: ds, h, n, hn => by
    simp only [DataW.weightsAll, List.mem_append]
    rcases List.mem_cons.1 h with rfl | h
    · exact .inl hn
    · exact .inr (mem_all h n hn)
theorem rowD_weight {e f : TypeId} {d : DataW H} {xs : List Int} {m : Nat} (he : P.underlying e = some (.slice f)) (hm : P.bytesOf f = m) (h : RowD d xs) {S : List Nat} (hS : ∀ n ∈ DataW.weights P e d, n ∈ S) (hs : S.all (· ≤ reachBytes) = true) : xs.length * m ≤ 140737488351232 := by
  rcases h with rfl | ⟨el, sp, rfl, hl⟩
  · simp
  · have h1 := List.all_eq_true.1 hs _ (hS ((el.length + sp.length) * P.bytesOf f) (by simp [DataW.weights, he]))
    rw [hm] at h1
    have h3 : el.length * m ≤ (el.length + sp.length) * m := Nat.mul_le_mul_right _ (by omega)
    rw [← hl]
    have h4 : (el.length + sp.length) * m ≤ 140737488351232 := of_decide_eq_true (p := (el.length + sp.length) * m ≤ 140737488351232) h1
    omega
theorem came_shortA {ts : List TypeId} {ds dd : List (DataW H)} {j q : Nat} {t e f : TypeId} {d : DataW H} {xs : List Int} {m : Nat} (hsz : (DataW.weightsEach P ts ds).all (· ≤ reachBytes) = true) (ht : ts[j]? = some t) (hd : ds[j]? = some (.agg dd))
    (hu : P.underlying t = some (.array q e)) (he : P.underlying e = some (.slice f)) (hm : P.bytesOf f = m) (hmem : d ∈ dd) (h : RowD d xs) : xs.length * m ≤ 140737488351232 :=
  rowD_weight he hm h (S := DataW.weightsEach P ts ds) (fun n hn => DataW.weights_mem_each ht hd _ (by simpa [DataW.weights, hu] using mem_all hmem n hn)) hsz

/-! ### structs of one-cell fields, by value -/
theorem open_fields {t : TypeId} {fs : Array Field} {v : Value} {d : DataW H} {ps : List MemPlace} {r : Reach} {base : Nat} (hs : P.underlying t = some (.struct fs)) (hone : oneCellFields P fs = true) (hC : P.cellsOf t = fs.size)
    (hval : Value.okWide P W r base t v) (h : DataW.Trod enc P W 0 (fun _ => true) true t v d ps) :
    ∃ (l : List Value) (ys : List (DataW H × List MemPlace)) (n : Nat), v = .agg l.toArray ∧ l.length = fs.size ∧ d = .agg (ys.map (·.1)) ∧ ys.length = fs.size ∧
      ∀ (j : Nat) (f : Field), fs[j]? = some f → ∃ c y, l[j]? = some c ∧ ys[j]? = some y ∧ DataW.trod enc P W 0 (fun _ => true) true n f.type [c] = some y := by
  obtain ⟨cs, rfl, hsz⟩ := okWide_struct hs hval
  obtain ⟨l⟩ := cs
  obtain ⟨fuel, hf⟩ := h
  obtain ⟨ys, n, _, hx, _, hlen, hg⟩ := DataW.trod_struct hs hf
  simp only [Prod.mk.injEq] at hx
  have hll : l.length = fs.size := hsz.trans hC
  refine ⟨l, ys, n, rfl, hll, hx.1, hlen, fun j f hj => ?_⟩
  have hjl : j < fs.size := (Array.getElem?_eq_some_iff.1 hj).1
  obtain ⟨o, k⟩ := hone_of hone j f hj
  have h1 := hg j f hj
  rw [o, k] at h1
  have e1 : (((Value.agg l.toArray).cells.toList).drop j).take 1 = [l[j]'(by omega)] := by
    show (l.drop j).take 1 = _
    rw [List.drop_eq_getElem_cons (by omega)]
    rfl
  refine ⟨l[j]'(by omega), ys[j]'(by omega), List.getElem?_eq_getElem _, List.getElem?_eq_getElem _, ?_⟩
  rw [← List.getElem?_eq_getElem (show j < ys.length by omega), ← h1, ← e1]
theorem came_shortF {ts : List TypeId} {ds : List (DataW H)} {ys : List (DataW H × List MemPlace)} {j q : Nat} {t : TypeId} {fs : Array Field} {g : Field} {f : TypeId} {y : DataW H × List MemPlace} {xs : List Int} {m : Nat} (hsz : (DataW.weightsEach P ts ds).all (· ≤ reachBytes) = true) (ht : ts[j]? = some t) (hd : ds[j]? = some (.agg (ys.map (·.1))))
    (hu : P.underlying t = some (.struct fs)) (hg : fs[q]? = some g) (hy : ys[q]? = some y) (he : P.underlying g.type = some (.slice f)) (hm : P.bytesOf f = m) (h : RowD y.1 xs) : xs.length * m ≤ 140737488351232 :=
  rowD_weight he hm h (S := DataW.weightsEach P ts ds) (fun n hn => DataW.weights_mem_each ht hd _ (by
    have := DataW.weights_mem_each (P := P) (ts := fs.toList.map (·.type)) (ds := ys.map (·.1)) (j := q) (t := g.type) (d := y.1) (by simp [hg]) (by simp [hy]) n hn
    simpa [DataW.weights, hu] using this)) hsz
end

end Go.Proofs.Ytfegongaflekiaa

/- How a valuation, a fraction, two numbers and guards come in, in one struct. -/
namespace Go.Proofs.Ytfegongaflekiaa
open Go Go.ChangeShapes Go.WideShapes Go.ChangeAt Go.RowKit
set_option linter.unusedVariables false
set_option linter.unusedSimpArgs false

section
variable {H : Type} {enc : TypeId × Value → H} {P : Program} {W W' : World}
/-- A slice of fractions that came in. -/
theorem rats_opened {t e : TypeId} {f0 f1 : Field} {v : Value} {fuel : Nat} {x : DataW H × List MemPlace} (ht : P.underlying t = some (.slice e)) (he : P.underlying e = some (.struct #[f0, f1]))
    (k0 : P.underlying f0.type = some (.int .i64)) (k1 : P.underlying f1.type = some (.int .i64)) (hone : Deep.oneCellFields P #[f0, f1] = true) (hc : P.cellsOf e = 2)
    (hf : DataW.trod enc P W 0 (fun _ => true) true fuel t [v] = some x) :
    ∃ A c xs, v = .slice A xs.length c ∧ RatsA W A xs ∧ All64v xs ∧ RowD x.1 (xs.map (·.1)) := by
  rcases Deep.open_slice ht hf with ⟨hcs, hx⟩ | ⟨a, len, cap, m, n, D, Pl, hcs, _, hle, _, hmm, hx, hi⟩
  · simp only [List.cons.injEq, and_true] at hcs
    subst hcs
    exact ⟨none, 0, [], rfl, fun j hj => by simp at hj, fun j hj => by simp at hj, .inl rfl⟩
  · simp only [List.cons.injEq, and_true] at hcs
    subst hcs
    have hlm : len ≤ m := by rw [hmm]; split <;> omega
    have each : ∀ i, i < m → ∃ q : Int × Int, W.cell? (a.add (i * 2)) = some (.int .i64 q.1) ∧ W.cell? (a.add (i * 2 + 1)) = some (.int .i64 q.2) ∧
        (Lit.int .i64 q.1).wf = true ∧ (Lit.int .i64 q.2).wf = true := by
      intro i him
      obtain ⟨cs', h1, h2⟩ := hi i him
      rw [hc] at h1
      obtain ⟨_, hlen, hcell⟩ := World.cells?_some h1
      obtain ⟨xs, k, _, hxy, _, hxl, hfd⟩ := DataW.trod_struct he h2
      obtain ⟨o0, c0⟩ := Deep.hone_of hone 0 f0 rfl
      obtain ⟨o1, c1⟩ := Deep.hone_of hone 1 f1 rfl
      match xs, hxl, cs', hlen with
      | [y0, y1], _, [v0, v1], _ =>
        have g0 := hfd 0 f0 rfl
        have g1 := hfd 1 f1 rfl
        simp [o0, o1, c0, c1] at g0 g1
        have e0 := hcell 0 (by omega)
        have e1 := hcell 1 (by omega)
        rw [Deep.add_add] at e0 e1
        obtain ⟨z0, q0, _, w0⟩ := DataW.trod_int k0 g0
        obtain ⟨z1, q1, _, w1⟩ := DataW.trod_int k1 g1
        simp at q0 q1
        subst q0 q1
        exact ⟨(z0, z1), by simpa using e0, by simpa using e1, w0, w1⟩
    obtain ⟨q, hq⟩ := Deep.choose_lt each
    refine ⟨some a, cap, (List.range len).map q, by simp, ?_, ?_, .inr ⟨_, _, by rw [hx], by simp⟩⟩
    · intro j hj
      simp only [List.length_map, List.length_range] at hj
      obtain ⟨h0, h1, _⟩ := hq j (by omega)
      have hsp : a.spot = none := by
        have := World.cell?_spot (hq 0 (by omega)).1
        simpa [Addr.add] using this
      obtain ⟨b, off, spot⟩ := a
      simp only at hsp
      subst hsp
      have eg : ((List.range len).map q).getD j (0, 0) = q j := by simp [List.getD_eq_getElem?_getD, hj]
      rw [eg]
      have ea : ∀ k, (⟨b, off, none⟩ : Addr).add k = ⟨b, off + k, none⟩ := fun k => by unfold Addr.add; split <;> simp_all
      rw [ea] at h0 h1
      exact ⟨b, off, rfl, h0, by rw [Nat.add_assoc]; exact h1⟩
    · intro j hj
      simp only [List.length_map, List.length_range] at hj
      have eg : ((List.range len).map q).getD j (0, 0) = q j := by simp [List.getD_eq_getElem?_getD, hj]
      rw [eg]
      exact ⟨came_i64 (hq j (by omega)).2.2.1, came_i64 (hq j (by omega)).2.2.2⟩
theorem slice_opened {t e : TypeId} {v : Value} {fuel : Nat} {x : DataW H × List MemPlace} (ht : P.underlying t = some (.slice e)) (hf : DataW.trod enc P W 0 (fun _ => true) true fuel t [v] = some x) : ∃ A l c, v = .slice A l c := by
  rcases Deep.open_slice ht hf with ⟨hcs, hx⟩ | ⟨a, len, cap, m, n, D, Pl, hcs, _⟩
  · simp only [List.cons.injEq, and_true] at hcs
    exact ⟨_, _, _, hcs⟩
  · simp only [List.cons.injEq, and_true] at hcs
    exact ⟨_, _, _, hcs⟩
/-- A struct's parts, of as many cells as they have. -/
theorem open_parts {t : TypeId} {fs : Array Field} {v : Value} {d : DataW H} {ps : List MemPlace} {r : Reach} {base : Nat} (hs : P.underlying t = some (.struct fs))
    (hval : Value.okWide P W r base t v) (h : DataW.Trod enc P W 0 (fun _ => true) true t v d ps) :
    ∃ (l : List Value) (ys : List (DataW H × List MemPlace)) (n : Nat), v = .agg l.toArray ∧ l.length = P.cellsOf t ∧ d = .agg (ys.map (·.1)) ∧ ys.length = fs.size ∧
      ∀ (j : Nat) (f : Field), fs[j]? = some f → DataW.trod enc P W 0 (fun _ => true) true n f.type ((l.drop f.offset).take (P.cellsOf f.type)) = ys[j]? := by
  obtain ⟨cs, rfl, hsz⟩ := okWide_struct hs hval
  obtain ⟨l⟩ := cs
  obtain ⟨fuel, hf⟩ := h
  obtain ⟨ys, n, _, hx, _, hlen, hg⟩ := DataW.trod_struct hs hf
  simp only [Prod.mk.injEq] at hx
  exact ⟨l, ys, n, rfl, hsz, hx.1, hlen, fun j f hj => hg j f hj⟩
theorem came_moved {t e g : TypeId} {f0 f1 f2 f3 f4 q0 q1 : Field} {v : Value} {d : DataW H} {ps : List MemPlace} {r : Reach} {base : Nat} (hs : P.underlying t = some (.struct #[f0, f1, f2, f3, f4]))
    (ho : f0.offset = 0 ∧ f1.offset = 1 ∧ f2.offset = 3 ∧ f3.offset = 4 ∧ f4.offset = 5) (hz : P.cellsOf f0.type = 1 ∧ P.cellsOf f1.type = 2 ∧ P.cellsOf f2.type = 1 ∧ P.cellsOf f3.type = 1 ∧ P.cellsOf f4.type = 1) (hC : P.cellsOf t = 6)
    (u0 : P.underlying f0.type = some (.slice e)) (u1 : P.underlying f1.type = some (.struct #[q0, q1])) (u2 : P.underlying f2.type = some (.int .i64)) (u3 : P.underlying f3.type = some (.int .i64)) (u4 : P.underlying f4.type = some (.slice g))
    (he : P.underlying e = some (.struct #[q0, q1])) (k0 : P.underlying q0.type = some (.int .i64)) (k1 : P.underlying q1.type = some (.int .i64)) (hone : Deep.oneCellFields P #[q0, q1] = true) (hc : P.cellsOf e = 2)
    (hval : Value.okWide P W r base t v) (h : DataW.Trod enc P W 0 (fun _ => true) true t v d ps) :
    ∃ (A : Option Addr) (c : Nat) (xs : List (Int × Int)) (d1 d2 ck nn : Int) (G : Option Addr) (gl gc : Nat) (ys : List (DataW H × List MemPlace)) (y0 : DataW H × List MemPlace), v = .agg #[.slice A xs.length c, .int .i64 d1, .int .i64 d2, .int .i64 ck, .int .i64 nn, .slice G gl gc] ∧ RatsA W A xs ∧ All64v xs ∧ I64 d1 ∧ I64 d2 ∧ I64 ck ∧ I64 nn ∧
      d = .agg (ys.map (·.1)) ∧ ys[0]? = some y0 ∧ RowD y0.1 (xs.map (·.1)) ∧ ∃ y4 n, ys[4]? = some y4 ∧ DataW.trod enc P W 0 (fun _ => true) true n f4.type [.slice G gl gc] = some y4 := by
  obtain ⟨l, ys, n, rfl, hl, rfl, hy, hf⟩ := open_parts hs hval h
  obtain ⟨o0, o1, o2, o3, o4⟩ := ho
  obtain ⟨z0, z1, z2, z3, z4⟩ := hz
  rw [hC] at hl
  have hy : ys.length = 5 := hy
  match l, hl, ys, hy with
  | [a0, a1, a2, a3, a4, a5], _, [y0, y1, y2, y3, y4], _ =>
    have g0 := hf 0 f0 rfl
    have g1 := hf 1 f1 rfl
    have g2 := hf 2 f2 rfl
    have g3 := hf 3 f3 rfl
    have g4 := hf 4 f4 rfl
    rw [o0, z0] at g0
    rw [o1, z1] at g1
    rw [o2, z2] at g2
    rw [o3, z3] at g3
    rw [o4, z4] at g4
    simp only [List.drop_succ_cons, List.drop_zero, List.take_succ_cons, List.take_zero, List.getElem?_cons_zero, List.getElem?_cons_succ] at g0 g1 g2 g3 g4
    obtain ⟨A, c, xs, rfl, hI, h64, hD⟩ := rats_opened u0 he k0 k1 hone hc g0
    obtain ⟨G, gl, gc, rfl⟩ := slice_opened u4 g4
    obtain ⟨n2, e2, _, w2⟩ := DataW.trod_int u2 g2
    obtain ⟨n3, e3, _, w3⟩ := DataW.trod_int u3 g3
    simp only [List.cons.injEq, and_true] at e2 e3
    subst e2; subst e3
    obtain ⟨us, k, _, hxy, _, hxl, hfd⟩ := DataW.trod_struct u1 g1
    obtain ⟨p0, c0⟩ := Deep.hone_of hone 0 q0 rfl
    obtain ⟨p1, c1⟩ := Deep.hone_of hone 1 q1 rfl
    match us, hxl with
    | [x0, x1], _ =>
      have b0 := hfd 0 q0 rfl
      have b1 := hfd 1 q1 rfl
      simp [p0, p1, c0, c1] at b0 b1
      obtain ⟨d1, r0, _, v0⟩ := DataW.trod_int k0 b0
      obtain ⟨d2, r1, _, v1⟩ := DataW.trod_int k1 b1
      simp at r0 r1
      subst r0 r1
      exact ⟨A, c, xs, d1, d2, n2, n3, G, gl, gc, _, y0, rfl, hI, h64, came_i64 v0, came_i64 v1, came_i64 w2, came_i64 w3, rfl, rfl, hD, y4, n, rfl, g4⟩
theorem came_shortM {ts : List TypeId} {ds : List (DataW H)} {ys : List (DataW H × List MemPlace)} {j : Nat} {t : TypeId} {fs : Array Field} {g : Field} {f : TypeId} {y : DataW H × List MemPlace} {xs : List (Int × Int)} {m : Nat} (hsz : (DataW.weightsEach P ts ds).all (· ≤ reachBytes) = true) (ht : ts[j]? = some t) (hd : ds[j]? = some (.agg (ys.map (·.1))))
    (hu : P.underlying t = some (.struct fs)) (hg : fs[0]? = some g) (hy : ys[0]? = some y) (he : P.underlying g.type = some (.slice f)) (hm : P.bytesOf f = m) (h : RowD y.1 (xs.map (·.1))) : xs.length * m ≤ 140737488351232 := by
  have := came_shortF hsz ht hd hu hg hy he hm h
  rwa [List.length_map] at this
end

end Go.Proofs.Ytfegongaflekiaa
