/- Texts of ours, laid together: Jz, Ud0. -/
import Derived.Test.YtmelblnflalanaaGreatMg15
/- A valuation with a clock set, and whether guards hold of it, as point tells it. -/
namespace Go.Proofs.YtmelblnflalanaaGreat
open Go Go.RowKit
set_option linter.unusedVariables false
set_option linter.unusedSimpArgs false

section
variable {P : Program} {ops : Array Oper} {Q : Exit → Act → World → Prop}
/-- THE RULE of a region that draws, with it: what has come up, all that it waits for has come up. -/
theorem wp_region_tabC {id : Nat} {a0 : Act} {w0 : World} (hm : P.follows .mixedOrders = true) (slots : List Nat) (needs : List (List Nat)) (J : (Nat → Bool) → (Nat → Value) → World → Prop)
    (hB : depsB .any ops needs = true) (hsl : slots.all (fun d => decide (d < a0.tmps.size)) = true) (h0 : J (fun _ => false) (fun d => a0.tmps.getD d undef) w0.drew)
    (hstep : ∀ i, i < ops.size → ∀ (a : Act) L vals w, (∀ d, d ∈ slots → a.eval (.tmp d) = vals d) → J L vals w → L i = false → (∀ j ∈ needs.getD i [], L j = true) → (∀ j k, k ∈ needs.getD j [] → L j = true → L k = true) → ∀ K : Act → World → Prop,
      (∀ d x w', d ∈ slots → J (fun k => k == i || L k) (fun k => if k = d then x else vals k) w' → K (a.put (some d) x) w') → (∀ w', J (fun k => k == i || L k) vals w' → K a w') → wpOp P ops Q i K a w)
    (hend : ∀ L vals w, J L vals w → (∀ i, i < ops.size → L i = true) → Q .normal (overA a0 slots vals) w) :
    (Code.region id ops true).wp P Q a0 w0 := by
  refine wp_region_tab hm slots needs (fun L vals w => J L vals w ∧ ∀ j k, k ∈ needs.getD j [] → L j = true → L k = true) hB hsl ⟨h0, fun _ _ _ h => Bool.noConfusion h⟩ ?_ (fun L vals w h hall => hend L vals w h.1 hall)
  intro i hi a L vals w E hJ hLi hn K hK hK0
  have hC : ∀ j k, k ∈ needs.getD j [] → (j == i || L j) = true → (k == i || L k) = true := fun j k hk h => by
    by_cases e : j = i
    · subst e; rw [hn k hk]; simp
    · have h : L j = true := by simpa [e] using h
      rw [hJ.2 j k hk h]; simp
  exact hstep i hi a L vals w E hJ.1 hLi hn hJ.2 K (fun d x w' hd h => hK d x w' hd ⟨h, hC⟩) (fun w' h => hK0 w' ⟨h, hC⟩)
/-- A guarded operation is left out: its guard was left out. -/
theorem want_undef {o : Oper} {a : Act} {j d : Nat} {b : Bool} (hg : o.guard = some (j, b)) (hj : (ops[j]?).bind (·.dst) = some d) (hv : a.eval (.tmp d) = undef) : Region.wanted o (yielded ops a.tmps) = false := by
  have hv' : a.tmps.getD d undef = undef := hv
  unfold Region.wanted
  rw [hg]
  show (yielded ops a.tmps j == some b) = false
  unfold yielded
  rw [hj]
  show ((match (a.tmps[d]? : Option Value) with | some (.bool b) => some b | _ => none) == some b) = false
  rw [Array.getD_eq_getD_getElem?] at hv'
  cases h : a.tmps[d]? with
  | none => rfl
  | some x =>
    rw [h] at hv'
    have hx : x = undef := hv'
    subst hx
    rfl
end

/-! ### Set -/
/-- What Set answers. -/
def setA (l : List (Int × Int)) (c k : Int) : List (Int × Int) × Int :=
  if rightV l = true then (if c < 1 ∨ (l.length : Int) < c then ([], 12) else if k < 0 ∨ 1048576 < k then ([], 13) else (setV l c.toNat k, 0)) else ([], 7)
theorem rcells_get {l : List (Int × Int)} {q : Nat} {u : Value} (h : (rcells l)[q]? = some u) : q / 2 < l.length ∧ ((q % 2 = 0 ∧ u = .int .i64 (l.getD (q / 2) (0, 0)).1) ∨ (q % 2 = 1 ∧ u = .int .i64 (l.getD (q / 2) (0, 0)).2)) := by
  have hq : q < l.length * 2 := by rw [← rcells_length]; exact (List.getElem?_eq_some_iff.1 h).1
  have hl : q / 2 < l.length := by omega
  obtain ⟨a, b⟩ := rcells_at l (q / 2) hl
  refine ⟨hl, ?_⟩
  rcases (show q % 2 = 0 ∨ q % 2 = 1 by omega) with e | e
  · rw [show q / 2 * 2 = q by omega, h] at a
    exact .inl ⟨e, by simpa using a⟩
  · rw [show q / 2 * 2 + 1 = q by omega, h] at b
    exact .inr ⟨e, by simpa using b⟩
/-- A row of one's own, out of another row. -/
theorem OwnQ.whole {w0 w2 : World} {v : Value} (h : OwnQ w0 [] v w2) (g off c : Nat) (l : List (Int × Int)) (hl : RatsA w2 (some ⟨g, off, none⟩) l) (hmax : l.length ≤ 1000) :
    ∃ v' w', (Builtin.append_ #[22, 22] 22 #[v, .slice (some ⟨g, off, none⟩) l.length c]).run Tryz.prog w2 = .ok v' w' ∧ OwnQ w0 l v' w' := by
  obtain ⟨i0, hi, hz0, hz1, hz2⟩ := info_partsQ infoQ
  have ea : ∀ k, (⟨g, off, none⟩ : Addr).add k = ⟨g, off + k, none⟩ := fun k => by unfold Addr.add; split <;> simp_all
  obtain ⟨v', w', h2, h3, h4, _⟩ := run_append_own (P := Tryz.prog) w2 w0.heap.size 22 22 24 i0 (.agg #[.int .i64 0, .int .i64 0]) 2 16 Tryz.underlying22 hi hz0 hz1 hz2 rfl (by decide) v 0 (rcells []) h.2 ⟨g, off, none⟩ l.length c (rcells l) (rcells_length _) (fun j u hu => by
    rw [ea]
    obtain ⟨hj, hu⟩ := rcells_get hu
    obtain ⟨b', o', e, c0, c1⟩ := hl (j / 2) hj
    simp only [Option.some.injEq, Addr.mk.injEq, and_true] at e
    obtain ⟨rfl, rfl⟩ := e
    rcases hu with ⟨e, rfl⟩ | ⟨e, rfl⟩
    · rw [← c0, show off + j = off + j / 2 * 2 by omega]
    · rw [← c1, show off + j = off + j / 2 * 2 + 1 by omega]) (rcells_one _) (by simp only [maxLen]; omega) (by omega) h.1.size
  refine ⟨v', w', h2, h.1.grown h4 h.1.size (fun k hk => (World.ownsRow.lt h.2 k hk).1), ?_⟩
  rw [Nat.zero_add] at h3
  exact h3
theorem rcells_set (l : List (Int × Int)) : ∀ (j : Nat) (x y : Int), j < l.length → rcells (l.set j (x, y)) = ((rcells l).set (j * 2) (.int .i64 x)).set (j * 2 + 1) (.int .i64 y) := by
  induction l with
  | nil => intro j x y h; simp at h
  | cons a l ih =>
    intro j x y h
    cases j with
    | zero => simp [rcells]
    | succ j =>
      have e := ih j x y (by simpa using h)
      have e1 : ∀ (z : Int × Int) (r : List (Int × Int)), rcells (z :: r) = .int .i64 z.1 :: .int .i64 z.2 :: rcells r := fun z r => rfl
      rw [List.set_cons_succ, e1, e1, e, show (j + 1) * 2 = j * 2 + 1 + 1 by omega, List.set_cons_succ, List.set_cons_succ, List.set_cons_succ, List.set_cons_succ]
/-- One fraction of a row of one's own is written. -/
theorem OwnQ.put {w0 wr : World} {l : List (Int × Int)} {g cap : Nat} (h : OwnQ w0 l (.slice (some ⟨g, 0, none⟩) l.length cap) wr) (j : Nat) (hj : j < l.length) (x y : Int) :
    OwnQ w0 (l.set j (x, y)) (.slice (some ⟨g, 0, none⟩) l.length cap) ((wr.setCell ⟨g, j * 2, none⟩ (.int .i64 x)).setCell ⟨g, j * 2 + 1, none⟩ (.int .i64 y)) := by
  obtain ⟨hb, hl, h⟩ := h
  rcases h with ⟨h, _⟩ | ⟨g', cap', cur, e1, e2, h1, h2, h3, h4, h5⟩
  · cases h
  · simp only [Value.slice.injEq, Option.some.injEq, Addr.mk.injEq, and_true, true_and] at e1
    obtain ⟨rfl, rfl⟩ := e1
    refine ⟨(hb.setCell (p := ⟨g, j * 2, none⟩) e2 _).setCell (p := ⟨g, j * 2 + 1, none⟩) e2 _, by rw [rcells_length, List.length_set], .inr ⟨g, cap, (cur.setIfInBounds (j * 2) (.int .i64 x)).setIfInBounds (j * 2 + 1) (.int .i64 y), by rw [List.length_set], e2, ?_, by rw [List.length_set]; exact h2, h3, by simpa using h4, ?_⟩⟩
    · simp [World.setCell, Array.getElem?_modify, h1]
    · rw [rcells_set l j x y hj, List.length_set, ← h5]
      simp only [Array.toList_setIfInBounds, List.take_set]
theorem OwnQ.at2 {w0 wr : World} {l : List (Int × Int)} {g cap : Nat} (h : OwnQ w0 l (.slice (some ⟨g, 0, none⟩) l.length cap) wr) (j : Nat) (hj : j < l.length) :
    (wr.cell? ⟨g, j * 2, none⟩ = some (.int .i64 (l.getD j (0, 0)).1) ∧ wr.cell? ⟨g, j * 2 + 1, none⟩ = some (.int .i64 (l.getD j (0, 0)).2)) ∧ wr.frozen? ⟨g, j * 2, none⟩ = false ∧ wr.frozen? ⟨g, j * 2 + 1, none⟩ = false := by
  obtain ⟨A, cap', e, hR⟩ := h.rats
  obtain ⟨b, off, rfl, c0, c1⟩ := hR j hj
  simp only [Value.slice.injEq, Option.some.injEq, Addr.mk.injEq, and_true, true_and] at e
  obtain ⟨⟨rfl, rfl⟩, rfl⟩ := e
  rw [Nat.zero_add] at c0 c1
  refine ⟨⟨c0, c1⟩, ?_⟩
  obtain ⟨_, _, h⟩ := h
  rcases h with ⟨h, _⟩ | ⟨g', cap', cur, e1, e2, h1, _⟩
  · cases h
  · simp only [Value.slice.injEq, Option.some.injEq, Addr.mk.injEq, and_true, true_and] at e1
    obtain ⟨rfl, rfl⟩ := e1
    constructor <;> (unfold World.frozen?; rw [h1]; simp)

set_option maxRecDepth 100000 in
set_option maxHeartbeats 1000000 in
theorem clone_some (g off c : Nat) (l : List (Int × Int)) (w : World) (hI : RatsA w (some ⟨g, off, none⟩) l) (h0 : 0 < l.length) (hmax : l.length ≤ 1000) :
    Calls Tryz.prog 24 #[.slice (some ⟨g, off, none⟩) l.length c] w fun e w' => ∃ v, e = .returned v ∧ OwnQ w l v w' := by
  have HI := Lib.hid hI
  have HM := Lib.hid hmax
  have hne : l ≠ [] := fun e => by rw [e] at h0; exact absurd h0 (by decide)
  have hnil := fun (W : World) => Lib.run_eql_slice_nil (P := Tryz.prog) W 22 24 (some ⟨g, off, none⟩) l.length c 0 0 Tryz.underlying22
  have hb1 := below_one w (.cells #[] 24)
  have HO : OwnQ w [] (.slice (some ⟨w.heap.size, 0, none⟩) 0 0) (w.alloc (.cells #[] 24)) := ⟨hb1, rfl, .inr ⟨w.heap.size, 0, #[], rfl, Nat.le_refl _, heap_alloc_new _ _, Nat.le_refl _, Nat.zero_le _, rfl, rfl⟩⟩
  obtain ⟨v', w', hrun, hown⟩ := HO.whole g off c l (hI.below hb1) hmax
  have HW := Lib.hid hown
  clear hI hmax h0 hb1 HO hown
  go_enter Tryz.func24, Tryz.ntmps24
  go_wp2_with (at_builtin; refine wpList_append_run rfl _ _ 22 rfl _ _ v' w' rfl rfl hrun ?_)
  clear hrun
  go_wp2
  go_ret
  exact ⟨_, rfl, HW.out⟩

def SetEnds (w : World) (r : List (Int × Int) × Int) (e : Ending) (w' : World) : Prop := LstEnds w r.1 r.2 e w'
theorem setA_bad {l : List (Int × Int)} {c k : Int} (h : rightV l = false) : setA l c k = ([], 7) := by unfold setA; rw [if_neg (by rw [h]; decide)]
theorem rightV_short {l : List (Int × Int)} (h : rightV l = true) : l.length ≤ 8 := by
  unfold rightV at h
  exact of_decide_eq_true (Bool.and_eq_true_iff.1 h).1

set_option maxRecDepth 100000 in
set_option maxHeartbeats 4000000 in
theorem set_any (A : Option Addr) (cp : Nat) (l : List (Int × Int)) (c k : Int) (w : World) (hI : RatsA w A l) (hmax : l.length ≤ 8796093022000) (h64 : All64v l) (hc : I64 c) :
    Calls Tryz.prog 7 #[.slice A l.length cp, .int .i64 c, .int .i64 k] w (SetEnds w (setA l c k)) := by
  have HR := Lib.hid (right_val A cp l w hI hmax h64)
  have HI := Lib.hid hI
  have HS := Lib.hid (OwnQ.start w)
  by_cases hrv : rightV l = true
  · have h8 := rightV_short hrv
    have HA : Hid (setA l c k = if c < 1 ∨ (l.length : Int) < c then ([], 12) else if k < 0 ∨ 1048576 < k then ([], 13) else (setV l c.toNat k, 0)) := Lib.hid (by unfold setA; rw [if_pos hrv])
    rw [hrv] at HR
    obtain ⟨r, hr⟩ : ∃ r, r = setA l c k := ⟨_, rfl⟩
    rw [← hr] at HA ⊢
    have HC := Lib.hid hc
    clear hI h64 hrv hr hc hmax
    go_enter Tryz.func7, Tryz.ntmps7
    go_wp2_with fail
    refine HR.out.mono ?_
    rintro e w1 ⟨rfl, hb⟩
    have HB := Lib.hid hb
    clear hb HR
    by_cases c1 : c < 1
    · have hd : decide (c < 1) = true := decide_eq_true c1
      have HF := Lib.hid (HA.out.trans (if_pos (.inl c1)))
      clear c1 HA
      go_wp2
      go_ret2
      rw [HF.out]
      exact ⟨_, rfl, HS.out.step HB.out⟩
    · have hd : decide (c < 1) = false := decide_eq_false c1
      by_cases c2 : (l.length : Int) < c
      · have hd2 : decide ((l.length : Int) < c) = true := decide_eq_true c2
        have HF := Lib.hid (HA.out.trans (if_pos (.inr c2)))
        clear c1 c2 HA
        go_wp2
        go_ret2
        rw [HF.out]
        exact ⟨_, rfl, HS.out.step HB.out⟩
      · have hd2 : decide ((l.length : Int) < c) = false := decide_eq_false c2
        have HA := Lib.hid (HA.out.trans (if_neg (by omega)))
        by_cases k1 : k < 0
        · have hd3 : decide (k < 0) = true := decide_eq_true k1
          have HF := Lib.hid (HA.out.trans (if_pos (.inl k1)))
          clear c1 c2 k1 HA
          go_wp2
          go_ret2
          rw [HF.out]
          exact ⟨_, rfl, HS.out.step HB.out⟩
        · have hd3 : decide (k < 0) = false := decide_eq_false k1
          by_cases k2 : 1048576 < k
          · have hd4 : decide (1048576 < k) = true := decide_eq_true k2
            have HF := Lib.hid (HA.out.trans (if_pos (.inr k2)))
            clear c1 c2 k1 k2 HA
            go_wp2
            go_ret2
            rw [HF.out]
            exact ⟨_, rfl, HS.out.step HB.out⟩
          · have hd4 : decide (1048576 < k) = false := decide_eq_false k2
            have HF := Lib.hid (HA.out.trans (if_neg (by omega)))
            obtain ⟨j, rfl⟩ : ∃ j : Nat, c = (j : Int) + 1 := ⟨(c - 1).toNat, by omega⟩
            have hj : j < l.length := by omega
            obtain ⟨g0, off0, rfl, _⟩ := HI.out j hj
            have HCL := Lib.hid (fun W hI => clone_some g0 off0 cp l W hI (by omega) (by omega))
            have HRO := Lib.hid (fun W => rof2_any k W)
            have e1 : IntKind.i64.wrap ((j : Int) + 1 - 1) = (j : Int) := by rw [IntWalk.i64_in _ (by omega)]; omega
            have e2 : IntKind.i64.wrap (j : Int) = (j : Int) := IntWalk.i64_in _ (by omega)
            have e3 : (j : Int) < (l.length : Int) := by omega
            have HJ := Lib.hid hj
            clear c1 c2 k1 k2 HA h8 hj
            go_wp2_with fail
            refine (HCL.out _ (HI.out.below HB.out)).mono ?_
            rintro e w2 ⟨v2, rfl, hown⟩
            obtain ⟨g, cap, rfl⟩ : ∃ g cap, v2 = .slice (some ⟨g, 0, none⟩) l.length cap := by
              obtain ⟨_, _, h⟩ := hown
              rcases h with ⟨_, h⟩ | ⟨g', cap', cur, e1, _⟩
              · have := HJ.out; omega
              · exact ⟨_, _, e1⟩
            have HO := Lib.hid (hown.from HB.out)
            clear hown HCL
            go_wp2_with fail
            refine (HRO.out _).mono ?_
            rintro e w3 ⟨rfl, hb⟩
            replace HO := Lib.hid (HO.out.step hb)
            clear hb HRO
            obtain ⟨⟨m0, m1⟩, f0, f1⟩ := HO.out.at2 j HJ.out
            have HP := Lib.hid (HO.out.put j HJ.out k 1)
            go_wp2
            go_ret2
            rw [HF.out]
            refine ⟨_, rfl, ?_⟩
            have e4 : setV l ((j : Int) + 1).toNat k = l.set j (k, 1) := by unfold setV; rw [show ((j : Int) + 1).toNat - 1 = j by omega]
            rw [e4]
            exact HP.out
  · have hrv : rightV l = false := by simpa using hrv
    rw [setA_bad hrv]
    rw [hrv] at HR
    clear hI h64 hrv hc hmax
    go_enter Tryz.func7, Tryz.ntmps7
    go_wp2_with fail
    refine HR.out.mono ?_
    rintro e w1 ⟨rfl, hb⟩
    have HB := Lib.hid hb
    clear hb HR
    go_wp2
    go_ret2
    exact ⟨_, rfl, HS.out.step HB.out⟩

/-! ### Holds -/
theorem guard_mem {g : Int × Int × Int × Int} (h : (guardP g).2 = 0) : ∀ x ∈ (guardP g).1, rightB x.2.2 = true ∧ 0 ≤ g.1 ∧ 0 ≤ g.2.1 ∧ ((x.1 = g.1 ∧ x.2.1 = g.2.1) ∨ (x.1 = g.2.1 ∧ x.2.1 = g.1)) := by
  unfold guardP at h ⊢
  by_cases h1 : ¬ (0 ≤ g.1 ∧ g.1 ≤ 8 ∧ 0 ≤ g.2.1 ∧ g.2.1 ≤ 8)
  · rw [if_pos h1] at h; exact absurd h (by decide)
  rw [if_neg h1] at h ⊢
  by_cases h2 : ¬ (1 ≤ g.2.2.1 ∧ g.2.2.1 ≤ 5)
  · rw [if_pos h2] at h; exact absurd h (by decide)
  rw [if_neg h2] at h ⊢
  by_cases h3 : ¬ (-1048576 ≤ g.2.2.2 ∧ g.2.2.2 ≤ 1048576)
  · rw [if_pos h3] at h; exact absurd h (by decide)
  rw [if_neg h3] at h ⊢
  have hr : ∀ b : Int, -2097153 ≤ b → b ≤ 2097153 → rightB b = true := fun b q1 q2 => decide_eq_true (.inr (by omega))
  intro x hx
  split at hx
  · obtain rfl := List.mem_singleton.1 hx
    exact ⟨hr _ (by simp only; omega) (by simp only; omega), by omega, by omega, .inl ⟨rfl, rfl⟩⟩
  · split at hx
    · obtain rfl := List.mem_singleton.1 hx
      exact ⟨hr _ (by simp only; omega) (by simp only; omega), by omega, by omega, .inl ⟨rfl, rfl⟩⟩
    · split at hx
      · obtain rfl := List.mem_singleton.1 hx
        exact ⟨hr _ (by simp only; omega) (by simp only; omega), by omega, by omega, .inr ⟨rfl, rfl⟩⟩
      · split at hx
        · obtain rfl := List.mem_singleton.1 hx
          exact ⟨hr _ (by simp only; omega) (by simp only; omega), by omega, by omega, .inr ⟨rfl, rfl⟩⟩
        · simp only [List.mem_cons, List.mem_nil_iff, or_false] at hx
          rcases hx with rfl | rfl
          · exact ⟨hr _ (by simp only; omega) (by simp only; omega), by omega, by omega, .inl ⟨rfl, rfl⟩⟩
          · exact ⟨hr _ (by simp only; omega) (by simp only; omega), by omega, by omega, .inr ⟨rfl, rfl⟩⟩
def HoldEnds (w : World) (r : Bool × Int) (e : Ending) (w' : World) : Prop := e = .returned (.tuple #[.bool r.1, .int .i64 r.2]) ∧ Below w.heap.size w w'
theorem all_take {α : Type} (l : List α) (f : α → Bool) (d : α) (q : Nat) (hq : q < l.length) : (l.take (q + 1)).all f = ((l.take q).all f && f (l.getD q d)) := by
  rw [List.take_add_one, List.all_append, List.getD_eq_getElem?_getD, List.getElem?_eq_getElem hq]
  simp

def tbHd (A : Option Addr) (len c g4 : Nat) (ia ja bd x1 x2 y1 y2 : Int) (rr : Bool) : List (Nat × Nat × Value) :=
  [(0, 48, .bool true), (1, 49, .bool true), (2, 50, .slice A len c), (3, 51, .pointer (some ⟨g4, 0, none⟩)), (4, 52, .int .i64 ia), (5, 53, .agg #[.int .i64 x1, .int .i64 x2]), (6, 54, .slice A len c), (7, 55, .pointer (some ⟨g4, 1, none⟩)), (8, 56, .int .i64 ja), (9, 57, .agg #[.int .i64 y1, .int .i64 y2]), (10, 58, .pointer (some ⟨g4, 2, none⟩)), (11, 59, .int .i32 bd), (12, 60, .bool rr), (13, 61, .bool rr), (14, 6, .bool rr)]
def bsHd (A : Option Addr) (len c g4 : Nat) (ia ja bd x1 x2 y1 y2 : Int) (rr : Bool) : List (Nat × Value) := [(0, .slice A len c), (12, .pointer (some ⟨g4, 0, none⟩))]

set_option maxRecDepth 100000 in
set_option maxHeartbeats 16000000 in
theorem pholds_any (A : Option Addr) (c : Nat) (l : List (Int × Int)) (G : Option Addr) (gc : Nat) (gs : List (Int × Int × Int × Int)) (w : World) (hI : RatsA w A l) (hmax : l.length ≤ 8796093022000) (h64 : All64v l)
    (hG : Gds w G gs) (hgm : gs.length ≤ 4398046510976) (hk : ∀ p, p < gs.length → 0 ≤ (gs.getD p (0, 0, 0, 0)).2.2.1 ∧ (gs.getD p (0, 0, 0, 0)).2.2.1 ≤ 255) :
    Calls Tryz.prog 10 #[.slice A l.length c, .slice G gs.length gc] w (HoldEnds w (holdsA l gs)) := by
  have HR := Lib.hid (right_val A c l w hI hmax h64)
  have HG := Lib.hid hG
  have HK := Lib.hid hk
  have HM := Lib.hid hgm
  have HB0 := Lib.hid (Below.refl w.heap.size w)
  by_cases hrv : rightV l = true
  · have h8 := rightV_short hrv
    have HAT := Lib.hid (fun W (hb : Below w.heap.size w W) (i : Nat) (hi : i ≤ l.length) => at_val A c l i hi (by omega) W (hI.below hb))
    have HKK := Lib.hid (fun W (i j : Nat) (b : Int) (hi : i ≤ l.length) (hj : j ≤ l.length) (hb : rightB b = true) => keepsq_any (clockV l i).1 (clockV l i).2 (clockV l j).1 (clockV l j).2 b (clock64 h64 hi).1 (clock64 h64 hi).2 (clock64 h64 hj).1 (clock64 h64 hj).2 (clock_right hrv hi).1 (clock_right hrv hj).1 (clock_right hrv hi).2 (clock_right hrv hj).2 hb W)
    obtain ⟨R, hR⟩ : ∃ R, R = holdsFrom l gs gs.length 0 true := ⟨_, rfl⟩
    rw [show holdsA l gs = R by rw [hR]; unfold holdsA; rw [if_pos hrv]]
    have HE := Lib.hid hR
    have H8 := Lib.hid h8
    rw [hrv] at HR
    clear hI h64 hrv hR hG hk hgm hmax h8
    go_enter Tryz.func10, Tryz.ntmps10
    go_wp2_with fail
    refine HR.out.mono ?_
    rintro e w1 ⟨rfl, hb⟩
    have HB := Lib.hid hb
    clear hb HR
    go_wp2
    go_loopg [6, 18] gs.length (fun g s6 s18 wr => ∃ (p : Nat) (b : Bool), s18 = .int .i64 p ∧ s6 = .bool b ∧ Hid (Below w.heap.size w wr) ∧ Hid (p ≤ gs.length ∧ g + p = gs.length ∧ R = holdsFrom l gs g p b))
    case atStart => exact ⟨0, true, by simp, rfl, HB, Lib.hid ⟨by omega, by omega, HE.out⟩⟩
    case round =>
      clear HB HE
      obtain ⟨p, b, rfl, rfl, HB, HREL⟩ := hrel
      have q5 : IntKind.i64.wrap ((p : Int) + 1) = ((p + 1 : Nat) : Int) := by rw [IntWalk.i64_in _ (by have := HREL.out.1; have := HM.out; omega)]; omega
      by_cases hp : p < gs.length
      · have hpi : (p : Int) < (gs.length : Int) := by omega
        obtain ⟨bg, off, x, y, z, t, rfl, hx, c1, c2, c3, c4⟩ := gds_at (HG.out.below HB.out) hp
        have hz := HK.out p hp
        rw [hx] at hz
        have hz : 0 ≤ z ∧ z ≤ 255 := hz
        have HST : Hid (R = if (guardP (x, y, z, t)).2 ≠ 0 then (false, (guardP (x, y, z, t)).2) else if (l.length : Int) < x ∨ (l.length : Int) < y then (false, 12) else holdsFrom l gs (gs.length - (p + 1)) (p + 1) (b && (guardP (x, y, z, t)).1.all (lkV l))) := Lib.hid (by
          have h := HREL.out.2.2
          rw [show gk = (gs.length - (p + 1)) + 1 by have := HREL.out.2.1; omega] at h
          unfold holdsFrom at h
          rw [hx] at h
          exact h)
        have HL := Lib.hid (fun W => glim_any x y z t W hz)
        have HLN := Lib.hid (guardP_len (x, y, z, t)).1
        have HMM := Lib.hid (guard_mem (g := (x, y, z, t)))
        obtain ⟨r, hr⟩ : ∃ r, r = guardP (x, y, z, t) := ⟨_, rfl⟩
        rw [← hr] at HL HLN HST HMM
        obtain ⟨rl, re⟩ := r
        clear hx hz hr
        go_upto_region 7 with fail
        have K := Lib.hid ((Blx.start wr).new #[.int .i64 x, .int .i64 y, .int .u8 z, .int .i64 t] 66)
        replace HB := Lib.hid (HB.out.trans (K.out.below.mono HB.out.size))
        generalize wr.alloc (.cells #[.int .i64 x, .int .i64 y, .int .u8 z, .int .i64 t] 66) = w2 at *
        generalize wr.heap.size = g2 at *
        simp only [List.nil_append] at K
        have k1 := (K.out.cell 0 rfl 0 (v := .int .i64 x) rfl).1
        have k2 := (K.out.cell 0 rfl 1 (v := .int .i64 y) rfl).1
        have k3 := (K.out.cell 0 rfl 2 (v := .int .u8 z) rfl).1
        have k4 := (K.out.cell 0 rfl 3 (v := .int .i64 t) rfl).1
        clear c1 c2 c3 c4
        go_wp2_with fail
        refine (HL.out _).mono ?_
        rintro e w3 ⟨hb, B, cap, rfl, hlims⟩
        have HLM := Lib.hid hlims
        replace K := Lib.hid (K.out.step hb)
        replace HB := Lib.hid (HB.out.trans (hb.mono HB.out.size))
        clear hb hlims k1 k2 k3 k4 HL
        have k1 := (K.out.cell 0 rfl 0 (v := .int .i64 x) rfl).1
        have k2 := (K.out.cell 0 rfl 1 (v := .int .i64 y) rfl).1
        by_cases he : re = 0
        · subst he
          have HST := Lib.hid (HST.out.trans (if_neg (by simp)))
          by_cases d1 : (l.length : Int) < x
          · have e1 : decide ((l.length : Int) < x) = true := decide_eq_true d1
            have HF := Lib.hid (HST.out.trans (if_pos (.inl d1)))
            clear d1 HST
            go_wp2
            go_ret2
            rw [HF.out]
            exact ⟨rfl, HB.out⟩
          · have e1 : decide ((l.length : Int) < x) = false := decide_eq_false d1
            by_cases d2 : (l.length : Int) < y
            · have e2 : decide ((l.length : Int) < y) = true := decide_eq_true d2
              have HF := Lib.hid (HST.out.trans (if_pos (.inr d2)))
              clear d1 d2 HST
              go_wp2
              go_ret2
              rw [HF.out]
              exact ⟨rfl, HB.out⟩
            · have e2 : decide ((l.length : Int) < y) = false := decide_eq_false d2
              have HST := Lib.hid (HST.out.trans (if_neg (by omega)))
              have HMX := Lib.hid (fun q (hq : q < rl.length) => show ∃ (i j : Nat) (bd : Int), rl.getD q (0, 0, 0) = ((i : Int), (j : Int), bd) ∧ i ≤ l.length ∧ j ≤ l.length ∧ rightB bd = true from by
                obtain ⟨a1, a2, a3, a4⟩ := HMM.out rfl (rl.getD q (0, 0, 0)) (by rw [List.getD_eq_getElem?_getD, List.getElem?_eq_getElem hq]; exact List.getElem_mem hq)
                refine ⟨(rl.getD q (0, 0, 0)).1.toNat, (rl.getD q (0, 0, 0)).2.1.toNat, (rl.getD q (0, 0, 0)).2.2, ?_, ?_, ?_, a1⟩
                · rw [show ((rl.getD q (0, 0, 0)).1.toNat : Int) = (rl.getD q (0, 0, 0)).1 by omega, show ((rl.getD q (0, 0, 0)).2.1.toNat : Int) = (rl.getD q (0, 0, 0)).2.1 by omega]
                · omega
                · omega)
              clear d1 d2 HMM
              go_wp2
              clear k1 k2
              go_loopg [6, 44] rl.length (fun g s6 s44 wr => ∃ (q : Nat) (b' : Bool), s44 = .int .i64 q ∧ s6 = .bool b' ∧ Hid (Below w.heap.size w wr ∧ Lims wr B rl) ∧ Hid (q ≤ rl.length ∧ g + q = rl.length ∧ b' = (b && (rl.take q).all (lkV l))))
              case atStart => exact ⟨0, b, by simp, rfl, Lib.hid ⟨HB.out, HLM.out⟩, Lib.hid ⟨by omega, by omega, by simp⟩⟩
              case round =>
                clear HB HLM K
                obtain ⟨q, b', rfl, rfl, HBL, HQ⟩ := hrel
                have q6 : IntKind.i64.wrap ((q : Int) + 1) = ((q + 1 : Nat) : Int) := by rw [IntWalk.i64_in _ (by have := HQ.out.1; have := HLN.out; omega)]; omega
                by_cases hq : q < rl.length
                · have hqi : (q : Int) < (rl.length : Int) := by omega
                  obtain ⟨bl, ol, rfl, n1, n2, n3⟩ := HBL.out.2 q hq
                  obtain ⟨ia, ja, bd, hx, hi, hj, hbd⟩ := HMX.out q hq
                  have HTK := Lib.hid (all_take rl (lkV l) (0, 0, 0) q hq)
                  rw [hx] at n1 n2 n3 HTK
                  have HTK : Hid ((rl.take (q + 1)).all (lkV l) = ((rl.take q).all (lkV l) && keepsQ (clockV l ia) (clockV l ja) bd)) := HTK
                  simp only at n1 n2 n3
                  have HAI := Lib.hid (fun W hb => HAT.out W hb ia hi)
                  have HAJ := Lib.hid (fun W hb => HAT.out W hb ja hj)
                  have HKK := Lib.hid (fun W => HKK.out W ia ja bd hi hj hbd)
                  obtain ⟨x', hx'⟩ : ∃ x, x = clockV l ia := ⟨_, rfl⟩
                  obtain ⟨y', hy'⟩ : ∃ y, y = clockV l ja := ⟨_, rfl⟩
                  rw [← hx'] at HAI HKK HTK
                  rw [← hy'] at HAJ HKK HTK
                  obtain ⟨x1, x2⟩ := x'
                  obtain ⟨y1, y2⟩ := y'
                  simp only at HAI HAJ HKK
                  obtain ⟨rr, hrr⟩ : ∃ r, r = keepsQ (x1, x2) (y1, y2) bd := ⟨_, rfl⟩
                  rw [← hrr] at HKK HTK
                  clear hx hx' hy' hrr hi hj hbd
                  go_upto_region 15 with fail
                  have K := Lib.hid ((Blx.start wr).new #[.int .i64 ia, .int .i64 ja, .int .i32 bd] 72)
                  have hb5 := below_one wr (.cells #[.int .i64 ia, .int .i64 ja, .int .i32 bd] 72)
                  have HBR := HBL
                  replace HBL := Lib.hid (And.intro (HBL.out.1.trans (hb5.mono HBL.out.1.size)) (HBL.out.2.below hb5))
                  generalize wr.alloc (.cells #[.int .i64 ia, .int .i64 ja, .int .i32 bd] 72) = w5 at *
                  generalize wr.heap.size = g4 at *
                  simp only [List.nil_append] at K
                  clear hb5 n1 n2 n3
                  cases b' with
                  | false =>
                    have HN : Hid (false = (b && (rl.take (q + 1)).all (lkV l))) := Lib.hid (by
                      rw [HTK.out, ← Bool.and_assoc, ← HQ.out.2.2]; rfl)
                    go_quiet (fail)
                    generalize nq = nq at *
                    replace HBL := Lib.hid (And.intro (belowN HBL.out.1 nq) (HBL.out.2.below (belowN (Below.refl _ _) nq)))
                    generalize w5.drewN nq = wq at *
                    go_wp2
                    go_roundg (gk - 1)
                    case measure => have h := HQ.out.2.1; omega
                    case rel => exact ⟨q + 1, false, by go_num, rfl, HBL, Lib.hid ⟨by omega, by have h := HQ.out.2.1; omega, HN.out⟩⟩
                  | true =>
                    have HN : Hid (rr = (b && (rl.take (q + 1)).all (lkV l))) := Lib.hid (by
                      rw [HTK.out, ← Bool.and_assoc, ← HQ.out.2.2]; rfl)
                    refine wp_region_tabC (by kernel_rfl) [0, 12, 48, 49, 50, 51, 52, 53, 54, 55, 56, 57, 58, 59, 60, 61, 6] [[], [0], [1], [1], [1, 3], [1, 2, 4], [1], [1], [1, 7], [1, 5, 6, 8], [1], [1, 10], [1, 5, 9, 11], [1, 12], [0, 1, 2, 3, 4, 5, 6, 7, 8, 9, 10, 11, 12, 13]]
                      (fun L vals wx => Blx wr [(g4, #[.int .i64 ia, .int .i64 ja, .int .i32 bd], 72)] wx ∧ TabR (tbHd A l.length c g4 ia ja bd x1 x2 y1 y2 rr) (bsHd A l.length c g4 ia ja bd x1 x2 y1 y2 rr) L vals ∧ (L 14 = false → vals 6 = .bool true)) (by kernel_rfl) rfl ?_ ?_ ?_
                    · exact ⟨K.out.drew, TabR.start (by simp [bsHd]), fun _ => by simp⟩
                    · intro i hi a L vals wx E hJ hLi hn hC K hK hK0
                      obtain ⟨hI, hT, hA⟩ := hJ
                      match i, hi with
                      | 0, _ => exact op_moveG rfl rfl rfl rfl ((E 6 (by decide)).trans (hA (by cases h : L 14 with | false => rfl | true => exact absurd (hC 14 0 (by decide) h) (by rw [hLi]; decide)))) (hK 48 _ _ (by decide) ⟨hI, hT.set 0 rfl (by kernel_rfl) (by kernel_rfl), fun h => by simpa using hA (by simpa using h)⟩)
                      | 1, _ => exact op_moveG rfl rfl rfl rfl ((E 48 (by decide)).trans (hT.val 0 rfl (hn 0 (by decide)))) (hK 49 _ _ (by decide) ⟨hI, hT.set 1 rfl (by kernel_rfl) (by kernel_rfl), fun h => by simpa using hA (by simpa using h)⟩)
                      | 2, _ => exact op_moveG rfl (want_on (d := 49) (b := true) rfl rfl ((E 49 (by decide)).trans (hT.val 1 rfl (hn 1 (by decide))))) rfl rfl ((E 0 (by decide)).trans (hT.rd 0 rfl)) (hK 50 _ _ (by decide) ⟨hI, hT.set 2 rfl (by kernel_rfl) (by kernel_rfl), fun h => by simpa using hA (by simpa using h)⟩)
                      | 3, _ =>
                        have e1 := (E 12 (by decide)).trans (hT.rd 1 rfl)
                        refine op_valueG (w' := wx) (v := .pointer (some ⟨g4, 0, none⟩)) rfl (want_on (d := 49) (b := true) rfl rfl ((E 49 (by decide)).trans (hT.val 1 rfl (hn 1 (by decide))))) rfl ?_ (hK 51 _ _ (by decide) ⟨hI, hT.set 3 rfl (by kernel_rfl) (by kernel_rfl), fun h => by simpa using hA (by simpa using h)⟩)
                        clear hK hK0 hT E hA
                        revert e1
                        generalize a.eval = ρ
                        intro e1
                        go_simp
                      | 4, _ =>
                        have e1 := (E 51 (by decide)).trans (hT.val 3 rfl (hn 3 (by decide)))
                        have m0 := (hI.cell 0 rfl 0 (v := .int .i64 ia) rfl).1
                        refine op_valueG (w' := wx) (v := .int .i64 ia) rfl (want_on (d := 49) (b := true) rfl rfl ((E 49 (by decide)).trans (hT.val 1 rfl (hn 1 (by decide))))) rfl ?_ (hK 52 _ _ (by decide) ⟨hI, hT.set 4 rfl (by kernel_rfl) (by kernel_rfl), fun h => by simpa using hA (by simpa using h)⟩)
                        clear hK hK0 hT E hA
                        revert e1
                        generalize a.eval = ρ
                        intro e1
                        go_simp
                      | 5, _ =>
                        have e1 := (E 50 (by decide)).trans (hT.val 2 rfl (hn 2 (by decide)))
                        have e2 := (E 52 (by decide)).trans (hT.val 4 rfl (hn 4 (by decide)))
                        exact op_goG rfl (want_on (d := 49) (b := true) rfl rfl ((E 49 (by decide)).trans (hT.val 1 rfl (hn 1 (by decide))))) rfl rfl Tryz.func29 (by kernel_rfl) rfl (by simp only [List.map_toArray, List.map_cons, List.map_nil, e1, e2]) (HAI.out _ (HBR.out.1.trans (hI.below.mono HBR.out.1.size))) (fun w' hb => hK 53 _ _ (by decide) ⟨hI.step hb, hT.set 5 rfl (by kernel_rfl) (by kernel_rfl), fun h => by simpa using hA (by simpa using h)⟩)
                      | 6, _ => exact op_moveG rfl (want_on (d := 49) (b := true) rfl rfl ((E 49 (by decide)).trans (hT.val 1 rfl (hn 1 (by decide))))) rfl rfl ((E 0 (by decide)).trans (hT.rd 0 rfl)) (hK 54 _ _ (by decide) ⟨hI, hT.set 6 rfl (by kernel_rfl) (by kernel_rfl), fun h => by simpa using hA (by simpa using h)⟩)
                      | 7, _ =>
                        have e1 := (E 12 (by decide)).trans (hT.rd 1 rfl)
                        refine op_valueG (w' := wx) (v := .pointer (some ⟨g4, 1, none⟩)) rfl (want_on (d := 49) (b := true) rfl rfl ((E 49 (by decide)).trans (hT.val 1 rfl (hn 1 (by decide))))) rfl ?_ (hK 55 _ _ (by decide) ⟨hI, hT.set 7 rfl (by kernel_rfl) (by kernel_rfl), fun h => by simpa using hA (by simpa using h)⟩)
                        clear hK hK0 hT E hA
                        revert e1
                        generalize a.eval = ρ
                        intro e1
                        go_simp
                      | 8, _ =>
                        have e1 := (E 55 (by decide)).trans (hT.val 7 rfl (hn 7 (by decide)))
                        have m0 := (hI.cell 0 rfl 1 (v := .int .i64 ja) rfl).1
                        refine op_valueG (w' := wx) (v := .int .i64 ja) rfl (want_on (d := 49) (b := true) rfl rfl ((E 49 (by decide)).trans (hT.val 1 rfl (hn 1 (by decide))))) rfl ?_ (hK 56 _ _ (by decide) ⟨hI, hT.set 8 rfl (by kernel_rfl) (by kernel_rfl), fun h => by simpa using hA (by simpa using h)⟩)
                        clear hK hK0 hT E hA
                        revert e1
                        generalize a.eval = ρ
                        intro e1
                        go_simp
                      | 9, _ =>
                        have e1 := (E 54 (by decide)).trans (hT.val 6 rfl (hn 6 (by decide)))
                        have e2 := (E 56 (by decide)).trans (hT.val 8 rfl (hn 8 (by decide)))
                        exact op_goG rfl (want_on (d := 49) (b := true) rfl rfl ((E 49 (by decide)).trans (hT.val 1 rfl (hn 1 (by decide))))) rfl rfl Tryz.func29 (by kernel_rfl) rfl (by simp only [List.map_toArray, List.map_cons, List.map_nil, e1, e2]) (HAJ.out _ (HBR.out.1.trans (hI.below.mono HBR.out.1.size))) (fun w' hb => hK 57 _ _ (by decide) ⟨hI.step hb, hT.set 9 rfl (by kernel_rfl) (by kernel_rfl), fun h => by simpa using hA (by simpa using h)⟩)
                      | 10, _ =>
                        have e1 := (E 12 (by decide)).trans (hT.rd 1 rfl)
                        refine op_valueG (w' := wx) (v := .pointer (some ⟨g4, 2, none⟩)) rfl (want_on (d := 49) (b := true) rfl rfl ((E 49 (by decide)).trans (hT.val 1 rfl (hn 1 (by decide))))) rfl ?_ (hK 58 _ _ (by decide) ⟨hI, hT.set 10 rfl (by kernel_rfl) (by kernel_rfl), fun h => by simpa using hA (by simpa using h)⟩)
                        clear hK hK0 hT E hA
                        revert e1
                        generalize a.eval = ρ
                        intro e1
                        go_simp
                      | 11, _ =>
                        have e1 := (E 58 (by decide)).trans (hT.val 10 rfl (hn 10 (by decide)))
                        have m0 := (hI.cell 0 rfl 2 (v := .int .i32 bd) rfl).1
                        refine op_valueG (w' := wx) (v := .int .i32 bd) rfl (want_on (d := 49) (b := true) rfl rfl ((E 49 (by decide)).trans (hT.val 1 rfl (hn 1 (by decide))))) rfl ?_ (hK 59 _ _ (by decide) ⟨hI, hT.set 11 rfl (by kernel_rfl) (by kernel_rfl), fun h => by simpa using hA (by simpa using h)⟩)
                        clear hK hK0 hT E hA
                        revert e1
                        generalize a.eval = ρ
                        intro e1
                        go_simp
                      | 12, _ =>
                        have e1 := (E 53 (by decide)).trans (hT.val 5 rfl (hn 5 (by decide)))
                        have e2 := (E 57 (by decide)).trans (hT.val 9 rfl (hn 9 (by decide)))
                        have e3 := (E 59 (by decide)).trans (hT.val 11 rfl (hn 11 (by decide)))
                        exact op_goG rfl (want_on (d := 49) (b := true) rfl rfl ((E 49 (by decide)).trans (hT.val 1 rfl (hn 1 (by decide))))) rfl rfl Tryz.func28 (by kernel_rfl) rfl (by simp only [List.map_toArray, List.map_cons, List.map_nil, e1, e2, e3]) (HKK.out _) (fun w' hb => hK 60 _ _ (by decide) ⟨hI.step hb, hT.set 12 rfl (by kernel_rfl) (by kernel_rfl), fun h => by simpa using hA (by simpa using h)⟩)
                      | 13, _ =>
                        have e1 := (E 49 (by decide)).trans (hT.val 1 rfl (hn 1 (by decide)))
                        have e2 := (E 60 (by decide)).trans (hT.val 12 rfl (hn 12 (by decide)))
                        have c1 : a.eval (.const (Value.bool false)) = Value.bool false := rfl
                        refine op_valueG (w' := wx) (v := .bool rr) rfl rfl rfl ?_ (hK 61 _ _ (by decide) ⟨hI, hT.set 13 rfl (by kernel_rfl) (by kernel_rfl), fun h => by simpa using hA (by simpa using h)⟩)
                        clear hK hK0 hT E hA
                        revert e1 e2 c1
                        generalize a.eval = ρ
                        intro e1 e2 c1
                        go_simp
                      | 14, _ => exact op_assignG rfl rfl rfl rfl ((E 61 (by decide)).trans (hT.val 13 rfl (hn 13 (by decide)))) (hK 6 _ _ (by decide) ⟨hI, hT.set 14 rfl (by kernel_rfl) (by kernel_rfl), fun h => by simp at h⟩)
                      | k + 15, h => exact absurd (show k + 15 < 15 from h) (by omega)
                    · intro L vals wx hJ hall
                      obtain ⟨hI, hT, hA⟩ := hJ
                      have HIN := Lib.hid hI
                      have v0 : vals 0 = .slice A l.length c := hT.rd 0 rfl
                      have v12 : vals 12 = .pointer (some ⟨g4, 0, none⟩) := hT.rd 1 rfl
                      have v6 : vals 6 = .bool rr := hT.val 14 rfl (hall 14 (by decide))
                      simp only [overA, Act.put, List.setIfInBounds_toArray, List.set_cons_zero, List.set_cons_succ]
                      rw [v0, v12, v6]
                      clear hI hT hall v0 v12 v6 hA
                      replace HBL := Lib.hid (And.intro (HBR.out.1.trans (HIN.out.below.mono HBR.out.1.size)) (HBR.out.2.below HIN.out.below))
                      clear HIN K
                      go_wp2
                      go_roundg (gk - 1)
                      case measure => have h := HQ.out.2.1; omega
                      case rel => exact ⟨q + 1, rr, by go_num, rfl, HBL, Lib.hid ⟨by omega, by have h := HQ.out.2.1; omega, HN.out⟩⟩
                · have hqi : ¬ (q : Int) < (rl.length : Int) := by omega
                  have HE2 : Hid (b' = (b && rl.all (lkV l))) := Lib.hid (by
                    have h := HQ.out.2.2
                    rw [List.take_of_length_le (by have := HQ.out.1; omega)] at h
                    exact h)
                  rw [← HE2.out] at HST
                  go_wp2
                  go_roundg (gs.length - (p + 1))
                  case measure => have h := HREL.out.2.1; omega
                  case rel => exact ⟨p + 1, b', by go_num, rfl, Lib.hid HBL.out.1, Lib.hid ⟨by omega, by have h := HREL.out.2.1; omega, HST.out⟩⟩
        · have t1 : (re != 0) = true := by simp [he]
          have HF := Lib.hid (HST.out.trans (if_pos he))
          clear he HST
          go_wp2
          go_ret2
          rw [HF.out]
          exact ⟨rfl, HB.out⟩
      · have hpi : ¬ (p : Int) < (gs.length : Int) := by omega
        have HF : Hid (R = (b, 0)) := Lib.hid (by
          have h := HREL.out.2.2
          rw [show gk = 0 by have := HREL.out.2.1; omega] at h
          exact h)
        go_wp2
        go_ret2
        rw [HF.out]
        exact ⟨rfl, HB.out⟩
  · rw [show holdsA l gs = (false, 7) by unfold holdsA; rw [if_neg hrv]]
    have hrv : rightV l = false := by simpa using hrv
    rw [hrv] at HR
    clear hI h64 hrv hmax hG hk hgm
    go_enter Tryz.func10, Tryz.ntmps10
    go_wp2_with fail
    refine HR.out.mono ?_
    rintro e w1 ⟨rfl, hb⟩
    have HB := Lib.hid hb
    clear hb HR
    go_wp2
    go_ret2
    exact ⟨rfl, HB.out⟩

end Go.Proofs.YtmelblnflalanaaGreat

/- Whether a valuation is right, as the document tells it. -/
namespace Go.Proofs.YtmelblnflalanaaGreat
open Go Go.RowKit
set_option linter.unusedVariables false
set_option linter.unusedSimpArgs false

set_option maxRecDepth 100000 in
set_option maxHeartbeats 2000000 in
theorem dpright_any (A : Option Addr) (c : Nat) (l : List (Int × Int)) (w : World) (hI : RatsA w A l) (hmax : l.length ≤ 8796093022000) (h64 : All64v l) :
    Calls Tryz.prog 21 #[.slice A l.length c] w fun e w' => e = .returned (.bool (rightV l)) ∧ Below w.heap.size w w' := by
  have HI := Lib.hid hI
  have H64 := Lib.hid h64
  have HM := Lib.hid hmax
  have HB0 := Lib.hid (Below.refl w.heap.size w)
  have HR := Lib.hid (fun x1 x2 (h1 : I64 x1) (h2 : I64 x2) W => dright_any x1 x2 h1 h2 W)
  have HF : Hid (∀ q, q < l.length → ¬ (rightR (l.getD q (0, 0)) = true ∧ 0 ≤ (l.getD q (0, 0)).1) → rightV l = false) := Lib.hid fun q hq hn => by
    rw [Bool.eq_false_iff]
    intro h
    have := clock_right h (i := q + 1) (by omega)
    unfold clockV at this
    rw [if_neg (by omega), Nat.add_sub_cancel] at this
    exact hn this
  have HT : Hid ((∀ q, q < l.length → rightR (l.getD q (0, 0)) = true ∧ 0 ≤ (l.getD q (0, 0)).1) → rightV l = decide ((l.length : Int) ≤ 8)) := Lib.hid fun h => by
    unfold rightV
    rw [show (l.all fun r => rightR r && decide (0 ≤ r.1)) = true from (all_getD _ _ (0, 0)).2 fun q hq => by
      obtain ⟨a, b⟩ := h q hq
      rw [a, decide_eq_true b]; rfl, Bool.and_true]
    exact decide_eq_decide.2 ⟨fun h => by omega, fun h => by omega⟩
  obtain ⟨R, hR⟩ : ∃ R, R = rightV l := ⟨_, rfl⟩
  rw [← hR] at HF HT ⊢
  clear hR hI h64 hmax
  go_enter Tryz.func21, Tryz.ntmps21
  go_wp2
  go_loopg [3] l.length (fun g x wr => ∃ i : Nat, x = .int .i64 i ∧ Hid (Below w.heap.size w wr) ∧ Hid (i ≤ l.length ∧ g + i = l.length ∧ ∀ q, q < i → rightR (l.getD q (0, 0)) = true ∧ 0 ≤ (l.getD q (0, 0)).1))
  case atStart => exact ⟨0, by simp, HB0, Lib.hid ⟨by omega, by omega, fun q h => absurd h (by omega)⟩⟩
  case round =>
    clear HB0
    obtain ⟨i, rfl, HB, HG⟩ := hrel
    have q5 : IntKind.i64.wrap ((i : Int) + 1) = ((i + 1 : Nat) : Int) := by rw [IntWalk.i64_in _ (by have := HG.out.1; have := HM.out; omega)]; omega
    by_cases hp : i < l.length
    · have hpi : (i : Int) < (l.length : Int) := by omega
      obtain ⟨ba, oa, rfl, e1, e2⟩ := HI.out.below HB.out i hp
      have x64 := H64.out i hp
      have HFI := Lib.hid (HF.out i hp)
      have HNX := Lib.hid (fun (h : rightR (l.getD i (0, 0)) = true ∧ 0 ≤ (l.getD i (0, 0)).1) q (hq : q < i + 1) => show rightR (l.getD q (0, 0)) = true ∧ 0 ≤ (l.getD q (0, 0)).1 from by
        by_cases e : q = i
        · rw [e]; exact h
        · exact HG.out.2.2 q (by omega))
      have HE := Lib.hid e1
      obtain ⟨x, hx⟩ : ∃ x, x = l.getD i (0, 0) := ⟨_, rfl⟩
      rw [← hx] at e1 e2 x64 HFI HNX HE
      obtain ⟨x1, x2⟩ := x
      have HRX := Lib.hid (fun W => HR.out x1 x2 x64.1 x64.2 W)
      obtain ⟨rx, hrx⟩ : ∃ r, r = rightR (x1, x2) := ⟨_, rfl⟩
      rw [← hrx] at HRX HFI HNX
      clear hx hrx x64
      go_wp2_with fail
      refine (HRX.out _).mono ?_
      rintro e w2 ⟨rfl, hb⟩
      have e3 := (hb.cell (World.block_lt_of_cell? wr _ HE.out)).trans HE.out
      replace HB := Lib.hid (HB.out.trans (hb.mono HB.out.size))
      clear hb e1 e2
      cases rx with
      | false =>
        have HZ := Lib.hid (HFI.out fun h => absurd h.1 (by decide))
        go_wp2
        go_ret
        rw [HZ.out]
        exact ⟨rfl, HB.out⟩
      | true =>
        by_cases h0 : x1 < 0
        · have d1 : decide (x1 < 0) = true := decide_eq_true h0
          have HZ := Lib.hid (HFI.out fun h => absurd h.2 (by show ¬ 0 ≤ x1; omega))
          clear h0
          go_wp2
          go_ret
          rw [HZ.out]
          exact ⟨rfl, HB.out⟩
        · have d1 : decide (x1 < 0) = false := decide_eq_false h0
          have HZ := Lib.hid (HNX.out ⟨rfl, by show 0 ≤ x1; omega⟩)
          clear h0
          go_wp2
          go_roundg (gk - 1)
          case measure => have h := HG.out.2.1; omega
          case rel => exact ⟨i + 1, by go_num, HB, Lib.hid ⟨by omega, by have h := HG.out.2.1; omega, HZ.out⟩⟩
    · have hpi : ¬ (i : Int) < (l.length : Int) := by omega
      have HZ := Lib.hid (HT.out fun q hq => HG.out.2.2 q (by omega))
      go_wp2
      go_ret
      rw [HZ.out]
      exact ⟨rfl, HB.out⟩


end Go.Proofs.YtmelblnflalanaaGreat
