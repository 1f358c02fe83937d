/- Texts of ours, laid together: Ap, Ot, Ph, Jl, Jm, Jn, Jo. -/
import Derived.WalkKit
import Derived.Test.YtfegongaflekiaaMg8
/- append onto nil, the source nil or not; rows of bounds of differences of the call's own. -/
namespace Go.Proofs.Ytfegongaflekiaa
open Go Go.RowKit
set_option linter.unusedVariables false
set_option linter.unusedSimpArgs false

theorem run_append_fresh {P : Program} (w : World) (t ty e : TypeId) (i : TypeInfo) (z : Value) (size bytes : Nat) (ht : P.underlying t = some (.slice e)) (hi : P.info? e = some i) (hz : i.zero = some z)
    (hsize : i.size = size) (hby : i.bytes = bytes) (hzs : z.cells.size = size) (hsz : 0 < size) (A : Option Addr) (m c : Nat) (news : List Value) (hl : news.length = m * size) (h0 : A = none → m = 0)
    (hnews : ∀ ad, A = some ad → ∀ j u, news[j]? = some u → w.cell? (ad.add j) = some u) (h1 : ∀ u ∈ news, u.oneCell' = true) (h63 : m ≤ maxLen) (hbytes : m * bytes ≤ 140737488355328) :
    ∃ v' w', (Builtin.append_ #[t, t] ty #[.slice none 0 0, .slice A m c]).run P w = .ok v' w' ∧ w'.ownsRow w.heap.size e size v' m news ∧ w.grownBy w' none := by
  match A, h0, hnews with
  | none, h0, _ =>
    obtain rfl := h0 rfl
    have hn : news = [] := by simpa using hl
    subst hn
    refine ⟨.slice none 0 0, w, ?_, World.ownsRow_nil w _ _ _, ⟨rfl, rfl, rfl, Nat.le_refl _, fun _ _ _ => rfl⟩⟩
    simp [Builtin.append_, run_underlying ht, sizeOf, typeInfo, hi, Builtin.lenOf, Builtin.firstCells]
  | some ad, _, hnews =>
    obtain ⟨v', w', h2, h3, h4, _⟩ := run_append_own w w.heap.size t ty e i z size bytes ht hi hz hsize hby hzs hsz (.slice none 0 0) 0 [] (World.ownsRow_nil w _ _ _) ad m c news hl (hnews ad rfl) h1 (by omega) (by rw [Nat.zero_add]; exact hbytes) (Nat.le_refl _)
    refine ⟨v', w', h2, by simpa using h3, h4⟩

/-- An append whose run is known. -/
theorem wpList_append_run {P : Program} {w : World} {ops : Array Oper} {rest : List Oper} {o : Oper} {a : Act} {Q : Exit → Act → World → Prop} (hgd : o.guard = none) (s x : Operand) (t : TypeId)
    (ho : o.op = .call { callee := .builtin .append, args := #[s, x], argTypes := #[t, t] }) (v0 x0 v' : Value) (w' : World) (hs : a.eval s = v0) (hx : a.eval x = x0)
    (hr : (Builtin.append_ #[t, t] o.type #[v0, x0]).run P w = .ok v' w') (h : wpList P ops Q rest (a.put o.dst v') w') : wpList P ops Q (o :: rest) a w := by
  refine wpList_plain hgd fun _ hK => ?_
  unfold Oper.wp execOp
  simp only [ho, resolve, invoke, builtin, Sem.run_bind, Sem.run_pure, Result.andThen_ok, List.map_toArray, List.map_cons, List.map_nil, hs, hx, hr]
  exact hK _ _ h

/-- The cells of bounds of differences. -/
def lcells (l : List (Int × Int × Int)) : List Value := l.flatMap fun x => [.int .i64 x.1, .int .i64 x.2.1, .int .i32 x.2.2]
theorem lcells_length (l : List (Int × Int × Int)) : (lcells l).length = l.length * 3 := by
  induction l with
  | nil => rfl
  | cons x l ih => simp only [lcells, List.flatMap_cons, List.length_append, List.length_cons, List.length_nil] at ih ⊢; omega
theorem lcells_at : ∀ (l : List (Int × Int × Int)) (j : Nat), j < l.length → (lcells l)[j * 3]? = some (.int .i64 (l.getD j (0, 0, 0)).1) ∧ (lcells l)[j * 3 + 1]? = some (.int .i64 (l.getD j (0, 0, 0)).2.1) ∧ (lcells l)[j * 3 + 2]? = some (.int .i32 (l.getD j (0, 0, 0)).2.2)
  | [], j, h => by simp at h
  | x :: l, 0, _ => by simp [lcells]
  | x :: l, j + 1, h => by
    have ih := lcells_at l j (by simpa using h)
    have e : ∀ q, (lcells (x :: l))[(j + 1) * 3 + q]? = (lcells l)[j * 3 + q]? := fun q => by
      rw [show lcells (x :: l) = [.int .i64 x.1, .int .i64 x.2.1, .int .i32 x.2.2] ++ lcells l from rfl, List.getElem?_append_right (by simp; omega)]
      congr 1
      simp; omega
    have e0 := e 0
    rw [Nat.add_zero, Nat.add_zero] at e0
    rw [e0, e 1, e 2, List.getD_cons_succ]
    exact ih
theorem lcells_one (l : List (Int × Int × Int)) : ∀ u ∈ lcells l, u.oneCell' = true := by
  intro u hu
  obtain ⟨x, _, h⟩ := List.mem_flatMap.1 hu
  simp only [List.mem_cons, List.mem_nil_iff, or_false] at h
  rcases h with rfl | rfl | rfl <;> rfl
theorem lcells_index (l : List (Int × Int × Int)) (j : Nat) (u : Value) (h : (lcells l)[j]? = some u) : ∃ p, p < l.length ∧ ((j = p * 3 ∧ u = .int .i64 (l.getD p (0, 0, 0)).1) ∨ (j = p * 3 + 1 ∧ u = .int .i64 (l.getD p (0, 0, 0)).2.1) ∨ (j = p * 3 + 2 ∧ u = .int .i32 (l.getD p (0, 0, 0)).2.2)) := by
  have hj : j < l.length * 3 := by
    rw [← lcells_length]
    exact (List.getElem?_eq_some_iff.1 h).1
  have hp : j / 3 < l.length := by omega
  obtain ⟨h0, h1, h2⟩ := lcells_at l (j / 3) hp
  refine ⟨j / 3, hp, ?_⟩
  rcases (show j % 3 = 0 ∨ j % 3 = 1 ∨ j % 3 = 2 by omega) with e | e | e
  · left
    have e' : j = j / 3 * 3 := by omega
    rw [← e'] at h0
    rw [h0] at h
    exact ⟨e', (Option.some.inj h).symm⟩
  · right; left
    have e' : j = j / 3 * 3 + 1 := by omega
    rw [← e'] at h1
    rw [h1] at h
    exact ⟨e', (Option.some.inj h).symm⟩
  · right; right
    have e' : j = j / 3 * 3 + 2 := by omega
    rw [← e'] at h2
    rw [h2] at h
    exact ⟨e', (Option.some.inj h).symm⟩
theorem lims_news {w : World} {A : Option Addr} {l : List (Int × Int × Int)} (h : Lims w A l) : ∀ ad, A = some ad → ∀ j u, (lcells l)[j]? = some u → w.cell? (ad.add j) = some u := by
  intro ad e j u hu
  obtain ⟨p, hp, hc⟩ := lcells_index l j u hu
  obtain ⟨b, off, e', c0, c1, c2⟩ := h p hp
  subst e
  simp only [Option.some.injEq] at e'
  subst e'
  have ea : ∀ k, (⟨b, off, none⟩ : Addr).add k = ⟨b, off + k, none⟩ := fun k => by unfold Addr.add; split <;> simp_all
  rw [ea]
  rcases hc with ⟨rfl, rfl⟩ | ⟨rfl, rfl⟩ | ⟨rfl, rfl⟩
  · exact c0
  · rw [← Nat.add_assoc]; exact c1
  · rw [← Nat.add_assoc]; exact c2
theorem ints_news {w : World} {k : IntKind} {A : Option Addr} {xs : List Int} (h : Ints w k A xs) : ∀ ad, A = some ad → ∀ j u, (vals k xs)[j]? = some u → w.cell? (ad.add j) = some u := by
  intro ad e j u hu
  have hj : j < xs.length := by
    have := (List.getElem?_eq_some_iff.1 hu).1
    simpa [vals] using this
  obtain ⟨b, off, e', c0⟩ := h j hj
  subst e
  simp only [Option.some.injEq] at e'
  subst e'
  have ea : ∀ k, (⟨b, off, none⟩ : Addr).add k = ⟨b, off + k, none⟩ := fun k => by unfold Addr.add; split <;> simp_all
  rw [ea, c0]
  simp [vals, List.getElem?_map, List.getElem?_eq_getElem hj] at hu
  rw [← hu, List.getD_eq_getElem?_getD, List.getElem?_eq_getElem hj]
  rfl
/-- A row of the call's own of bounds of differences. -/
def OwnL (w : World) (base : Nat) (e : TypeId) (v : Value) (l : List (Int × Int × Int)) : Prop := w.ownsRow base e 3 v l.length (lcells l)
theorem OwnL.lims {w : World} {base : Nat} {e : TypeId} {v : Value} {l : List (Int × Int × Int)} (h : OwnL w base e v l) : ∃ A cap, v = .slice A l.length cap ∧ Lims w A l := by
  obtain ⟨hl, h⟩ := h
  rcases h with ⟨rfl, h0⟩ | ⟨g, cap, cur, rfl, _, h1, _, _, _, h2⟩
  · refine ⟨none, 0, by rw [h0], fun j hj => by omega⟩
  · refine ⟨some ⟨g, 0, none⟩, cap, rfl, fun j hj => ?_⟩
    have hc : ∀ q u, (lcells l)[q]? = some u → w.cell? ⟨g, q, none⟩ = some u := fun q u hu => by
      have hq : q < l.length * 3 := by rw [← lcells_length]; exact (List.getElem?_eq_some_iff.1 hu).1
      rw [← h2, List.getElem?_take, if_pos hq] at hu
      simp only [World.cell?, h1]
      simpa using hu
    obtain ⟨a0, a1, a2⟩ := lcells_at l j hj
    exact ⟨g, 0, rfl, by rw [Nat.zero_add]; exact hc _ _ a0, by rw [Nat.zero_add]; exact hc _ _ a1, by rw [Nat.zero_add]; exact hc _ _ a2⟩
theorem OwnL.later {w w' : World} {base : Nat} {e : TypeId} {v : Value} {l : List (Int × Int × Int)} (h : OwnL w base e v l) (hb : Below w.heap.size w w') : OwnL w' base e v l := by
  obtain ⟨hl, h⟩ := h
  refine ⟨hl, ?_⟩
  rcases h with h | ⟨g, cap, cur, e1, e2, h1, h2⟩
  · exact .inl h
  · exact .inr ⟨g, cap, cur, e1, e2, (hb.block g (Array.getElem?_eq_some_iff.1 h1).1).trans h1, h2⟩

end Go.Proofs.Ytfegongaflekiaa

/- The least zone that includes some. -/
namespace Go.Proofs.Ytfegongaflekiaa
open Go Go.RowKit
set_option linter.unusedVariables false
set_option linter.unusedSimpArgs false
attribute [local go_sem] min_ints max_ints

theorem infoPZ : (Try.prog.info? 23).map (fun i => (i.zero, i.size, i.bytes)) = some (some (.pointer none), 1, 8) := by kernel_rfl
/-- What a row of the call's own of addresses holds. -/
theorem own_ptrs {w : World} {base : Nat} {e : TypeId} {v : Value} {vs : List Value} (h : w.ownsRow base e 1 v vs.length vs) : ∃ A cap, v = .slice A vs.length cap ∧ Ptrs w A vs := by
  obtain ⟨hl, h⟩ := h
  rcases h with ⟨rfl, h0⟩ | ⟨g, cap, cur, rfl, _, h1, _, _, _, h2⟩
  · refine ⟨none, 0, by rw [h0], fun j hj => by omega⟩
  · refine ⟨some ⟨g, 0, none⟩, cap, rfl, fun j hj => ⟨g, 0, rfl, ?_⟩⟩
    have e1 : cur.toList[j]? = vs[j]? := by rw [← h2, List.getElem?_take, if_pos (by omega)]
    rw [Nat.zero_add, World.cell?, h1]
    simp only [Option.isSome_none, Bool.false_eq_true, if_false]
    rw [← Array.getElem?_toList, e1, List.getD_eq_getElem?_getD, List.getElem?_eq_getElem hj]
    rfl
/-- A row of one address, and others behind it. -/
theorem append_ptrs (w : World) (v : Value) (A : Option Addr) (c : Nat) (vs : List Value) (base : Nat) (w1 : World) (hw : w1 = w.alloc (.cells #[v] 23)) (hbase : base ≤ w.heap.size) (hP : Ptrs w1 A vs) (h1 : ∀ u ∈ vs, u.oneCell' = true) (hl : vs.length ≤ 17592186044000) (hv1 : v.oneCell' = true) :
    ∃ v' w', (Builtin.append_ #[150, 150] 150 #[.slice (some ⟨w.heap.size, 0, none⟩) 1 1, .slice A vs.length c]).run Try.prog w1 = .ok v' w' ∧ w'.ownsRow base 23 1 v' (v :: vs).length (v :: vs) ∧ Below w.heap.size w w' := by
  obtain ⟨i0, hi, hz0, hz1, hz2⟩ := info_parts infoPZ
  have hblk : w1.heap[w.heap.size]? = some (.cells #[v] 23 (0, 0)) := by rw [hw]; exact heap_alloc_new _ _
  have hsz : w1.heap.size = w.heap.size + 1 := by rw [hw]; simp
  have hB1 : Below w.heap.size w w1 := by rw [hw]; exact (Below.refl _ _).alloc (Nat.le_refl _) _
  have hown : w1.ownsRow base 23 1 (.slice (some ⟨w.heap.size, 0, none⟩) 1 1) 1 [v] := ⟨rfl, .inr ⟨w.heap.size, 1, #[v], rfl, hbase, hblk, Nat.le_refl _, by decide, rfl, rfl⟩⟩
  cases A with
  | some a =>
    have hnews : ∀ j u, vs[j]? = some u → w1.cell? (a.add j) = some u := by
      intro j u hu
      have hj : j < vs.length := (List.getElem?_eq_some_iff.1 hu).1
      obtain ⟨b, off, e, hc⟩ := hP j hj
      simp only [Option.some.injEq] at e
      subst e
      have ea : (⟨b, off, none⟩ : Addr).add j = ⟨b, off + j, none⟩ := by unfold Addr.add; split <;> simp_all
      rw [ea, hc, List.getD_eq_getElem?_getD, hu]; rfl
    obtain ⟨v', w', hr, ho, hg, _⟩ := run_append_own (P := Try.prog) w1 base 150 150 23 i0 (.pointer none) 1 8 Try.underlying150 hi hz0 hz1 hz2 rfl (by decide) _ 1 [v] hown a vs.length c vs (by simp) hnews h1 (by simp only [maxLen]; omega) (by omega) (by omega)
    refine ⟨v', w', hr, ?_, hB1.grown hg (by omega) (fun k hk => by simp [Value.ownBlock] at hk; omega)⟩
    rw [List.length_cons, Nat.add_comm]; exact ho
  | none =>
    have h0 : vs = [] := by
      cases vs with
      | nil => rfl
      | cons x xs => obtain ⟨b, off, e, _⟩ := hP 0 (by simp); cases e
    subst h0
    have hst := run_storeCells_at Try.prog w.heap.size (1 * i0.size) 23 [] 0 #[v] w1 hblk (by rw [hz1]; simp) (by simp)
    refine ⟨.slice (some ⟨w.heap.size, 0, none⟩) 1 1, w1.setRow w.heap.size #[v], ?_, ?_, ?_⟩
    · have hf : (Builtin.firstCells 1 0 (.slice none 0 c)).run Try.prog w1 = .ok #[] w1 := by simp [Builtin.firstCells]
      simp [hz1] at hst
      simp [Builtin.append_, run_underlying Try.underlying150, sizeOf, typeInfo, hi, Builtin.lenOf, hf, Addr.add_lit, hz1, hst]
    · refine ⟨rfl, .inr ⟨w.heap.size, 1, #[v], rfl, hbase, setRow_heap w1 _ #[v] _ _ _ hblk, Nat.le_refl _, by decide, rfl, rfl⟩⟩
    · exact hB1.trans ⟨rfl, rfl, rfl, by simp, fun k hk => setRow_other w1 _ k _ (by omega)⟩

/-- The widest of both cells, in the first n + 1 rows. -/
def maxF (M V : Mat) : Mat := fun a c => max (M a c) (V a c)
def maxW (n : Nat) (M V : Mat) : Mat := mix (maxF M V) M n (n + 1) 0
theorem maxW_in {n : Nat} {M V : Mat} {a c : Nat} (ha : a ≤ n) (hc : c ≤ n) : maxW n M V a c = max (M a c) (V a c) := by
  unfold maxW mix
  rw [if_pos (.inl ⟨by omega, hc⟩)]; rfl
/-- The hull of the first p zones; none: so far all are empty. -/
def hullUp (n : Nat) (ms : List Mat) : Nat → Option Mat
  | 0 => none
  | p + 1 => if (ms.getD p fun _ _ => 0) 0 0 < 1 then hullUp n ms p else match hullUp n ms p with
    | none => some (openW (some (n, ms.getD p fun _ _ => 0)))
    | some H => some (maxW n H (openW (some (n, ms.getD p fun _ _ => 0))))
/-- What Hull answers. -/
def hullA (n : Nat) (m : Mat) (ms : List Mat) : Option Mat × Int := match hullUp n (m :: ms) (m :: ms).length with
  | none => ofP n (flat n (openW (some (n, m))))
  | some H => ofP n (flat n H)
theorem hullUp_skip {n p : Nat} {ms : List Mat} {m : Mat} (hm : (ms.getD p fun _ _ => 0) = m) (h : m 0 0 < 1) : hullUp n ms (p + 1) = hullUp n ms p := by rw [hullUp, hm, if_pos h]
theorem hullUp_first {n p : Nat} {ms : List Mat} {m : Mat} (hm : (ms.getD p fun _ _ => 0) = m) (h : ¬ m 0 0 < 1) (hn : hullUp n ms p = none) : hullUp n ms (p + 1) = some (openW (some (n, m))) := by rw [hullUp, hm, if_neg h, hn]
theorem hullUp_more {n p : Nat} {ms : List Mat} {m H : Mat} (hm : (ms.getD p fun _ _ => 0) = m) (h : ¬ m 0 0 < 1) (hn : hullUp n ms p = some H) : hullUp n ms (p + 1) = some (maxW n H (openW (some (n, m)))) := by rw [hullUp, hm, if_neg h, hn]
theorem rng_hull {n : Nat} {ms : List Mat} (hr : ∀ j, j < ms.length → RightM n (ms.getD j fun _ _ => 0)) : ∀ p, p ≤ ms.length → ∀ H, hullUp n ms p = some H → Rng n H
  | 0, _, H, h => by cases h
  | p + 1, hp, H, h => by
    have h2 := rng_open (hr p (by omega))
    unfold hullUp at h
    split at h
    · exact rng_hull hr p (by omega) H h
    · split at h
      · simp only [Option.some.injEq] at h; subst h; exact h2
      · rename_i H' he
        simp only [Option.some.injEq] at h
        subst h
        intro i j hi hj
        have a1 := rng_hull hr p (by omega) H' he i j hi hj
        have a2 := h2 i j hi hj
        rw [maxW_in (by omega) (by omega)]
        omega
/-- The block that the hull's cells lie in, or nil. -/
def HullR (w1 : World) (n : Nat) (o : Option Mat) (v : Value) (wr : World) : Prop := Below w1.heap.size w1 wr ∧ (match o with
  | none => v = .pointer none
  | some H => ∃ g, v = .pointer (some ⟨g, 0, none⟩) ∧ w1.heap.size ≤ g ∧ MatAt wr g 138 .i32 n H)
theorem HullR.step {w1 wr w' : World} {n : Nat} {o : Option Mat} {v : Value} (h : HullR w1 n o v wr) (hb : Below wr.heap.size wr w') : HullR w1 n o v w' := by
  refine ⟨h.1.trans (hb.mono h.1.size), ?_⟩
  cases o with
  | none => exact h.2
  | some H => obtain ⟨g, e, hg, hm⟩ := h.2; exact ⟨g, e, hg, hm.later hb⟩

end Go.Proofs.Ytfegongaflekiaa

/- The hull of zones: plain. -/
namespace Go.Proofs.Ytfegongaflekiaa
set_option linter.unusedVariables false
set_option linter.unusedSimpArgs false

/-- The zone is not empty, and its cells are the strictest. -/
structure ClosedZ (n : Nat) (m : Mat) : Prop where
  full : FullZ n m
  tri : Tri n (widW m) (n + 1)
theorem closed_of {n : Nat} {M m' : Mat} (h0 : ∀ j, j ≤ n → M 0 j ≤ 1) (ha : allR n m') (hc : Closed n M m') : ClosedZ n (narM n m') := by
  have hcell : ∀ i j, i ≤ n → j ≤ n → widW (narM n m') i j = m' i j := fun i j hi hj => by
    unfold widW narM
    rw [if_pos ⟨hi, hj⟩]
    exact wid_nar (ha i hi j hj)
  refine ⟨full_of h0 ha hc, fun l hl i j hi hj => ?_⟩
  rw [hcell i j hi hj, hcell i l hi (by omega), hcell l j (by omega) hj]
  exact hc.tri l hl i j hi hj
/-- A zone that Of made is empty, or closed. -/
theorem zone_closed {n : Int} {cells : List Int} {k : Nat} {m : Mat} (e : zOf n cells = some (k, m)) : m = (fun _ _ => 0) ∨ ClosedZ k m := by
  unfold zOf at e
  cases hz : (ofP n cells).1 with
  | none => rw [hz] at e; cases e
  | some m0 =>
    rw [hz] at e
    simp only [Option.map_some, Option.some.injEq, Prod.mk.injEq] at e
    obtain ⟨e1, e2⟩ := e
    subst e2
    unfold ofP at hz
    split at hz
    · rename_i hn
      split at hz
      · rename_i hl
        split at hz
        · rename_i hr
          obtain ⟨q, rfl⟩ : ∃ q : Nat, n = q := ⟨n.toNat, by omega⟩
          rw [Int.toNat_natCast] at hz e1
          subst e1
          have hl' : cells.length = (q + 1) * (q + 1) := by exact_mod_cast hl
          have hr' : ∀ p, p < (q + 1) * (q + 1) → rightB (cells.getD p 0) = true := fun p hp => (all_getD cells rightB 0).1 hr p (by omega)
          rw [hl'] at hz
          rcases zoneP_is (by omega) (keepUp_fit q cells _ hr') hz with ⟨h, _⟩ | ⟨m', hm, ha, hzz, hc⟩
          · exact .inl h
          · right; rw [hzz]; exact closed_of (keepUp_top4 hr') ha hc
        · cases hz
      · cases hz
    · cases hz
theorem wid_max {x y : Int} (hx : x ≤ 2147483647) (hy : y ≤ 2147483647) : wid (max x y) = max (wid x) (wid y) := by
  unfold wid none62
  rw [Int.max_def, Int.max_def]
  split <;> split <;> split <;> (try split) <;> omega
theorem right_fb {x : Int} (h : rightB x = true) : FB (wid x) := by
  unfold wid
  split
  · exact .inl rfl
  · rename_i e
    have := rightB_bd h e
    exact .inr (by omega)
theorem right_max {x y : Int} (hx : rightB x = true) (hy : rightB y = true) : rightB (max x y) = true := by
  rw [Int.max_def]; split <;> assumption
theorem ClosedZ.congr {n : Nat} {a b : Mat} (h : ClosedZ n a) (hab : Agree n a b) : ClosedZ n b := by
  refine ⟨⟨fun i j hi hj => ?_, fun i hi => ?_, fun j hj => ?_⟩, fun l hl i j hi hj => ?_⟩
  · rw [← hab i j hi hj]; exact h.full.right i j hi hj
  · rw [← hab i i hi hi]; exact h.full.one i hi
  · rw [← hab 0 j (by omega) hj]; exact h.full.top j hj
  · have := h.tri l hl i j hi hj
    unfold widW at this ⊢
    rw [hab i j hi hj, hab i l hi (by omega), hab l j (by omega) hj] at this
    exact this
theorem ClosedZ.join {n : Nat} {a b : Mat} (h : ClosedZ n a) (h' : ClosedZ n b) : ClosedZ n (maxF a b) := by
  refine ⟨⟨fun i j hi hj => right_max (h.full.right i j hi hj) (h'.full.right i j hi hj), fun i hi => ?_, fun j hj => ?_⟩, fun l hl i j hi hj => ?_⟩
  · show max (a i i) (b i i) = 1
    rw [h.full.one i hi, h'.full.one i hi]; rfl
  · show max (a 0 j) (b 0 j) ≤ 1
    have := h.full.top j hj
    have := h'.full.top j hj
    omega
  · have hcell : ∀ p q, p ≤ n → q ≤ n → widW (maxF a b) p q = max (widW a p q) (widW b p q) := fun p q hp hq =>
      wid_max (right_hi (h.full.right p q hp hq)).2 (right_hi (h'.full.right p q hp hq)).2
    have hl' : l ≤ n := by omega
    rw [hcell i j hi hj, hcell i l hi hl', hcell l j hl' hj]
    have t1 := h.tri l hl i j hi hj
    have t2 := h'.tri l hl i j hi hj
    have f1 : FB (widW a i l) := right_fb (h.full.right i l hi hl')
    have f2 : FB (widW a l j) := right_fb (h.full.right l j hl' hj)
    have f3 : FB (widW b i l) := right_fb (h'.full.right i l hi hl')
    have f4 : FB (widW b l j) := right_fb (h'.full.right l j hl' hj)
    have g1 : FB (Max.max (widW a i l) (widW b i l)) := by rw [Int.max_def]; split <;> assumption
    have g2 : FB (Max.max (widW a l j) (widW b l j)) := by rw [Int.max_def]; split <;> assumption
    have m1 := wsum_le f1 g1 f2 g2 (by omega) (by omega)
    have m2 := wsum_le f3 g1 f4 g2 (by omega) (by omega)
    omega
theorem ofP_closed {n : Nat} {H : Mat} (hn : n ≤ 8) (h : ClosedZ n H) : ofP n (flat n H) = (some (narM n (widW H)), 0) ∧ ∀ i j, i ≤ n → j ≤ n → narM n (widW H) i j = H i j := by
  have hall : allR n (widW H) := fun i hi j hj => by
    have := h.full.right i j hi hj
    unfold rightB at this
    have := of_decide_eq_true this
    unfold widW wid inR none62
    split <;> omega
  constructor
  · rw [ofP_wid hn h.full.ok]
    unfold zoneP
    rw [closed_id h.tri (fun i hi => by unfold widW; rw [h.full.one i hi]; decide)]
    simp only
    rw [if_pos hall]
  · intro i j hi hj
    have := right_hi (h.full.right i j hi hj)
    unfold narM nar widW wid none62
    rw [if_pos ⟨hi, hj⟩]
    split <;> split <;> omega
/-- What is known of the hull of the first p. -/
def HullInv (n : Nat) (ms : List Mat) (p : Nat) : Option Mat → Prop
  | none => ∀ q, q < p → (ms.getD q fun _ _ => 0) 0 0 < 1
  | some H => ClosedZ n H ∧ (∀ q, q < p → (ms.getD q fun _ _ => 0) 0 0 < 1 ∨ ∀ i, i ≤ n → ∀ j, j ≤ n → (ms.getD q fun _ _ => 0) i j ≤ H i j) ∧
    ∀ o : Mat, (∀ q, q < p → (ms.getD q fun _ _ => 0) 0 0 < 1 ∨ ∀ i, i ≤ n → ∀ j, j ≤ n → (ms.getD q fun _ _ => 0) i j ≤ o i j) → ∀ i, i ≤ n → ∀ j, j ≤ n → H i j ≤ o i j
theorem hull_inv {n : Nat} {ms : List Mat} (hk : ∀ j, j < ms.length → (ms.getD j fun _ _ => 0) = (fun _ _ => 0) ∨ ClosedZ n (ms.getD j fun _ _ => 0)) : ∀ p, p ≤ ms.length → HullInv n ms p (hullUp n ms p)
  | 0, _ => fun q hq => by omega
  | p + 1, hp => by
    have ih := hull_inv hk p (by omega)
    have hkp := hk p (by omega)
    obtain ⟨m, hm⟩ : ∃ m, (ms.getD p fun _ _ => 0) = m := ⟨_, rfl⟩
    rw [hm] at hkp
    by_cases he : m 0 0 < 1
    · rw [hullUp_skip hm he]
      cases hu : hullUp n ms p with
      | none =>
        rw [hu] at ih
        intro q hq
        by_cases e : q = p
        · subst e; rw [hm]; exact he
        · exact ih q (by omega)
      | some H =>
        rw [hu] at ih
        obtain ⟨h1, h2, h3⟩ := ih
        refine ⟨h1, fun q hq => ?_, fun o ho => h3 o fun q hq => ho q (by omega)⟩
        by_cases e : q = p
        · subst e; rw [hm]; exact .inl he
        · exact h2 q (by omega)
    · have hcl : ClosedZ n m := by
        rcases hkp with rfl | h
        · exact absurd (by decide) he
        · exact h
      have hag := open_agree n m
      cases hu : hullUp n ms p with
      | none =>
        rw [hullUp_first hm he hu]
        rw [hu] at ih
        refine ⟨hcl.congr fun i j hi hj => (hag i j hi hj).symm, fun q hq => ?_, fun o ho i hi j hj => ?_⟩
        · by_cases e : q = p
          · subst e; rw [hm]; exact .inr fun i hi j hj => by rw [hag i j hi hj]; exact Int.le_refl _
          · exact .inl (ih q (by omega))
        · rw [hag i j hi hj]
          rcases ho p (by omega) with h | h
          · rw [hm] at h; exact absurd h he
          · rw [hm] at h; exact h i hi j hj
      | some H =>
        rw [hullUp_more hm he hu]
        rw [hu] at ih
        obtain ⟨h1, h2, h3⟩ := ih
        have hmx : Agree n (maxF H m) (maxW n H (openW (some (n, m)))) := fun i j hi hj => by
          rw [maxW_in hi hj, hag i j hi hj]; rfl
        refine ⟨(h1.join hcl).congr hmx, fun q hq => ?_, fun o ho i hi j hj => ?_⟩
        · by_cases e : q = p
          · subst e; rw [hm]
            refine .inr fun i hi j hj => ?_
            rw [← hmx i j hi hj]
            show m i j ≤ max (H i j) (m i j)
            omega
          · rcases h2 q (by omega) with h | h
            · exact .inl h
            · refine .inr fun i hi j hj => ?_
              have := h i hi j hj
              rw [← hmx i j hi hj]
              show _ ≤ max (H i j) (m i j)
              omega
        · rw [← hmx i j hi hj]
          show max (H i j) (m i j) ≤ _
          have a1 := h3 o (fun q hq => ho q (by omega)) i hi j hj
          rcases ho p (by omega) with h | h
          · rw [hm] at h; exact absurd h he
          · rw [hm] at h
            have a2 := h i hi j hj
            omega
/-- The hull includes all, and each zone that includes all includes it. -/
theorem hull_law {n : Nat} {m : Mat} {ms : List Mat} (hn : n ≤ 8) (hk : ∀ j, j < (m :: ms).length → ((m :: ms).getD j fun _ _ => 0) = (fun _ _ => 0) ∨ ClosedZ n ((m :: ms).getD j fun _ _ => 0)) :
    ∃ h, hullA n m ms = (some h, 0) ∧ (∀ q, q < (m :: ms).length → inclM n h ((m :: ms).getD q fun _ _ => 0) = true) ∧ ∀ o, (∀ q, q < (m :: ms).length → inclM n o ((m :: ms).getD q fun _ _ => 0) = true) → inclM n o h = true := by
  have hi := hull_inv hk (m :: ms).length (Nat.le_refl _)
  unfold hullA
  cases hu : hullUp n (m :: ms) (m :: ms).length with
  | none =>
    rw [hu] at hi
    have h0 := hi 0 (by simp)
    have hm : m = (fun _ _ => 0) := by
      rcases hk 0 (by simp) with h | h
      · exact h
      · have := h.full.one 0 (by omega); rw [this] at h0; omega
    subst hm
    refine ⟨fun _ _ => 0, ofP_zero n hn, fun q hq => decide_eq_true (.inl (hi q hq)), fun o _ => decide_eq_true (.inl (by decide))⟩
  | some H =>
    rw [hu] at hi
    obtain ⟨h1, h2, h3⟩ := hi
    obtain ⟨e1, e2⟩ := ofP_closed hn h1
    refine ⟨_, e1, fun q hq => decide_eq_true ?_, fun o ho => decide_eq_true (.inr fun i hi j hj => ?_)⟩
    · rcases h2 q hq with h | h
      · exact .inl h
      · exact .inr fun i hi j hj => by rw [e2 i j hi hj]; exact h i hi j hj
    · rw [e2 i j hi hj]
      exact h3 o (fun q hq => of_decide_eq_true (ho q hq)) i hi j hj

end Go.Proofs.Ytfegongaflekiaa

/- The least valuation of a zone that is not empty is in it, on its grid; none of it on this grid is anywhere smaller: plain. -/
namespace Go.Proofs.Ytfegongaflekiaa
set_option linter.unusedVariables false
set_option linter.unusedSimpArgs false

theorem zone_solid {n : Nat} {m : Mat} (h : ClosedZ n m) : Solid n (widW m) := by
  refine ⟨h.tri, fun i j hi hj => (h.full.ok.fit.bd i j hi hj).mono (by omega), fun i hi => ?_, h.full.ok.wtop⟩
  unfold widW wid
  rw [h.full.one i hi, if_neg (by decide)]
/-- The places of the least valuation on the grid. -/
def placeU (n : Nat) (m : Mat) (a : Nat) : Int := insR n ((n : Int) + 1) (widW m) (n + 2) a
theorem solU_zero {n : Nat} {m : Mat} (h : Solid n m) : solU n m 0 = 0 := by
  have e : ∀ N, N ≤ n + 1 → cnt (fun k => tightR m k 0) N = 0 := fun N => by
    induction N with
    | zero => intro _; rfl
    | succ N ih =>
      intro hN
      have ht : tightR m N 0 = false := by
        unfold tightR
        refine decide_eq_false ?_
        rintro ⟨a, b, c⟩
        obtain ⟨_, t⟩ := h.step (Nat.zero_le n) (show N ≤ n by omega) (Nat.zero_le n) (h.fin (by omega)) a
        have o := h.one 0 (Nat.zero_le n)
        omega
      unfold cnt
      rw [ih (by omega), ht]; rfl
  unfold solU
  rw [e (n + 1) (Nat.le_refl _), h.one 0 (Nat.zero_le n)]
  simp
theorem place_bd {n : Nat} {m : Mat} (hn : n ≤ 8) (h : ClosedZ n m) : Sol n ((n : Int) + 1) (widW m) (placeU n m) ∧ placeU n m 0 = 0 ∧ ∀ a, a ≤ n → 0 ≤ placeU n m a ∧ placeU n m a ≤ 137438953472 := by
  have hs := zone_solid h
  obtain ⟨h3, h4⟩ := inside_sol (solid_sol hs)
  have h0 : placeU n m 0 = 0 := by
    have a := h4 (n + 2) 0 (Nat.zero_le n)
    rw [solU_zero hs] at a
    have b := h3.1 0 (Nat.zero_le n)
    unfold placeU; omega
  refine ⟨h3, h0, fun a ha => ⟨h3.1 a ha, Int.le_trans (h4 (n + 2) a ha) ?_⟩⟩
  have := solU_le (n := n) (m := widW m) (X := 536870912) (fun j hj => by
    have h4 := h.full.ok.fit.bd 0 j (Nat.zero_le n) hj
    have h5 := hs.top j hj
    unfold Bd at h4
    unfold none62 at h4
    omega) a ha
  have h5 : ((n : Int) + 1) * 536870912 ≤ 9 * 536870912 := Int.mul_le_mul (by omega) (by omega) (by omega) (by omega)
  omega
theorem new_ok {x d : Int} (hx0 : 0 ≤ x) (hx : x ≤ 9223372036854775807) (hd0 : 0 < d) (hd : d ≤ 9223372036854775807) : newP x d = fracP x d ∧ (fracP x d).2 = 0 := by
  refine ⟨by unfold newP; rw [if_neg (by omega)], ?_⟩
  unfold fracP
  have e1 : (decide (x < 0) != decide (d < 0)) = false := by rw [decide_eq_false (by omega), decide_eq_false (by omega)]; rfl
  have b1 := Nat.div_le_self x.natAbs (Nat.gcd x.natAbs d.natAbs)
  have b2 := Nat.div_le_self d.natAbs (Nat.gcd x.natAbs d.natAbs)
  rw [if_pos]
  rw [e1]
  refine ⟨decide_eq_true ?_, by omega⟩
  show _ ≤ ((x.natAbs / Nat.gcd x.natAbs d.natAbs : Nat) : Int) ∧ ((x.natAbs / Nat.gcd x.natAbs d.natAbs : Nat) : Int) ≤ _
  generalize x.natAbs / Nat.gcd x.natAbs d.natAbs = q at *
  omega
/-- A place on the grid as a fraction. -/
theorem grid_val {x : Int} {n : Nat} (hx0 : 0 ≤ x) (hx : x ≤ 9223372036854775807) (hn : n ≤ 8) : rightR (newP x ((n : Int) + 1)).1 = true ∧ 0 ≤ (newP x ((n : Int) + 1)).1.1 ∧ qv (newP x ((n : Int) + 1)).1 = (x : Rat) / (((n : Int) + 1 : Int) : Rat) ∧ ∃ k, (newP x ((n : Int) + 1)).1.2 * k = (n : Int) + 1 := by
  obtain ⟨e, h⟩ := new_ok hx0 hx (show 0 < (n : Int) + 1 by omega) (by omega)
  rw [e]
  have hr := (frac_right (by omega) h).1
  have hv := frac_value (by omega) h
  have hp := rq_pos hr
  refine ⟨hr, ?_, qv_grid hp (by omega) hv.symm, ?_⟩
  · apply Classical.byContradiction
    intro hneg
    have h1 : (fracP x ((n : Int) + 1)).1.1 * ((n : Int) + 1) < 0 := Int.mul_neg_of_neg_of_pos (by omega) (by omega)
    have h2 : 0 ≤ x * (fracP x ((n : Int) + 1)).1.2 := Int.mul_nonneg hx0 (by omega)
    omega
  · have hg : Nat.gcd (fracP x ((n : Int) + 1)).1.2.natAbs (fracP x ((n : Int) + 1)).1.1.natAbs = 1 := by
      rw [Nat.gcd_comm]; exact (of_decide_eq_true hr).2
    have hd : (fracP x ((n : Int) + 1)).1.2.natAbs ∣ (fracP x ((n : Int) + 1)).1.1.natAbs * (n + 1) := by
      refine ⟨x.natAbs, ?_⟩
      have e1 : (((n : Int) + 1).natAbs) = n + 1 := by omega
      have e2 := congrArg Int.natAbs hv
      rw [Int.natAbs_mul, Int.natAbs_mul, e1] at e2
      rw [e2, Nat.mul_comm]
    obtain ⟨k, hk⟩ := Nat.Coprime.dvd_of_dvd_mul_left hg hd
    refine ⟨(k : Int), ?_⟩
    have e3 : ((fracP x ((n : Int) + 1)).1.2.natAbs : Int) = (fracP x ((n : Int) + 1)).1.2 := by omega
    rw [← e3]
    exact_mod_cast hk.symm
/-- A bound on a grid. -/
theorem kq_sat {g b x : Int} (hg : 0 < g) (hb : b ≤ 2147483647) : kq b ((x : Rat) / (g : Rat)) ↔ sat g (wid b) x := by
  have hG := cast_pos hg
  have e0 : (x : Rat) / (g : Rat) * (g : Rat) = (x : Rat) := Rat.div_mul_cancel (by grind)
  obtain ⟨c, hc⟩ : ∃ c, c = b / 2 := ⟨_, rfl⟩
  have l1 : (x : Rat) / (g : Rat) < (c : Rat) ↔ x < c * g := by
    rw [lt_iff_mul hG, e0, ← Rat.intCast_mul]; exact_mod_cast Iff.rfl
  have l2 : (x : Rat) / (g : Rat) = (c : Rat) ↔ x = c * g := by
    constructor
    · intro h; rw [h, ← Rat.intCast_mul] at e0; exact_mod_cast e0.symm
    · intro h; refine eq_of_mul hG (e0.trans ?_); rw [← Rat.intCast_mul, h]
  unfold kq sat
  rw [← hc, l1, l2]
  unfold wid
  by_cases e : b = 2147483647
  · rw [if_pos e]; simp [e]
  · rw [if_neg e, ← hc]
    have : b ≠ none62 := by unfold none62; omega
    have : b % 2 = 0 ∨ b % 2 = 1 := by omega
    omega
/-- What is in a zone, on any grid. -/
theorem in_sat {n : Nat} {m : Mat} {v : List (Int × Int)} {u : Nat → Int} {g : Int} (hg : 0 < g) (hr : RightM n m) (hv : rightV v = true) (hl : v.length = n) (hu : ∀ i, i ≤ n → cq v i = (u i : Rat) / (g : Rat)) : inP n m v = true ↔ satM n g (widW m) u := by
  rw [in_iff]
  have step : ∀ i j, i ≤ n → j ≤ n → (kq (m i j) (cq v i - cq v j) ↔ sat g (widW m i j) (u i - u j)) := fun i j hi hj => by
    have hb : m i j ≤ 2147483647 := by have := hr i j hi hj; unfold rightB at this; have := of_decide_eq_true this; omega
    show _ ↔ sat g (wid (m i j)) (u i - u j)
    rw [← kq_sat hg hb (x := u i - u j), hu i hi, hu j hj]
    have e : (u i : Rat) / (g : Rat) - (u j : Rat) / (g : Rat) = ((u i - u j : Int) : Rat) / (g : Rat) := by
      rw [Rat.intCast_sub, Rat.div_def, Rat.div_def, Rat.div_def]; grind
    rw [e]
  constructor
  · rintro ⟨_, _, h⟩ i j hi hj; exact (step i j hi hj).1 (h i j hi hj)
  · intro h; exact ⟨hv, hl, fun i j hi hj => (step i j hi hj).2 (h i j hi hj)⟩
/-- A valuation on the grid: by places. -/
def gridV (n : Nat) (u : Nat → Int) : List (Int × Int) := (List.range n).map fun i => (newP (u (i + 1)) ((n : Int) + 1)).1
theorem gridV_length (n : Nat) (u : Nat → Int) : (gridV n u).length = n := by simp [gridV]
theorem gridV_getD {n : Nat} {u : Nat → Int} {i : Nat} (hi : i < n) (d : Int × Int) : (gridV n u).getD i d = (newP (u (i + 1)) ((n : Int) + 1)).1 := by
  rw [List.getD_eq_getElem?_getD]
  unfold gridV
  simp [hi]
theorem least_grid (n : Nat) (m : Mat) : leastV n m = gridV n (placeU n m) := rfl
theorem gridV_right {n : Nat} {u : Nat → Int} (hn : n ≤ 8) (hu : ∀ a, a ≤ n → 0 ≤ u a ∧ u a ≤ 9223372036854775807) : rightV (gridV n u) = true := by
  unfold rightV
  rw [gridV_length, decide_eq_true hn, Bool.true_and, List.all_eq_true]
  intro r hr
  unfold gridV at hr
  obtain ⟨i, hi, rfl⟩ := List.mem_map.1 hr
  have hi := List.mem_range.1 hi
  obtain ⟨a, b, _⟩ := grid_val (hu (i + 1) (by omega)).1 (hu (i + 1) (by omega)).2 hn
  rw [a, decide_eq_true b]; rfl
theorem cq_grid {n : Nat} {u : Nat → Int} (hn : n ≤ 8) (h0 : u 0 = 0) (hu : ∀ a, a ≤ n → 0 ≤ u a ∧ u a ≤ 9223372036854775807) {i : Nat} (hi : i ≤ n) : cq (gridV n u) i = (u i : Rat) / (((n : Int) + 1 : Int) : Rat) := by
  by_cases e : i = 0
  · subst e
    rw [cq_zero, h0, Rat.intCast_zero, Rat.div_def, Rat.zero_mul]
  · unfold cq clockV
    rw [if_neg e, gridV_getD (by omega), show i - 1 + 1 = i by omega]
    exact (grid_val (hu i hi).1 (hu i hi).2 hn).2.2.1
theorem grid_in {n : Nat} {m : Mat} {u : Nat → Int} (hn : n ≤ 8) (hr : RightM n m) (h0 : u 0 = 0) (hu : ∀ a, a ≤ n → 0 ≤ u a ∧ u a ≤ 9223372036854775807) : inP n m (gridV n u) = true ↔ satM n ((n : Int) + 1) (widW m) u :=
  in_sat (by omega) hr (gridV_right hn hu) (gridV_length n u) fun i hi => cq_grid hn h0 hu hi
/-- The least valuation is in the zone. -/
theorem least_in {n : Nat} {m : Mat} (hn : n ≤ 8) (h : ClosedZ n m) : inP n m (leastV n m) = true := by
  obtain ⟨h1, h2, h3⟩ := place_bd hn h
  rw [least_grid, grid_in hn h.full.right h2 (fun a ha => ⟨(h3 a ha).1, by have := (h3 a ha).2; omega⟩)]
  exact sol_sat h1
/-- None on the grid is anywhere smaller. -/
theorem least_least {n : Nat} {m : Mat} {x : Nat → Int} (hn : n ≤ 8) (h : ClosedZ n m) (h0 : x 0 = 0) (hx : ∀ a, a ≤ n → 0 ≤ x a ∧ x a ≤ 65535) (hin : inP n m (gridV n x) = true) {i : Nat} (hi : i < n) : ¬ cmpP ((gridV n x).getD i (0, 0)) ((leastV n m).getD i (0, 0)) < 0 := by
  obtain ⟨h1, h2, h3⟩ := place_bd hn h
  have hx' : ∀ a, a ≤ n → 0 ≤ x a ∧ x a ≤ 9223372036854775807 := fun a ha => ⟨(hx a ha).1, by have := (hx a ha).2; omega⟩
  rw [grid_in hn h.full.right h0 hx'] at hin
  have hsol : Sol n ((n : Int) + 1) (widW m) x := ⟨fun j hj => (hx j hj).1, fun i j hi hj hf => by have := le_of_sat (hin i j hi hj) hf; omega⟩
  have hle := (inside_sol hsol).2 (n + 2) (i + 1) (by omega)
  have hle : placeU n m (i + 1) ≤ x (i + 1) := hle
  rw [least_grid, gridV_getD hi, gridV_getD hi]
  obtain ⟨a1, a2, a3, _⟩ := grid_val (hx' (i + 1) (by omega)).1 (hx' (i + 1) (by omega)).2 hn
  obtain ⟨b1, b2, b3, _⟩ := grid_val (h3 (i + 1) (by omega)).1 (show placeU n m (i + 1) ≤ 9223372036854775807 by have := (h3 (i + 1) (by omega)).2; omega) hn
  rw [(cmp_qv a1 b1).1, a3, b3]
  have hG := cast_pos (show (0 : Int) < (n : Int) + 1 by omega)
  rw [lt_iff_mul hG, Rat.div_mul_cancel (by grind), Rat.div_mul_cancel (by grind)]
  intro hh
  have : x (i + 1) < placeU n m (i + 1) := by exact_mod_cast hh
  omega
/-- The grid's number is a multiple of each denominator. -/
theorem least_den {n : Nat} {m : Mat} (hn : n ≤ 8) (h : ClosedZ n m) {i : Nat} (hi : i < n) : 0 < ((leastV n m).getD i (0, 0)).2 ∧ Int.tmod ((n : Int) + 1) ((leastV n m).getD i (0, 0)).2 = 0 := by
  obtain ⟨h1, h2, h3⟩ := place_bd hn h
  rw [least_grid, gridV_getD hi]
  obtain ⟨b1, b2, b3, k, hk⟩ := grid_val (h3 (i + 1) (by omega)).1 (show placeU n m (i + 1) ≤ 9223372036854775807 by have := (h3 (i + 1) (by omega)).2; omega) hn
  refine ⟨rq_pos b1, ?_⟩
  have := Int.mul_tmod_right (newP (placeU n m (i + 1)) ((n : Int) + 1)).1.2 k
  rw [hk] at this
  exact this

end Go.Proofs.Ytfegongaflekiaa

/- The rounds of the least valuation, cell by cell: plain. -/
namespace Go.Proofs.Ytfegongaflekiaa
set_option linter.unusedVariables false
set_option linter.unusedSimpArgs false

/-- Behind the first k cells of a round. -/
def insK (n : Nat) (g : Int) (m : Mat) (v : Nat → Int) : Nat → Nat → Int
  | 0 => v
  | k + 1 => insS g m (insK n g m v k) (k / (n + 1)) (k % (n + 1))
theorem insK_row (n : Nat) (g : Int) (m : Mat) (v : Nat → Int) : ∀ i j, j ≤ n + 1 → insK n g m v (i * (n + 1) + j) = insJ g m (insI n g m v i) i j := by
  intro i
  induction i with
  | zero =>
    intro j
    induction j with
    | zero => intro _; rw [Nat.zero_mul]; rfl
    | succ j ih =>
      intro hj
      rw [show 0 * (n + 1) + (j + 1) = (0 * (n + 1) + j) + 1 by omega]
      show insS g m (insK n g m v (0 * (n + 1) + j)) _ _ = insS g m (insJ g m (insI n g m v 0) 0 j) 0 j
      rw [ih (by omega), show 0 * (n + 1) + j = j by omega, Nat.div_eq_of_lt (by omega), Nat.mod_eq_of_lt (by omega)]
  | succ i ihi =>
    intro j
    induction j with
    | zero =>
      intro _
      have := ihi (n + 1) (Nat.le_refl _)
      rw [show (i + 1) * (n + 1) + 0 = i * (n + 1) + (n + 1) by rw [Nat.succ_mul]; omega, this]
      rfl
    | succ j ih =>
      intro hj
      rw [show (i + 1) * (n + 1) + (j + 1) = ((i + 1) * (n + 1) + j) + 1 by omega]
      show insS g m (insK n g m v ((i + 1) * (n + 1) + j)) _ _ = insS g m (insJ g m (insI n g m v (i + 1)) (i + 1) j) (i + 1) j
      rw [ih (by omega), show ((i + 1) * (n + 1) + j) / (n + 1) = i + 1 by rw [Nat.mul_comm, Nat.mul_add_div (by omega), Nat.div_eq_of_lt (by omega)], show ((i + 1) * (n + 1) + j) % (n + 1) = j by rw [Nat.mul_comm, Nat.mul_add_mod, Nat.mod_eq_of_lt (by omega)]]
theorem insK_all (n : Nat) (g : Int) (m : Mat) (v : Nat → Int) : insK n g m v ((n + 1) * (n + 1)) = insI n g m v (n + 1) := by
  have := insK_row n g m v (n + 1) 0 (by omega)
  rw [Nat.add_zero] at this
  exact this
theorem insK_ge (n : Nat) (g : Int) (m : Mat) (v : Nat → Int) (a : Nat) : ∀ k, v a ≤ insK n g m v k a
  | 0 => Int.le_refl _
  | k + 1 => Int.le_trans (insK_ge n g m v a k) (insS_ge g m _ _ _ a)
theorem insK_le {n : Nat} {g : Int} {m : Mat} {u v : Nat → Int} (hu : Sol n g m u) (hv : ∀ a, a ≤ n → v a ≤ u a) : ∀ k, k ≤ (n + 1) * (n + 1) → ∀ a, a ≤ n → insK n g m v k a ≤ u a
  | 0, _ => hv
  | k + 1, h => by
    have d1 : k / (n + 1) < n + 1 := Nat.div_lt_of_lt_mul h
    have d2 := Nat.mod_lt k (show 0 < n + 1 by omega)
    exact insS_le hu (insK_le hu hv k (by omega)) (by omega) (by omega)
theorem insS_max {g : Int} {m : Mat} {v : Nat → Int} {i j : Nat} (h : m i j ≠ none62) : insS g m v i j = fun a => if a = j then max (v j) (v i - (m i j / 2 * g - (1 - m i j % 2))) else v a := by
  unfold insS
  by_cases hc : v j < v i - (m i j / 2 * g - (1 - m i j % 2))
  · rw [if_pos ⟨h, hc⟩, Int.max_eq_right (by omega)]
  · rw [if_neg (fun hh => hc hh.2), Int.max_eq_left (by omega)]
    funext a
    split
    · rename_i e; rw [e]
    · rfl
theorem insS_inf {g : Int} {m : Mat} {v : Nat → Int} {i j : Nat} (h : m i j = none62) : insS g m v i j = v := if_neg (fun hh => hh.1 h)

end Go.Proofs.Ytfegongaflekiaa

/- Rows of numbers and of fractions of a call's own. -/
namespace Go.Proofs.Ytfegongaflekiaa
open Go Go.RowKit
set_option linter.unusedVariables false
set_option linter.unusedSimpArgs false

/-- A function's first numbers. -/
def numsL (n : Nat) (f : Nat → Int) : List Int := (List.range (n + 1)).map f
theorem numsL_length (n : Nat) (f : Nat → Int) : (numsL n f).length = n + 1 := by simp [numsL]
theorem numsL_getD (n : Nat) (f : Nat → Int) (i : Nat) (h : i < n + 1) : (numsL n f).getD i 0 = f i := by simp [numsL, List.getD_eq_getElem?_getD, h]
theorem numsL_set (n : Nat) (f : Nat → Int) (j : Nat) (h : j < n + 1) (x : Int) : (numsL n f).set j x = numsL n (fun a => if a = j then x else f a) :=
  list_ext0 (by simp [numsL_length]) fun q hq => by
    rw [List.length_set, numsL_length] at hq
    rw [numsL_getD _ _ _ hq, List.getD_eq_getElem?_getD, List.getElem?_set]
    by_cases e : j = q
    · subst e
      rw [if_pos rfl, if_pos (by rw [numsL_length]; exact h), if_pos rfl]; rfl
    · rw [if_neg e, ← List.getD_eq_getElem?_getD, numsL_getD _ _ _ hq, if_neg (fun h => e h.symm)]
theorem infoT64 : (Try.prog.info? 2).map (fun i => (i.zero, i.size, i.bytes)) = some (some (.int .i64 0), 1, 8) := by kernel_rfl
theorem made_nums (w : World) (e : TypeId) (k : IntKind) (N : Nat) (xs : List Int) (hl : xs.length = N) (hx : ∀ p, p < N → xs.getD p 0 = 0) : RowAt (w.alloc (.cells (madeCells #[.int k 0] N) e)) w.heap.size e k xs := by
  refine ⟨madeCells #[.int k 0] N, heap_alloc_new _ _, ?_⟩
  have e1 : (madeCells #[.int k 0] N).toList = List.replicate N (.int k 0) := by
    refine List.ext_getElem (by simp [madeCells]) fun p h1 h2 => ?_
    simp [madeCells, Nat.mod_one]
  rw [e1, hl, List.take_of_length_le (by simp)]
  refine List.ext_getElem (by simp [vals, hl]) fun p h1 h2 => ?_
  have hp : p < N := by simpa [vals, hl] using h2
  have := hx p hp
  rw [List.getD_eq_getElem?_getD, List.getElem?_eq_getElem (by omega)] at this
  simp only [vals, List.getElem_replicate, List.getElem_map]
  rw [show xs[p] = 0 from this]
/-- The numbers lie in the first new block. -/
def InT (w0 : World) (n : Nat) (f : Nat → Int) (wr : World) : Prop := Below w0.heap.size w0 wr ∧ RowAt wr w0.heap.size 2 .i64 (numsL n f)
theorem InT.step {w0 wr w' : World} {n : Nat} {f : Nat → Int} (h : InT w0 n f wr) (hb : Below wr.heap.size wr w') : InT w0 n f w' := ⟨h.1.trans (hb.mono h.1.size), h.2.later hb⟩
theorem InT.set {w0 wr : World} {n : Nat} {f f' : Nat → Int} (h : InT w0 n f wr) (q j : Nat) (hj : j < n + 1) (x : Int) (hf : f' = fun a => if a = j then x else f a) : InT w0 n f' ((wr.drewN q).setCell ⟨w0.heap.size, j, none⟩ (.int .i64 x)) := by
  subst hf
  refine ⟨(belowN h.1 q).setCell (p := ⟨w0.heap.size, j, none⟩) (Nat.le_refl _) _, ?_⟩
  have := (h.2.drewN q).set j x
  rwa [numsL_set _ _ _ hj] at this
theorem rowat_other {w : World} {g : Nat} {e : TypeId} {k : IntKind} {xs : List Int} (h : RowAt w g e k xs) (p : Addr) (hne : g ≠ p.block) (v : Value) : RowAt (w.setCell p v) g e k xs := by
  obtain ⟨cur, h1, h2⟩ := h
  refine ⟨cur, ?_, h2⟩
  simp only [World.setCell, Array.getElem?_modify]
  rw [if_neg (fun e => hne e.symm)]; exact h1
theorem InT.put {w0 wr : World} {n : Nat} {f f' : Nat → Int} (h : InT w0 n f wr) (j : Nat) (hj : j < n + 1) (x : Int) (hf : f' = fun a => if a = j then x else f a) : InT w0 n f' (wr.setCell ⟨w0.heap.size, j, none⟩ (.int .i64 x)) := by
  subst hf
  refine ⟨h.1.setCell (p := ⟨w0.heap.size, j, none⟩) (Nat.le_refl _) _, ?_⟩
  have := h.2.set j x
  rwa [numsL_set _ _ _ hj] at this

/-! ### fractions -/
def rcells (l : List (Int × Int)) : List Value := l.flatMap fun x => [.int .i64 x.1, .int .i64 x.2]
theorem rcells_length (l : List (Int × Int)) : (rcells l).length = l.length * 2 := by
  induction l with
  | nil => rfl
  | cons x l ih => simp only [rcells, List.flatMap_cons, List.length_append, List.length_cons, List.length_nil] at ih ⊢; omega
theorem rcells_at : ∀ (l : List (Int × Int)) (j : Nat), j < l.length → (rcells l)[j * 2]? = some (.int .i64 (l.getD j (0, 0)).1) ∧ (rcells l)[j * 2 + 1]? = some (.int .i64 (l.getD j (0, 0)).2)
  | [], j, h => by simp at h
  | x :: l, 0, _ => by simp [rcells]
  | x :: l, j + 1, h => by
    have ih := rcells_at l j (by simpa using h)
    have e : ∀ q, (rcells (x :: l))[(j + 1) * 2 + q]? = (rcells l)[j * 2 + q]? := fun q => by
      rw [show rcells (x :: l) = [.int .i64 x.1, .int .i64 x.2] ++ rcells l from rfl, List.getElem?_append_right (by simp; omega)]
      congr 1
      simp; omega
    have e0 := e 0
    rw [Nat.add_zero, Nat.add_zero] at e0
    rw [e0, e 1, List.getD_cons_succ]
    exact ih
theorem rcells_one (l : List (Int × Int)) : ∀ u ∈ rcells l, u.oneCell' = true := by
  intro u hu
  obtain ⟨x, _, h⟩ := List.mem_flatMap.1 hu
  simp only [List.mem_cons, List.mem_nil_iff, or_false] at h
  rcases h with rfl | rfl <;> rfl
theorem rcells_append (l m : List (Int × Int)) : rcells (l ++ m) = rcells l ++ rcells m := by unfold rcells; rw [List.flatMap_append]
/-- A row of fractions of the call's own, behind the world w0. -/
def OwnQ (w0 : World) (l : List (Int × Int)) (v : Value) (wr : World) : Prop := Below w0.heap.size w0 wr ∧ wr.ownsRow w0.heap.size 59 2 v l.length (rcells l)
theorem OwnQ.start (w0 : World) : OwnQ w0 [] (.slice none 0 0) w0 := ⟨Below.refl _ _, World.ownsRow_nil _ _ _ _⟩
theorem OwnQ.step {w0 wr w' : World} {l : List (Int × Int)} {v : Value} (h : OwnQ w0 l v wr) (hb : Below wr.heap.size wr w') : OwnQ w0 l v w' := by
  obtain ⟨h0, hl, h⟩ := h
  refine ⟨h0.trans (hb.mono h0.size), hl, ?_⟩
  rcases h with h | ⟨g, cap, cur, e1, e2, h1, h2⟩
  · exact .inl h
  · exact .inr ⟨g, cap, cur, e1, e2, (hb.block g (Array.getElem?_eq_some_iff.1 h1).1).trans h1, h2⟩
theorem OwnQ.rats {w0 wr : World} {l : List (Int × Int)} {v : Value} (h : OwnQ w0 l v wr) : ∃ A cap, v = .slice A l.length cap ∧ RatsA wr A l := by
  obtain ⟨_, hl, h⟩ := h
  rcases h with ⟨rfl, h0⟩ | ⟨g, cap, cur, rfl, _, h1, _, _, _, h2⟩
  · refine ⟨none, 0, by rw [h0], fun j hj => by omega⟩
  · refine ⟨some ⟨g, 0, none⟩, cap, rfl, fun j hj => ?_⟩
    have hc : ∀ q u, (rcells l)[q]? = some u → wr.cell? ⟨g, q, none⟩ = some u := fun q u hu => by
      have hq : q < l.length * 2 := by rw [← rcells_length]; exact (List.getElem?_eq_some_iff.1 hu).1
      rw [← h2, List.getElem?_take, if_pos hq] at hu
      simp only [World.cell?, h1]
      simpa using hu
    obtain ⟨a0, a1⟩ := rcells_at l j hj
    exact ⟨g, 0, rfl, by rw [Nat.zero_add]; exact hc _ _ a0, by rw [Nat.zero_add]; exact hc _ _ a1⟩
/-- One fraction more, out of a block of its own. -/
theorem OwnQ.next {w0 w2 : World} {l : List (Int × Int)} {v : Value} (h : OwnQ w0 l v w2) (g c : Nat) (x y : Int) (hg : w2.cell? ⟨g, 0, none⟩ = some (.int .i64 x) ∧ w2.cell? ⟨g, 1, none⟩ = some (.int .i64 y)) (hmax : l.length ≤ 4398046510976) :
    ∃ v' w', (Builtin.append_ #[27, 27] 27 #[v, .slice (some ⟨g, 0, none⟩) 1 c]).run Try.prog w2 = .ok v' w' ∧ OwnQ w0 (l ++ [(x, y)]) v' w' := by
  obtain ⟨i0, hi, hz0, hz1, hz2⟩ := info_partsQ infoQ
  have ea : ∀ k, (⟨g, 0, none⟩ : Addr).add k = ⟨g, 0 + k, none⟩ := fun k => by unfold Addr.add; split <;> simp_all
  obtain ⟨v', w', h2, h3, h4, _⟩ := run_append_own (P := Try.prog) w2 w0.heap.size 27 27 59 i0 (.agg #[.int .i64 0, .int .i64 0]) 2 16 Try.underlying27 hi hz0 hz1 hz2 rfl (by decide) v l.length (rcells l) h.2 ⟨g, 0, none⟩ 1 c (rcells [(x, y)]) (rcells_length _) (fun j u hu => by
    rw [ea]
    match j, hu with
    | 0, hu => simp [rcells] at hu; subst hu; exact hg.1
    | 1, hu => simp [rcells] at hu; subst hu; exact hg.2
    | j + 2, hu => simp [rcells] at hu) (rcells_one _) (by simp only [maxLen]; omega) (by omega) h.1.size
  refine ⟨v', w', h2, h.1.grown h4 h.1.size (fun k hk => (World.ownsRow.lt h.2 k hk).1), ?_⟩
  rw [rcells_append, List.length_append]
  exact h3

end Go.Proofs.Ytfegongaflekiaa

/- The least valuation of a zone, as point tells it. -/
namespace Go.Proofs.Ytfegongaflekiaa
open Go Go.RowKit
set_option linter.unusedVariables false
set_option linter.unusedSimpArgs false
attribute [local go_sem] min_ints max_ints

theorem OwnQ.from {w w0 wr : World} {l : List (Int × Int)} {v : Value} (h : OwnQ w0 l v wr) (hb : Below w.heap.size w w0) : OwnQ w l v wr := by
  obtain ⟨h0, hl, h⟩ := h
  refine ⟨hb.trans (h0.mono hb.size), hl, ?_⟩
  rcases h with h | ⟨g, cap, cur, e1, e2, h1, h2⟩
  · exact .inl h
  · exact .inr ⟨g, cap, cur, e1, Nat.le_trans hb.size e2, h1, h2⟩
/-- A row of fractions and an error. -/
def LstEnds (w : World) (l : List (Int × Int)) (err : Int) (e : Ending) (w' : World) : Prop := ∃ v, e = .returned (.tuple #[v, .int .i64 err]) ∧ OwnQ w l v w'
theorem least_nil (w : World) : Calls Try.prog 9 #[.pointer none] w (LstEnds w [] 1) := by
  have HB := Lib.hid (OwnQ.start w)
  go_enter Try.func9, Try.ntmps9
  go_wp2
  go_ret2
  exact ⟨_, rfl, HB.out⟩
theorem least_empty (b n : Nat) (m : Mat) (w : World) (hm : MatAt w b 108 .i32 n m) (he : emptyP (some (n, m)) = true) : Calls Try.prog 9 #[.pointer (some ⟨b, 0, none⟩)] w (LstEnds w [] 14) := by
  have HB := Lib.hid (OwnQ.start w)
  have HE := Lib.hid (empty_zone b n m w hm)
  rw [show decide (m 0 0 < 1) = true from he] at HE
  go_enter Try.func9, Try.ntmps9
  go_wp2_with fail
  refine HE.out.mono ?_
  rintro e w' ⟨rfl, rfl⟩
  go_wp2
  go_ret2
  exact ⟨_, rfl, HB.out⟩

set_option maxRecDepth 100000 in
set_option maxHeartbeats 4000000 in
theorem least_full (b n : Nat) (m : Mat) (w : World) (hn : n ≤ 8) (hm : MatAt w b 108 .i32 n m) (hc : ClosedZ n m) : Calls Try.prog 9 #[.pointer (some ⟨b, 0, none⟩)] w (LstEnds w (leastV n m) 0) := by
  have HEm := Lib.hid (empty_zone b n m w hm)
  rw [show decide (m 0 0 < 1) = false from hc.full.notEmpty] at HEm
  have HD := Lib.hid (dim_zone b n m w hm)
  have HC := Lib.hid (fun W (hb : Below w.heap.size w W) => cells_zone b n m W hn (hm.later hb))
  obtain ⟨HU, h0, hub⟩ := place_bd hn hc
  have HU := Lib.hid HU
  have HUB := Lib.hid hub
  have HR := Lib.hid hc.full.right
  obtain ⟨N, hN⟩ : ∃ q, q = (n + 1) * (n + 1) := ⟨_, rfl⟩
  have hN1 : 0 < N := by rw [hN]; exact Nat.mul_pos (by omega) (by omega)
  have hN81 : N ≤ 81 := by have := Nat.mul_le_mul (show n + 1 ≤ 9 by omega) (show n + 1 ≤ 9 by omega); omega
  have HN := Lib.hid hN
  have hmk := run_make_row' (P := Try.prog) 86 2 (.int .i64 0) 8 Try.underlying86 infoT64 rfl .i64 .i64 (n + 1) (by omega) (by omega)
  have hcast : ((n + 1 : Nat) : Int) = (n : Int) + 1 := by omega
  rw [hcast] at hmk
  have HS := Lib.hid (show InT w n (insR n ((n : Int) + 1) (widW m) 0) (w.alloc (.cells (madeCells #[.int .i64 0] (n + 1)) 2)) from ⟨(Below.refl _ _).alloc (Nat.le_refl _) _, made_nums w _ _ (n + 1) _ (numsL_length _ _) (fun p hp => by rw [numsL_getD _ _ _ hp]; rfl)⟩)
  have HNW := Lib.hid (fun x (h : 0 ≤ x ∧ x ≤ 137438953472) W => new_any x ((n : Int) + 1) (by unfold I64; omega) (by unfold I64; omega) W)
  have hflen : (flat n m).length = N := by rw [flat_length, hN]
  have HFL := Lib.hid hflen
  clear hm hc hN hcast h0 hub hflen
  go_enter Try.func9, Try.ntmps9
  go_wp2_with fail
  refine HEm.out.mono ?_
  rintro e w' ⟨rfl, rfl⟩
  go_wp2_with fail
  refine HD.out.mono ?_
  rintro e w' ⟨rfl, rfl⟩
  go_wp2_with fail
  have HS0 := Lib.hid HS.out.2.lt
  generalize w.alloc (.cells (madeCells #[.int .i64 0] (n + 1)) 2) = w1 at *
  clear hmk HEm HD
  refine (HC.out _ HS.out.1).mono ?_
  rintro e w4 ⟨v, rfl, hb, hown⟩
  replace HS := Lib.hid (HS.out.step hb)
  clear hb HC
  obtain ⟨gc, cf, ecf, hgc, hrow⟩ := hown.row (by rw [HFL.out]; omega)
  subst ecf
  rw [HFL.out]
  have hgc2 : w.heap.size < gc := Nat.lt_of_lt_of_le HS0.out hgc
  have HF := Lib.hid hrow
  clear hown hrow hgc
  have HKI := Lib.hid (insK_all n ((n : Int) + 1) (widW m))
  go_wp2
  go_loopg [37] (n + 2) (fun q x wr => ∃ r : Nat, x = .int .i64 r ∧ Hid (InT w n (insR n ((n : Int) + 1) (widW m) r) wr ∧ RowAt wr gc 88 .i32 (flat n m)) ∧ Hid (q + r = n + 2))
  case atStart => exact ⟨0, by simp, Lib.hid ⟨HS.out, HF.out⟩, Lib.hid (by omega)⟩
  case round =>
    clear HS HF
    obtain ⟨r, rfl, HT, HG⟩ := hrel
    by_cases hr : r < n + 2
    · have hri : (r : Int) < (n : Int) + 2 := by omega
      have hle0 := Lib.hid (insR_le HU.out r)
      have hge0 := Lib.hid (insR_pos n ((n : Int) + 1) (widW m) r)
      obtain ⟨v0, hv0⟩ : ∃ v0, v0 = insR n ((n : Int) + 1) (widW m) r := ⟨_, rfl⟩
      rw [← hv0] at HT hle0 hge0
      have HV0 := Lib.hid hv0
      have w5 : IntKind.i64.wrap ((r : Int) + 1) = ((r + 1 : Nat) : Int) := by rw [IntWalk.i64_in _ (by omega)]; omega
      clear hv0
      go_wp2
      go_loopg [41] N (fun q x wr => ∃ k : Nat, x = .int .i64 k ∧ Hid (InT w n (insK n ((n : Int) + 1) (widW m) v0 k) wr ∧ RowAt wr gc 88 .i32 (flat n m)) ∧ Hid (k ≤ N ∧ q + k = N))
      case atStart => exact ⟨0, by simp, HT, Lib.hid (by omega)⟩
      case round =>
        clear HT
        obtain ⟨k, rfl, HT, HG2⟩ := hrel
        by_cases hk : k < N
        · have hki : (k : Int) < (N : Int) := by omega
          have cf := HT.out.2.cell k (by rw [HFL.out]; exact hk)
          rw [flat_getD n m k (by rw [← HN.out]; exact hk)] at cf
          have d1 : k / (n + 1) < n + 1 := Nat.div_lt_of_lt_mul (by rw [← HN.out]; exact hk)
          have d2 := Nat.mod_lt k (show 0 < n + 1 by omega)
          have hle2 := insK_le HU.out hle0.out k (by rw [← HN.out]; omega)
          have hge2 : ∀ a, 0 ≤ insK n ((n : Int) + 1) (widW m) v0 k a := fun a => Int.le_trans (hge0.out a) (insK_ge n _ (widW m) v0 a k)
          have HST : Hid (insK n ((n : Int) + 1) (widW m) v0 (k + 1) = insS ((n : Int) + 1) (widW m) (insK n ((n : Int) + 1) (widW m) v0 k) (k / (n + 1)) (k % (n + 1))) := Lib.hid rfl
          obtain ⟨i, hi⟩ : ∃ i, i = k / (n + 1) := ⟨_, rfl⟩
          obtain ⟨j, hj⟩ : ∃ j, j = k % (n + 1) := ⟨_, rfl⟩
          obtain ⟨t1, t2⟩ := quo_rem hi hj
          rw [← hi, ← hj] at cf HST
          rw [← hi] at d1
          rw [← hj] at d2
          obtain ⟨v2, hv2⟩ : ∃ v2, v2 = insK n ((n : Int) + 1) (widW m) v0 k := ⟨_, rfl⟩
          rw [← hv2] at HT hle2 hge2 HST
          have hvi := hge2 i
          have hvi' := Int.le_trans (hle2 i (by omega)) (HUB.out i (by omega)).2
          have hvj := hge2 j
          have hvj' := Int.le_trans (hle2 j (by omega)) (HUB.out j (by omega)).2
          have hrx := HR.out i j (by omega) (by omega)
          have q1 : IntKind.i64.wrap ((n : Int) + 1) = (n : Int) + 1 := IntWalk.i64_in _ (by omega)
          have q2 : IntKind.i64.wrap (i : Int) = (i : Int) := IntWalk.i64_in _ (by omega)
          have q3 : IntKind.i64.wrap (j : Int) = (j : Int) := IntWalk.i64_in _ (by omega)
          have q4 : ((n : Int) + 1 == 0) = false := by simp; omega
          have q5 : IntKind.i64.wrap ((k : Int) + 1) = ((k + 1 : Nat) : Int) := by rw [IntWalk.i64_in _ (by omega)]; omega
          have HX := Lib.hid (show widW m i j = wid (m i j) from rfl)
          obtain ⟨b', hb'⟩ : ∃ b, b = m i j := ⟨_, rfl⟩
          rw [← hb'] at cf HX hrx
          clear hv2 hle2 hge2 hi hj hb'
          go_wp2_with fail
          go_quiet (fail)
          generalize nq = nq at *
          replace HT := Lib.hid (And.intro (HT.out.1.step (belowN (Below.refl _ _) nq)) (HT.out.2.drewN nq))
          generalize wr.drewN nq = wq at *
          clear t1 t2 q1 q2 q3 q4 cf
          by_cases hinf : b' = 2147483647
          · have HSM := Lib.hid (show InT w n (insK n ((n : Int) + 1) (widW m) v0 (k + 1)) wq from by
              rw [HST.out, insS_inf (by rw [HX.out, hinf]; decide)]; exact HT.out.1)
            have HF := Lib.hid HT.out.2
            have HV := Lib.hid (fun W => value_no b' W (by simp [someB, hinf]))
            clear hinf HST HX HT hrx
            go_wp2_with fail
            refine (HV.out _).mono ?_
            rintro e w' ⟨rfl, rfl⟩
            go_wp2
            go_roundg (gk - 1)
            case measure => have h := HG2.out.2; omega
            case rel => exact ⟨k + 1, by go_num, Lib.hid ⟨HSM.out, HF.out⟩, Lib.hid ⟨by omega, by have h := HG2.out.2; omega⟩⟩
          · have hbd := rightB_bd hrx hinf
            have HV := Lib.hid (fun W => value_yes b' W (by simp [someB, hrx, hinf]))
            have hwx : wid b' = b' := by unfold wid; rw [if_neg hinf]
            have hnn : b' ≠ none62 := by unfold none62; omega
            have hset := insS_max (g := (n : Int) + 1) (m := widW m) (v := v2) (i := i) (j := j) (by rw [HX.out, hwx]; exact hnn)
            rw [HX.out, hwx] at hset
            have HST : Hid (insK n ((n : Int) + 1) (widW m) v0 (k + 1) = fun a => if a = j then max (v2 j) (v2 i - (b' / 2 * ((n : Int) + 1) - (1 - b' % 2))) else v2 a) := Lib.hid (HST.out.trans hset)
            obtain ⟨q, hq⟩ : ∃ q, q = b' / 2 := ⟨_, rfl⟩
            obtain ⟨r2, hr2⟩ : ∃ r2, r2 = b' % 2 := ⟨_, rfl⟩
            have hr01 : r2 = 0 ∨ r2 = 1 := by omega
            have hq0 : -268435456 ≤ q := by omega
            have hq1 : q ≤ 268435456 := by omega
            have hm1 : q * ((n : Int) + 1) ≤ 268435456 * 9 := by
              rcases (show 0 ≤ q ∨ q ≤ 0 by omega) with h | h
              · exact Int.mul_le_mul (by omega) (by omega) (by omega) (by omega)
              · have := Int.mul_le_mul_of_nonneg_right (a := q) (b := 0) (c := (n : Int) + 1) h (by omega)
                omega
            have hm2 : -(268435456 * 9) ≤ q * ((n : Int) + 1) := by
              have h1 : -268435456 * ((n : Int) + 1) ≤ q * ((n : Int) + 1) := Int.mul_le_mul_of_nonneg_right hq0 (by omega)
              omega
            obtain ⟨T, hT⟩ : ∃ T, T = q * ((n : Int) + 1) := ⟨_, rfl⟩
            rw [← hq, ← hr2, ← hT] at HST
            rw [← hq, ← hr2] at HV
            rw [← hT] at hm1 hm2
            have hTr : q * ((n : Int) + 1) = T := hT.symm
            have c2 := HT.out.1.2.cell i (by rw [numsL_length]; omega)
            rw [numsL_getD _ _ _ (by omega)] at c2
            have c3 := HT.out.1.2.cell j (by rw [numsL_length]; omega)
            rw [numsL_getD _ _ _ (by omega)] at c3
            have f3 := HT.out.1.2.frozen j
            have HWD := Lib.hid (show Below wq.heap.size wq wq.drew from Below.drew (Below.refl _ _))
            have C2 := Lib.hid (show wq.drew.cell? _ = _ from c2)
            have C3 := Lib.hid (show wq.drew.cell? _ = _ from c3)
            have F3 := Lib.hid (show wq.drew.frozen? _ = _ from f3)
            have HSM := Lib.hid (fun (X : Int) (hX : X = max (v2 j) (v2 i - (T - (1 - r2)))) => (HT.out.1.step HWD.out).put j (by omega) X (f' := insK n ((n : Int) + 1) (widW m) v0 (k + 1)) (by rw [HST.out, hX]))
            have HF := Lib.hid (fun (X : Int) => rowat_other HT.out.2.drew ⟨w.heap.size, j, none⟩ (show gc ≠ w.heap.size by omega) (.int .i64 X))
            have l4 : (i : Int) < (n : Int) + 1 := by omega
            have l5 : (j : Int) < (n : Int) + 1 := by omega
            clear hinf hbd hwx hnn hq hr2 hrx hT HX hset HST c2 c3 f3 HT
            obtain ⟨y, hy⟩ : ∃ y, y = v2 i := ⟨_, rfl⟩
            obtain ⟨z, hz⟩ : ∃ z, z = v2 j := ⟨_, rfl⟩
            rw [← hy] at C2 hvi hvi' HSM
            rw [← hz] at C3 hvj hvj' HSM
            clear hy hz
            have g1 : IntKind.i64.wrap T = T := IntWalk.i64_in _ (by omega)
            have g2 : IntKind.i64.wrap (T - 1) = T - 1 := IntWalk.i64_in _ (by omega)
            have g3 : IntKind.i64.wrap (y - T) = y - T := IntWalk.i64_in _ (by omega)
            have g4 : IntKind.i64.wrap (y - (T - 1)) = y - (T - 1) := IntWalk.i64_in _ (by omega)
            rcases hr01 with rfl | rfl
            · have e1 : decide ((0 : Int) = 1) = false := rfl
              rw [e1] at HV
              clear e1
              go_wp2_with fail
              refine (HV.out _).mono ?_
              rintro e w' ⟨rfl, rfl⟩
              go_wp2
              refine wp_region_still_tail 13 (by kernel_rfl) (by kernel_rfl) ?_
              simp only [List.take_succ_cons, List.take_zero, List.drop_succ_cons, List.drop_zero]
              change wpStill _ _ wq.drew _ _ _
              have d2 := C2.out
              have d3 := C3.out
              have d4 := F3.out
              repeat still_step
              refine wpStill_nil ?_
              change wpList _ _ _ _ _ wq.drew
              generalize wq.drew = wd at *
              go_wp2
              go_roundg (gk - 1)
              case measure => have h := HG2.out.2; omega
              case rel => exact ⟨k + 1, by go_num, Lib.hid ⟨HSM.out _ (by rw [show T - (1 - 0) = T - 1 by omega]), HF.out _⟩, Lib.hid ⟨by omega, by have h := HG2.out.2; omega⟩⟩
            · have e1 : decide ((1 : Int) = 1) = true := rfl
              rw [e1] at HV
              clear e1
              go_wp2_with fail
              refine (HV.out _).mono ?_
              rintro e w' ⟨rfl, rfl⟩
              go_wp2
              refine wp_region_still_tail 13 (by kernel_rfl) (by kernel_rfl) ?_
              simp only [List.take_succ_cons, List.take_zero, List.drop_succ_cons, List.drop_zero]
              change wpStill _ _ wq.drew _ _ _
              have d2 := C2.out
              have d3 := C3.out
              have d4 := F3.out
              repeat still_step
              refine wpStill_nil ?_
              change wpList _ _ _ _ _ wq.drew
              generalize wq.drew = wd at *
              go_wp2
              go_roundg (gk - 1)
              case measure => have h := HG2.out.2; omega
              case rel => exact ⟨k + 1, by go_num, Lib.hid ⟨HSM.out _ (by rw [show T - (1 - 1) = T by omega]), HF.out _⟩, Lib.hid ⟨by omega, by have h := HG2.out.2; omega⟩⟩
        · have hki : ¬ (k : Int) < (N : Int) := by omega
          have HSM := Lib.hid (show InT w n (insR n ((n : Int) + 1) (widW m) (r + 1)) wr ∧ RowAt wr gc 88 .i32 (flat n m) from ⟨by
            have h := HT.out.1
            rw [show k = (n + 1) * (n + 1) by rw [← HN.out]; have := HG2.out.1; omega, HKI.out, HV0.out] at h
            exact h, HT.out.2⟩)
          clear HT
          go_wp2
          go_roundg (n + 1 - r)
          case measure => have h := HG.out; omega
          case rel => exact ⟨r + 1, by go_num, HSM, Lib.hid (by have h := HG.out; omega)⟩
    · have hri : ¬ (r : Int) < (n : Int) + 2 := by omega
      have HE := Lib.hid (show InT w n (placeU n m) wr from by
        have h := HT.out.1
        rw [show r = n + 2 by have := HG.out; omega] at h
        exact h)
      have HO := Lib.hid (OwnQ.start wr)
      have HB := Lib.hid HE.out.1
      have HLT := Lib.hid HE.out.2.lt
      have HL := Lib.hid (leastV_length n m)
      have HLV := Lib.hid (fun (p : Nat) (hp : p < n) (y : Int) (hy : y = placeU n m (p + 1)) => show (newP y ((n : Int) + 1)).1 = (leastV n m).getD p (0, 0) by rw [least_grid, gridV_getD hp, hy])
      clear HT HG HR HU HN HFL HKI
      go_wp2
      generalize wr = wE at *
      go_loopg [16, 17] n (fun g v x wr => ∃ p : Nat, x = .int .i64 ((p : Int) + 1) ∧ Hid (OwnQ wE ((leastV n m).take p) v wr) ∧ Hid (p ≤ n ∧ g + p = n))
      case atStart => exact ⟨0, by simp, Lib.hid HO.out, Lib.hid (by omega)⟩
      case round =>
        clear HO
        obtain ⟨p, rfl, HO, HG⟩ := hrel
        by_cases hp : p < n
        · have hpi : (p : Int) + 1 ≤ (n : Int) := by omega
          have hpj : (p : Int) + 1 < (n : Int) + 1 := by omega
          have hp0 : (0 : Int) ≤ (p : Int) + 1 := by omega
          have tn : ((p : Int) + 1).toNat = p + 1 := by omega
          have c1 := (HE.out.2.below HO.out.1 HLT.out).cell (p + 1) (by rw [numsL_length]; omega)
          rw [numsL_getD _ _ _ (by omega)] at c1
          have hx := HUB.out (p + 1) (by omega)
          have HLV := Lib.hid (fun y => HLV.out p hp y)
          obtain ⟨x, hxe⟩ : ∃ x, x = placeU n m (p + 1) := ⟨_, rfl⟩
          rw [← hxe] at c1 hx HLV
          have HLV := Lib.hid (HLV.out x rfl)
          have HNX := Lib.hid (fun W => HNW.out x hx W)
          obtain ⟨y, hy⟩ : ∃ y, y = newP x ((n : Int) + 1) := ⟨_, rfl⟩
          rw [← hy] at HLV HNX
          obtain ⟨⟨y1, y2⟩, ye⟩ := y
          unfold rtV at HNX
          have q5 : IntKind.i64.wrap ((p : Int) + 1 + 1) = ((p + 1 : Nat) : Int) + 1 := by rw [IntWalk.i64_in _ (by omega)]; omega
          have HTK : Hid ((leastV n m).take (p + 1) = (leastV n m).take p ++ [(y1, y2)]) := Lib.hid (by
            rw [List.take_add_one, show (leastV n m)[p]? = some ((leastV n m).getD p (0, 0)) by
              rw [List.getD_eq_getElem?_getD, List.getElem?_eq_getElem (by rw [HL.out]; exact hp)]; rfl, ← HLV.out]; rfl)
          have HLN : Hid (((leastV n m).take p).length ≤ 8) := Lib.hid (by rw [List.length_take]; omega)
          clear hxe hx hy
          go_wp2_with fail
          refine (HNX.out _).mono ?_
          rintro e w2 ⟨rfl, hb⟩
          replace HO := Lib.hid (HO.out.step hb)
          clear hb
          go_upto_region 28 with fail
          have K := Lib.hid ((Blx.start w2).new #[.int .i64 y1, .int .i64 y2] 59)
          replace HO := Lib.hid (HO.out.step (below_one w2 (.cells #[.int .i64 y1, .int .i64 y2] 59)))
          generalize w2.alloc (.cells #[.int .i64 y1, .int .i64 y2] 59) = w3 at *
          generalize w2.heap.size = g3 at *
          obtain ⟨k1, k2, _, _⟩ := K.out.cells2 0 rfl
          have K2 := Lib.hid ((Blx.start w3).new #[.int .i64 y1, .int .i64 y2] 59)
          replace HO := Lib.hid (HO.out.step (below_one w3 (.cells #[.int .i64 y1, .int .i64 y2] 59)))
          obtain ⟨k3, k4, _, _⟩ := K2.out.cells2 0 rfl
          obtain ⟨v', w', hrun, hnext⟩ := HO.out.next w3.heap.size 1 y1 y2 ⟨k3, k4⟩ (by have := HLN.out; omega)
          have HO := Lib.hid hnext
          rw [← HTK.out] at HO
          clear hnext k3 k4
          go_wp2_with (at_builtin; refine wpList_append_run rfl _ _ 27 rfl _ _ v' w' rfl rfl hrun ?_)
          clear hrun
          go_wp2
          go_roundg (gk - 1)
          case measure => have h := HG.out.2; omega
          case rel => exact ⟨p + 1, by go_num, HO, Lib.hid ⟨by omega, by have h := HG.out.2; omega⟩⟩
        · have hpi : ¬ (p : Int) + 1 ≤ (n : Int) := by omega
          have HF := Lib.hid (show OwnQ w (leastV n m) u16 wr from by
            have h := HO.out
            rw [show p = n by have := HG.out.1; omega, List.take_of_length_le (by rw [HL.out]; exact Nat.le_refl _)] at h
            exact h.from HB.out)
          go_wp2
          go_ret2
          exact ⟨_, rfl, HF.out⟩
/-- What Least answers. -/
def leastA (z : Option (Nat × Mat)) : List (Int × Int) × Int := match z with
  | none => ([], 1)
  | some (n, m) => if emptyP (some (n, m)) = true then ([], 14) else (leastV n m, 0)
theorem least_any (v : Value) (z : Option (Nat × Mat)) (w : World) (hz : ZoneV 108 w v z) (hk : ∀ n m, z = some (n, m) → m = (fun _ _ => 0) ∨ ClosedZ n m) : Calls Try.prog 9 #[v] w (LstEnds w (leastA z).1 (leastA z).2) := by
  match z, hz with
  | none, h =>
    have h : v = .pointer none := h
    subst h
    exact least_nil w
  | some (n, m), ⟨b, e, hn, hr, hm⟩ =>
    subst e
    rcases hk n m rfl with rfl | hc
    · have he : emptyP (some (n, fun _ _ => 0)) = true := by show decide ((0 : Int) < 1) = true; decide
      unfold leastA
      simp only
      rw [if_pos he]
      exact least_empty b n _ w hm he
    · unfold leastA
      simp only
      rw [if_neg (by rw [hc.full.notEmpty]; decide)]
      exact least_full b n m w hn hm hc

end Go.Proofs.Ytfegongaflekiaa
