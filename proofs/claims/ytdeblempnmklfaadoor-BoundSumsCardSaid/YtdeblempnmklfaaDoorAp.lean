/- append onto nil, the source nil or not; rows of bounds of differences of the call's own. -/
import Derived.Test.YtdeblempnmklfaaDoorMem
import Derived.WalkKit
namespace Go.Proofs.YtdeblempnmklfaaDoor
open Go Go.RowKit
set_option linter.unusedVariables false
set_option linter.unusedSimpArgs false

theorem run_append_fresh {P : Program} (w : World) (t ty e : TypeId) (i : TypeInfo) (z : Value) (size bytes : Nat) (ht : P.underlying t = some (.slice e)) (hi : P.info? e = some i) (hz : i.zero = some z)
    (hsize : i.size = size) (hby : i.bytes = bytes) (hzs : z.cells.size = size) (hsz : 0 < size) (A : Option Addr) (m c : Nat) (news : List Value) (hl : news.length = m * size) (h0 : A = none → m = 0)
    (hnews : ∀ ad, A = some ad → ∀ j u, news[j]? = some u → w.cell? (ad.add j) = some u) (h1 : ∀ u ∈ news, u.oneCell' = true) (h63 : m ≤ maxLen) (hbytes : m * bytes ≤ 140737488355328) :
    ∃ v' w', (Builtin.append_ #[t, t] ty #[.slice none 0 0, .slice A m c]).run P w = .ok v' w' ∧ w'.ownsRow w.heap.size e size v' m news ∧ w.grownBy w' none := by
  match A, h0, hnews with
  | none, h0, _ =>
    obtain rfl := h0 rfl
    have hn : news = [] := by simpa using hl
    subst hn
    refine ⟨.slice none 0 0, w, ?_, World.ownsRow_nil w _ _ _, ⟨rfl, rfl, rfl, Nat.le_refl _, fun _ _ _ => rfl⟩⟩
    simp [Builtin.append_, run_underlying ht, sizeOf, typeInfo, hi, Builtin.lenOf, Builtin.firstCells]
  | some ad, _, hnews =>
    obtain ⟨v', w', h2, h3, h4, _⟩ := run_append_own w w.heap.size t ty e i z size bytes ht hi hz hsize hby hzs hsz (.slice none 0 0) 0 [] (World.ownsRow_nil w _ _ _) ad m c news hl (hnews ad rfl) h1 (by omega) (by rw [Nat.zero_add]; exact hbytes) (Nat.le_refl _)
    refine ⟨v', w', h2, by simpa using h3, h4⟩

/-- An append whose run is known. -/
theorem wpList_append_run {P : Program} {w : World} {ops : Array Oper} {rest : List Oper} {o : Oper} {a : Act} {Q : Exit → Act → World → Prop} (hgd : o.guard = none) (s x : Operand) (t : TypeId)
    (ho : o.op = .call { callee := .builtin .append, args := #[s, x], argTypes := #[t, t] }) (v0 x0 v' : Value) (w' : World) (hs : a.eval s = v0) (hx : a.eval x = x0)
    (hr : (Builtin.append_ #[t, t] o.type #[v0, x0]).run P w = .ok v' w') (h : wpList P ops Q rest (a.put o.dst v') w') : wpList P ops Q (o :: rest) a w := by
  refine wpList_plain hgd fun _ hK => ?_
  unfold Oper.wp execOp
  simp only [ho, resolve, invoke, builtin, Sem.run_bind, Sem.run_pure, Result.andThen_ok, List.map_toArray, List.map_cons, List.map_nil, hs, hx, hr]
  exact hK _ _ h

/-- The cells of bounds of differences. -/
def lcells (l : List (Int × Int × Int)) : List Value := l.flatMap fun x => [.int .i64 x.1, .int .i64 x.2.1, .int .i32 x.2.2]
theorem lcells_length (l : List (Int × Int × Int)) : (lcells l).length = l.length * 3 := by
  induction l with
  | nil => rfl
  | cons x l ih => simp only [lcells, List.flatMap_cons, List.length_append, List.length_cons, List.length_nil] at ih ⊢; omega
theorem lcells_at : ∀ (l : List (Int × Int × Int)) (j : Nat), j < l.length → (lcells l)[j * 3]? = some (.int .i64 (l.getD j (0, 0, 0)).1) ∧ (lcells l)[j * 3 + 1]? = some (.int .i64 (l.getD j (0, 0, 0)).2.1) ∧ (lcells l)[j * 3 + 2]? = some (.int .i32 (l.getD j (0, 0, 0)).2.2)
  | [], j, h => by simp at h
  | x :: l, 0, _ => by simp [lcells]
  | x :: l, j + 1, h => by
    have ih := lcells_at l j (by simpa using h)
    have e : ∀ q, (lcells (x :: l))[(j + 1) * 3 + q]? = (lcells l)[j * 3 + q]? := fun q => by
      rw [show lcells (x :: l) = [.int .i64 x.1, .int .i64 x.2.1, .int .i32 x.2.2] ++ lcells l from rfl, List.getElem?_append_right (by simp; omega)]
      congr 1
      simp; omega
    have e0 := e 0
    rw [Nat.add_zero, Nat.add_zero] at e0
    rw [e0, e 1, e 2, List.getD_cons_succ]
    exact ih
theorem lcells_one (l : List (Int × Int × Int)) : ∀ u ∈ lcells l, u.oneCell' = true := by
  intro u hu
  obtain ⟨x, _, h⟩ := List.mem_flatMap.1 hu
  simp only [List.mem_cons, List.mem_nil_iff, or_false] at h
  rcases h with rfl | rfl | rfl <;> rfl
theorem lcells_index (l : List (Int × Int × Int)) (j : Nat) (u : Value) (h : (lcells l)[j]? = some u) : ∃ p, p < l.length ∧ ((j = p * 3 ∧ u = .int .i64 (l.getD p (0, 0, 0)).1) ∨ (j = p * 3 + 1 ∧ u = .int .i64 (l.getD p (0, 0, 0)).2.1) ∨ (j = p * 3 + 2 ∧ u = .int .i32 (l.getD p (0, 0, 0)).2.2)) := by
  have hj : j < l.length * 3 := by
    rw [← lcells_length]
    exact (List.getElem?_eq_some_iff.1 h).1
  have hp : j / 3 < l.length := by omega
  obtain ⟨h0, h1, h2⟩ := lcells_at l (j / 3) hp
  refine ⟨j / 3, hp, ?_⟩
  rcases (show j % 3 = 0 ∨ j % 3 = 1 ∨ j % 3 = 2 by omega) with e | e | e
  · left
    have e' : j = j / 3 * 3 := by omega
    rw [← e'] at h0
    rw [h0] at h
    exact ⟨e', (Option.some.inj h).symm⟩
  · right; left
    have e' : j = j / 3 * 3 + 1 := by omega
    rw [← e'] at h1
    rw [h1] at h
    exact ⟨e', (Option.some.inj h).symm⟩
  · right; right
    have e' : j = j / 3 * 3 + 2 := by omega
    rw [← e'] at h2
    rw [h2] at h
    exact ⟨e', (Option.some.inj h).symm⟩
theorem lims_news {w : World} {A : Option Addr} {l : List (Int × Int × Int)} (h : Lims w A l) : ∀ ad, A = some ad → ∀ j u, (lcells l)[j]? = some u → w.cell? (ad.add j) = some u := by
  intro ad e j u hu
  obtain ⟨p, hp, hc⟩ := lcells_index l j u hu
  obtain ⟨b, off, e', c0, c1, c2⟩ := h p hp
  subst e
  simp only [Option.some.injEq] at e'
  subst e'
  have ea : ∀ k, (⟨b, off, none⟩ : Addr).add k = ⟨b, off + k, none⟩ := fun k => by unfold Addr.add; split <;> simp_all
  rw [ea]
  rcases hc with ⟨rfl, rfl⟩ | ⟨rfl, rfl⟩ | ⟨rfl, rfl⟩
  · exact c0
  · rw [← Nat.add_assoc]; exact c1
  · rw [← Nat.add_assoc]; exact c2
theorem ints_news {w : World} {k : IntKind} {A : Option Addr} {xs : List Int} (h : Ints w k A xs) : ∀ ad, A = some ad → ∀ j u, (vals k xs)[j]? = some u → w.cell? (ad.add j) = some u := by
  intro ad e j u hu
  have hj : j < xs.length := by
    have := (List.getElem?_eq_some_iff.1 hu).1
    simpa [vals] using this
  obtain ⟨b, off, e', c0⟩ := h j hj
  subst e
  simp only [Option.some.injEq] at e'
  subst e'
  have ea : ∀ k, (⟨b, off, none⟩ : Addr).add k = ⟨b, off + k, none⟩ := fun k => by unfold Addr.add; split <;> simp_all
  rw [ea, c0]
  simp [vals, List.getElem?_map, List.getElem?_eq_getElem hj] at hu
  rw [← hu, List.getD_eq_getElem?_getD, List.getElem?_eq_getElem hj]
  rfl
/-- A row of the call's own of bounds of differences. -/
def OwnL (w : World) (base : Nat) (e : TypeId) (v : Value) (l : List (Int × Int × Int)) : Prop := w.ownsRow base e 3 v l.length (lcells l)
theorem OwnL.lims {w : World} {base : Nat} {e : TypeId} {v : Value} {l : List (Int × Int × Int)} (h : OwnL w base e v l) : ∃ A cap, v = .slice A l.length cap ∧ Lims w A l := by
  obtain ⟨hl, h⟩ := h
  rcases h with ⟨rfl, h0⟩ | ⟨g, cap, cur, rfl, _, h1, _, _, _, h2⟩
  · refine ⟨none, 0, by rw [h0], fun j hj => by omega⟩
  · refine ⟨some ⟨g, 0, none⟩, cap, rfl, fun j hj => ?_⟩
    have hc : ∀ q u, (lcells l)[q]? = some u → w.cell? ⟨g, q, none⟩ = some u := fun q u hu => by
      have hq : q < l.length * 3 := by rw [← lcells_length]; exact (List.getElem?_eq_some_iff.1 hu).1
      rw [← h2, List.getElem?_take, if_pos hq] at hu
      simp only [World.cell?, h1]
      simpa using hu
    obtain ⟨a0, a1, a2⟩ := lcells_at l j hj
    exact ⟨g, 0, rfl, by rw [Nat.zero_add]; exact hc _ _ a0, by rw [Nat.zero_add]; exact hc _ _ a1, by rw [Nat.zero_add]; exact hc _ _ a2⟩
theorem OwnL.later {w w' : World} {base : Nat} {e : TypeId} {v : Value} {l : List (Int × Int × Int)} (h : OwnL w base e v l) (hb : Below w.heap.size w w') : OwnL w' base e v l := by
  obtain ⟨hl, h⟩ := h
  refine ⟨hl, ?_⟩
  rcases h with h | ⟨g, cap, cur, e1, e2, h1, h2⟩
  · exact .inl h
  · exact .inr ⟨g, cap, cur, e1, e2, (hb.block g (Array.getElem?_eq_some_iff.1 h1).1).trans h1, h2⟩

end Go.Proofs.YtdeblempnmklfaaDoor
