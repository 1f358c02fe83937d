/- Texts of ours, laid together: Row12, Ap, Row3, Zv, Bit, Da, Gm, Row5, Row13, Jn, Nb. -/
import Derived.Deep.Slices
import Derived.Deep.Fields
import Derived.SizedLaws
import Derived.WalkKit
import Derived.Test.YtmelblnflalanaaGreatProg
import Derived.KernelRfl
import Derived.Lib.Hide
import Derived.Deep.LoopGhost
import Derived.Deep.QuietTactic
import Derived.BigQuiet
import Derived.BigRegion
import Derived.StillTailTactics
import Derived.Deep.OwnRows
import Derived.Test.YtmelblnflalanaaGreatMg4
/- How a valuation, a fraction, two numbers and guards come in, in one struct. -/
namespace Go.Proofs.YtmelblnflalanaaGreat
open Go Go.ChangeShapes Go.WideShapes Go.ChangeAt Go.RowKit
set_option linter.unusedVariables false
set_option linter.unusedSimpArgs false

section
variable {H : Type} {enc : TypeId × Value → H} {P : Program} {W W' : World}
/-- A slice of fractions that came in. -/
theorem rats_opened {t e : TypeId} {f0 f1 : Field} {v : Value} {fuel : Nat} {x : DataW H × List MemPlace} (ht : P.underlying t = some (.slice e)) (he : P.underlying e = some (.struct #[f0, f1]))
    (k0 : P.underlying f0.type = some (.int .i64)) (k1 : P.underlying f1.type = some (.int .i64)) (hone : Deep.oneCellFields P #[f0, f1] = true) (hc : P.cellsOf e = 2)
    (hf : DataW.trod enc P W 0 (fun _ => true) true fuel t [v] = some x) :
    ∃ A c xs, v = .slice A xs.length c ∧ RatsA W A xs ∧ All64v xs ∧ RowD x.1 (xs.map (·.1)) := by
  rcases Deep.open_slice ht hf with ⟨hcs, hx⟩ | ⟨a, len, cap, m, n, D, Pl, hcs, _, hle, _, hmm, hx, hi⟩
  · simp only [List.cons.injEq, and_true] at hcs
    subst hcs
    exact ⟨none, 0, [], rfl, fun j hj => by simp at hj, fun j hj => by simp at hj, .inl rfl⟩
  · simp only [List.cons.injEq, and_true] at hcs
    subst hcs
    have hlm : len ≤ m := by rw [hmm]; split <;> omega
    have each : ∀ i, i < m → ∃ q : Int × Int, W.cell? (a.add (i * 2)) = some (.int .i64 q.1) ∧ W.cell? (a.add (i * 2 + 1)) = some (.int .i64 q.2) ∧
        (Lit.int .i64 q.1).wf = true ∧ (Lit.int .i64 q.2).wf = true := by
      intro i him
      obtain ⟨cs', h1, h2⟩ := hi i him
      rw [hc] at h1
      obtain ⟨_, hlen, hcell⟩ := World.cells?_some h1
      obtain ⟨xs, k, _, hxy, _, hxl, hfd⟩ := DataW.trod_struct he h2
      obtain ⟨o0, c0⟩ := Deep.hone_of hone 0 f0 rfl
      obtain ⟨o1, c1⟩ := Deep.hone_of hone 1 f1 rfl
      match xs, hxl, cs', hlen with
      | [y0, y1], _, [v0, v1], _ =>
        have g0 := hfd 0 f0 rfl
        have g1 := hfd 1 f1 rfl
        simp [o0, o1, c0, c1] at g0 g1
        have e0 := hcell 0 (by omega)
        have e1 := hcell 1 (by omega)
        rw [Deep.add_add] at e0 e1
        obtain ⟨z0, q0, _, w0⟩ := DataW.trod_int k0 g0
        obtain ⟨z1, q1, _, w1⟩ := DataW.trod_int k1 g1
        simp at q0 q1
        subst q0 q1
        exact ⟨(z0, z1), by simpa using e0, by simpa using e1, w0, w1⟩
    obtain ⟨q, hq⟩ := Deep.choose_lt each
    refine ⟨some a, cap, (List.range len).map q, by simp, ?_, ?_, .inr ⟨_, _, by rw [hx], by simp⟩⟩
    · intro j hj
      simp only [List.length_map, List.length_range] at hj
      obtain ⟨h0, h1, _⟩ := hq j (by omega)
      have hsp : a.spot = none := by
        have := World.cell?_spot (hq 0 (by omega)).1
        simpa [Addr.add] using this
      obtain ⟨b, off, spot⟩ := a
      simp only at hsp
      subst hsp
      have eg : ((List.range len).map q).getD j (0, 0) = q j := by simp [List.getD_eq_getElem?_getD, hj]
      rw [eg]
      have ea : ∀ k, (⟨b, off, none⟩ : Addr).add k = ⟨b, off + k, none⟩ := fun k => by unfold Addr.add; split <;> simp_all
      rw [ea] at h0 h1
      exact ⟨b, off, rfl, h0, by rw [Nat.add_assoc]; exact h1⟩
    · intro j hj
      simp only [List.length_map, List.length_range] at hj
      have eg : ((List.range len).map q).getD j (0, 0) = q j := by simp [List.getD_eq_getElem?_getD, hj]
      rw [eg]
      exact ⟨came_i64 (hq j (by omega)).2.2.1, came_i64 (hq j (by omega)).2.2.2⟩
theorem slice_opened {t e : TypeId} {v : Value} {fuel : Nat} {x : DataW H × List MemPlace} (ht : P.underlying t = some (.slice e)) (hf : DataW.trod enc P W 0 (fun _ => true) true fuel t [v] = some x) : ∃ A l c, v = .slice A l c := by
  rcases Deep.open_slice ht hf with ⟨hcs, hx⟩ | ⟨a, len, cap, m, n, D, Pl, hcs, _⟩
  · simp only [List.cons.injEq, and_true] at hcs
    exact ⟨_, _, _, hcs⟩
  · simp only [List.cons.injEq, and_true] at hcs
    exact ⟨_, _, _, hcs⟩
/-- A struct's parts, of as many cells as they have. -/
theorem open_parts {t : TypeId} {fs : Array Field} {v : Value} {d : DataW H} {ps : List MemPlace} {r : Reach} {base : Nat} (hs : P.underlying t = some (.struct fs))
    (hval : Value.okWide P W r base t v) (h : DataW.Trod enc P W 0 (fun _ => true) true t v d ps) :
    ∃ (l : List Value) (ys : List (DataW H × List MemPlace)) (n : Nat), v = .agg l.toArray ∧ l.length = P.cellsOf t ∧ d = .agg (ys.map (·.1)) ∧ ys.length = fs.size ∧
      ∀ (j : Nat) (f : Field), fs[j]? = some f → DataW.trod enc P W 0 (fun _ => true) true n f.type ((l.drop f.offset).take (P.cellsOf f.type)) = ys[j]? := by
  obtain ⟨cs, rfl, hsz⟩ := okWide_struct hs hval
  obtain ⟨l⟩ := cs
  obtain ⟨fuel, hf⟩ := h
  obtain ⟨ys, n, _, hx, _, hlen, hg⟩ := DataW.trod_struct hs hf
  simp only [Prod.mk.injEq] at hx
  exact ⟨l, ys, n, rfl, hsz, hx.1, hlen, fun j f hj => hg j f hj⟩
theorem came_moved {t e g : TypeId} {f0 f1 f2 f3 f4 q0 q1 : Field} {v : Value} {d : DataW H} {ps : List MemPlace} {r : Reach} {base : Nat} (hs : P.underlying t = some (.struct #[f0, f1, f2, f3, f4]))
    (ho : f0.offset = 0 ∧ f1.offset = 1 ∧ f2.offset = 3 ∧ f3.offset = 4 ∧ f4.offset = 5) (hz : P.cellsOf f0.type = 1 ∧ P.cellsOf f1.type = 2 ∧ P.cellsOf f2.type = 1 ∧ P.cellsOf f3.type = 1 ∧ P.cellsOf f4.type = 1) (hC : P.cellsOf t = 6)
    (u0 : P.underlying f0.type = some (.slice e)) (u1 : P.underlying f1.type = some (.struct #[q0, q1])) (u2 : P.underlying f2.type = some (.int .i64)) (u3 : P.underlying f3.type = some (.int .i64)) (u4 : P.underlying f4.type = some (.slice g))
    (he : P.underlying e = some (.struct #[q0, q1])) (k0 : P.underlying q0.type = some (.int .i64)) (k1 : P.underlying q1.type = some (.int .i64)) (hone : Deep.oneCellFields P #[q0, q1] = true) (hc : P.cellsOf e = 2)
    (hval : Value.okWide P W r base t v) (h : DataW.Trod enc P W 0 (fun _ => true) true t v d ps) :
    ∃ (A : Option Addr) (c : Nat) (xs : List (Int × Int)) (d1 d2 ck nn : Int) (G : Option Addr) (gl gc : Nat) (ys : List (DataW H × List MemPlace)) (y0 : DataW H × List MemPlace), v = .agg #[.slice A xs.length c, .int .i64 d1, .int .i64 d2, .int .i64 ck, .int .i64 nn, .slice G gl gc] ∧ RatsA W A xs ∧ All64v xs ∧ I64 d1 ∧ I64 d2 ∧ I64 ck ∧ I64 nn ∧
      d = .agg (ys.map (·.1)) ∧ ys[0]? = some y0 ∧ RowD y0.1 (xs.map (·.1)) ∧ ∃ y4 n, ys[4]? = some y4 ∧ DataW.trod enc P W 0 (fun _ => true) true n f4.type [.slice G gl gc] = some y4 := by
  obtain ⟨l, ys, n, rfl, hl, rfl, hy, hf⟩ := open_parts hs hval h
  obtain ⟨o0, o1, o2, o3, o4⟩ := ho
  obtain ⟨z0, z1, z2, z3, z4⟩ := hz
  rw [hC] at hl
  have hy : ys.length = 5 := hy
  match l, hl, ys, hy with
  | [a0, a1, a2, a3, a4, a5], _, [y0, y1, y2, y3, y4], _ =>
    have g0 := hf 0 f0 rfl
    have g1 := hf 1 f1 rfl
    have g2 := hf 2 f2 rfl
    have g3 := hf 3 f3 rfl
    have g4 := hf 4 f4 rfl
    rw [o0, z0] at g0
    rw [o1, z1] at g1
    rw [o2, z2] at g2
    rw [o3, z3] at g3
    rw [o4, z4] at g4
    simp only [List.drop_succ_cons, List.drop_zero, List.take_succ_cons, List.take_zero, List.getElem?_cons_zero, List.getElem?_cons_succ] at g0 g1 g2 g3 g4
    obtain ⟨A, c, xs, rfl, hI, h64, hD⟩ := rats_opened u0 he k0 k1 hone hc g0
    obtain ⟨G, gl, gc, rfl⟩ := slice_opened u4 g4
    obtain ⟨n2, e2, _, w2⟩ := DataW.trod_int u2 g2
    obtain ⟨n3, e3, _, w3⟩ := DataW.trod_int u3 g3
    simp only [List.cons.injEq, and_true] at e2 e3
    subst e2; subst e3
    obtain ⟨us, k, _, hxy, _, hxl, hfd⟩ := DataW.trod_struct u1 g1
    obtain ⟨p0, c0⟩ := Deep.hone_of hone 0 q0 rfl
    obtain ⟨p1, c1⟩ := Deep.hone_of hone 1 q1 rfl
    match us, hxl with
    | [x0, x1], _ =>
      have b0 := hfd 0 q0 rfl
      have b1 := hfd 1 q1 rfl
      simp [p0, p1, c0, c1] at b0 b1
      obtain ⟨d1, r0, _, v0⟩ := DataW.trod_int k0 b0
      obtain ⟨d2, r1, _, v1⟩ := DataW.trod_int k1 b1
      simp at r0 r1
      subst r0 r1
      exact ⟨A, c, xs, d1, d2, n2, n3, G, gl, gc, _, y0, rfl, hI, h64, came_i64 v0, came_i64 v1, came_i64 w2, came_i64 w3, rfl, rfl, hD, y4, n, rfl, g4⟩
theorem came_shortM {ts : List TypeId} {ds : List (DataW H)} {ys : List (DataW H × List MemPlace)} {j : Nat} {t : TypeId} {fs : Array Field} {g : Field} {f : TypeId} {y : DataW H × List MemPlace} {xs : List (Int × Int)} {m : Nat} (hsz : (DataW.weightsEach P ts ds).all (· ≤ reachBytes) = true) (ht : ts[j]? = some t) (hd : ds[j]? = some (.agg (ys.map (·.1))))
    (hu : P.underlying t = some (.struct fs)) (hg : fs[0]? = some g) (hy : ys[0]? = some y) (he : P.underlying g.type = some (.slice f)) (hm : P.bytesOf f = m) (h : RowD y.1 (xs.map (·.1))) : xs.length * m ≤ 140737488351232 := by
  have := came_shortF hsz ht hd hu hg hy he hm h
  rwa [List.length_map] at this
end

end Go.Proofs.YtmelblnflalanaaGreat

/- append onto nil, the source nil or not; rows of bounds of differences of the call's own. -/
namespace Go.Proofs.YtmelblnflalanaaGreat
open Go Go.RowKit
set_option linter.unusedVariables false
set_option linter.unusedSimpArgs false

theorem run_append_fresh {P : Program} (w : World) (t ty e : TypeId) (i : TypeInfo) (z : Value) (size bytes : Nat) (ht : P.underlying t = some (.slice e)) (hi : P.info? e = some i) (hz : i.zero = some z)
    (hsize : i.size = size) (hby : i.bytes = bytes) (hzs : z.cells.size = size) (hsz : 0 < size) (A : Option Addr) (m c : Nat) (news : List Value) (hl : news.length = m * size) (h0 : A = none → m = 0)
    (hnews : ∀ ad, A = some ad → ∀ j u, news[j]? = some u → w.cell? (ad.add j) = some u) (h1 : ∀ u ∈ news, u.oneCell' = true) (h63 : m ≤ maxLen) (hbytes : m * bytes ≤ 140737488355328) :
    ∃ v' w', (Builtin.append_ #[t, t] ty #[.slice none 0 0, .slice A m c]).run P w = .ok v' w' ∧ w'.ownsRow w.heap.size e size v' m news ∧ w.grownBy w' none := by
  match A, h0, hnews with
  | none, h0, _ =>
    obtain rfl := h0 rfl
    have hn : news = [] := by simpa using hl
    subst hn
    refine ⟨.slice none 0 0, w, ?_, World.ownsRow_nil w _ _ _, ⟨rfl, rfl, rfl, Nat.le_refl _, fun _ _ _ => rfl⟩⟩
    simp [Builtin.append_, run_underlying ht, sizeOf, typeInfo, hi, Builtin.lenOf, Builtin.firstCells]
  | some ad, _, hnews =>
    obtain ⟨v', w', h2, h3, h4, _⟩ := run_append_own w w.heap.size t ty e i z size bytes ht hi hz hsize hby hzs hsz (.slice none 0 0) 0 [] (World.ownsRow_nil w _ _ _) ad m c news hl (hnews ad rfl) h1 (by omega) (by rw [Nat.zero_add]; exact hbytes) (Nat.le_refl _)
    refine ⟨v', w', h2, by simpa using h3, h4⟩

/-- An append whose run is known. -/
theorem wpList_append_run {P : Program} {w : World} {ops : Array Oper} {rest : List Oper} {o : Oper} {a : Act} {Q : Exit → Act → World → Prop} (hgd : o.guard = none) (s x : Operand) (t : TypeId)
    (ho : o.op = .call { callee := .builtin .append, args := #[s, x], argTypes := #[t, t] }) (v0 x0 v' : Value) (w' : World) (hs : a.eval s = v0) (hx : a.eval x = x0)
    (hr : (Builtin.append_ #[t, t] o.type #[v0, x0]).run P w = .ok v' w') (h : wpList P ops Q rest (a.put o.dst v') w') : wpList P ops Q (o :: rest) a w := by
  refine wpList_plain hgd fun _ hK => ?_
  unfold Oper.wp execOp
  simp only [ho, resolve, invoke, builtin, Sem.run_bind, Sem.run_pure, Result.andThen_ok, List.map_toArray, List.map_cons, List.map_nil, hs, hx, hr]
  exact hK _ _ h

/-- The cells of bounds of differences. -/
def lcells (l : List (Int × Int × Int)) : List Value := l.flatMap fun x => [.int .i64 x.1, .int .i64 x.2.1, .int .i32 x.2.2]
theorem lcells_length (l : List (Int × Int × Int)) : (lcells l).length = l.length * 3 := by
  induction l with
  | nil => rfl
  | cons x l ih => simp only [lcells, List.flatMap_cons, List.length_append, List.length_cons, List.length_nil] at ih ⊢; omega
theorem lcells_at : ∀ (l : List (Int × Int × Int)) (j : Nat), j < l.length → (lcells l)[j * 3]? = some (.int .i64 (l.getD j (0, 0, 0)).1) ∧ (lcells l)[j * 3 + 1]? = some (.int .i64 (l.getD j (0, 0, 0)).2.1) ∧ (lcells l)[j * 3 + 2]? = some (.int .i32 (l.getD j (0, 0, 0)).2.2)
  | [], j, h => by simp at h
  | x :: l, 0, _ => by simp [lcells]
  | x :: l, j + 1, h => by
    have ih := lcells_at l j (by simpa using h)
    have e : ∀ q, (lcells (x :: l))[(j + 1) * 3 + q]? = (lcells l)[j * 3 + q]? := fun q => by
      rw [show lcells (x :: l) = [.int .i64 x.1, .int .i64 x.2.1, .int .i32 x.2.2] ++ lcells l from rfl, List.getElem?_append_right (by simp; omega)]
      congr 1
      simp; omega
    have e0 := e 0
    rw [Nat.add_zero, Nat.add_zero] at e0
    rw [e0, e 1, e 2, List.getD_cons_succ]
    exact ih
theorem lcells_one (l : List (Int × Int × Int)) : ∀ u ∈ lcells l, u.oneCell' = true := by
  intro u hu
  obtain ⟨x, _, h⟩ := List.mem_flatMap.1 hu
  simp only [List.mem_cons, List.mem_nil_iff, or_false] at h
  rcases h with rfl | rfl | rfl <;> rfl
theorem lcells_index (l : List (Int × Int × Int)) (j : Nat) (u : Value) (h : (lcells l)[j]? = some u) : ∃ p, p < l.length ∧ ((j = p * 3 ∧ u = .int .i64 (l.getD p (0, 0, 0)).1) ∨ (j = p * 3 + 1 ∧ u = .int .i64 (l.getD p (0, 0, 0)).2.1) ∨ (j = p * 3 + 2 ∧ u = .int .i32 (l.getD p (0, 0, 0)).2.2)) := by
  have hj : j < l.length * 3 := by
    rw [← lcells_length]
    exact (List.getElem?_eq_some_iff.1 h).1
  have hp : j / 3 < l.length := by omega
  obtain ⟨h0, h1, h2⟩ := lcells_at l (j / 3) hp
  refine ⟨j / 3, hp, ?_⟩
  rcases (show j % 3 = 0 ∨ j % 3 = 1 ∨ j % 3 = 2 by omega) with e | e | e
  · left
    have e' : j = j / 3 * 3 := by omega
    rw [← e'] at h0
    rw [h0] at h
    exact ⟨e', (Option.some.inj h).symm⟩
  · right; left
    have e' : j = j / 3 * 3 + 1 := by omega
    rw [← e'] at h1
    rw [h1] at h
    exact ⟨e', (Option.some.inj h).symm⟩
  · right; right
    have e' : j = j / 3 * 3 + 2 := by omega
    rw [← e'] at h2
    rw [h2] at h
    exact ⟨e', (Option.some.inj h).symm⟩
theorem lims_news {w : World} {A : Option Addr} {l : List (Int × Int × Int)} (h : Lims w A l) : ∀ ad, A = some ad → ∀ j u, (lcells l)[j]? = some u → w.cell? (ad.add j) = some u := by
  intro ad e j u hu
  obtain ⟨p, hp, hc⟩ := lcells_index l j u hu
  obtain ⟨b, off, e', c0, c1, c2⟩ := h p hp
  subst e
  simp only [Option.some.injEq] at e'
  subst e'
  have ea : ∀ k, (⟨b, off, none⟩ : Addr).add k = ⟨b, off + k, none⟩ := fun k => by unfold Addr.add; split <;> simp_all
  rw [ea]
  rcases hc with ⟨rfl, rfl⟩ | ⟨rfl, rfl⟩ | ⟨rfl, rfl⟩
  · exact c0
  · rw [← Nat.add_assoc]; exact c1
  · rw [← Nat.add_assoc]; exact c2
theorem ints_news {w : World} {k : IntKind} {A : Option Addr} {xs : List Int} (h : Ints w k A xs) : ∀ ad, A = some ad → ∀ j u, (vals k xs)[j]? = some u → w.cell? (ad.add j) = some u := by
  intro ad e j u hu
  have hj : j < xs.length := by
    have := (List.getElem?_eq_some_iff.1 hu).1
    simpa [vals] using this
  obtain ⟨b, off, e', c0⟩ := h j hj
  subst e
  simp only [Option.some.injEq] at e'
  subst e'
  have ea : ∀ k, (⟨b, off, none⟩ : Addr).add k = ⟨b, off + k, none⟩ := fun k => by unfold Addr.add; split <;> simp_all
  rw [ea, c0]
  simp [vals, List.getElem?_map, List.getElem?_eq_getElem hj] at hu
  rw [← hu, List.getD_eq_getElem?_getD, List.getElem?_eq_getElem hj]
  rfl
/-- A row of the call's own of bounds of differences. -/
def OwnL (w : World) (base : Nat) (e : TypeId) (v : Value) (l : List (Int × Int × Int)) : Prop := w.ownsRow base e 3 v l.length (lcells l)
theorem OwnL.lims {w : World} {base : Nat} {e : TypeId} {v : Value} {l : List (Int × Int × Int)} (h : OwnL w base e v l) : ∃ A cap, v = .slice A l.length cap ∧ Lims w A l := by
  obtain ⟨hl, h⟩ := h
  rcases h with ⟨rfl, h0⟩ | ⟨g, cap, cur, rfl, _, h1, _, _, _, h2⟩
  · refine ⟨none, 0, by rw [h0], fun j hj => by omega⟩
  · refine ⟨some ⟨g, 0, none⟩, cap, rfl, fun j hj => ?_⟩
    have hc : ∀ q u, (lcells l)[q]? = some u → w.cell? ⟨g, q, none⟩ = some u := fun q u hu => by
      have hq : q < l.length * 3 := by rw [← lcells_length]; exact (List.getElem?_eq_some_iff.1 hu).1
      rw [← h2, List.getElem?_take, if_pos hq] at hu
      simp only [World.cell?, h1]
      simpa using hu
    obtain ⟨a0, a1, a2⟩ := lcells_at l j hj
    exact ⟨g, 0, rfl, by rw [Nat.zero_add]; exact hc _ _ a0, by rw [Nat.zero_add]; exact hc _ _ a1, by rw [Nat.zero_add]; exact hc _ _ a2⟩
theorem OwnL.later {w w' : World} {base : Nat} {e : TypeId} {v : Value} {l : List (Int × Int × Int)} (h : OwnL w base e v l) (hb : Below w.heap.size w w') : OwnL w' base e v l := by
  obtain ⟨hl, h⟩ := h
  refine ⟨hl, ?_⟩
  rcases h with h | ⟨g, cap, cur, e1, e2, h1, h2⟩
  · exact .inl h
  · exact .inr ⟨g, cap, cur, e1, e2, (hb.block g (Array.getElem?_eq_some_iff.1 h1).1).trans h1, h2⟩

end Go.Proofs.YtmelblnflalanaaGreat

/- A slice of structs of three numbers that came in; rows of 32 bits. -/
namespace Go.Proofs.YtmelblnflalanaaGreat
open Go Go.ChangeShapes Go.WideShapes Go.ChangeAt Go.RowKit
set_option linter.unusedVariables false
set_option linter.unusedSimpArgs false

section
variable {H : Type} {enc : TypeId × Value → H} {P : Program} {W W' : World}
/-- A slice of bounds of differences that came in. -/
theorem came_lims {t e : TypeId} {f0 f1 f2 : Field} {v : Value} {d : DataW H} {ps : List MemPlace} {r : Reach} {base : Nat} (ht : P.underlying t = some (.slice e)) (he : P.underlying e = some (.struct #[f0, f1, f2]))
    (k0 : P.underlying f0.type = some (.int .i64)) (k1 : P.underlying f1.type = some (.int .i64)) (k2 : P.underlying f2.type = some (.int .i32)) (hone : Deep.oneCellFields P #[f0, f1, f2] = true) (hc : P.cellsOf e = 3)
    (hval : Value.okWide P W r base t v) (h : DataW.Trod enc P W 0 (fun _ => true) true t v d ps) :
    ∃ A c xs, v = .slice A xs.length c ∧ Lims W A xs ∧ (∀ q, q < xs.length → (Lit.int .i64 (xs.getD q (0, 0, 0)).1).wf = true ∧ (Lit.int .i64 (xs.getD q (0, 0, 0)).2.1).wf = true ∧ (Lit.int .i32 (xs.getD q (0, 0, 0)).2.2).wf = true) ∧
      (xs = [] ∨ ∃ el sp, d = .slice el sp ∧ el.length = xs.length) := by
  obtain ⟨a0, len, cap, rfl⟩ := okWide_slice ht hval
  obtain ⟨fuel, hf⟩ := h
  rcases Deep.open_slice ht hf with ⟨hcs, hx⟩ | ⟨a, len', cap', m, n, D, Pl, hcs, _, hle, _, hmm, hx, hi⟩
  · simp [Value.cells] at hcs
    obtain ⟨rfl, rfl, rfl⟩ := hcs
    exact ⟨none, 0, [], rfl, fun j hj => by simp at hj, by simp, .inl rfl⟩
  · simp [Value.cells] at hcs
    obtain ⟨rfl, rfl, rfl⟩ := hcs
    have hlm : len ≤ m := by rw [hmm]; split <;> omega
    have each : ∀ i, i < m → ∃ q : Int × Int × Int, W.cell? (a.add (i * 3)) = some (.int .i64 q.1) ∧ W.cell? (a.add (i * 3 + 1)) = some (.int .i64 q.2.1) ∧ W.cell? (a.add (i * 3 + 2)) = some (.int .i32 q.2.2) ∧
        (Lit.int .i64 q.1).wf = true ∧ (Lit.int .i64 q.2.1).wf = true ∧ (Lit.int .i32 q.2.2).wf = true := by
      intro i him
      obtain ⟨cs', h1, h2⟩ := hi i him
      rw [hc] at h1
      obtain ⟨_, hlen, hcell⟩ := World.cells?_some h1
      obtain ⟨xs, k, _, hxy, _, hxl, hfd⟩ := DataW.trod_struct he h2
      obtain ⟨o0, c0⟩ := Deep.hone_of hone 0 f0 rfl
      obtain ⟨o1, c1⟩ := Deep.hone_of hone 1 f1 rfl
      obtain ⟨o2, c2⟩ := Deep.hone_of hone 2 f2 rfl
      match xs, hxl, cs', hlen with
      | [y0, y1, y2], _, [v0, v1, v2], _ =>
        have g0 := hfd 0 f0 rfl
        have g1 := hfd 1 f1 rfl
        have g2 := hfd 2 f2 rfl
        simp [o0, o1, o2, c0, c1, c2] at g0 g1 g2
        have e0 := hcell 0 (by omega)
        have e1 := hcell 1 (by omega)
        have e2 := hcell 2 (by omega)
        rw [Deep.add_add] at e0 e1 e2
        obtain ⟨z0, q0, _, w0⟩ := DataW.trod_int k0 g0
        obtain ⟨z1, q1, _, w1⟩ := DataW.trod_int k1 g1
        obtain ⟨z2, q2, _, w2⟩ := DataW.trod_int k2 g2
        simp at q0 q1 q2
        subst q0 q1 q2
        exact ⟨(z0, z1, z2), by simpa using e0, by simpa using e1, by simpa using e2, w0, w1, w2⟩
    obtain ⟨q, hq⟩ := Deep.choose_lt each
    simp only [Prod.mk.injEq] at hx
    refine ⟨some a, cap, (List.range len).map q, by simp, ?_, ?_, .inr ⟨_, _, hx.1, by simp⟩⟩
    · intro j hj
      simp only [List.length_map, List.length_range] at hj
      obtain ⟨h0, h1, h2, _⟩ := hq j (by omega)
      have hsp : a.spot = none := by
        have := World.cell?_spot (hq 0 (by omega)).1
        simpa [Addr.add] using this
      obtain ⟨b, off, spot⟩ := a
      simp only at hsp
      subst hsp
      have eg : ((List.range len).map q).getD j (0, 0, 0) = q j := by simp [List.getD_eq_getElem?_getD, hj]
      rw [eg]
      have ea : ∀ k, (⟨b, off, none⟩ : Addr).add k = ⟨b, off + k, none⟩ := fun k => by unfold Addr.add; split <;> simp_all
      rw [ea] at h0 h1 h2
      exact ⟨b, off, rfl, h0, by rw [Nat.add_assoc]; exact h1, by rw [Nat.add_assoc]; exact h2⟩
    · intro j hj
      simp only [List.length_map, List.length_range] at hj
      have eg : ((List.range len).map q).getD j (0, 0, 0) = q j := by simp [List.getD_eq_getElem?_getD, hj]
      rw [eg]
      exact (hq j (by omega)).2.2.2
theorem came_lim32 {xs : List (Int × Int × Int)} (h : ∀ q, q < xs.length → (Lit.int .i64 (xs.getD q (0, 0, 0)).1).wf = true ∧ (Lit.int .i64 (xs.getD q (0, 0, 0)).2.1).wf = true ∧ (Lit.int .i32 (xs.getD q (0, 0, 0)).2.2).wf = true) :
    ∀ q, q < xs.length → -2147483648 ≤ (xs.getD q (0, 0, 0)).2.2 ∧ (xs.getD q (0, 0, 0)).2.2 ≤ 2147483647 := fun q hq => bounds_i32 (h q hq).2.2
/-- Its length is within what the machine can hold. -/
theorem came_short3 {ts : List TypeId} {ds : List (DataW H)} {j : Nat} {t e : TypeId} {d : DataW H} {xs : List (Int × Int × Int)} {m : Nat} (hsz : (DataW.weightsEach P ts ds).all (· ≤ reachBytes) = true) (ht : ts[j]? = some t) (hd : ds[j]? = some d)
    (hu : P.underlying t = some (.slice e)) (hm : P.bytesOf e = m) (h : xs = [] ∨ ∃ el sp, d = .slice el sp ∧ el.length = xs.length) : xs.length * m ≤ 140737488351232 := by
  rcases h with rfl | ⟨el, sp, rfl, he⟩
  · simp
  · have h1 := sized_slice hsz ht hd hu
    rw [hm] at h1
    have h2 : el.length * m ≤ (el.length + sp.length) * m := Nat.mul_le_mul_right _ (by omega)
    rw [← he]
    exact Nat.le_trans h2 h1
/-- The bounds of 32 bits without a sign. -/
theorem came_u32 {xs : List Int} (h : ∀ n ∈ xs, (Lit.int .u32 n).wf = true) : ∀ q, q < xs.length → 0 ≤ xs.getD q 0 ∧ xs.getD q 0 ≤ 4294967295 := by
  intro q hq
  have h1 := h (xs.getD q 0) (by rw [List.getD_eq_getElem?_getD, List.getElem?_eq_getElem hq]; exact List.getElem_mem hq)
  exact bounds_u32 h1
end

end Go.Proofs.YtmelblnflalanaaGreat

/- The zero values of the great types. -/
namespace Go.Proofs.YtmelblnflalanaaGreat
open Go Go.RowKit
end Go.Proofs.YtmelblnflalanaaGreat

/- The lowest bit of numbers of 64 bits. -/
namespace Go.Proofs.YtmelblnflalanaaGreat
open Go Go.RowKit

theorem i64_and1 (x : Int) : bits .and .i64 x 1 = x % 2 := by
  show IntKind.i64.wrap ((BitVec.ofInt 64 x &&& BitVec.ofInt 64 1).toNat : Int) = _
  rw [BitVec.toNat_and]
  have e1 : (BitVec.ofInt 64 1).toNat = 1 := by decide
  rw [e1, Nat.and_one_is_mod, BitVec.toNat_ofInt, IntKind.wrap_i64]
  omega
theorem i64_and_and1 (x y : Int) : bits .and .i64 (bits .and .i64 x y) 1 = (x % 2) * (y % 2) := by
  rw [i64_and1]
  have h0 : bits .and .i64 x y = IntKind.i64.wrap ((BitVec.ofInt 64 x &&& BitVec.ofInt 64 y).toNat : Int) := rfl
  rw [h0, BitVec.toNat_and, IntKind.wrap_i64]
  have h := Nat.and_mod_two_pow (a := (BitVec.ofInt 64 x).toNat) (b := (BitVec.ofInt 64 y).toNat) (n := 1)
  simp only [Nat.pow_one] at h
  generalize hz : (BitVec.ofInt 64 x).toNat &&& (BitVec.ofInt 64 y).toNat = z at h ⊢
  have hx : (BitVec.ofInt 64 x).toNat % 2 = (x % 2).toNat := by rw [BitVec.toNat_ofInt]; omega
  have hy : (BitVec.ofInt 64 y).toNat % 2 = (y % 2).toNat := by rw [BitVec.toNat_ofInt]; omega
  rw [hx, hy] at h
  clear hx hy hz h0
  have cx : x % 2 = 0 ∨ x % 2 = 1 := by omega
  have cy : y % 2 = 0 ∨ y % 2 = 1 := by omega
  rcases cx with cx | cx <;> rcases cy with cy | cy <;> rw [cx, cy] at h ⊢
  · have h2 : z % 2 = 0 := h
    omega
  · have h2 : z % 2 = 0 := h
    omega
  · have h2 : z % 2 = 0 := h
    omega
  · have h2 : z % 2 = 1 := h
    omega
theorem i64_andNot1 (x : Int) (h0 : -9223372036854775808 ≤ x) (h1 : x ≤ 9223372036854775807) : bits .andNot .i64 x 1 = x - x % 2 := by
  show IntKind.i64.wrap ((BitVec.ofInt 64 x &&& ~~~ BitVec.ofInt 64 1).toNat : Int) = _
  have e : BitVec.ofInt 64 x &&& ~~~ BitVec.ofInt 64 1 = (BitVec.ofInt 64 x >>> 1) <<< 1 := by
    ext i hi
    simp only [BitVec.getElem_and, BitVec.getElem_not, BitVec.getElem_shiftLeft]
    by_cases h : i = 0
    · subst h; simp; 
    · have : (BitVec.ofInt 64 1)[i] = false := by
        have : BitVec.ofInt 64 1 = BitVec.twoPow 64 0 := by decide
        rw [this, BitVec.getElem_twoPow]; simp; omega
      rw [this]
      have : ¬ i < 1 := by omega
      simp [this]
      rw [← BitVec.getLsbD_eq_getElem]
      congr 1; omega
  rw [e, BitVec.toNat_shiftLeft, BitVec.toNat_ushiftRight, BitVec.toNat_ofInt, IntKind.wrap_i64, Nat.shiftLeft_eq, Nat.shiftRight_eq_div_pow]
  omega
end Go.Proofs.YtmelblnflalanaaGreat

/- Small functions of bound and dbm: what each call computes. -/
namespace Go.Proofs.YtmelblnflalanaaGreat
open Go.RowKit
set_option linter.unusedVariables false
set_option linter.unusedSimpArgs false
attribute [local go_sem] min_ints max_ints

set_option maxHeartbeats 400000 in
theorem few_any (n : Int) (w : World) :
    Calls Tryz.prog 71 #[.int .i64 n] w fun e w' => e = .returned (.bool (decide (0 ≤ n ∧ n ≤ 8))) ∧ w = w' := by
  by_cases h0 : 0 ≤ n
  · have hd : decide ((0 : Int) ≤ n) = true := decide_eq_true h0
    by_cases h1 : n ≤ 8
    all_goals
      go_enter Tryz.func71, Tryz.ntmps71
      go_wp2
      go_ret
      exact ⟨by simp [*], rfl⟩
  · have hd : decide ((0 : Int) ≤ n) = false := decide_eq_false h0
    go_enter Tryz.func71, Tryz.ntmps71
    go_wp2
    go_ret
    exact ⟨by simp [*], rfl⟩

set_option maxHeartbeats 400000 in
set_option maxRecDepth 100000 in
theorem keep_some (b i j : Nat) (n : Nat) (m : Nat → Nat → Int) (x : Int) (w : World) (hi : i < 9) (hj : j < 9) (h : MatAt w b 166 .i64 n m)
    (hx : (x == 2147483647) = false) (hx2 : (x != 2147483647) = true) (hx3 : -2147483648 ≤ x) (hx4 : x ≤ 2147483647) :
    Calls Tryz.prog 74 #[.pointer (some ⟨b, 0, none⟩), .int .i64 i, .int .i64 j, .int .i32 x] w fun e w' =>
      e = .returned (.tuple #[]) ∧ w' = (w.setCell ⟨b, 1 + i * 9 + j, none⟩ (.int .i64 (min (m i j) x))).drew := by
  have hc := h.cell i j hi hj
  have hf := h.frozen (1 + i * 9 + j)
  clear h
  go_enter Tryz.func74, Tryz.ntmps74
  go_wp2
  go_region
  go_wp2
  go_end0
  exact ⟨rfl, rfl⟩

set_option maxHeartbeats 400000 in
theorem keep_inf (p i j : Value) (w : World) :
    Calls Tryz.prog 74 #[p, i, j, .int .i32 2147483647] w fun e w' => e = .returned (.tuple #[]) ∧ w = w' := by
  go_enter Tryz.func74, Tryz.ntmps74
  go_wp2
  go_end0
  exact ⟨rfl, rfl⟩

theorem open_cells (n : Nat) : (Tryz.zeroCells166).setIfInBounds 0 (Value.int .i64 n) = matCells .i64 n (fun _ _ => 0) := by
  rfl

theorem keep_any (b : Nat) (x y : Int) (i j : Nat) (n : Nat) (m : Mat) (bd : Int) (w : World) (hi : i < 9) (hj : j < 9) (h : MatAt w b 166 .i64 n m) (hx : x = i) (hy : y = j)
    (h3 : -2147483648 ≤ bd) (h4 : bd ≤ 2147483647) :
    Calls Tryz.prog 74 #[.pointer (some ⟨b, 0, none⟩), .int .i64 x, .int .i64 y, .int .i32 bd] w fun e w' => e = .returned (.tuple #[]) ∧ Only b w w' ∧ MatAt w' b 166 .i64 n (keepM m i j bd) := by
  subst hx hy
  by_cases e : bd = 2147483647
  · subst e
    refine (keep_inf _ _ _ w).mono ?_
    rintro e w' ⟨rfl, rfl⟩
    exact ⟨rfl, Only.refl _ _, by unfold keepM; rw [if_pos rfl]; exact h⟩
  · refine (keep_some b i j n m bd w hi hj h (by simp [e]) (by simp [e]) h3 h4).mono ?_
    rintro e' w' ⟨rfl, rfl⟩
    refine ⟨rfl, ((Only.refl _ _).setCell _ _).drew, ?_⟩
    unfold keepM; rw [if_neg e]
    exact h.set i j hi hj _

/-- What the outer loop of 'open' has made. -/
def OpenRel (w0 : World) (n i j : Nat) (wr : World) : Prop := Below w0.heap.size w0 wr ∧ MatAt wr w0.heap.size 166 .i64 n (filled (openM n) i j) ∧ i ≤ n + 1 ∧ j ≤ n + 1

theorem open_start (w : World) (n : Nat) : OpenRel w n 0 0 (w.alloc (.cells ((Tryz.zeroCells166).setIfInBounds 0 (Value.int .i64 n)) 166)) := by
  refine ⟨(Below.refl _ _).alloc (Nat.le_refl _) _, ?_, by omega, by omega⟩
  unfold MatAt
  rw [heap_alloc_new, open_cells]
  rw [filled_zero]

theorem open_step {w wr : World} {n i j : Nat} (h : OpenRel w n i j wr) (hn : n ≤ 8) (hi : i < n + 1) (hj : j < n + 1) (v : Int) (hv : v = openM n i j) :
    OpenRel w n i (j + 1) (wr.setCell ⟨w.heap.size, 1 + i * 9 + j, none⟩ (.int .i64 v)) := by
  subst hv
  refine ⟨h.1.setCell (Nat.le_refl _) _, ?_, h.2.2.1, by omega⟩
  have := h.2.1.set i j (by omega) (by omega) (openM n i j)
  rw [upd_filled] at this
  exact this
theorem open_step2 {w wr : World} {n i j : Nat} (h : OpenRel w n i j wr) (hn : n ≤ 8) (hi : i < n + 1) (hj : j < n + 1) (u v : Int) (hv : v = openM n i j) :
    OpenRel w n i (j + 1) ((wr.setCell ⟨w.heap.size, 1 + i * 9 + j, none⟩ (.int .i64 u)).setCell ⟨w.heap.size, 1 + i * 9 + j, none⟩ (.int .i64 v)) := by
  subst hv
  refine ⟨(h.1.setCell (Nat.le_refl _) _).setCell (Nat.le_refl _) _, ?_, h.2.2.1, by omega⟩
  have := (h.2.1.set i j (by omega) (by omega) u).set i j (by omega) (by omega) (openM n i j)
  rw [upd_upd, upd_filled] at this
  exact this
theorem open_row {w wr : World} {n i : Nat} (h : OpenRel w n i (n + 1) wr) (hi : i < n + 1) : OpenRel w n (i + 1) 0 wr :=
  ⟨h.1, by rw [filled_row (openM_inside n)]; exact h.2.1, by omega, by omega⟩
theorem open_done {w wr : World} {n : Nat} (h : OpenRel w n (n + 1) 0 wr) : MatAt wr w.heap.size 166 .i64 n (openM n) := by
  have := h.2.1
  rw [filled_done (openM_inside n)] at this
  exact this

set_option maxRecDepth 100000 in
set_option maxHeartbeats 1000000 in
theorem open_any (n : Nat) (w : World) (hn : n ≤ 8) :
    Calls Tryz.prog 72 #[.int .i64 n] w fun e w' => e = .returned (.pointer (some ⟨w.heap.size, 0, none⟩)) ∧ Below w.heap.size w w' ∧ MatAt w' w.heap.size 166 .i64 n (openM n) := by
  have H0 := Lib.hid (open_start w n)
  go_enter Tryz.func72, Tryz.ntmps72
  go_wp2
  go_loopg [11] (n + 1) (fun k v wr => ∃ i : Nat, v = .int .i64 i ∧ OpenRel w n i 0 wr ∧ k + i = n + 1)
  case atStart => exact ⟨0, by simp, H0.out, by omega⟩
  case round =>
    clear H0
    obtain ⟨i, rfl, H, hk⟩ := hrel
    have HK := Lib.hid hk
    clear hk
    have HH := Lib.hid H
    by_cases hi : i < n + 1
    · clear H
      have hii : (i : Int) < (n : Int) + 1 := by omega
      go_wp2
      go_loopg [16] (n + 1) (fun k v wr => ∃ j : Nat, v = .int .i64 j ∧ OpenRel w n i j wr ∧ k + j = n + 1)
      case atStart => exact ⟨0, by simp, HH.out, by omega⟩
      case round =>
        clear HH
        obtain ⟨j, rfl, H, hk2⟩ := hrel
        have HK2 := Lib.hid hk2
        clear hk2
        have hf := H.2.1.frozen (1 + i * 9 + j)
        have hcell := H.2.1.cell i j (by omega) 
        have HH := Lib.hid H
        clear H hcell
        by_cases hj : j < n + 1
        · have hjj : (j : Int) < (n : Int) + 1 := by omega
          have hlt : w.heap.size < wr.heap.size := HH.out.2.1.lt
          have hcell := HH.out.2.1.cell i j (by omega) (by omega)
          by_cases e1 : i = j
          · have t1 : ((i : Int) == (j : Int)) = true := by simp [e1]
            have E1 := Lib.hid e1
            clear e1
            go_wp2
            go_roundg (gk - 1)
            case measure => have := HK2.out; omega
            case rel => exact ⟨j + 1, by go_num, open_step2 HH.out hn hi hj _ _ (by simp [openM, E1.out]; omega), by have := HK2.out; omega⟩
          · have t1 : ((i : Int) == (j : Int)) = false := by simp; omega
            by_cases e2 : i = 0
            · have t2 : ((i : Int) == 0) = true := by simp [e2]
              have E1 := Lib.hid e1
              have E2 := Lib.hid e2
              clear e1 e2
              go_wp2
              go_roundg (gk - 1)
              case measure => have := HK2.out; omega
              case rel => exact ⟨j + 1, by go_num, open_step2 HH.out hn hi hj _ _ (by simp [openM, E2.out]; omega), by have := HK2.out; omega⟩
            · have t2 : ((i : Int) == 0) = false := by simp; omega
              have E1 := Lib.hid e1
              have E2 := Lib.hid e2
              clear e1 e2
              go_wp2
              go_roundg (gk - 1)
              case measure => have := HK2.out; omega
              case rel => exact ⟨j + 1, by go_num, open_step HH.out hn hi hj _ (by have := E1.out; have := E2.out; simp [openM, none62, *]; omega), by have := HK2.out; omega⟩
        · have hjj : ¬ (j : Int) < (n : Int) + 1 := by omega
          go_wp2
          go_roundg (n - i)
          case measure => have := HK.out; omega
          case rel =>
            have : j = n + 1 := by have := HH.out.2.2.2; omega
            subst this
            exact ⟨i + 1, by go_num, open_row HH.out hi, by have := HK.out; omega⟩
    · have hii : ¬ (i : Int) < (n : Int) + 1 := by omega
      go_wp2
      go_ret
      have : i = n + 1 := by have := H.2.2.1; omega
      subst this
      exact ⟨rfl, H.1, open_done H⟩

end Go.Proofs.YtmelblnflalanaaGreat

/- Guards in memory: a copy with marked room behind its end; it is as it was. -/
namespace Go.Proofs.YtmelblnflalanaaGreat
open Go Go.RowKit
set_option linter.unusedVariables false
set_option linter.unusedSimpArgs false

/-- A slice of guards that can be read: four cells each. -/
def Gds (w : World) (A : Option Addr) (xs : List (Int × Int × Int × Int)) : Prop :=
  ∀ j, j < xs.length → ∃ b off, A = some ⟨b, off, none⟩ ∧ w.cell? ⟨b, off + j * 4, none⟩ = some (.int .i64 (xs.getD j (0, 0, 0, 0)).1) ∧ w.cell? ⟨b, off + j * 4 + 1, none⟩ = some (.int .i64 (xs.getD j (0, 0, 0, 0)).2.1) ∧
    w.cell? ⟨b, off + j * 4 + 2, none⟩ = some (.int .u8 (xs.getD j (0, 0, 0, 0)).2.2.1) ∧ w.cell? ⟨b, off + j * 4 + 3, none⟩ = some (.int .i64 (xs.getD j (0, 0, 0, 0)).2.2.2)
theorem Gds.below {w w' : World} {A : Option Addr} {xs : List (Int × Int × Int × Int)} (h : Gds w A xs) (hb : Below w.heap.size w w') : Gds w' A xs := fun j hj => by
  obtain ⟨b, off, e, h1, h2, h3, h4⟩ := h j hj
  exact ⟨b, off, e, (hb.cell (p := ⟨b, _, none⟩) (World.block_lt_of_cell? w _ h1)).trans h1, (hb.cell (p := ⟨b, _, none⟩) (World.block_lt_of_cell? w _ h2)).trans h2, (hb.cell (p := ⟨b, _, none⟩) (World.block_lt_of_cell? w _ h3)).trans h3, (hb.cell (p := ⟨b, _, none⟩) (World.block_lt_of_cell? w _ h4)).trans h4⟩
theorem gds_at {w : World} {A : Option Addr} {l : List (Int × Int × Int × Int)} {p : Nat} (h : Gds w A l) (hp : p < l.length) : ∃ b off x y z t, A = some ⟨b, off, none⟩ ∧ l.getD p (0, 0, 0, 0) = (x, y, z, t) ∧ w.cell? ⟨b, off + p * 4, none⟩ = some (.int .i64 x) ∧ w.cell? ⟨b, off + p * 4 + 1, none⟩ = some (.int .i64 y) ∧ w.cell? ⟨b, off + p * 4 + 2, none⟩ = some (.int .u8 z) ∧ w.cell? ⟨b, off + p * 4 + 3, none⟩ = some (.int .i64 t) := by
  obtain ⟨b, off, e, a1, a2, a3, a4⟩ := h p hp
  exact ⟨b, off, _, _, _, _, e, rfl, a1, a2, a3, a4⟩

/-- Block g begins with N guards. -/
def GRow (w : World) (g : Nat) (e : TypeId) (N : Nat) (f : Nat → Int × Int × Int × Int) : Prop :=
  ∃ cur : Array Value, w.heap[g]? = some (.cells cur e (0, 0)) ∧ cur.size = N * 4 ∧ ∀ j, j < N → cur[j * 4]? = some (.int .i64 (f j).1) ∧ cur[j * 4 + 1]? = some (.int .i64 (f j).2.1) ∧ cur[j * 4 + 2]? = some (.int .u8 (f j).2.2.1) ∧ cur[j * 4 + 3]? = some (.int .i64 (f j).2.2.2)
section
variable {w w' : World} {g : Nat} {e : TypeId} {N : Nat} {f : Nat → Int × Int × Int × Int}
theorem GRow.lt (h : GRow w g e N f) : g < w.heap.size := by obtain ⟨cur, h1, _⟩ := h; exact (Array.getElem?_eq_some_iff.1 h1).1
theorem GRow.cell (h : GRow w g e N f) (j : Nat) (hj : j < N) : w.cell? ⟨g, j * 4, none⟩ = some (.int .i64 (f j).1) ∧ w.cell? ⟨g, j * 4 + 1, none⟩ = some (.int .i64 (f j).2.1) ∧ w.cell? ⟨g, j * 4 + 2, none⟩ = some (.int .u8 (f j).2.2.1) ∧ w.cell? ⟨g, j * 4 + 3, none⟩ = some (.int .i64 (f j).2.2.2) := by
  obtain ⟨cur, h1, _, h2⟩ := h
  obtain ⟨a, b, c, d⟩ := h2 j hj
  exact ⟨by simp [World.cell?, h1, a], by simp [World.cell?, h1, b], by simp [World.cell?, h1, c], by simp [World.cell?, h1, d]⟩
theorem GRow.frozen (h : GRow w g e N f) (o : Nat) : w.frozen? ⟨g, o, none⟩ = false := by
  obtain ⟨cur, h1, _⟩ := h
  simp [World.frozen?, h1]
theorem GRow.later (h : GRow w g e N f) (hb : Below w.heap.size w w') : GRow w' g e N f := by
  have hlt := h.lt
  obtain ⟨cur, h1, h2⟩ := h
  exact ⟨cur, (hb.block g hlt).trans h1, h2⟩
theorem GRow.drewN (h : GRow w g e N f) (q : Nat) : GRow (w.drewN q) g e N f := h
theorem GRow.congr {f' : Nat → Int × Int × Int × Int} (h : GRow w g e N f) (hf : ∀ j, j < N → f j = f' j) : GRow w g e N f' := by
  obtain ⟨cur, h1, h2, h3⟩ := h
  exact ⟨cur, h1, h2, fun j hj => by rw [← hf j hj]; exact h3 j hj⟩
theorem GRow.set (h : GRow w g e N f) (p : Nat) (hp : p < N) (x y z t : Int) :
    GRow ((((w.setCell ⟨g, p * 4, none⟩ (.int .i64 x)).setCell ⟨g, p * 4 + 1, none⟩ (.int .i64 y)).setCell ⟨g, p * 4 + 2, none⟩ (.int .u8 z)).setCell ⟨g, p * 4 + 3, none⟩ (.int .i64 t)) g e N (fun j => if j = p then (x, y, z, t) else f j) := by
  obtain ⟨cur, h1, h2, h3⟩ := h
  refine ⟨(((cur.setIfInBounds (p * 4) (.int .i64 x)).setIfInBounds (p * 4 + 1) (.int .i64 y)).setIfInBounds (p * 4 + 2) (.int .u8 z)).setIfInBounds (p * 4 + 3) (.int .i64 t), ?_, by simpa using h2, fun j hj => ?_⟩
  · simp [World.setCell, Array.getElem?_modify, h1]
  · obtain ⟨a, b, c, d⟩ := h3 j hj
    by_cases e : j = p
    · subst e
      simp only [if_true]
      refine ⟨?_, ?_, ?_, ?_⟩
      · rw [Array.getElem?_setIfInBounds, if_neg (by omega), Array.getElem?_setIfInBounds, if_neg (by omega), Array.getElem?_setIfInBounds, if_neg (by omega), Array.getElem?_setIfInBounds, if_pos rfl, if_pos (by omega)]
      · rw [Array.getElem?_setIfInBounds, if_neg (by omega), Array.getElem?_setIfInBounds, if_neg (by omega), Array.getElem?_setIfInBounds, if_pos rfl, if_pos (by simp; omega)]
      · rw [Array.getElem?_setIfInBounds, if_neg (by omega), Array.getElem?_setIfInBounds, if_pos rfl, if_pos (by simp; omega)]
      · rw [Array.getElem?_setIfInBounds, if_pos rfl, if_pos (by simp; omega)]
    · simp only [if_neg e]
      refine ⟨?_, ?_, ?_, ?_⟩ <;>
        rw [Array.getElem?_setIfInBounds, if_neg (by omega), Array.getElem?_setIfInBounds, if_neg (by omega), Array.getElem?_setIfInBounds, if_neg (by omega), Array.getElem?_setIfInBounds, if_neg (by omega)] <;> assumption
theorem GRow.gds (h : GRow w g e N f) (l : List (Int × Int × Int × Int)) (hl : l.length ≤ N) (hf : ∀ j, j < l.length → f j = l.getD j (0, 0, 0, 0)) : Gds w (some ⟨g, 0, none⟩) l := fun j hj => by
  obtain ⟨a, b, c, d⟩ := h.cell j (by omega)
  rw [hf j hj] at a b c d
  exact ⟨g, 0, rfl, by rw [Nat.zero_add]; exact a, by rw [Nat.zero_add]; exact b, by rw [Nat.zero_add]; exact c, by rw [Nat.zero_add]; exact d⟩
end
theorem infoG : (Tryz.prog.info? 66).map (fun i => (i.zero, i.size, i.bytes)) = some (some (.agg #[.int .i64 0, .int .i64 0, .int .u8 0, .int .i64 0]), 4, 32) := by kernel_rfl
theorem grow_made (w : World) (e : TypeId) (N : Nat) : GRow (w.alloc (.cells (madeCells #[.int .i64 0, .int .i64 0, .int .u8 0, .int .i64 0] (N * 4)) e)) w.heap.size e N (fun _ => (0, 0, 0, 0)) := by
  refine ⟨_, heap_alloc_new _ _, by simp [madeCells], fun j hj => ?_⟩
  have h0 : j * 4 < N * 4 := by omega
  have h1 : j * 4 + 1 < N * 4 := by omega
  have h2 : j * 4 + 2 < N * 4 := by omega
  have h3 : j * 4 + 3 < N * 4 := by omega
  have e0 : j * 4 % 4 = 0 := by omega
  have e1 : (j * 4 + 1) % 4 = 1 := by omega
  have e2 : (j * 4 + 2) % 4 = 2 := by omega
  have e3 : (j * 4 + 3) % 4 = 3 := by omega
  simp [madeCells, h0, h1, h2, h3, e0, e1, e2, e3]

/-- The copy, and its marks. -/
def handG (l : List (Int × Int × Int × Int)) (j : Nat) : Int × Int × Int × Int := if j < l.length then l.getD j (0, 0, 0, 0) else (0, 0, 0, -700 - j + l.length)
def handGUp (l : List (Int × Int × Int × Int)) (p j : Nat) : Int × Int × Int × Int := if j < p then handG l j else (0, 0, 0, 0)
def HandGR (w0 : World) (l : List (Int × Int × Int × Int)) (p : Nat) (wr : World) : Prop := Below w0.heap.size w0 wr ∧ GRow wr w0.heap.size 66 (l.length + 9) (handGUp l p)
theorem HandGR.next {w0 wr : World} {l : List (Int × Int × Int × Int)} {p : Nat} (h : HandGR w0 l p wr) (hp : p < l.length + 9) (x y z t : Int) (hx : handG l p = (x, y, z, t)) :
    HandGR w0 l (p + 1) ((((wr.setCell ⟨w0.heap.size, p * 4, none⟩ (.int .i64 x)).setCell ⟨w0.heap.size, p * 4 + 1, none⟩ (.int .i64 y)).setCell ⟨w0.heap.size, p * 4 + 2, none⟩ (.int .u8 z)).setCell ⟨w0.heap.size, p * 4 + 3, none⟩ (.int .i64 t)) := by
  refine ⟨(((h.1.setCell (p := ⟨w0.heap.size, _, none⟩) (Nat.le_refl _) _).setCell (p := ⟨w0.heap.size, _, none⟩) (Nat.le_refl _) _).setCell (p := ⟨w0.heap.size, _, none⟩) (Nat.le_refl _) _).setCell (p := ⟨w0.heap.size, _, none⟩) (Nat.le_refl _) _, (h.2.set p hp x y z t).congr fun j hj => ?_⟩
  unfold handGUp
  by_cases e : j = p
  · subst e; rw [if_pos rfl, if_pos (by omega), hx]
  · rw [if_neg e]
    by_cases e2 : j < p
    · rw [if_pos e2, if_pos (by omega)]
    · rw [if_neg e2, if_neg (by omega)]

set_option maxHeartbeats 1000000 in
set_option maxRecDepth 100000 in
theorem handgds_any (A : Option Addr) (c : Nat) (l : List (Int × Int × Int × Int)) (w : World) (hI : Gds w A l) (hmax : l.length ≤ 4398046510976) :
    Calls Tryz.prog 9 #[.slice A l.length c] w fun e w' => e = .returned (.slice (some ⟨w.heap.size, 0, none⟩) l.length (l.length + 9)) ∧ HandGR w l (l.length + 9) w' := by
  have HI := Lib.hid hI
  obtain ⟨i0, hi1, hz0, hz1, hz2⟩ := info_parts infoG
  have hmk := fun w => run_make (P := Tryz.prog) w 25 66 i0 (.agg #[.int .i64 0, .int .i64 0, .int .u8 0, .int .i64 0]) Tryz.underlying25 hi1 hz0 .i64 .i64 ((l.length : Int) + 9) ((l.length : Int) + 9) (by omega) (Int.le_refl _) (by rw [hz2]; omega) (by omega)
  rw [hz1, show ((l.length : Int) + 9).toNat = l.length + 9 by omega] at hmk
  have HS := Lib.hid (show HandGR w l 0 (w.alloc (.cells (madeCells #[.int .i64 0, .int .i64 0, .int .u8 0, .int .i64 0] ((l.length + 9) * 4)) 66)) from ⟨(Below.refl _ _).alloc (Nat.le_refl _) _, (grow_made w _ _).congr fun j _ => by unfold handGUp; rw [if_neg (by omega)]⟩)
  clear hI hi1 hz0 hz1 hz2
  go_enter Tryz.func9, Tryz.ntmps9
  go_wp2
  generalize w.alloc (.cells (madeCells #[.int .i64 0, .int .i64 0, .int .u8 0, .int .i64 0] ((l.length + 9) * 4)) 66) = w1 at *
  go_loopg [4] l.length (fun g v wr => ∃ p : Nat, v = .int .i64 p ∧ Hid (HandGR w l p wr) ∧ Hid (p ≤ l.length ∧ g + p = l.length))
  case atStart => exact ⟨0, by simp, HS.out, by omega, by omega⟩
  case round =>
    clear HS
    obtain ⟨p, rfl, HR, HG⟩ := hrel
    by_cases hp : p < l.length
    · obtain ⟨b, off, rfl, c1, c2, c3, c4⟩ := HI.out.below HR.out.1 p hp
      obtain ⟨x, hx⟩ : ∃ x, x = l.getD p (0, 0, 0, 0) := ⟨_, rfl⟩
      rw [← hx] at c1 c2 c3 c4
      have HX := Lib.hid hx
      clear hx
      obtain ⟨xi, xj, xb, xn⟩ := x
      simp only at c1 c2 c3 c4
      obtain ⟨d1, d2, d3, d4⟩ := HR.out.2.cell p (by omega)
      have f1 := HR.out.2.frozen (p * 4)
      have f2 := HR.out.2.frozen (p * 4 + 1)
      have f3 := HR.out.2.frozen (p * 4 + 2)
      have f4 := HR.out.2.frozen (p * 4 + 3)
      have hpi : (p : Int) < (l.length : Int) + 9 := by omega
      have hlt := HR.out.2.lt
      have HN := Lib.hid (HR.out.next (by omega) xi xj xb xn (by unfold handG; rw [if_pos hp, HX.out]))
      go_wp2
      go_roundg (gk - 1)
      case measure => have h := HG.out; omega
      case rel => exact ⟨p + 1, by go_num, HN.out, by omega, by have h := HG.out; omega⟩
    · have e : p = l.length := by have := HG.out.1; omega
      subst e
      have HR0 := Lib.hid HR.out
      clear HR HG
      go_wp2
      go_loopg [5] 9 (fun g v wr => ∃ p : Nat, v = .int .i64 p ∧ Hid (HandGR w l p wr) ∧ Hid (l.length ≤ p ∧ p ≤ l.length + 9 ∧ g + p = l.length + 9))
      case atStart => exact ⟨l.length, by simp, HR0.out, by omega, by omega, by omega⟩
      case round =>
        clear HR0
        obtain ⟨p, rfl, HR, HG⟩ := hrel
        by_cases hp : p < l.length + 9
        · obtain ⟨d1, d2, d3, d4⟩ := HR.out.2.cell p hp
          have f1 := HR.out.2.frozen (p * 4)
          have f2 := HR.out.2.frozen (p * 4 + 1)
          have f3 := HR.out.2.frozen (p * 4 + 2)
          have f4 := HR.out.2.frozen (p * 4 + 3)
          have hpi : (p : Int) < (l.length : Int) + 9 := by omega
          have hlt := HR.out.2.lt
          have g1 : IntKind.i64.wrap (-700 - (p : Int)) = -700 - (p : Int) := IntWalk.i64_in _ (by omega)
          have g2 : IntKind.i64.wrap (-700 - (p : Int) + (l.length : Int)) = -700 - (p : Int) + (l.length : Int) := IntWalk.i64_in _ (by omega)
          have HN := Lib.hid (HR.out.next hp 0 0 0 (-700 - (p : Int) + (l.length : Int)) (by unfold handG; rw [if_neg (by have := HG.out.1; omega)]))
          go_wp2
          go_roundg (gk - 1)
          case measure => have h := HG.out; omega
          case rel => exact ⟨p + 1, by go_num, HN.out, by have h := HG.out; omega, by omega, by have h := HG.out; omega⟩
        · have e : p = l.length + 9 := by have := HG.out; omega
          subst e
          have hpi : ¬ (((l.length + 9 : Nat) : Int) < (l.length : Int) + 9) := by omega
          go_wp2
          go_ret
          exact ⟨by first | rfl | (congr 2; omega), HR.out⟩
theorem HandGR.gds {w0 w : World} {l : List (Int × Int × Int × Int)} (h : HandGR w0 l (l.length + 9) w) : Gds w (some ⟨w0.heap.size, 0, none⟩) l :=
  h.2.gds l (by omega) fun j hj => by unfold handGUp handG; rw [if_pos (by omega), if_pos hj]

set_option maxRecDepth 100000 in
set_option maxHeartbeats 1000000 in
theorem samegds_eq (A : Option Addr) (c : Nat) (B : Option Addr) (d : Nat) (l : List (Int × Int × Int × Int)) (w : World) (hI : Gds w A l) (hI' : Gds w B l) (hmax : l.length ≤ 4398046510976) :
    Calls Tryz.prog 37 #[.slice A l.length c, .slice B l.length d] w fun e w' => e = .returned (.bool true) ∧ ∃ q, w' = w.drewN q := by
  have HI := Lib.hid hI
  have HI' := Lib.hid hI'
  have t1 : ((l.length : Int) != (l.length : Int)) = false := by simp
  clear hI hI'
  go_enter Tryz.func37, Tryz.ntmps37
  go_wp2
  go_loopg [5] l.length (fun g v wr => ∃ p : Nat, v = .int .i64 p ∧ (∃ q, wr = w.drewN q) ∧ Hid (p ≤ l.length ∧ g + p = l.length))
  case atStart => exact ⟨0, by simp, ⟨0, rfl⟩, by omega, by omega⟩
  case round =>
    obtain ⟨p, rfl, ⟨q, rfl⟩, HG⟩ := hrel
    by_cases hp : p < l.length
    · obtain ⟨b, off, rfl, c1, c2, c3, c4⟩ := HI.out p hp
      obtain ⟨b', off', rfl, d1, d2, d3, d4⟩ := HI'.out p hp
      have hpi : (p : Int) < (l.length : Int) := by omega
      obtain ⟨x, hx⟩ : ∃ x, x = l.getD p (0, 0, 0, 0) := ⟨_, rfl⟩
      rw [← hx] at c1 c2 c3 c4 d1 d2 d3 d4
      clear hx
      obtain ⟨xi, xj, xb, xn⟩ := x
      simp only at c1 c2 c3 c4 d1 d2 d3 d4
      go_wp2_with fail
      go_quiet (fail)
      go_wp2
      go_roundg (gk - 1)
      case measure => have h := HG.out; omega
      case rel => exact ⟨p + 1, by go_num, ⟨_, rfl⟩, by omega, by have h := HG.out; omega⟩
    · have e : p = l.length := by have := HG.out.1; omega
      subst e
      go_wp2
      go_ret
      exact ⟨rfl, ⟨_, rfl⟩⟩

set_option maxRecDepth 100000 in
set_option maxHeartbeats 1000000 in
theorem keptgds_any (B : Option Addr) (d : Nat) (l : List (Int × Int × Int × Int)) (w0 : World) (w : World) (hh : HandGR w0 l (l.length + 9) w) (hI : Gds w B l) (hmax : l.length ≤ 4398046510976) :
    Calls Tryz.prog 15 #[.slice (some ⟨w0.heap.size, 0, none⟩) l.length (l.length + 9), .slice B l.length d] w fun e w' => e = .returned (.bool true) ∧ Below w.heap.size w w' := by
  have HH := Lib.hid hh
  have HS := Lib.hid (samegds_eq (some ⟨w0.heap.size, 0, none⟩) (l.length + 9) B d l w hh.gds hI hmax)
  clear hh hI
  go_enter Tryz.func15, Tryz.ntmps15
  go_wp2_with fail
  refine HS.out.mono ?_
  rintro e w1 ⟨rfl, q, rfl⟩
  have HT := Lib.hid (HH.out.2.drewN q)
  have HB := Lib.hid (belowN (Below.refl w.heap.size w) q)
  generalize w.drewN q = w1 at *
  clear HS HH
  go_wp2
  go_loopg [6] 9 (fun g v wr => ∃ p : Nat, v = .int .i64 p ∧ w1 = wr ∧ Hid (l.length ≤ p ∧ p ≤ l.length + 9 ∧ g + p = l.length + 9))
  case atStart => exact ⟨l.length, by simp, rfl, by omega, by omega, by omega⟩
  case round =>
    obtain ⟨p, rfl, rfl, HG⟩ := hrel
    by_cases hp : p < l.length + 9
    · obtain ⟨c1, c2, c3, c4⟩ := HT.out.cell p hp
      have hf : handGUp l (l.length + 9) p = (0, 0, 0, -700 - (p : Int) + (l.length : Int)) := by
        unfold handGUp handG; rw [if_pos hp, if_neg (by have := HG.out.1; omega)]
      rw [hf] at c1 c2 c3 c4
      simp only at c1 c2 c3 c4
      have hpi : (p : Int) < (l.length : Int) + 9 := by omega
      have g1 : IntKind.i64.wrap (-700 - (p : Int)) = -700 - (p : Int) := IntWalk.i64_in _ (by omega)
      have g2 : IntKind.i64.wrap (-700 - (p : Int) + (l.length : Int)) = -700 - (p : Int) + (l.length : Int) := IntWalk.i64_in _ (by omega)
      clear hf
      go_wp2
      go_roundg (gk - 1)
      case measure => have h := HG.out; omega
      case rel => exact ⟨p + 1, by go_num, rfl, by have h := HG.out; omega, by omega, by have h := HG.out; omega⟩
    · have e : p = l.length + 9 := by have := HG.out; omega
      subst e
      have hpi : ¬ (((l.length + 9 : Nat) : Int) < (l.length : Int) + 9) := by omega
      go_wp2
      go_ret
      exact ⟨rfl, HB.out⟩

end Go.Proofs.YtmelblnflalanaaGreat

/- A slice of guards that came in. -/
namespace Go.Proofs.YtmelblnflalanaaGreat
open Go Go.ChangeShapes Go.WideShapes Go.ChangeAt Go.RowKit
set_option linter.unusedVariables false
set_option linter.unusedSimpArgs false

section
variable {H : Type} {enc : TypeId × Value → H} {P : Program} {W W' : World}
/-- A slice of guards that came in. -/
theorem came_guards {t e : TypeId} {f0 f1 f2 f3 : Field} {v : Value} {d : DataW H} {ps : List MemPlace} {r : Reach} {base : Nat} (ht : P.underlying t = some (.slice e)) (he : P.underlying e = some (.struct #[f0, f1, f2, f3]))
    (k0 : P.underlying f0.type = some (.int .i64)) (k1 : P.underlying f1.type = some (.int .i64)) (k2 : P.underlying f2.type = some (.int .u8)) (k3 : P.underlying f3.type = some (.int .i64)) (hone : Deep.oneCellFields P #[f0, f1, f2, f3] = true) (hc : P.cellsOf e = 4)
    (hval : Value.okWide P W r base t v) (h : DataW.Trod enc P W 0 (fun _ => true) true t v d ps) :
    ∃ A c xs, v = .slice A xs.length c ∧ Gds W A xs ∧ (∀ q, q < xs.length → (Lit.int .i64 (xs.getD q (0, 0, 0, 0)).1).wf = true ∧ (Lit.int .i64 (xs.getD q (0, 0, 0, 0)).2.1).wf = true ∧ (Lit.int .u8 (xs.getD q (0, 0, 0, 0)).2.2.1).wf = true ∧ (Lit.int .i64 (xs.getD q (0, 0, 0, 0)).2.2.2).wf = true) ∧
      (xs = [] ∨ ∃ el sp, d = .slice el sp ∧ el.length = xs.length) := by
  obtain ⟨a0, len, cap, rfl⟩ := okWide_slice ht hval
  obtain ⟨fuel, hf⟩ := h
  rcases Deep.open_slice ht hf with ⟨hcs, hx⟩ | ⟨a, len', cap', m, n, D, Pl, hcs, _, hle, _, hmm, hx, hi⟩
  · simp [Value.cells] at hcs
    obtain ⟨rfl, rfl, rfl⟩ := hcs
    exact ⟨none, 0, [], rfl, fun j hj => by simp at hj, by simp, .inl rfl⟩
  · simp [Value.cells] at hcs
    obtain ⟨rfl, rfl, rfl⟩ := hcs
    have hlm : len ≤ m := by rw [hmm]; split <;> omega
    have each : ∀ i, i < m → ∃ q : Int × Int × Int × Int, W.cell? (a.add (i * 4)) = some (.int .i64 q.1) ∧ W.cell? (a.add (i * 4 + 1)) = some (.int .i64 q.2.1) ∧ W.cell? (a.add (i * 4 + 2)) = some (.int .u8 q.2.2.1) ∧ W.cell? (a.add (i * 4 + 3)) = some (.int .i64 q.2.2.2) ∧
        (Lit.int .i64 q.1).wf = true ∧ (Lit.int .i64 q.2.1).wf = true ∧ (Lit.int .u8 q.2.2.1).wf = true ∧ (Lit.int .i64 q.2.2.2).wf = true := by
      intro i him
      obtain ⟨cs', h1, h2⟩ := hi i him
      rw [hc] at h1
      obtain ⟨_, hlen, hcell⟩ := World.cells?_some h1
      obtain ⟨xs, k, _, hxy, _, hxl, hfd⟩ := DataW.trod_struct he h2
      obtain ⟨o0, c0⟩ := Deep.hone_of hone 0 f0 rfl
      obtain ⟨o1, c1⟩ := Deep.hone_of hone 1 f1 rfl
      obtain ⟨o2, c2⟩ := Deep.hone_of hone 2 f2 rfl
      obtain ⟨o3, c3⟩ := Deep.hone_of hone 3 f3 rfl
      match xs, hxl, cs', hlen with
      | [y0, y1, y2, y3], _, [v0, v1, v2, v3], _ =>
        have g0 := hfd 0 f0 rfl
        have g1 := hfd 1 f1 rfl
        have g2 := hfd 2 f2 rfl
        have g3 := hfd 3 f3 rfl
        simp [o0, o1, o2, o3, c0, c1, c2, c3] at g0 g1 g2 g3
        have e0 := hcell 0 (by omega)
        have e1 := hcell 1 (by omega)
        have e2 := hcell 2 (by omega)
        have e3 := hcell 3 (by omega)
        rw [Deep.add_add] at e0 e1 e2 e3
        obtain ⟨z0, q0, _, w0⟩ := DataW.trod_int k0 g0
        obtain ⟨z1, q1, _, w1⟩ := DataW.trod_int k1 g1
        obtain ⟨z2, q2, _, w2⟩ := DataW.trod_int k2 g2
        obtain ⟨z3, q3, _, w3⟩ := DataW.trod_int k3 g3
        simp at q0 q1 q2 q3
        subst q0 q1 q2 q3
        exact ⟨(z0, z1, z2, z3), by simpa using e0, by simpa using e1, by simpa using e2, by simpa using e3, w0, w1, w2, w3⟩
    obtain ⟨q, hq⟩ := Deep.choose_lt each
    simp only [Prod.mk.injEq] at hx
    refine ⟨some a, cap, (List.range len).map q, by simp, ?_, ?_, .inr ⟨_, _, hx.1, by simp⟩⟩
    · intro j hj
      simp only [List.length_map, List.length_range] at hj
      obtain ⟨h0, h1, h2, h3, _⟩ := hq j (by omega)
      have hsp : a.spot = none := by
        have := World.cell?_spot (hq 0 (by omega)).1
        simpa [Addr.add] using this
      obtain ⟨b, off, spot⟩ := a
      simp only at hsp
      subst hsp
      have eg : ((List.range len).map q).getD j (0, 0, 0, 0) = q j := by simp [List.getD_eq_getElem?_getD, hj]
      rw [eg]
      have ea : ∀ k, (⟨b, off, none⟩ : Addr).add k = ⟨b, off + k, none⟩ := fun k => by unfold Addr.add; split <;> simp_all
      rw [ea] at h0 h1 h2 h3
      exact ⟨b, off, rfl, h0, by rw [Nat.add_assoc]; exact h1, by rw [Nat.add_assoc]; exact h2, by rw [Nat.add_assoc]; exact h3⟩
    · intro j hj
      simp only [List.length_map, List.length_range] at hj
      have eg : ((List.range len).map q).getD j (0, 0, 0, 0) = q j := by simp [List.getD_eq_getElem?_getD, hj]
      rw [eg]
      exact (hq j (by omega)).2.2.2.2
theorem came_cmp {xs : List (Int × Int × Int × Int)} (h : ∀ q, q < xs.length → (Lit.int .i64 (xs.getD q (0, 0, 0, 0)).1).wf = true ∧ (Lit.int .i64 (xs.getD q (0, 0, 0, 0)).2.1).wf = true ∧ (Lit.int .u8 (xs.getD q (0, 0, 0, 0)).2.2.1).wf = true ∧ (Lit.int .i64 (xs.getD q (0, 0, 0, 0)).2.2.2).wf = true) :
    ∀ q, q < xs.length → 0 ≤ (xs.getD q (0, 0, 0, 0)).2.2.1 ∧ (xs.getD q (0, 0, 0, 0)).2.2.1 ≤ 255 := fun q hq => by
  exact bounds_u8 (h q hq).2.2.1
theorem came_short4 {ts : List TypeId} {ds : List (DataW H)} {j : Nat} {t e : TypeId} {d : DataW H} {xs : List (Int × Int × Int × Int)} {m : Nat} (hsz : (DataW.weightsEach P ts ds).all (· ≤ reachBytes) = true) (ht : ts[j]? = some t) (hd : ds[j]? = some d)
    (hu : P.underlying t = some (.slice e)) (hm : P.bytesOf e = m) (h : xs = [] ∨ ∃ el sp, d = .slice el sp ∧ el.length = xs.length) : xs.length * m ≤ 140737488351232 := by
  rcases h with rfl | ⟨el, sp, rfl, he⟩
  · simp
  · have h1 := sized_slice hsz ht hd hu
    rw [hm] at h1
    have h2 : el.length * m ≤ (el.length + sp.length) * m := Nat.mul_le_mul_right _ (by omega)
    rw [← he]
    exact Nat.le_trans h2 h1
end

end Go.Proofs.YtmelblnflalanaaGreat

/- How a valuation, a fraction, two numbers and guards come in, in one struct: the guards too. -/
namespace Go.Proofs.YtmelblnflalanaaGreat
open Go Go.ChangeShapes Go.WideShapes Go.ChangeAt Go.RowKit
set_option linter.unusedVariables false
set_option linter.unusedSimpArgs false

section
variable {H : Type} {enc : TypeId × Value → H} {P : Program} {W W' : World}
/-- A slice of guards that lies in a struct that came in. -/
theorem guards_opened {t e : TypeId} {f0 f1 f2 f3 : Field} {v : Value} {fuel : Nat} {x : DataW H × List MemPlace} (ht : P.underlying t = some (.slice e)) (he : P.underlying e = some (.struct #[f0, f1, f2, f3]))
    (k0 : P.underlying f0.type = some (.int .i64)) (k1 : P.underlying f1.type = some (.int .i64)) (k2 : P.underlying f2.type = some (.int .u8)) (k3 : P.underlying f3.type = some (.int .i64)) (hone : Deep.oneCellFields P #[f0, f1, f2, f3] = true) (hc : P.cellsOf e = 4)
    (hf : DataW.trod enc P W 0 (fun _ => true) true fuel t [v] = some x) :
    ∃ A c xs, v = .slice A xs.length c ∧ Gds W A xs ∧ (∀ q, q < xs.length → (Lit.int .i64 (xs.getD q (0, 0, 0, 0)).1).wf = true ∧ (Lit.int .i64 (xs.getD q (0, 0, 0, 0)).2.1).wf = true ∧ (Lit.int .u8 (xs.getD q (0, 0, 0, 0)).2.2.1).wf = true ∧ (Lit.int .i64 (xs.getD q (0, 0, 0, 0)).2.2.2).wf = true) ∧
      RowD x.1 (xs.map (·.1)) := by
  rcases Deep.open_slice ht hf with ⟨hcs, hx⟩ | ⟨a, len, cap, m, n, D, Pl, hcs, _, hle, _, hmm, hx, hi⟩
  · simp only [List.cons.injEq, and_true] at hcs
    subst hcs
    exact ⟨none, 0, [], rfl, fun j hj => by simp at hj, by simp, .inl rfl⟩
  · simp only [List.cons.injEq, and_true] at hcs
    subst hcs
    have hlm : len ≤ m := by rw [hmm]; split <;> omega
    have each : ∀ i, i < m → ∃ q : Int × Int × Int × Int, W.cell? (a.add (i * 4)) = some (.int .i64 q.1) ∧ W.cell? (a.add (i * 4 + 1)) = some (.int .i64 q.2.1) ∧ W.cell? (a.add (i * 4 + 2)) = some (.int .u8 q.2.2.1) ∧ W.cell? (a.add (i * 4 + 3)) = some (.int .i64 q.2.2.2) ∧
        (Lit.int .i64 q.1).wf = true ∧ (Lit.int .i64 q.2.1).wf = true ∧ (Lit.int .u8 q.2.2.1).wf = true ∧ (Lit.int .i64 q.2.2.2).wf = true := by
      intro i him
      obtain ⟨cs', h1, h2⟩ := hi i him
      rw [hc] at h1
      obtain ⟨_, hlen, hcell⟩ := World.cells?_some h1
      obtain ⟨xs, k, _, hxy, _, hxl, hfd⟩ := DataW.trod_struct he h2
      obtain ⟨o0, c0⟩ := Deep.hone_of hone 0 f0 rfl
      obtain ⟨o1, c1⟩ := Deep.hone_of hone 1 f1 rfl
      obtain ⟨o2, c2⟩ := Deep.hone_of hone 2 f2 rfl
      obtain ⟨o3, c3⟩ := Deep.hone_of hone 3 f3 rfl
      match xs, hxl, cs', hlen with
      | [y0, y1, y2, y3], _, [v0, v1, v2, v3], _ =>
        have g0 := hfd 0 f0 rfl
        have g1 := hfd 1 f1 rfl
        have g2 := hfd 2 f2 rfl
        have g3 := hfd 3 f3 rfl
        simp [o0, o1, o2, o3, c0, c1, c2, c3] at g0 g1 g2 g3
        have e0 := hcell 0 (by omega)
        have e1 := hcell 1 (by omega)
        have e2 := hcell 2 (by omega)
        have e3 := hcell 3 (by omega)
        rw [Deep.add_add] at e0 e1 e2 e3
        obtain ⟨z0, q0, _, w0⟩ := DataW.trod_int k0 g0
        obtain ⟨z1, q1, _, w1⟩ := DataW.trod_int k1 g1
        obtain ⟨z2, q2, _, w2⟩ := DataW.trod_int k2 g2
        obtain ⟨z3, q3, _, w3⟩ := DataW.trod_int k3 g3
        simp at q0 q1 q2 q3
        subst q0 q1 q2 q3
        exact ⟨(z0, z1, z2, z3), by simpa using e0, by simpa using e1, by simpa using e2, by simpa using e3, w0, w1, w2, w3⟩
    obtain ⟨q, hq⟩ := Deep.choose_lt each
    refine ⟨some a, cap, (List.range len).map q, by simp, ?_, ?_, .inr ⟨_, _, by rw [hx], by simp⟩⟩
    · intro j hj
      simp only [List.length_map, List.length_range] at hj
      obtain ⟨h0, h1, h2, h3, _⟩ := hq j (by omega)
      have hsp : a.spot = none := by
        have := World.cell?_spot (hq 0 (by omega)).1
        simpa [Addr.add] using this
      obtain ⟨b, off, spot⟩ := a
      simp only at hsp
      subst hsp
      have eg : ((List.range len).map q).getD j (0, 0, 0, 0) = q j := by simp [List.getD_eq_getElem?_getD, hj]
      rw [eg]
      have ea : ∀ k, (⟨b, off, none⟩ : Addr).add k = ⟨b, off + k, none⟩ := fun k => by unfold Addr.add; split <;> simp_all
      rw [ea] at h0 h1 h2 h3
      exact ⟨b, off, rfl, h0, by rw [Nat.add_assoc]; exact h1, by rw [Nat.add_assoc]; exact h2, by rw [Nat.add_assoc]; exact h3⟩
    · intro j hj
      simp only [List.length_map, List.length_range] at hj
      have eg : ((List.range len).map q).getD j (0, 0, 0, 0) = q j := by simp [List.getD_eq_getElem?_getD, hj]
      rw [eg]
      exact (hq j (by omega)).2.2.2.2
theorem came_movedG {t e g : TypeId} {f0 f1 f2 f3 f4 q0 q1 s0 s1 s2 s3 : Field} {v : Value} {d : DataW H} {ps : List MemPlace} {r : Reach} {base : Nat} (hs : P.underlying t = some (.struct #[f0, f1, f2, f3, f4]))
    (ho : f0.offset = 0 ∧ f1.offset = 1 ∧ f2.offset = 3 ∧ f3.offset = 4 ∧ f4.offset = 5) (hz : P.cellsOf f0.type = 1 ∧ P.cellsOf f1.type = 2 ∧ P.cellsOf f2.type = 1 ∧ P.cellsOf f3.type = 1 ∧ P.cellsOf f4.type = 1) (hC : P.cellsOf t = 6)
    (u0 : P.underlying f0.type = some (.slice e)) (u1 : P.underlying f1.type = some (.struct #[q0, q1])) (u2 : P.underlying f2.type = some (.int .i64)) (u3 : P.underlying f3.type = some (.int .i64)) (u4 : P.underlying f4.type = some (.slice g))
    (he : P.underlying e = some (.struct #[q0, q1])) (k0 : P.underlying q0.type = some (.int .i64)) (k1 : P.underlying q1.type = some (.int .i64)) (hone : Deep.oneCellFields P #[q0, q1] = true) (hc : P.cellsOf e = 2)
    (hg : P.underlying g = some (.struct #[s0, s1, s2, s3])) (b0 : P.underlying s0.type = some (.int .i64)) (b1 : P.underlying s1.type = some (.int .i64)) (b2 : P.underlying s2.type = some (.int .u8)) (b3 : P.underlying s3.type = some (.int .i64)) (hone4 : Deep.oneCellFields P #[s0, s1, s2, s3] = true) (hc4 : P.cellsOf g = 4)
    (hval : Value.okWide P W r base t v) (h : DataW.Trod enc P W 0 (fun _ => true) true t v d ps) :
    ∃ (A : Option Addr) (c : Nat) (xs : List (Int × Int)) (d1 d2 ck nn : Int) (G : Option Addr) (gc : Nat) (gs : List (Int × Int × Int × Int)) (ys : List (DataW H × List MemPlace)) (y0 y4 : DataW H × List MemPlace), v = .agg #[.slice A xs.length c, .int .i64 d1, .int .i64 d2, .int .i64 ck, .int .i64 nn, .slice G gs.length gc] ∧ RatsA W A xs ∧ All64v xs ∧ I64 d1 ∧ I64 d2 ∧ I64 ck ∧ I64 nn ∧
      d = .agg (ys.map (·.1)) ∧ ys[0]? = some y0 ∧ RowD y0.1 (xs.map (·.1)) ∧ ys[4]? = some y4 ∧ RowD y4.1 (gs.map (·.1)) ∧ Gds W G gs ∧ (∀ q, q < gs.length → 0 ≤ (gs.getD q (0, 0, 0, 0)).2.2.1 ∧ (gs.getD q (0, 0, 0, 0)).2.2.1 ≤ 255) := by
  obtain ⟨l, ys, n, rfl, hl, rfl, hy, hf⟩ := open_parts hs hval h
  obtain ⟨o0, o1, o2, o3, o4⟩ := ho
  obtain ⟨z0, z1, z2, z3, z4⟩ := hz
  rw [hC] at hl
  have hy : ys.length = 5 := hy
  match l, hl, ys, hy with
  | [a0, a1, a2, a3, a4, a5], _, [y0, y1, y2, y3, y4], _ =>
    have g0 := hf 0 f0 rfl
    have g1 := hf 1 f1 rfl
    have g2 := hf 2 f2 rfl
    have g3 := hf 3 f3 rfl
    have g4 := hf 4 f4 rfl
    rw [o0, z0] at g0
    rw [o1, z1] at g1
    rw [o2, z2] at g2
    rw [o3, z3] at g3
    rw [o4, z4] at g4
    simp only [List.drop_succ_cons, List.drop_zero, List.take_succ_cons, List.take_zero, List.getElem?_cons_zero, List.getElem?_cons_succ] at g0 g1 g2 g3 g4
    obtain ⟨A, c, xs, rfl, hI, h64, hD⟩ := rats_opened u0 he k0 k1 hone hc g0
    obtain ⟨G, gc, gs, rfl, hGd, hGw, hGl⟩ := guards_opened u4 hg b0 b1 b2 b3 hone4 hc4 g4
    obtain ⟨n2, e2, _, w2⟩ := DataW.trod_int u2 g2
    obtain ⟨n3, e3, _, w3⟩ := DataW.trod_int u3 g3
    simp only [List.cons.injEq, and_true] at e2 e3
    subst e2; subst e3
    obtain ⟨us, k, _, hxy, _, hxl, hfd⟩ := DataW.trod_struct u1 g1
    obtain ⟨p0, c0⟩ := Deep.hone_of hone 0 q0 rfl
    obtain ⟨p1, c1⟩ := Deep.hone_of hone 1 q1 rfl
    match us, hxl with
    | [x0, x1], _ =>
      have w0 := hfd 0 q0 rfl
      have w1 := hfd 1 q1 rfl
      simp [p0, p1, c0, c1] at w0 w1
      obtain ⟨d1, r0, _, v0⟩ := DataW.trod_int k0 w0
      obtain ⟨d2, r1, _, v1⟩ := DataW.trod_int k1 w1
      simp at r0 r1
      subst r0 r1
      exact ⟨A, c, xs, d1, d2, n2, n3, G, gc, gs, _, y0, y4, rfl, hI, h64, came_i64 v0, came_i64 v1, came_i64 w2, came_i64 w3, rfl, rfl, hD, rfl, hGl, hGd, came_cmp hGw⟩
theorem came_shortM4 {ts : List TypeId} {ds : List (DataW H)} {ys : List (DataW H × List MemPlace)} {j : Nat} {t : TypeId} {fs : Array Field} {g : Field} {f : TypeId} {y : DataW H × List MemPlace} {xs : List (Int × Int × Int × Int)} {m : Nat} (hsz : (DataW.weightsEach P ts ds).all (· ≤ reachBytes) = true) (ht : ts[j]? = some t) (hd : ds[j]? = some (.agg (ys.map (·.1))))
    (hu : P.underlying t = some (.struct fs)) (hg : fs[4]? = some g) (hy : ys[4]? = some y) (he : P.underlying g.type = some (.slice f)) (hm : P.bytesOf f = m) (h : RowD y.1 (xs.map (·.1))) : xs.length * m ≤ 140737488351232 := by
  have := came_shortF hsz ht hd hu hg hy he hm h
  rwa [List.length_map] at this
end

end Go.Proofs.YtmelblnflalanaaGreat

/- Rows of numbers and of fractions of a call's own. -/
namespace Go.Proofs.YtmelblnflalanaaGreat
open Go Go.RowKit
set_option linter.unusedVariables false
set_option linter.unusedSimpArgs false

/-- A function's first numbers. -/
def numsL (n : Nat) (f : Nat → Int) : List Int := (List.range (n + 1)).map f
theorem numsL_length (n : Nat) (f : Nat → Int) : (numsL n f).length = n + 1 := by simp [numsL]
theorem numsL_getD (n : Nat) (f : Nat → Int) (i : Nat) (h : i < n + 1) : (numsL n f).getD i 0 = f i := by simp [numsL, List.getD_eq_getElem?_getD, h]
theorem numsL_set (n : Nat) (f : Nat → Int) (j : Nat) (h : j < n + 1) (x : Int) : (numsL n f).set j x = numsL n (fun a => if a = j then x else f a) :=
  list_ext0 (by simp [numsL_length]) fun q hq => by
    rw [List.length_set, numsL_length] at hq
    rw [numsL_getD _ _ _ hq, List.getD_eq_getElem?_getD, List.getElem?_set]
    by_cases e : j = q
    · subst e
      rw [if_pos rfl, if_pos (by rw [numsL_length]; exact h), if_pos rfl]; rfl
    · rw [if_neg e, ← List.getD_eq_getElem?_getD, numsL_getD _ _ _ hq, if_neg (fun h => e h.symm)]
theorem infoT64 : (Tryz.prog.info? 2).map (fun i => (i.zero, i.size, i.bytes)) = some (some (.int .i64 0), 1, 8) := by kernel_rfl
theorem made_nums (w : World) (e : TypeId) (k : IntKind) (N : Nat) (xs : List Int) (hl : xs.length = N) (hx : ∀ p, p < N → xs.getD p 0 = 0) : RowAt (w.alloc (.cells (madeCells #[.int k 0] N) e)) w.heap.size e k xs := by
  refine ⟨madeCells #[.int k 0] N, heap_alloc_new _ _, ?_⟩
  have e1 : (madeCells #[.int k 0] N).toList = List.replicate N (.int k 0) := by
    refine List.ext_getElem (by simp [madeCells]) fun p h1 h2 => ?_
    simp [madeCells, Nat.mod_one]
  rw [e1, hl, List.take_of_length_le (by simp)]
  refine List.ext_getElem (by simp [vals, hl]) fun p h1 h2 => ?_
  have hp : p < N := by simpa [vals, hl] using h2
  have := hx p hp
  rw [List.getD_eq_getElem?_getD, List.getElem?_eq_getElem (by omega)] at this
  simp only [vals, List.getElem_replicate, List.getElem_map]
  rw [show xs[p] = 0 from this]
/-- The numbers lie in the first new block. -/
def InT (w0 : World) (n : Nat) (f : Nat → Int) (wr : World) : Prop := Below w0.heap.size w0 wr ∧ RowAt wr w0.heap.size 2 .i64 (numsL n f)
theorem InT.step {w0 wr w' : World} {n : Nat} {f : Nat → Int} (h : InT w0 n f wr) (hb : Below wr.heap.size wr w') : InT w0 n f w' := ⟨h.1.trans (hb.mono h.1.size), h.2.later hb⟩
theorem InT.set {w0 wr : World} {n : Nat} {f f' : Nat → Int} (h : InT w0 n f wr) (q j : Nat) (hj : j < n + 1) (x : Int) (hf : f' = fun a => if a = j then x else f a) : InT w0 n f' ((wr.drewN q).setCell ⟨w0.heap.size, j, none⟩ (.int .i64 x)) := by
  subst hf
  refine ⟨(belowN h.1 q).setCell (p := ⟨w0.heap.size, j, none⟩) (Nat.le_refl _) _, ?_⟩
  have := (h.2.drewN q).set j x
  rwa [numsL_set _ _ _ hj] at this
theorem rowat_other {w : World} {g : Nat} {e : TypeId} {k : IntKind} {xs : List Int} (h : RowAt w g e k xs) (p : Addr) (hne : g ≠ p.block) (v : Value) : RowAt (w.setCell p v) g e k xs := by
  obtain ⟨cur, h1, h2⟩ := h
  refine ⟨cur, ?_, h2⟩
  simp only [World.setCell, Array.getElem?_modify]
  rw [if_neg (fun e => hne e.symm)]; exact h1
theorem InT.put {w0 wr : World} {n : Nat} {f f' : Nat → Int} (h : InT w0 n f wr) (j : Nat) (hj : j < n + 1) (x : Int) (hf : f' = fun a => if a = j then x else f a) : InT w0 n f' (wr.setCell ⟨w0.heap.size, j, none⟩ (.int .i64 x)) := by
  subst hf
  refine ⟨h.1.setCell (p := ⟨w0.heap.size, j, none⟩) (Nat.le_refl _) _, ?_⟩
  have := h.2.set j x
  rwa [numsL_set _ _ _ hj] at this

/-! ### fractions -/
def rcells (l : List (Int × Int)) : List Value := l.flatMap fun x => [.int .i64 x.1, .int .i64 x.2]
theorem rcells_length (l : List (Int × Int)) : (rcells l).length = l.length * 2 := by
  induction l with
  | nil => rfl
  | cons x l ih => simp only [rcells, List.flatMap_cons, List.length_append, List.length_cons, List.length_nil] at ih ⊢; omega
theorem rcells_at : ∀ (l : List (Int × Int)) (j : Nat), j < l.length → (rcells l)[j * 2]? = some (.int .i64 (l.getD j (0, 0)).1) ∧ (rcells l)[j * 2 + 1]? = some (.int .i64 (l.getD j (0, 0)).2)
  | [], j, h => by simp at h
  | x :: l, 0, _ => by simp [rcells]
  | x :: l, j + 1, h => by
    have ih := rcells_at l j (by simpa using h)
    have e : ∀ q, (rcells (x :: l))[(j + 1) * 2 + q]? = (rcells l)[j * 2 + q]? := fun q => by
      rw [show rcells (x :: l) = [.int .i64 x.1, .int .i64 x.2] ++ rcells l from rfl, List.getElem?_append_right (by simp; omega)]
      congr 1
      simp; omega
    have e0 := e 0
    rw [Nat.add_zero, Nat.add_zero] at e0
    rw [e0, e 1, List.getD_cons_succ]
    exact ih
theorem rcells_one (l : List (Int × Int)) : ∀ u ∈ rcells l, u.oneCell' = true := by
  intro u hu
  obtain ⟨x, _, h⟩ := List.mem_flatMap.1 hu
  simp only [List.mem_cons, List.mem_nil_iff, or_false] at h
  rcases h with rfl | rfl <;> rfl
theorem rcells_append (l m : List (Int × Int)) : rcells (l ++ m) = rcells l ++ rcells m := by unfold rcells; rw [List.flatMap_append]
/-- A row of fractions of the call's own, behind the world w0. -/
def OwnQ (w0 : World) (l : List (Int × Int)) (v : Value) (wr : World) : Prop := Below w0.heap.size w0 wr ∧ wr.ownsRow w0.heap.size 24 2 v l.length (rcells l)
theorem OwnQ.start (w0 : World) : OwnQ w0 [] (.slice none 0 0) w0 := ⟨Below.refl _ _, World.ownsRow_nil _ _ _ _⟩
theorem OwnQ.step {w0 wr w' : World} {l : List (Int × Int)} {v : Value} (h : OwnQ w0 l v wr) (hb : Below wr.heap.size wr w') : OwnQ w0 l v w' := by
  obtain ⟨h0, hl, h⟩ := h
  refine ⟨h0.trans (hb.mono h0.size), hl, ?_⟩
  rcases h with h | ⟨g, cap, cur, e1, e2, h1, h2⟩
  · exact .inl h
  · exact .inr ⟨g, cap, cur, e1, e2, (hb.block g (Array.getElem?_eq_some_iff.1 h1).1).trans h1, h2⟩
theorem OwnQ.rats {w0 wr : World} {l : List (Int × Int)} {v : Value} (h : OwnQ w0 l v wr) : ∃ A cap, v = .slice A l.length cap ∧ RatsA wr A l := by
  obtain ⟨_, hl, h⟩ := h
  rcases h with ⟨rfl, h0⟩ | ⟨g, cap, cur, rfl, _, h1, _, _, _, h2⟩
  · refine ⟨none, 0, by rw [h0], fun j hj => by omega⟩
  · refine ⟨some ⟨g, 0, none⟩, cap, rfl, fun j hj => ?_⟩
    have hc : ∀ q u, (rcells l)[q]? = some u → wr.cell? ⟨g, q, none⟩ = some u := fun q u hu => by
      have hq : q < l.length * 2 := by rw [← rcells_length]; exact (List.getElem?_eq_some_iff.1 hu).1
      rw [← h2, List.getElem?_take, if_pos hq] at hu
      simp only [World.cell?, h1]
      simpa using hu
    obtain ⟨a0, a1⟩ := rcells_at l j hj
    exact ⟨g, 0, rfl, by rw [Nat.zero_add]; exact hc _ _ a0, by rw [Nat.zero_add]; exact hc _ _ a1⟩
/-- One fraction more, out of a block of its own. -/
theorem OwnQ.next {w0 w2 : World} {l : List (Int × Int)} {v : Value} (h : OwnQ w0 l v w2) (g c : Nat) (x y : Int) (hg : w2.cell? ⟨g, 0, none⟩ = some (.int .i64 x) ∧ w2.cell? ⟨g, 1, none⟩ = some (.int .i64 y)) (hmax : l.length ≤ 4398046510976) :
    ∃ v' w', (Builtin.append_ #[22, 22] 22 #[v, .slice (some ⟨g, 0, none⟩) 1 c]).run Tryz.prog w2 = .ok v' w' ∧ OwnQ w0 (l ++ [(x, y)]) v' w' := by
  obtain ⟨i0, hi, hz0, hz1, hz2⟩ := info_partsQ infoQ
  have ea : ∀ k, (⟨g, 0, none⟩ : Addr).add k = ⟨g, 0 + k, none⟩ := fun k => by unfold Addr.add; split <;> simp_all
  obtain ⟨v', w', h2, h3, h4, _⟩ := run_append_own (P := Tryz.prog) w2 w0.heap.size 22 22 24 i0 (.agg #[.int .i64 0, .int .i64 0]) 2 16 Tryz.underlying22 hi hz0 hz1 hz2 rfl (by decide) v l.length (rcells l) h.2 ⟨g, 0, none⟩ 1 c (rcells [(x, y)]) (rcells_length _) (fun j u hu => by
    rw [ea]
    match j, hu with
    | 0, hu => simp [rcells] at hu; subst hu; exact hg.1
    | 1, hu => simp [rcells] at hu; subst hu; exact hg.2
    | j + 2, hu => simp [rcells] at hu) (rcells_one _) (by simp only [maxLen]; omega) (by omega) h.1.size
  refine ⟨v', w', h2, h.1.grown h4 h.1.size (fun k hk => (World.ownsRow.lt h.2 k hk).1), ?_⟩
  rw [rcells_append, List.length_append]
  exact h3

end Go.Proofs.YtmelblnflalanaaGreat

/- Lists that were handed out: rows of fractions, each of its own block; how they are marked and grown. -/
namespace Go.Proofs.YtmelblnflalanaaGreat
open Go Go.RowKit
set_option linter.unusedVariables false
set_option linter.unusedSimpArgs false

/-- A row of fractions in a block of its own, or none. -/
def RowF (w : World) (s : Value) (l : List (Int × Int)) : Prop := w.ownsRow 0 24 2 s l.length (rcells l)
theorem RowF.ofOwn {w0 wr : World} {l : List (Int × Int)} {v : Value} (h : OwnQ w0 l v wr) : RowF wr v l := by
  obtain ⟨_, hl, h⟩ := h
  refine ⟨hl, ?_⟩
  rcases h with h | ⟨g, cap, cur, e1, _, h2⟩
  · exact .inl h
  · exact .inr ⟨g, cap, cur, e1, Nat.zero_le _, h2⟩
theorem RowF.frame {w w' : World} {s : Value} {l : List (Int × Int)} (h : RowF w s l) (hk : ∀ g, s.ownBlock = some g → w'.heap[g]? = w.heap[g]?) : RowF w' s l := by
  obtain ⟨hl, h⟩ := h
  refine ⟨hl, ?_⟩
  rcases h with h | ⟨g, cap, cur, e1, e2, h1, h2⟩
  · exact .inl h
  · exact .inr ⟨g, cap, cur, e1, e2, (hk g (by rw [e1]; rfl)).trans h1, h2⟩
theorem RowF.slice {w : World} {s : Value} {l : List (Int × Int)} (h : RowF w s l) : ∃ A c, s = .slice A l.length c ∧ RatsA w A l := by
  obtain ⟨hl, h⟩ := h
  rcases h with ⟨rfl, h0⟩ | ⟨g, cap, cur, rfl, _, h1, _, _, _, h2⟩
  · exact ⟨none, 0, by rw [h0], fun j hj => by omega⟩
  · refine ⟨some ⟨g, 0, none⟩, cap, rfl, fun j hj => ?_⟩
    have hc : ∀ q u, (rcells l)[q]? = some u → w.cell? ⟨g, q, none⟩ = some u := fun q u hu => by
      have hq : q < l.length * 2 := by rw [← rcells_length]; exact (List.getElem?_eq_some_iff.1 hu).1
      rw [← h2, List.getElem?_take, if_pos hq] at hu
      simp only [World.cell?, h1]
      simpa using hu
    obtain ⟨a0, a1⟩ := rcells_at l j hj
    exact ⟨g, 0, rfl, by rw [Nat.zero_add]; exact hc _ _ a0, by rw [Nat.zero_add]; exact hc _ _ a1⟩
theorem RowF.block {w : World} {s : Value} {l : List (Int × Int)} (h : RowF w s l) (h0 : 0 < l.length) : ∃ g c, s = .slice (some ⟨g, 0, none⟩) l.length c ∧ g < w.heap.size := by
  obtain ⟨hl, h⟩ := h
  rcases h with ⟨rfl, h1⟩ | ⟨g, cap, cur, rfl, _, h1, _⟩
  · omega
  · exact ⟨g, cap, rfl, (Array.getElem?_eq_some_iff.1 h1).1⟩
theorem RowF.at {w : World} {g c : Nat} {l : List (Int × Int)} (h : RowF w (.slice (some ⟨g, 0, none⟩) l.length c) l) (k : Nat) (hk : k < l.length) :
    (w.cell? ⟨g, k * 2, none⟩ = some (.int .i64 (l.getD k (0, 0)).1) ∧ w.cell? ⟨g, k * 2 + 1, none⟩ = some (.int .i64 (l.getD k (0, 0)).2)) ∧ w.frozen? ⟨g, k * 2, none⟩ = false ∧ w.frozen? ⟨g, k * 2 + 1, none⟩ = false := by
  have h0 := h
  obtain ⟨A, c', e, hr⟩ := h0.slice
  obtain ⟨b, off, e2, c1, c2⟩ := hr k hk
  simp only [Value.slice.injEq] at e
  obtain ⟨e, _⟩ := e
  subst e
  simp only [Option.some.injEq, Addr.mk.injEq, and_true] at e2
  obtain ⟨rfl, rfl⟩ := e2
  rw [Nat.zero_add] at c1 c2
  obtain ⟨hl, h⟩ := h
  rcases h with ⟨e, _⟩ | ⟨g', cap, cur, e, _, h1, _⟩
  · cases e
  · simp only [Value.slice.injEq, Option.some.injEq, Addr.mk.injEq] at e
    obtain ⟨⟨rfl, _⟩, _⟩ := e
    refine ⟨⟨c1, c2⟩, ?_, ?_⟩ <;> (unfold World.frozen?; rw [h1]; simp)
theorem rcells_setB (l : List (Int × Int)) (k : Nat) (hk : k < l.length) (x y : Int) : ((rcells l).set (k * 2) (.int .i64 x)).set (k * 2 + 1) (.int .i64 y) = rcells (l.set k (x, y)) := by
  refine List.ext_getElem? fun q => ?_
  have hlen : (rcells l).length = l.length * 2 := rcells_length l
  by_cases hq : q < l.length * 2
  · obtain ⟨a0, a1⟩ := rcells_at l (q / 2) (by omega)
    obtain ⟨b0, b1⟩ := rcells_at (l.set k (x, y)) (q / 2) (by rw [List.length_set]; omega)
    have eg : (l.set k (x, y)).getD (q / 2) (0, 0) = if q / 2 = k then (x, y) else l.getD (q / 2) (0, 0) := by
      rw [List.getD_eq_getElem?_getD, List.getElem?_set]
      by_cases e : k = q / 2
      · rw [if_pos e, if_pos hk, if_pos e.symm]; rfl
      · rw [if_neg e, if_neg (fun h => e h.symm), List.getD_eq_getElem?_getD]
    rw [eg] at b0 b1
    rcases (show q = q / 2 * 2 ∨ q = q / 2 * 2 + 1 by omega) with e | e
    · rw [← e] at a0 b0
      rw [b0, List.getElem?_set_ne (by omega), List.getElem?_set]
      by_cases eq : q / 2 = k
      · rw [if_pos eq, if_pos (by omega), if_pos (by omega)]
      · rw [if_neg eq, if_neg (by omega), a0]
    · rw [← e] at a1 b1
      rw [b1, List.getElem?_set]
      by_cases eq : q / 2 = k
      · rw [if_pos eq, if_pos (by omega), if_pos (by rw [List.length_set]; omega)]
      · rw [if_neg eq, if_neg (by omega), List.getElem?_set_ne (by omega), a1]
  · rw [List.getElem?_eq_none (by simp only [List.length_set]; omega), List.getElem?_eq_none (by rw [rcells_length, List.length_set]; omega)]
/-- One place is written. -/
theorem RowF.put {w : World} {g c : Nat} {l : List (Int × Int)} (h : RowF w (.slice (some ⟨g, 0, none⟩) l.length c) l) (k : Nat) (hk : k < l.length) (x y : Int) :
    RowF ((w.setCell ⟨g, k * 2, none⟩ (.int .i64 x)).setCell ⟨g, k * 2 + 1, none⟩ (.int .i64 y)) (.slice (some ⟨g, 0, none⟩) l.length c) (l.set k (x, y)) := by
  obtain ⟨hl, h⟩ := h
  rcases h with ⟨e, _⟩ | ⟨g', cap, cur, e, e2, h1, h2, h3, h4, h5⟩
  · cases e
  · simp only [Value.slice.injEq, Option.some.injEq, Addr.mk.injEq, and_true, true_and] at e
    obtain ⟨rfl, rfl⟩ := e
    refine ⟨by rw [rcells_length, List.length_set], .inr ⟨g, c, (cur.setIfInBounds (k * 2) (.int .i64 x)).setIfInBounds (k * 2 + 1) (.int .i64 y), by rw [List.length_set], e2, ?_, by rw [List.length_set]; exact h2, h3, by simp [h4], ?_⟩⟩
    · simp only [World.setCell, Array.getElem?_modify, if_true, h1, Option.map_some]
      simp
    · rw [List.length_set, Array.toList_setIfInBounds, Array.toList_setIfInBounds, List.take_set, List.take_set, h5]
      exact rcells_setB l k hk x y
/-- One more is put behind. -/
theorem RowF.grow {w : World} {s : Value} {l : List (Int × Int)} (h : RowF w s l) (g c : Nat) (x y : Int) (hg : w.cell? ⟨g, 0, none⟩ = some (.int .i64 x) ∧ w.cell? ⟨g, 1, none⟩ = some (.int .i64 y)) (hmax : l.length ≤ 4398046510976) :
    ∃ s' w', (Builtin.append_ #[22, 22] 22 #[s, .slice (some ⟨g, 0, none⟩) 1 c]).run Tryz.prog w = .ok s' w' ∧ RowF w' s' (l ++ [(x, y)]) ∧
      (s'.ownBlock = s.ownBlock ∨ ∃ b, s'.ownBlock = some b ∧ w.heap.size ≤ b) ∧ w.heap.size ≤ w'.heap.size ∧ (w'.os = w.os ∧ w'.tape = w.tape ∧ w'.output = w.output) ∧
      (∀ b, b < w.heap.size → s.ownBlock ≠ some b → w'.heap[b]? = w.heap[b]?) ∧ ∀ s1 l1, s1.ownBlock = s.ownBlock → l1.length ≤ l.length → RowF w s1 l1 → RowF w' s1 l1 := by
  obtain ⟨i0, hi, hz0, hz1, hz2⟩ := info_partsQ infoQ
  have ea : ∀ k, (⟨g, 0, none⟩ : Addr).add k = ⟨g, 0 + k, none⟩ := fun k => by unfold Addr.add; split <;> simp_all
  have hnews : ∀ j u, (rcells [(x, y)])[j]? = some u → w.cell? ((⟨g, 0, none⟩ : Addr).add j) = some u := fun j u hu => by
    rw [ea]
    match j, hu with
    | 0, hu => simp [rcells] at hu; subst hu; exact hg.1
    | 1, hu => simp [rcells] at hu; subst hu; exact hg.2
    | j + 2, hu => simp [rcells] at hu
  obtain ⟨hl, hform⟩ := h
  rcases hform with ⟨rfl, h0⟩ | ⟨gb, cap, cur, rfl, _, h1, h2, h3, h4, h5⟩
  · obtain ⟨v', w', a1, a2, a3, _⟩ := run_append_own (P := Tryz.prog) w w.heap.size 22 22 24 i0 (.agg #[.int .i64 0, .int .i64 0]) 2 16 Tryz.underlying22 hi hz0 hz1 hz2 rfl (by decide) (.slice none 0 0) 0 [] (World.ownsRow_nil w _ _ _) ⟨g, 0, none⟩ 1 c (rcells [(x, y)]) (rcells_length _) hnews (rcells_one _) (by simp only [maxLen]; omega) (by omega) (Nat.le_refl _)
    have hnil : l = [] := List.length_eq_zero_iff.1 h0
    subst hnil
    obtain ⟨b1, b2⟩ := a2
    rcases b2 with ⟨_, b0⟩ | ⟨gn, cap, cur, rfl, bb, bh, brest⟩
    · omega
    · refine ⟨_, w', a1, ⟨by simpa using b1, .inr ⟨gn, cap, cur, rfl, Nat.zero_le _, bh, brest⟩⟩, .inr ⟨gn, rfl, bb⟩, a3.size, ⟨a3.os, a3.tape, a3.output⟩, fun b hb _ => a3.block b hb (by simp [Value.ownBlock]), fun s1 l1 hs hl1 hf => ?_⟩
      refine hf.frame fun q hq => ?_
      rw [hs] at hq; cases hq
  · have hgs : gb < w.heap.size := (Array.getElem?_eq_some_iff.1 h1).1
    have htot : (rcells (l ++ [(x, y)])).length = (l.length + 1) * 2 := by rw [rcells_length, List.length_append]; rfl
    by_cases hroom : l.length + 1 ≤ cap
    · have hfit : l.length * i0.size + (rcells [(x, y)]).length ≤ cur.size := by rw [hz1, rcells_length, h4]; simp only [List.length_singleton]; omega
      have hr := run_append_room (P := Tryz.prog) w 22 22 24 i0 Tryz.underlying22 hi gb l.length cap cur h1 ⟨g, 0, none⟩ 1 c (rcells [(x, y)]) (by rw [hz1]; exact rcells_length _) hnews (rcells_one _) hroom hfit
      have hblk := setRow_heap w gb cur (cur.toList.take (l.length * i0.size) ++ rcells [(x, y)] ++ cur.toList.drop (l.length * i0.size + (rcells [(x, y)]).length)).toArray 24 _ h1
      have hoth := fun k (hk : k ≠ gb) => setRow_other w gb k (cur.toList.take (l.length * i0.size) ++ rcells [(x, y)] ++ cur.toList.drop (l.length * i0.size + (rcells [(x, y)]).length)).toArray hk
      rw [hz1] at hr hblk hoth
      rw [h5] at hr hblk hoth
      have hsz : (rcells l ++ rcells [(x, y)] ++ cur.toList.drop (l.length * 2 + (rcells [(x, y)]).length)).toArray.size = cap * 2 := by
        have e1 : cur.toList.length = cap * 2 := by rw [Array.length_toList, h4]
        simp only [List.size_toArray, List.length_append, List.length_drop, rcells_length, e1, List.length_singleton]
        omega
      refine ⟨_, _, hr, ⟨by rw [htot, List.length_append]; rfl, .inr ⟨gb, cap, _, by rw [List.length_append]; rfl, Nat.zero_le _, hblk, by rw [List.length_append]; exact hroom, h3, hsz, ?_⟩⟩, .inl rfl, by simp, ⟨rfl, rfl, rfl⟩, fun b _ hb => hoth b (fun e => hb (by rw [e]; rfl)), fun s1 l1 hs hl1 hf => ?_⟩
      · rw [← rcells_append]
        show (rcells (l ++ [(x, y)]) ++ _).take _ = _
        rw [List.length_append, List.length_singleton, ← htot]
        exact List.take_left
      · obtain ⟨f1, f2⟩ := hf
        rcases f2 with ⟨e, _⟩ | ⟨g1, cap1, cur1, e, _, k1, k2, k3, k4, k5⟩
        · rw [e] at hs; cases hs
        · rw [e] at hs
          simp only [Value.ownBlock, Option.some.injEq] at hs
          subst hs
          rw [h1] at k1
          simp only [Option.some.injEq, Obj.cells.injEq] at k1
          obtain ⟨k1, _⟩ := k1
          subst k1
          refine ⟨f1, .inr ⟨g1, cap1, _, e, Nat.zero_le _, hblk, k2, k3, by rw [hsz, ← h4]; exact k4, ?_⟩⟩
          show (rcells l ++ rcells [(x, y)] ++ _).take _ = _
          rw [List.append_assoc, List.take_append_of_le_length (by rw [rcells_length]; omega), ← h5, List.take_take, Nat.min_eq_left (by omega)]
          exact k5
    · have hcells : ∀ j u, (rcells l)[j]? = some u → w.cell? ((⟨gb, 0, none⟩ : Addr).add j) = some u := World.ownsRow.cells (w := w) (base := 0) (e := 24) (size := 2) (v := .slice (some ⟨gb, 0, none⟩) l.length cap) ⟨hl, .inr ⟨gb, cap, cur, rfl, Nat.zero_le _, h1, h2, h3, h4, h5⟩⟩ rfl
      obtain ⟨v', w', a1, a2, a3⟩ := run_append_arg_grows (P := Tryz.prog) (w := w) 22 22 24 i0 (.agg #[.int .i64 0, .int .i64 0]) 2 16 Tryz.underlying22 hi hz0 hz1 hz2 rfl (by decide) ⟨gb, 0, none⟩ l.length cap (rcells l) (rcells_length l) hcells ⟨g, 0, none⟩ 1 c (rcells [(x, y)]) (rcells_length _) hnews (by omega) (by simp only [maxLen]; omega) (by omega)
      have hkeep : ∀ b, b < w.heap.size → w'.heap[b]? = w.heap[b]? := fun b hb => a3.block b hb (by simp)
      obtain ⟨b1, b2⟩ := a2
      rcases b2 with ⟨_, b0⟩ | ⟨gn, capn, curn, rfl, bb, bh, brest⟩
      · omega
      · refine ⟨_, w', a1, ⟨by rw [htot, List.length_append]; rfl, .inr ⟨gn, capn, curn, by rw [List.length_append]; rfl, Nat.zero_le _, bh, ?_⟩⟩, .inr ⟨gn, rfl, bb⟩, a3.size, ⟨a3.os, a3.tape, a3.output⟩, fun b hb _ => hkeep b hb, fun s1 l1 hs hl1 hf => ?_⟩
        · rw [rcells_append, List.length_append]; exact brest
        · refine hf.frame fun q hq => hkeep q ?_
          rw [hs] at hq
          simp only [Value.ownBlock, Option.some.injEq] at hq
          omega

end Go.Proofs.YtmelblnflalanaaGreat
