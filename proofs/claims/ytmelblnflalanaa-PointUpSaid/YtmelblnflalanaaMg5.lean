/- Texts of ours, laid together: Ap, Row3, Zv, Bit, Da, Gm, Row5, Row13, Oa, De, Dy, Db, Br, Dc. -/
import Derived.WalkKit
import Derived.Deep.Slices
import Derived.Deep.Fields
import Derived.SizedLaws
import Derived.Test.YtmelblnflalanaaProg
import Derived.KernelRfl
import Derived.Lib.Hide
import Derived.Deep.LoopGhost
import Derived.Deep.QuietTactic
import Derived.BigQuiet
import Derived.BigRegion
import Derived.StillTailTactics
import Derived.Deep.OwnRows
import Derived.Deep.RegionWith
import Derived.Test.YtmelblnflalanaaMg4
/- append onto nil, the source nil or not; rows of bounds of differences of the call's own. -/
namespace Go.Proofs.Ytmelblnflalanaa
open Go Go.RowKit
set_option linter.unusedVariables false
set_option linter.unusedSimpArgs false

theorem run_append_fresh {P : Program} (w : World) (t ty e : TypeId) (i : TypeInfo) (z : Value) (size bytes : Nat) (ht : P.underlying t = some (.slice e)) (hi : P.info? e = some i) (hz : i.zero = some z)
    (hsize : i.size = size) (hby : i.bytes = bytes) (hzs : z.cells.size = size) (hsz : 0 < size) (A : Option Addr) (m c : Nat) (news : List Value) (hl : news.length = m * size) (h0 : A = none → m = 0)
    (hnews : ∀ ad, A = some ad → ∀ j u, news[j]? = some u → w.cell? (ad.add j) = some u) (h1 : ∀ u ∈ news, u.oneCell' = true) (h63 : m ≤ maxLen) (hbytes : m * bytes ≤ 140737488355328) :
    ∃ v' w', (Builtin.append_ #[t, t] ty #[.slice none 0 0, .slice A m c]).run P w = .ok v' w' ∧ w'.ownsRow w.heap.size e size v' m news ∧ w.grownBy w' none := by
  match A, h0, hnews with
  | none, h0, _ =>
    obtain rfl := h0 rfl
    have hn : news = [] := by simpa using hl
    subst hn
    refine ⟨.slice none 0 0, w, ?_, World.ownsRow_nil w _ _ _, ⟨rfl, rfl, rfl, Nat.le_refl _, fun _ _ _ => rfl⟩⟩
    simp [Builtin.append_, run_underlying ht, sizeOf, typeInfo, hi, Builtin.lenOf, Builtin.firstCells]
  | some ad, _, hnews =>
    obtain ⟨v', w', h2, h3, h4, _⟩ := run_append_own w w.heap.size t ty e i z size bytes ht hi hz hsize hby hzs hsz (.slice none 0 0) 0 [] (World.ownsRow_nil w _ _ _) ad m c news hl (hnews ad rfl) h1 (by omega) (by rw [Nat.zero_add]; exact hbytes) (Nat.le_refl _)
    refine ⟨v', w', h2, by simpa using h3, h4⟩

/-- An append whose run is known. -/
theorem wpList_append_run {P : Program} {w : World} {ops : Array Oper} {rest : List Oper} {o : Oper} {a : Act} {Q : Exit → Act → World → Prop} (hgd : o.guard = none) (s x : Operand) (t : TypeId)
    (ho : o.op = .call { callee := .builtin .append, args := #[s, x], argTypes := #[t, t] }) (v0 x0 v' : Value) (w' : World) (hs : a.eval s = v0) (hx : a.eval x = x0)
    (hr : (Builtin.append_ #[t, t] o.type #[v0, x0]).run P w = .ok v' w') (h : wpList P ops Q rest (a.put o.dst v') w') : wpList P ops Q (o :: rest) a w := by
  refine wpList_plain hgd fun _ hK => ?_
  unfold Oper.wp execOp
  simp only [ho, resolve, invoke, builtin, Sem.run_bind, Sem.run_pure, Result.andThen_ok, List.map_toArray, List.map_cons, List.map_nil, hs, hx, hr]
  exact hK _ _ h

/-- The cells of bounds of differences. -/
def lcells (l : List (Int × Int × Int)) : List Value := l.flatMap fun x => [.int .i64 x.1, .int .i64 x.2.1, .int .i32 x.2.2]
theorem lcells_length (l : List (Int × Int × Int)) : (lcells l).length = l.length * 3 := by
  induction l with
  | nil => rfl
  | cons x l ih => simp only [lcells, List.flatMap_cons, List.length_append, List.length_cons, List.length_nil] at ih ⊢; omega
theorem lcells_at : ∀ (l : List (Int × Int × Int)) (j : Nat), j < l.length → (lcells l)[j * 3]? = some (.int .i64 (l.getD j (0, 0, 0)).1) ∧ (lcells l)[j * 3 + 1]? = some (.int .i64 (l.getD j (0, 0, 0)).2.1) ∧ (lcells l)[j * 3 + 2]? = some (.int .i32 (l.getD j (0, 0, 0)).2.2)
  | [], j, h => by simp at h
  | x :: l, 0, _ => by simp [lcells]
  | x :: l, j + 1, h => by
    have ih := lcells_at l j (by simpa using h)
    have e : ∀ q, (lcells (x :: l))[(j + 1) * 3 + q]? = (lcells l)[j * 3 + q]? := fun q => by
      rw [show lcells (x :: l) = [.int .i64 x.1, .int .i64 x.2.1, .int .i32 x.2.2] ++ lcells l from rfl, List.getElem?_append_right (by simp; omega)]
      congr 1
      simp; omega
    have e0 := e 0
    rw [Nat.add_zero, Nat.add_zero] at e0
    rw [e0, e 1, e 2, List.getD_cons_succ]
    exact ih
theorem lcells_one (l : List (Int × Int × Int)) : ∀ u ∈ lcells l, u.oneCell' = true := by
  intro u hu
  obtain ⟨x, _, h⟩ := List.mem_flatMap.1 hu
  simp only [List.mem_cons, List.mem_nil_iff, or_false] at h
  rcases h with rfl | rfl | rfl <;> rfl
theorem lcells_index (l : List (Int × Int × Int)) (j : Nat) (u : Value) (h : (lcells l)[j]? = some u) : ∃ p, p < l.length ∧ ((j = p * 3 ∧ u = .int .i64 (l.getD p (0, 0, 0)).1) ∨ (j = p * 3 + 1 ∧ u = .int .i64 (l.getD p (0, 0, 0)).2.1) ∨ (j = p * 3 + 2 ∧ u = .int .i32 (l.getD p (0, 0, 0)).2.2)) := by
  have hj : j < l.length * 3 := by
    rw [← lcells_length]
    exact (List.getElem?_eq_some_iff.1 h).1
  have hp : j / 3 < l.length := by omega
  obtain ⟨h0, h1, h2⟩ := lcells_at l (j / 3) hp
  refine ⟨j / 3, hp, ?_⟩
  rcases (show j % 3 = 0 ∨ j % 3 = 1 ∨ j % 3 = 2 by omega) with e | e | e
  · left
    have e' : j = j / 3 * 3 := by omega
    rw [← e'] at h0
    rw [h0] at h
    exact ⟨e', (Option.some.inj h).symm⟩
  · right; left
    have e' : j = j / 3 * 3 + 1 := by omega
    rw [← e'] at h1
    rw [h1] at h
    exact ⟨e', (Option.some.inj h).symm⟩
  · right; right
    have e' : j = j / 3 * 3 + 2 := by omega
    rw [← e'] at h2
    rw [h2] at h
    exact ⟨e', (Option.some.inj h).symm⟩
theorem lims_news {w : World} {A : Option Addr} {l : List (Int × Int × Int)} (h : Lims w A l) : ∀ ad, A = some ad → ∀ j u, (lcells l)[j]? = some u → w.cell? (ad.add j) = some u := by
  intro ad e j u hu
  obtain ⟨p, hp, hc⟩ := lcells_index l j u hu
  obtain ⟨b, off, e', c0, c1, c2⟩ := h p hp
  subst e
  simp only [Option.some.injEq] at e'
  subst e'
  have ea : ∀ k, (⟨b, off, none⟩ : Addr).add k = ⟨b, off + k, none⟩ := fun k => by unfold Addr.add; split <;> simp_all
  rw [ea]
  rcases hc with ⟨rfl, rfl⟩ | ⟨rfl, rfl⟩ | ⟨rfl, rfl⟩
  · exact c0
  · rw [← Nat.add_assoc]; exact c1
  · rw [← Nat.add_assoc]; exact c2
theorem ints_news {w : World} {k : IntKind} {A : Option Addr} {xs : List Int} (h : Ints w k A xs) : ∀ ad, A = some ad → ∀ j u, (vals k xs)[j]? = some u → w.cell? (ad.add j) = some u := by
  intro ad e j u hu
  have hj : j < xs.length := by
    have := (List.getElem?_eq_some_iff.1 hu).1
    simpa [vals] using this
  obtain ⟨b, off, e', c0⟩ := h j hj
  subst e
  simp only [Option.some.injEq] at e'
  subst e'
  have ea : ∀ k, (⟨b, off, none⟩ : Addr).add k = ⟨b, off + k, none⟩ := fun k => by unfold Addr.add; split <;> simp_all
  rw [ea, c0]
  simp [vals, List.getElem?_map, List.getElem?_eq_getElem hj] at hu
  rw [← hu, List.getD_eq_getElem?_getD, List.getElem?_eq_getElem hj]
  rfl
/-- A row of the call's own of bounds of differences. -/
def OwnL (w : World) (base : Nat) (e : TypeId) (v : Value) (l : List (Int × Int × Int)) : Prop := w.ownsRow base e 3 v l.length (lcells l)
theorem OwnL.lims {w : World} {base : Nat} {e : TypeId} {v : Value} {l : List (Int × Int × Int)} (h : OwnL w base e v l) : ∃ A cap, v = .slice A l.length cap ∧ Lims w A l := by
  obtain ⟨hl, h⟩ := h
  rcases h with ⟨rfl, h0⟩ | ⟨g, cap, cur, rfl, _, h1, _, _, _, h2⟩
  · refine ⟨none, 0, by rw [h0], fun j hj => by omega⟩
  · refine ⟨some ⟨g, 0, none⟩, cap, rfl, fun j hj => ?_⟩
    have hc : ∀ q u, (lcells l)[q]? = some u → w.cell? ⟨g, q, none⟩ = some u := fun q u hu => by
      have hq : q < l.length * 3 := by rw [← lcells_length]; exact (List.getElem?_eq_some_iff.1 hu).1
      rw [← h2, List.getElem?_take, if_pos hq] at hu
      simp only [World.cell?, h1]
      simpa using hu
    obtain ⟨a0, a1, a2⟩ := lcells_at l j hj
    exact ⟨g, 0, rfl, by rw [Nat.zero_add]; exact hc _ _ a0, by rw [Nat.zero_add]; exact hc _ _ a1, by rw [Nat.zero_add]; exact hc _ _ a2⟩
theorem OwnL.later {w w' : World} {base : Nat} {e : TypeId} {v : Value} {l : List (Int × Int × Int)} (h : OwnL w base e v l) (hb : Below w.heap.size w w') : OwnL w' base e v l := by
  obtain ⟨hl, h⟩ := h
  refine ⟨hl, ?_⟩
  rcases h with h | ⟨g, cap, cur, e1, e2, h1, h2⟩
  · exact .inl h
  · exact .inr ⟨g, cap, cur, e1, e2, (hb.block g (Array.getElem?_eq_some_iff.1 h1).1).trans h1, h2⟩

end Go.Proofs.Ytmelblnflalanaa

/- A slice of structs of three numbers that came in; rows of 32 bits. -/
namespace Go.Proofs.Ytmelblnflalanaa
open Go Go.ChangeShapes Go.WideShapes Go.ChangeAt Go.RowKit
set_option linter.unusedVariables false
set_option linter.unusedSimpArgs false

section
variable {H : Type} {enc : TypeId × Value → H} {P : Program} {W W' : World}
/-- A slice of bounds of differences that came in. -/
theorem came_lims {t e : TypeId} {f0 f1 f2 : Field} {v : Value} {d : DataW H} {ps : List MemPlace} {r : Reach} {base : Nat} (ht : P.underlying t = some (.slice e)) (he : P.underlying e = some (.struct #[f0, f1, f2]))
    (k0 : P.underlying f0.type = some (.int .i64)) (k1 : P.underlying f1.type = some (.int .i64)) (k2 : P.underlying f2.type = some (.int .i32)) (hone : Deep.oneCellFields P #[f0, f1, f2] = true) (hc : P.cellsOf e = 3)
    (hval : Value.okWide P W r base t v) (h : DataW.Trod enc P W 0 (fun _ => true) true t v d ps) :
    ∃ A c xs, v = .slice A xs.length c ∧ Lims W A xs ∧ (∀ q, q < xs.length → (Lit.int .i64 (xs.getD q (0, 0, 0)).1).wf = true ∧ (Lit.int .i64 (xs.getD q (0, 0, 0)).2.1).wf = true ∧ (Lit.int .i32 (xs.getD q (0, 0, 0)).2.2).wf = true) ∧
      (xs = [] ∨ ∃ el sp, d = .slice el sp ∧ el.length = xs.length) := by
  obtain ⟨a0, len, cap, rfl⟩ := okWide_slice ht hval
  obtain ⟨fuel, hf⟩ := h
  rcases Deep.open_slice ht hf with ⟨hcs, hx⟩ | ⟨a, len', cap', m, n, D, Pl, hcs, _, hle, _, hmm, hx, hi⟩
  · simp [Value.cells] at hcs
    obtain ⟨rfl, rfl, rfl⟩ := hcs
    exact ⟨none, 0, [], rfl, fun j hj => by simp at hj, by simp, .inl rfl⟩
  · simp [Value.cells] at hcs
    obtain ⟨rfl, rfl, rfl⟩ := hcs
    have hlm : len ≤ m := by rw [hmm]; split <;> omega
    have each : ∀ i, i < m → ∃ q : Int × Int × Int, W.cell? (a.add (i * 3)) = some (.int .i64 q.1) ∧ W.cell? (a.add (i * 3 + 1)) = some (.int .i64 q.2.1) ∧ W.cell? (a.add (i * 3 + 2)) = some (.int .i32 q.2.2) ∧
        (Lit.int .i64 q.1).wf = true ∧ (Lit.int .i64 q.2.1).wf = true ∧ (Lit.int .i32 q.2.2).wf = true := by
      intro i him
      obtain ⟨cs', h1, h2⟩ := hi i him
      rw [hc] at h1
      obtain ⟨_, hlen, hcell⟩ := World.cells?_some h1
      obtain ⟨xs, k, _, hxy, _, hxl, hfd⟩ := DataW.trod_struct he h2
      obtain ⟨o0, c0⟩ := Deep.hone_of hone 0 f0 rfl
      obtain ⟨o1, c1⟩ := Deep.hone_of hone 1 f1 rfl
      obtain ⟨o2, c2⟩ := Deep.hone_of hone 2 f2 rfl
      match xs, hxl, cs', hlen with
      | [y0, y1, y2], _, [v0, v1, v2], _ =>
        have g0 := hfd 0 f0 rfl
        have g1 := hfd 1 f1 rfl
        have g2 := hfd 2 f2 rfl
        simp [o0, o1, o2, c0, c1, c2] at g0 g1 g2
        have e0 := hcell 0 (by omega)
        have e1 := hcell 1 (by omega)
        have e2 := hcell 2 (by omega)
        rw [Deep.add_add] at e0 e1 e2
        obtain ⟨z0, q0, _, w0⟩ := DataW.trod_int k0 g0
        obtain ⟨z1, q1, _, w1⟩ := DataW.trod_int k1 g1
        obtain ⟨z2, q2, _, w2⟩ := DataW.trod_int k2 g2
        simp at q0 q1 q2
        subst q0 q1 q2
        exact ⟨(z0, z1, z2), by simpa using e0, by simpa using e1, by simpa using e2, w0, w1, w2⟩
    obtain ⟨q, hq⟩ := Deep.choose_lt each
    simp only [Prod.mk.injEq] at hx
    refine ⟨some a, cap, (List.range len).map q, by simp, ?_, ?_, .inr ⟨_, _, hx.1, by simp⟩⟩
    · intro j hj
      simp only [List.length_map, List.length_range] at hj
      obtain ⟨h0, h1, h2, _⟩ := hq j (by omega)
      have hsp : a.spot = none := by
        have := World.cell?_spot (hq 0 (by omega)).1
        simpa [Addr.add] using this
      obtain ⟨b, off, spot⟩ := a
      simp only at hsp
      subst hsp
      have eg : ((List.range len).map q).getD j (0, 0, 0) = q j := by simp [List.getD_eq_getElem?_getD, hj]
      rw [eg]
      have ea : ∀ k, (⟨b, off, none⟩ : Addr).add k = ⟨b, off + k, none⟩ := fun k => by unfold Addr.add; split <;> simp_all
      rw [ea] at h0 h1 h2
      exact ⟨b, off, rfl, h0, by rw [Nat.add_assoc]; exact h1, by rw [Nat.add_assoc]; exact h2⟩
    · intro j hj
      simp only [List.length_map, List.length_range] at hj
      have eg : ((List.range len).map q).getD j (0, 0, 0) = q j := by simp [List.getD_eq_getElem?_getD, hj]
      rw [eg]
      exact (hq j (by omega)).2.2.2
theorem came_lim32 {xs : List (Int × Int × Int)} (h : ∀ q, q < xs.length → (Lit.int .i64 (xs.getD q (0, 0, 0)).1).wf = true ∧ (Lit.int .i64 (xs.getD q (0, 0, 0)).2.1).wf = true ∧ (Lit.int .i32 (xs.getD q (0, 0, 0)).2.2).wf = true) :
    ∀ q, q < xs.length → -2147483648 ≤ (xs.getD q (0, 0, 0)).2.2 ∧ (xs.getD q (0, 0, 0)).2.2 ≤ 2147483647 := fun q hq => bounds_i32 (h q hq).2.2
/-- Its length is within what the machine can hold. -/
theorem came_short3 {ts : List TypeId} {ds : List (DataW H)} {j : Nat} {t e : TypeId} {d : DataW H} {xs : List (Int × Int × Int)} {m : Nat} (hsz : (DataW.weightsEach P ts ds).all (· ≤ reachBytes) = true) (ht : ts[j]? = some t) (hd : ds[j]? = some d)
    (hu : P.underlying t = some (.slice e)) (hm : P.bytesOf e = m) (h : xs = [] ∨ ∃ el sp, d = .slice el sp ∧ el.length = xs.length) : xs.length * m ≤ 140737488351232 := by
  rcases h with rfl | ⟨el, sp, rfl, he⟩
  · simp
  · have h1 := sized_slice hsz ht hd hu
    rw [hm] at h1
    have h2 : el.length * m ≤ (el.length + sp.length) * m := Nat.mul_le_mul_right _ (by omega)
    rw [← he]
    exact Nat.le_trans h2 h1
/-- The bounds of 32 bits without a sign. -/
theorem came_u32 {xs : List Int} (h : ∀ n ∈ xs, (Lit.int .u32 n).wf = true) : ∀ q, q < xs.length → 0 ≤ xs.getD q 0 ∧ xs.getD q 0 ≤ 4294967295 := by
  intro q hq
  have h1 := h (xs.getD q 0) (by rw [List.getD_eq_getElem?_getD, List.getElem?_eq_getElem hq]; exact List.getElem_mem hq)
  exact bounds_u32 h1
end

end Go.Proofs.Ytmelblnflalanaa

/- The zero values of the great types. -/
namespace Go.Proofs.Ytmelblnflalanaa
open Go Go.RowKit
end Go.Proofs.Ytmelblnflalanaa

/- The lowest bit of numbers of 64 bits. -/
namespace Go.Proofs.Ytmelblnflalanaa
open Go Go.RowKit

theorem i64_and1 (x : Int) : bits .and .i64 x 1 = x % 2 := by
  show IntKind.i64.wrap ((BitVec.ofInt 64 x &&& BitVec.ofInt 64 1).toNat : Int) = _
  rw [BitVec.toNat_and]
  have e1 : (BitVec.ofInt 64 1).toNat = 1 := by decide
  rw [e1, Nat.and_one_is_mod, BitVec.toNat_ofInt, IntKind.wrap_i64]
  omega
theorem i64_and_and1 (x y : Int) : bits .and .i64 (bits .and .i64 x y) 1 = (x % 2) * (y % 2) := by
  rw [i64_and1]
  have h0 : bits .and .i64 x y = IntKind.i64.wrap ((BitVec.ofInt 64 x &&& BitVec.ofInt 64 y).toNat : Int) := rfl
  rw [h0, BitVec.toNat_and, IntKind.wrap_i64]
  have h := Nat.and_mod_two_pow (a := (BitVec.ofInt 64 x).toNat) (b := (BitVec.ofInt 64 y).toNat) (n := 1)
  simp only [Nat.pow_one] at h
  generalize hz : (BitVec.ofInt 64 x).toNat &&& (BitVec.ofInt 64 y).toNat = z at h ⊢
  have hx : (BitVec.ofInt 64 x).toNat % 2 = (x % 2).toNat := by rw [BitVec.toNat_ofInt]; omega
  have hy : (BitVec.ofInt 64 y).toNat % 2 = (y % 2).toNat := by rw [BitVec.toNat_ofInt]; omega
  rw [hx, hy] at h
  clear hx hy hz h0
  have cx : x % 2 = 0 ∨ x % 2 = 1 := by omega
  have cy : y % 2 = 0 ∨ y % 2 = 1 := by omega
  rcases cx with cx | cx <;> rcases cy with cy | cy <;> rw [cx, cy] at h ⊢
  · have h2 : z % 2 = 0 := h
    omega
  · have h2 : z % 2 = 0 := h
    omega
  · have h2 : z % 2 = 0 := h
    omega
  · have h2 : z % 2 = 1 := h
    omega
theorem i64_andNot1 (x : Int) (h0 : -9223372036854775808 ≤ x) (h1 : x ≤ 9223372036854775807) : bits .andNot .i64 x 1 = x - x % 2 := by
  show IntKind.i64.wrap ((BitVec.ofInt 64 x &&& ~~~ BitVec.ofInt 64 1).toNat : Int) = _
  have e : BitVec.ofInt 64 x &&& ~~~ BitVec.ofInt 64 1 = (BitVec.ofInt 64 x >>> 1) <<< 1 := by
    ext i hi
    simp only [BitVec.getElem_and, BitVec.getElem_not, BitVec.getElem_shiftLeft]
    by_cases h : i = 0
    · subst h; simp; 
    · have : (BitVec.ofInt 64 1)[i] = false := by
        have : BitVec.ofInt 64 1 = BitVec.twoPow 64 0 := by decide
        rw [this, BitVec.getElem_twoPow]; simp; omega
      rw [this]
      have : ¬ i < 1 := by omega
      simp [this]
      rw [← BitVec.getLsbD_eq_getElem]
      congr 1; omega
  rw [e, BitVec.toNat_shiftLeft, BitVec.toNat_ushiftRight, BitVec.toNat_ofInt, IntKind.wrap_i64, Nat.shiftLeft_eq, Nat.shiftRight_eq_div_pow]
  omega
end Go.Proofs.Ytmelblnflalanaa

/- Small functions of bound and dbm: what each call computes. -/
namespace Go.Proofs.Ytmelblnflalanaa
open Go.RowKit
set_option linter.unusedVariables false
set_option linter.unusedSimpArgs false
attribute [local go_sem] min_ints max_ints

set_option maxHeartbeats 400000 in
theorem few_any (n : Int) (w : World) :
    Calls Try.prog 22 #[.int .i64 n] w fun e w' => e = .returned (.bool (decide (0 ≤ n ∧ n ≤ 8))) ∧ w = w' := by
  by_cases h0 : 0 ≤ n
  · have hd : decide ((0 : Int) ≤ n) = true := decide_eq_true h0
    by_cases h1 : n ≤ 8
    all_goals
      go_enter Try.func22, Try.ntmps22
      go_wp2
      go_ret
      exact ⟨by simp [*], rfl⟩
  · have hd : decide ((0 : Int) ≤ n) = false := decide_eq_false h0
    go_enter Try.func22, Try.ntmps22
    go_wp2
    go_ret
    exact ⟨by simp [*], rfl⟩

set_option maxHeartbeats 400000 in
set_option maxRecDepth 100000 in
theorem keep_some (b i j : Nat) (n : Nat) (m : Nat → Nat → Int) (x : Int) (w : World) (hi : i < 9) (hj : j < 9) (h : MatAt w b 104 .i64 n m)
    (hx : (x == 2147483647) = false) (hx2 : (x != 2147483647) = true) (hx3 : -2147483648 ≤ x) (hx4 : x ≤ 2147483647) :
    Calls Try.prog 25 #[.pointer (some ⟨b, 0, none⟩), .int .i64 i, .int .i64 j, .int .i32 x] w fun e w' =>
      e = .returned (.tuple #[]) ∧ w' = (w.setCell ⟨b, 1 + i * 9 + j, none⟩ (.int .i64 (min (m i j) x))).drew := by
  have hc := h.cell i j hi hj
  have hf := h.frozen (1 + i * 9 + j)
  clear h
  go_enter Try.func25, Try.ntmps25
  go_wp2
  go_region
  go_wp2
  go_end0
  exact ⟨rfl, rfl⟩

set_option maxHeartbeats 400000 in
theorem keep_inf (p i j : Value) (w : World) :
    Calls Try.prog 25 #[p, i, j, .int .i32 2147483647] w fun e w' => e = .returned (.tuple #[]) ∧ w = w' := by
  go_enter Try.func25, Try.ntmps25
  go_wp2
  go_end0
  exact ⟨rfl, rfl⟩

theorem open_cells (n : Nat) : (Try.zeroCells104).setIfInBounds 0 (Value.int .i64 n) = matCells .i64 n (fun _ _ => 0) := by
  rfl

theorem keep_any (b : Nat) (x y : Int) (i j : Nat) (n : Nat) (m : Mat) (bd : Int) (w : World) (hi : i < 9) (hj : j < 9) (h : MatAt w b 104 .i64 n m) (hx : x = i) (hy : y = j)
    (h3 : -2147483648 ≤ bd) (h4 : bd ≤ 2147483647) :
    Calls Try.prog 25 #[.pointer (some ⟨b, 0, none⟩), .int .i64 x, .int .i64 y, .int .i32 bd] w fun e w' => e = .returned (.tuple #[]) ∧ Only b w w' ∧ MatAt w' b 104 .i64 n (keepM m i j bd) := by
  subst hx hy
  by_cases e : bd = 2147483647
  · subst e
    refine (keep_inf _ _ _ w).mono ?_
    rintro e w' ⟨rfl, rfl⟩
    exact ⟨rfl, Only.refl _ _, by unfold keepM; rw [if_pos rfl]; exact h⟩
  · refine (keep_some b i j n m bd w hi hj h (by simp [e]) (by simp [e]) h3 h4).mono ?_
    rintro e' w' ⟨rfl, rfl⟩
    refine ⟨rfl, ((Only.refl _ _).setCell _ _).drew, ?_⟩
    unfold keepM; rw [if_neg e]
    exact h.set i j hi hj _

/-- What the outer loop of 'open' has made. -/
def OpenRel (w0 : World) (n i j : Nat) (wr : World) : Prop := Below w0.heap.size w0 wr ∧ MatAt wr w0.heap.size 104 .i64 n (filled (openM n) i j) ∧ i ≤ n + 1 ∧ j ≤ n + 1

theorem open_start (w : World) (n : Nat) : OpenRel w n 0 0 (w.alloc (.cells ((Try.zeroCells104).setIfInBounds 0 (Value.int .i64 n)) 104)) := by
  refine ⟨(Below.refl _ _).alloc (Nat.le_refl _) _, ?_, by omega, by omega⟩
  unfold MatAt
  rw [heap_alloc_new, open_cells]
  rw [filled_zero]

theorem open_step {w wr : World} {n i j : Nat} (h : OpenRel w n i j wr) (hn : n ≤ 8) (hi : i < n + 1) (hj : j < n + 1) (v : Int) (hv : v = openM n i j) :
    OpenRel w n i (j + 1) (wr.setCell ⟨w.heap.size, 1 + i * 9 + j, none⟩ (.int .i64 v)) := by
  subst hv
  refine ⟨h.1.setCell (Nat.le_refl _) _, ?_, h.2.2.1, by omega⟩
  have := h.2.1.set i j (by omega) (by omega) (openM n i j)
  rw [upd_filled] at this
  exact this
theorem open_step2 {w wr : World} {n i j : Nat} (h : OpenRel w n i j wr) (hn : n ≤ 8) (hi : i < n + 1) (hj : j < n + 1) (u v : Int) (hv : v = openM n i j) :
    OpenRel w n i (j + 1) ((wr.setCell ⟨w.heap.size, 1 + i * 9 + j, none⟩ (.int .i64 u)).setCell ⟨w.heap.size, 1 + i * 9 + j, none⟩ (.int .i64 v)) := by
  subst hv
  refine ⟨(h.1.setCell (Nat.le_refl _) _).setCell (Nat.le_refl _) _, ?_, h.2.2.1, by omega⟩
  have := (h.2.1.set i j (by omega) (by omega) u).set i j (by omega) (by omega) (openM n i j)
  rw [upd_upd, upd_filled] at this
  exact this
theorem open_row {w wr : World} {n i : Nat} (h : OpenRel w n i (n + 1) wr) (hi : i < n + 1) : OpenRel w n (i + 1) 0 wr :=
  ⟨h.1, by rw [filled_row (openM_inside n)]; exact h.2.1, by omega, by omega⟩
theorem open_done {w wr : World} {n : Nat} (h : OpenRel w n (n + 1) 0 wr) : MatAt wr w.heap.size 104 .i64 n (openM n) := by
  have := h.2.1
  rw [filled_done (openM_inside n)] at this
  exact this

set_option maxRecDepth 100000 in
set_option maxHeartbeats 1000000 in
theorem open_any (n : Nat) (w : World) (hn : n ≤ 8) :
    Calls Try.prog 23 #[.int .i64 n] w fun e w' => e = .returned (.pointer (some ⟨w.heap.size, 0, none⟩)) ∧ Below w.heap.size w w' ∧ MatAt w' w.heap.size 104 .i64 n (openM n) := by
  have H0 := Lib.hid (open_start w n)
  go_enter Try.func23, Try.ntmps23
  go_wp2
  go_loopg [11] (n + 1) (fun k v wr => ∃ i : Nat, v = .int .i64 i ∧ OpenRel w n i 0 wr ∧ k + i = n + 1)
  case atStart => exact ⟨0, by simp, H0.out, by omega⟩
  case round =>
    clear H0
    obtain ⟨i, rfl, H, hk⟩ := hrel
    have HK := Lib.hid hk
    clear hk
    have HH := Lib.hid H
    by_cases hi : i < n + 1
    · clear H
      have hii : (i : Int) < (n : Int) + 1 := by omega
      go_wp2
      go_loopg [16] (n + 1) (fun k v wr => ∃ j : Nat, v = .int .i64 j ∧ OpenRel w n i j wr ∧ k + j = n + 1)
      case atStart => exact ⟨0, by simp, HH.out, by omega⟩
      case round =>
        clear HH
        obtain ⟨j, rfl, H, hk2⟩ := hrel
        have HK2 := Lib.hid hk2
        clear hk2
        have hf := H.2.1.frozen (1 + i * 9 + j)
        have hcell := H.2.1.cell i j (by omega) 
        have HH := Lib.hid H
        clear H hcell
        by_cases hj : j < n + 1
        · have hjj : (j : Int) < (n : Int) + 1 := by omega
          have hlt : w.heap.size < wr.heap.size := HH.out.2.1.lt
          have hcell := HH.out.2.1.cell i j (by omega) (by omega)
          by_cases e1 : i = j
          · have t1 : ((i : Int) == (j : Int)) = true := by simp [e1]
            have E1 := Lib.hid e1
            clear e1
            go_wp2
            go_roundg (gk - 1)
            case measure => have := HK2.out; omega
            case rel => exact ⟨j + 1, by go_num, open_step2 HH.out hn hi hj _ _ (by simp [openM, E1.out]; omega), by have := HK2.out; omega⟩
          · have t1 : ((i : Int) == (j : Int)) = false := by simp; omega
            by_cases e2 : i = 0
            · have t2 : ((i : Int) == 0) = true := by simp [e2]
              have E1 := Lib.hid e1
              have E2 := Lib.hid e2
              clear e1 e2
              go_wp2
              go_roundg (gk - 1)
              case measure => have := HK2.out; omega
              case rel => exact ⟨j + 1, by go_num, open_step2 HH.out hn hi hj _ _ (by simp [openM, E2.out]; omega), by have := HK2.out; omega⟩
            · have t2 : ((i : Int) == 0) = false := by simp; omega
              have E1 := Lib.hid e1
              have E2 := Lib.hid e2
              clear e1 e2
              go_wp2
              go_roundg (gk - 1)
              case measure => have := HK2.out; omega
              case rel => exact ⟨j + 1, by go_num, open_step HH.out hn hi hj _ (by have := E1.out; have := E2.out; simp [openM, none62, *]; omega), by have := HK2.out; omega⟩
        · have hjj : ¬ (j : Int) < (n : Int) + 1 := by omega
          go_wp2
          go_roundg (n - i)
          case measure => have := HK.out; omega
          case rel =>
            have : j = n + 1 := by have := HH.out.2.2.2; omega
            subst this
            exact ⟨i + 1, by go_num, open_row HH.out hi, by have := HK.out; omega⟩
    · have hii : ¬ (i : Int) < (n : Int) + 1 := by omega
      go_wp2
      go_ret
      have : i = n + 1 := by have := H.2.2.1; omega
      subst this
      exact ⟨rfl, H.1, open_done H⟩

end Go.Proofs.Ytmelblnflalanaa

/- Guards in memory: a copy with marked room behind its end; it is as it was. -/
namespace Go.Proofs.Ytmelblnflalanaa
open Go Go.RowKit
set_option linter.unusedVariables false
set_option linter.unusedSimpArgs false

/-- A slice of guards that can be read: four cells each. -/
def Gds (w : World) (A : Option Addr) (xs : List (Int × Int × Int × Int)) : Prop :=
  ∀ j, j < xs.length → ∃ b off, A = some ⟨b, off, none⟩ ∧ w.cell? ⟨b, off + j * 4, none⟩ = some (.int .i64 (xs.getD j (0, 0, 0, 0)).1) ∧ w.cell? ⟨b, off + j * 4 + 1, none⟩ = some (.int .i64 (xs.getD j (0, 0, 0, 0)).2.1) ∧
    w.cell? ⟨b, off + j * 4 + 2, none⟩ = some (.int .u8 (xs.getD j (0, 0, 0, 0)).2.2.1) ∧ w.cell? ⟨b, off + j * 4 + 3, none⟩ = some (.int .i64 (xs.getD j (0, 0, 0, 0)).2.2.2)
theorem Gds.below {w w' : World} {A : Option Addr} {xs : List (Int × Int × Int × Int)} (h : Gds w A xs) (hb : Below w.heap.size w w') : Gds w' A xs := fun j hj => by
  obtain ⟨b, off, e, h1, h2, h3, h4⟩ := h j hj
  exact ⟨b, off, e, (hb.cell (p := ⟨b, _, none⟩) (World.block_lt_of_cell? w _ h1)).trans h1, (hb.cell (p := ⟨b, _, none⟩) (World.block_lt_of_cell? w _ h2)).trans h2, (hb.cell (p := ⟨b, _, none⟩) (World.block_lt_of_cell? w _ h3)).trans h3, (hb.cell (p := ⟨b, _, none⟩) (World.block_lt_of_cell? w _ h4)).trans h4⟩
theorem gds_at {w : World} {A : Option Addr} {l : List (Int × Int × Int × Int)} {p : Nat} (h : Gds w A l) (hp : p < l.length) : ∃ b off x y z t, A = some ⟨b, off, none⟩ ∧ l.getD p (0, 0, 0, 0) = (x, y, z, t) ∧ w.cell? ⟨b, off + p * 4, none⟩ = some (.int .i64 x) ∧ w.cell? ⟨b, off + p * 4 + 1, none⟩ = some (.int .i64 y) ∧ w.cell? ⟨b, off + p * 4 + 2, none⟩ = some (.int .u8 z) ∧ w.cell? ⟨b, off + p * 4 + 3, none⟩ = some (.int .i64 t) := by
  obtain ⟨b, off, e, a1, a2, a3, a4⟩ := h p hp
  exact ⟨b, off, _, _, _, _, e, rfl, a1, a2, a3, a4⟩

/-- Block g begins with N guards. -/
def GRow (w : World) (g : Nat) (e : TypeId) (N : Nat) (f : Nat → Int × Int × Int × Int) : Prop :=
  ∃ cur : Array Value, w.heap[g]? = some (.cells cur e (0, 0)) ∧ cur.size = N * 4 ∧ ∀ j, j < N → cur[j * 4]? = some (.int .i64 (f j).1) ∧ cur[j * 4 + 1]? = some (.int .i64 (f j).2.1) ∧ cur[j * 4 + 2]? = some (.int .u8 (f j).2.2.1) ∧ cur[j * 4 + 3]? = some (.int .i64 (f j).2.2.2)
section
variable {w w' : World} {g : Nat} {e : TypeId} {N : Nat} {f : Nat → Int × Int × Int × Int}
theorem GRow.lt (h : GRow w g e N f) : g < w.heap.size := by obtain ⟨cur, h1, _⟩ := h; exact (Array.getElem?_eq_some_iff.1 h1).1
theorem GRow.cell (h : GRow w g e N f) (j : Nat) (hj : j < N) : w.cell? ⟨g, j * 4, none⟩ = some (.int .i64 (f j).1) ∧ w.cell? ⟨g, j * 4 + 1, none⟩ = some (.int .i64 (f j).2.1) ∧ w.cell? ⟨g, j * 4 + 2, none⟩ = some (.int .u8 (f j).2.2.1) ∧ w.cell? ⟨g, j * 4 + 3, none⟩ = some (.int .i64 (f j).2.2.2) := by
  obtain ⟨cur, h1, _, h2⟩ := h
  obtain ⟨a, b, c, d⟩ := h2 j hj
  exact ⟨by simp [World.cell?, h1, a], by simp [World.cell?, h1, b], by simp [World.cell?, h1, c], by simp [World.cell?, h1, d]⟩
theorem GRow.frozen (h : GRow w g e N f) (o : Nat) : w.frozen? ⟨g, o, none⟩ = false := by
  obtain ⟨cur, h1, _⟩ := h
  simp [World.frozen?, h1]
theorem GRow.later (h : GRow w g e N f) (hb : Below w.heap.size w w') : GRow w' g e N f := by
  have hlt := h.lt
  obtain ⟨cur, h1, h2⟩ := h
  exact ⟨cur, (hb.block g hlt).trans h1, h2⟩
theorem GRow.drewN (h : GRow w g e N f) (q : Nat) : GRow (w.drewN q) g e N f := h
theorem GRow.congr {f' : Nat → Int × Int × Int × Int} (h : GRow w g e N f) (hf : ∀ j, j < N → f j = f' j) : GRow w g e N f' := by
  obtain ⟨cur, h1, h2, h3⟩ := h
  exact ⟨cur, h1, h2, fun j hj => by rw [← hf j hj]; exact h3 j hj⟩
theorem GRow.set (h : GRow w g e N f) (p : Nat) (hp : p < N) (x y z t : Int) :
    GRow ((((w.setCell ⟨g, p * 4, none⟩ (.int .i64 x)).setCell ⟨g, p * 4 + 1, none⟩ (.int .i64 y)).setCell ⟨g, p * 4 + 2, none⟩ (.int .u8 z)).setCell ⟨g, p * 4 + 3, none⟩ (.int .i64 t)) g e N (fun j => if j = p then (x, y, z, t) else f j) := by
  obtain ⟨cur, h1, h2, h3⟩ := h
  refine ⟨(((cur.setIfInBounds (p * 4) (.int .i64 x)).setIfInBounds (p * 4 + 1) (.int .i64 y)).setIfInBounds (p * 4 + 2) (.int .u8 z)).setIfInBounds (p * 4 + 3) (.int .i64 t), ?_, by simpa using h2, fun j hj => ?_⟩
  · simp [World.setCell, Array.getElem?_modify, h1]
  · obtain ⟨a, b, c, d⟩ := h3 j hj
    by_cases e : j = p
    · subst e
      simp only [if_true]
      refine ⟨?_, ?_, ?_, ?_⟩
      · rw [Array.getElem?_setIfInBounds, if_neg (by omega), Array.getElem?_setIfInBounds, if_neg (by omega), Array.getElem?_setIfInBounds, if_neg (by omega), Array.getElem?_setIfInBounds, if_pos rfl, if_pos (by omega)]
      · rw [Array.getElem?_setIfInBounds, if_neg (by omega), Array.getElem?_setIfInBounds, if_neg (by omega), Array.getElem?_setIfInBounds, if_pos rfl, if_pos (by simp; omega)]
      · rw [Array.getElem?_setIfInBounds, if_neg (by omega), Array.getElem?_setIfInBounds, if_pos rfl, if_pos (by simp; omega)]
      · rw [Array.getElem?_setIfInBounds, if_pos rfl, if_pos (by simp; omega)]
    · simp only [if_neg e]
      refine ⟨?_, ?_, ?_, ?_⟩ <;>
        rw [Array.getElem?_setIfInBounds, if_neg (by omega), Array.getElem?_setIfInBounds, if_neg (by omega), Array.getElem?_setIfInBounds, if_neg (by omega), Array.getElem?_setIfInBounds, if_neg (by omega)] <;> assumption
theorem GRow.gds (h : GRow w g e N f) (l : List (Int × Int × Int × Int)) (hl : l.length ≤ N) (hf : ∀ j, j < l.length → f j = l.getD j (0, 0, 0, 0)) : Gds w (some ⟨g, 0, none⟩) l := fun j hj => by
  obtain ⟨a, b, c, d⟩ := h.cell j (by omega)
  rw [hf j hj] at a b c d
  exact ⟨g, 0, rfl, by rw [Nat.zero_add]; exact a, by rw [Nat.zero_add]; exact b, by rw [Nat.zero_add]; exact c, by rw [Nat.zero_add]; exact d⟩
end
theorem infoG : (Try.prog.info? 90).map (fun i => (i.zero, i.size, i.bytes)) = some (some (.agg #[.int .i64 0, .int .i64 0, .int .u8 0, .int .i64 0]), 4, 32) := by kernel_rfl
theorem grow_made (w : World) (e : TypeId) (N : Nat) : GRow (w.alloc (.cells (madeCells #[.int .i64 0, .int .i64 0, .int .u8 0, .int .i64 0] (N * 4)) e)) w.heap.size e N (fun _ => (0, 0, 0, 0)) := by
  refine ⟨_, heap_alloc_new _ _, by simp [madeCells], fun j hj => ?_⟩
  have h0 : j * 4 < N * 4 := by omega
  have h1 : j * 4 + 1 < N * 4 := by omega
  have h2 : j * 4 + 2 < N * 4 := by omega
  have h3 : j * 4 + 3 < N * 4 := by omega
  have e0 : j * 4 % 4 = 0 := by omega
  have e1 : (j * 4 + 1) % 4 = 1 := by omega
  have e2 : (j * 4 + 2) % 4 = 2 := by omega
  have e3 : (j * 4 + 3) % 4 = 3 := by omega
  simp [madeCells, h0, h1, h2, h3, e0, e1, e2, e3]

/-- The copy, and its marks. -/
def handG (l : List (Int × Int × Int × Int)) (j : Nat) : Int × Int × Int × Int := if j < l.length then l.getD j (0, 0, 0, 0) else (0, 0, 0, -700 - j + l.length)
def handGUp (l : List (Int × Int × Int × Int)) (p j : Nat) : Int × Int × Int × Int := if j < p then handG l j else (0, 0, 0, 0)
def HandGR (w0 : World) (l : List (Int × Int × Int × Int)) (p : Nat) (wr : World) : Prop := Below w0.heap.size w0 wr ∧ GRow wr w0.heap.size 90 (l.length + 9) (handGUp l p)
theorem HandGR.next {w0 wr : World} {l : List (Int × Int × Int × Int)} {p : Nat} (h : HandGR w0 l p wr) (hp : p < l.length + 9) (x y z t : Int) (hx : handG l p = (x, y, z, t)) :
    HandGR w0 l (p + 1) ((((wr.setCell ⟨w0.heap.size, p * 4, none⟩ (.int .i64 x)).setCell ⟨w0.heap.size, p * 4 + 1, none⟩ (.int .i64 y)).setCell ⟨w0.heap.size, p * 4 + 2, none⟩ (.int .u8 z)).setCell ⟨w0.heap.size, p * 4 + 3, none⟩ (.int .i64 t)) := by
  refine ⟨(((h.1.setCell (p := ⟨w0.heap.size, _, none⟩) (Nat.le_refl _) _).setCell (p := ⟨w0.heap.size, _, none⟩) (Nat.le_refl _) _).setCell (p := ⟨w0.heap.size, _, none⟩) (Nat.le_refl _) _).setCell (p := ⟨w0.heap.size, _, none⟩) (Nat.le_refl _) _, (h.2.set p hp x y z t).congr fun j hj => ?_⟩
  unfold handGUp
  by_cases e : j = p
  · subst e; rw [if_pos rfl, if_pos (by omega), hx]
  · rw [if_neg e]
    by_cases e2 : j < p
    · rw [if_pos e2, if_pos (by omega)]
    · rw [if_neg e2, if_neg (by omega)]

theorem HandGR.gds {w0 w : World} {l : List (Int × Int × Int × Int)} (h : HandGR w0 l (l.length + 9) w) : Gds w (some ⟨w0.heap.size, 0, none⟩) l :=
  h.2.gds l (by omega) fun j hj => by unfold handGUp handG; rw [if_pos (by omega), if_pos hj]

end Go.Proofs.Ytmelblnflalanaa

/- A slice of guards that came in. -/
namespace Go.Proofs.Ytmelblnflalanaa
open Go Go.ChangeShapes Go.WideShapes Go.ChangeAt Go.RowKit
set_option linter.unusedVariables false
set_option linter.unusedSimpArgs false

section
variable {H : Type} {enc : TypeId × Value → H} {P : Program} {W W' : World}
/-- A slice of guards that came in. -/
theorem came_guards {t e : TypeId} {f0 f1 f2 f3 : Field} {v : Value} {d : DataW H} {ps : List MemPlace} {r : Reach} {base : Nat} (ht : P.underlying t = some (.slice e)) (he : P.underlying e = some (.struct #[f0, f1, f2, f3]))
    (k0 : P.underlying f0.type = some (.int .i64)) (k1 : P.underlying f1.type = some (.int .i64)) (k2 : P.underlying f2.type = some (.int .u8)) (k3 : P.underlying f3.type = some (.int .i64)) (hone : Deep.oneCellFields P #[f0, f1, f2, f3] = true) (hc : P.cellsOf e = 4)
    (hval : Value.okWide P W r base t v) (h : DataW.Trod enc P W 0 (fun _ => true) true t v d ps) :
    ∃ A c xs, v = .slice A xs.length c ∧ Gds W A xs ∧ (∀ q, q < xs.length → (Lit.int .i64 (xs.getD q (0, 0, 0, 0)).1).wf = true ∧ (Lit.int .i64 (xs.getD q (0, 0, 0, 0)).2.1).wf = true ∧ (Lit.int .u8 (xs.getD q (0, 0, 0, 0)).2.2.1).wf = true ∧ (Lit.int .i64 (xs.getD q (0, 0, 0, 0)).2.2.2).wf = true) ∧
      (xs = [] ∨ ∃ el sp, d = .slice el sp ∧ el.length = xs.length) := by
  obtain ⟨a0, len, cap, rfl⟩ := okWide_slice ht hval
  obtain ⟨fuel, hf⟩ := h
  rcases Deep.open_slice ht hf with ⟨hcs, hx⟩ | ⟨a, len', cap', m, n, D, Pl, hcs, _, hle, _, hmm, hx, hi⟩
  · simp [Value.cells] at hcs
    obtain ⟨rfl, rfl, rfl⟩ := hcs
    exact ⟨none, 0, [], rfl, fun j hj => by simp at hj, by simp, .inl rfl⟩
  · simp [Value.cells] at hcs
    obtain ⟨rfl, rfl, rfl⟩ := hcs
    have hlm : len ≤ m := by rw [hmm]; split <;> omega
    have each : ∀ i, i < m → ∃ q : Int × Int × Int × Int, W.cell? (a.add (i * 4)) = some (.int .i64 q.1) ∧ W.cell? (a.add (i * 4 + 1)) = some (.int .i64 q.2.1) ∧ W.cell? (a.add (i * 4 + 2)) = some (.int .u8 q.2.2.1) ∧ W.cell? (a.add (i * 4 + 3)) = some (.int .i64 q.2.2.2) ∧
        (Lit.int .i64 q.1).wf = true ∧ (Lit.int .i64 q.2.1).wf = true ∧ (Lit.int .u8 q.2.2.1).wf = true ∧ (Lit.int .i64 q.2.2.2).wf = true := by
      intro i him
      obtain ⟨cs', h1, h2⟩ := hi i him
      rw [hc] at h1
      obtain ⟨_, hlen, hcell⟩ := World.cells?_some h1
      obtain ⟨xs, k, _, hxy, _, hxl, hfd⟩ := DataW.trod_struct he h2
      obtain ⟨o0, c0⟩ := Deep.hone_of hone 0 f0 rfl
      obtain ⟨o1, c1⟩ := Deep.hone_of hone 1 f1 rfl
      obtain ⟨o2, c2⟩ := Deep.hone_of hone 2 f2 rfl
      obtain ⟨o3, c3⟩ := Deep.hone_of hone 3 f3 rfl
      match xs, hxl, cs', hlen with
      | [y0, y1, y2, y3], _, [v0, v1, v2, v3], _ =>
        have g0 := hfd 0 f0 rfl
        have g1 := hfd 1 f1 rfl
        have g2 := hfd 2 f2 rfl
        have g3 := hfd 3 f3 rfl
        simp [o0, o1, o2, o3, c0, c1, c2, c3] at g0 g1 g2 g3
        have e0 := hcell 0 (by omega)
        have e1 := hcell 1 (by omega)
        have e2 := hcell 2 (by omega)
        have e3 := hcell 3 (by omega)
        rw [Deep.add_add] at e0 e1 e2 e3
        obtain ⟨z0, q0, _, w0⟩ := DataW.trod_int k0 g0
        obtain ⟨z1, q1, _, w1⟩ := DataW.trod_int k1 g1
        obtain ⟨z2, q2, _, w2⟩ := DataW.trod_int k2 g2
        obtain ⟨z3, q3, _, w3⟩ := DataW.trod_int k3 g3
        simp at q0 q1 q2 q3
        subst q0 q1 q2 q3
        exact ⟨(z0, z1, z2, z3), by simpa using e0, by simpa using e1, by simpa using e2, by simpa using e3, w0, w1, w2, w3⟩
    obtain ⟨q, hq⟩ := Deep.choose_lt each
    simp only [Prod.mk.injEq] at hx
    refine ⟨some a, cap, (List.range len).map q, by simp, ?_, ?_, .inr ⟨_, _, hx.1, by simp⟩⟩
    · intro j hj
      simp only [List.length_map, List.length_range] at hj
      obtain ⟨h0, h1, h2, h3, _⟩ := hq j (by omega)
      have hsp : a.spot = none := by
        have := World.cell?_spot (hq 0 (by omega)).1
        simpa [Addr.add] using this
      obtain ⟨b, off, spot⟩ := a
      simp only at hsp
      subst hsp
      have eg : ((List.range len).map q).getD j (0, 0, 0, 0) = q j := by simp [List.getD_eq_getElem?_getD, hj]
      rw [eg]
      have ea : ∀ k, (⟨b, off, none⟩ : Addr).add k = ⟨b, off + k, none⟩ := fun k => by unfold Addr.add; split <;> simp_all
      rw [ea] at h0 h1 h2 h3
      exact ⟨b, off, rfl, h0, by rw [Nat.add_assoc]; exact h1, by rw [Nat.add_assoc]; exact h2, by rw [Nat.add_assoc]; exact h3⟩
    · intro j hj
      simp only [List.length_map, List.length_range] at hj
      have eg : ((List.range len).map q).getD j (0, 0, 0, 0) = q j := by simp [List.getD_eq_getElem?_getD, hj]
      rw [eg]
      exact (hq j (by omega)).2.2.2.2
theorem came_cmp {xs : List (Int × Int × Int × Int)} (h : ∀ q, q < xs.length → (Lit.int .i64 (xs.getD q (0, 0, 0, 0)).1).wf = true ∧ (Lit.int .i64 (xs.getD q (0, 0, 0, 0)).2.1).wf = true ∧ (Lit.int .u8 (xs.getD q (0, 0, 0, 0)).2.2.1).wf = true ∧ (Lit.int .i64 (xs.getD q (0, 0, 0, 0)).2.2.2).wf = true) :
    ∀ q, q < xs.length → 0 ≤ (xs.getD q (0, 0, 0, 0)).2.2.1 ∧ (xs.getD q (0, 0, 0, 0)).2.2.1 ≤ 255 := fun q hq => by
  exact bounds_u8 (h q hq).2.2.1
theorem came_short4 {ts : List TypeId} {ds : List (DataW H)} {j : Nat} {t e : TypeId} {d : DataW H} {xs : List (Int × Int × Int × Int)} {m : Nat} (hsz : (DataW.weightsEach P ts ds).all (· ≤ reachBytes) = true) (ht : ts[j]? = some t) (hd : ds[j]? = some d)
    (hu : P.underlying t = some (.slice e)) (hm : P.bytesOf e = m) (h : xs = [] ∨ ∃ el sp, d = .slice el sp ∧ el.length = xs.length) : xs.length * m ≤ 140737488351232 := by
  rcases h with rfl | ⟨el, sp, rfl, he⟩
  · simp
  · have h1 := sized_slice hsz ht hd hu
    rw [hm] at h1
    have h2 : el.length * m ≤ (el.length + sp.length) * m := Nat.mul_le_mul_right _ (by omega)
    rw [← he]
    exact Nat.le_trans h2 h1
end

end Go.Proofs.Ytmelblnflalanaa

/- How a valuation, a fraction, two numbers and guards come in, in one struct: the guards too. -/
namespace Go.Proofs.Ytmelblnflalanaa
open Go Go.ChangeShapes Go.WideShapes Go.ChangeAt Go.RowKit
set_option linter.unusedVariables false
set_option linter.unusedSimpArgs false

section
variable {H : Type} {enc : TypeId × Value → H} {P : Program} {W W' : World}
/-- A slice of guards that lies in a struct that came in. -/
theorem guards_opened {t e : TypeId} {f0 f1 f2 f3 : Field} {v : Value} {fuel : Nat} {x : DataW H × List MemPlace} (ht : P.underlying t = some (.slice e)) (he : P.underlying e = some (.struct #[f0, f1, f2, f3]))
    (k0 : P.underlying f0.type = some (.int .i64)) (k1 : P.underlying f1.type = some (.int .i64)) (k2 : P.underlying f2.type = some (.int .u8)) (k3 : P.underlying f3.type = some (.int .i64)) (hone : Deep.oneCellFields P #[f0, f1, f2, f3] = true) (hc : P.cellsOf e = 4)
    (hf : DataW.trod enc P W 0 (fun _ => true) true fuel t [v] = some x) :
    ∃ A c xs, v = .slice A xs.length c ∧ Gds W A xs ∧ (∀ q, q < xs.length → (Lit.int .i64 (xs.getD q (0, 0, 0, 0)).1).wf = true ∧ (Lit.int .i64 (xs.getD q (0, 0, 0, 0)).2.1).wf = true ∧ (Lit.int .u8 (xs.getD q (0, 0, 0, 0)).2.2.1).wf = true ∧ (Lit.int .i64 (xs.getD q (0, 0, 0, 0)).2.2.2).wf = true) ∧
      RowD x.1 (xs.map (·.1)) := by
  rcases Deep.open_slice ht hf with ⟨hcs, hx⟩ | ⟨a, len, cap, m, n, D, Pl, hcs, _, hle, _, hmm, hx, hi⟩
  · simp only [List.cons.injEq, and_true] at hcs
    subst hcs
    exact ⟨none, 0, [], rfl, fun j hj => by simp at hj, by simp, .inl rfl⟩
  · simp only [List.cons.injEq, and_true] at hcs
    subst hcs
    have hlm : len ≤ m := by rw [hmm]; split <;> omega
    have each : ∀ i, i < m → ∃ q : Int × Int × Int × Int, W.cell? (a.add (i * 4)) = some (.int .i64 q.1) ∧ W.cell? (a.add (i * 4 + 1)) = some (.int .i64 q.2.1) ∧ W.cell? (a.add (i * 4 + 2)) = some (.int .u8 q.2.2.1) ∧ W.cell? (a.add (i * 4 + 3)) = some (.int .i64 q.2.2.2) ∧
        (Lit.int .i64 q.1).wf = true ∧ (Lit.int .i64 q.2.1).wf = true ∧ (Lit.int .u8 q.2.2.1).wf = true ∧ (Lit.int .i64 q.2.2.2).wf = true := by
      intro i him
      obtain ⟨cs', h1, h2⟩ := hi i him
      rw [hc] at h1
      obtain ⟨_, hlen, hcell⟩ := World.cells?_some h1
      obtain ⟨xs, k, _, hxy, _, hxl, hfd⟩ := DataW.trod_struct he h2
      obtain ⟨o0, c0⟩ := Deep.hone_of hone 0 f0 rfl
      obtain ⟨o1, c1⟩ := Deep.hone_of hone 1 f1 rfl
      obtain ⟨o2, c2⟩ := Deep.hone_of hone 2 f2 rfl
      obtain ⟨o3, c3⟩ := Deep.hone_of hone 3 f3 rfl
      match xs, hxl, cs', hlen with
      | [y0, y1, y2, y3], _, [v0, v1, v2, v3], _ =>
        have g0 := hfd 0 f0 rfl
        have g1 := hfd 1 f1 rfl
        have g2 := hfd 2 f2 rfl
        have g3 := hfd 3 f3 rfl
        simp [o0, o1, o2, o3, c0, c1, c2, c3] at g0 g1 g2 g3
        have e0 := hcell 0 (by omega)
        have e1 := hcell 1 (by omega)
        have e2 := hcell 2 (by omega)
        have e3 := hcell 3 (by omega)
        rw [Deep.add_add] at e0 e1 e2 e3
        obtain ⟨z0, q0, _, w0⟩ := DataW.trod_int k0 g0
        obtain ⟨z1, q1, _, w1⟩ := DataW.trod_int k1 g1
        obtain ⟨z2, q2, _, w2⟩ := DataW.trod_int k2 g2
        obtain ⟨z3, q3, _, w3⟩ := DataW.trod_int k3 g3
        simp at q0 q1 q2 q3
        subst q0 q1 q2 q3
        exact ⟨(z0, z1, z2, z3), by simpa using e0, by simpa using e1, by simpa using e2, by simpa using e3, w0, w1, w2, w3⟩
    obtain ⟨q, hq⟩ := Deep.choose_lt each
    refine ⟨some a, cap, (List.range len).map q, by simp, ?_, ?_, .inr ⟨_, _, by rw [hx], by simp⟩⟩
    · intro j hj
      simp only [List.length_map, List.length_range] at hj
      obtain ⟨h0, h1, h2, h3, _⟩ := hq j (by omega)
      have hsp : a.spot = none := by
        have := World.cell?_spot (hq 0 (by omega)).1
        simpa [Addr.add] using this
      obtain ⟨b, off, spot⟩ := a
      simp only at hsp
      subst hsp
      have eg : ((List.range len).map q).getD j (0, 0, 0, 0) = q j := by simp [List.getD_eq_getElem?_getD, hj]
      rw [eg]
      have ea : ∀ k, (⟨b, off, none⟩ : Addr).add k = ⟨b, off + k, none⟩ := fun k => by unfold Addr.add; split <;> simp_all
      rw [ea] at h0 h1 h2 h3
      exact ⟨b, off, rfl, h0, by rw [Nat.add_assoc]; exact h1, by rw [Nat.add_assoc]; exact h2, by rw [Nat.add_assoc]; exact h3⟩
    · intro j hj
      simp only [List.length_map, List.length_range] at hj
      have eg : ((List.range len).map q).getD j (0, 0, 0, 0) = q j := by simp [List.getD_eq_getElem?_getD, hj]
      rw [eg]
      exact (hq j (by omega)).2.2.2.2
theorem came_movedG {t e g : TypeId} {f0 f1 f2 f3 f4 q0 q1 s0 s1 s2 s3 : Field} {v : Value} {d : DataW H} {ps : List MemPlace} {r : Reach} {base : Nat} (hs : P.underlying t = some (.struct #[f0, f1, f2, f3, f4]))
    (ho : f0.offset = 0 ∧ f1.offset = 1 ∧ f2.offset = 3 ∧ f3.offset = 4 ∧ f4.offset = 5) (hz : P.cellsOf f0.type = 1 ∧ P.cellsOf f1.type = 2 ∧ P.cellsOf f2.type = 1 ∧ P.cellsOf f3.type = 1 ∧ P.cellsOf f4.type = 1) (hC : P.cellsOf t = 6)
    (u0 : P.underlying f0.type = some (.slice e)) (u1 : P.underlying f1.type = some (.struct #[q0, q1])) (u2 : P.underlying f2.type = some (.int .i64)) (u3 : P.underlying f3.type = some (.int .i64)) (u4 : P.underlying f4.type = some (.slice g))
    (he : P.underlying e = some (.struct #[q0, q1])) (k0 : P.underlying q0.type = some (.int .i64)) (k1 : P.underlying q1.type = some (.int .i64)) (hone : Deep.oneCellFields P #[q0, q1] = true) (hc : P.cellsOf e = 2)
    (hg : P.underlying g = some (.struct #[s0, s1, s2, s3])) (b0 : P.underlying s0.type = some (.int .i64)) (b1 : P.underlying s1.type = some (.int .i64)) (b2 : P.underlying s2.type = some (.int .u8)) (b3 : P.underlying s3.type = some (.int .i64)) (hone4 : Deep.oneCellFields P #[s0, s1, s2, s3] = true) (hc4 : P.cellsOf g = 4)
    (hval : Value.okWide P W r base t v) (h : DataW.Trod enc P W 0 (fun _ => true) true t v d ps) :
    ∃ (A : Option Addr) (c : Nat) (xs : List (Int × Int)) (d1 d2 ck nn : Int) (G : Option Addr) (gc : Nat) (gs : List (Int × Int × Int × Int)) (ys : List (DataW H × List MemPlace)) (y0 y4 : DataW H × List MemPlace), v = .agg #[.slice A xs.length c, .int .i64 d1, .int .i64 d2, .int .i64 ck, .int .i64 nn, .slice G gs.length gc] ∧ RatsA W A xs ∧ All64v xs ∧ I64 d1 ∧ I64 d2 ∧ I64 ck ∧ I64 nn ∧
      d = .agg (ys.map (·.1)) ∧ ys[0]? = some y0 ∧ RowD y0.1 (xs.map (·.1)) ∧ ys[4]? = some y4 ∧ RowD y4.1 (gs.map (·.1)) ∧ Gds W G gs ∧ (∀ q, q < gs.length → 0 ≤ (gs.getD q (0, 0, 0, 0)).2.2.1 ∧ (gs.getD q (0, 0, 0, 0)).2.2.1 ≤ 255) := by
  obtain ⟨l, ys, n, rfl, hl, rfl, hy, hf⟩ := open_parts hs hval h
  obtain ⟨o0, o1, o2, o3, o4⟩ := ho
  obtain ⟨z0, z1, z2, z3, z4⟩ := hz
  rw [hC] at hl
  have hy : ys.length = 5 := hy
  match l, hl, ys, hy with
  | [a0, a1, a2, a3, a4, a5], _, [y0, y1, y2, y3, y4], _ =>
    have g0 := hf 0 f0 rfl
    have g1 := hf 1 f1 rfl
    have g2 := hf 2 f2 rfl
    have g3 := hf 3 f3 rfl
    have g4 := hf 4 f4 rfl
    rw [o0, z0] at g0
    rw [o1, z1] at g1
    rw [o2, z2] at g2
    rw [o3, z3] at g3
    rw [o4, z4] at g4
    simp only [List.drop_succ_cons, List.drop_zero, List.take_succ_cons, List.take_zero, List.getElem?_cons_zero, List.getElem?_cons_succ] at g0 g1 g2 g3 g4
    obtain ⟨A, c, xs, rfl, hI, h64, hD⟩ := rats_opened u0 he k0 k1 hone hc g0
    obtain ⟨G, gc, gs, rfl, hGd, hGw, hGl⟩ := guards_opened u4 hg b0 b1 b2 b3 hone4 hc4 g4
    obtain ⟨n2, e2, _, w2⟩ := DataW.trod_int u2 g2
    obtain ⟨n3, e3, _, w3⟩ := DataW.trod_int u3 g3
    simp only [List.cons.injEq, and_true] at e2 e3
    subst e2; subst e3
    obtain ⟨us, k, _, hxy, _, hxl, hfd⟩ := DataW.trod_struct u1 g1
    obtain ⟨p0, c0⟩ := Deep.hone_of hone 0 q0 rfl
    obtain ⟨p1, c1⟩ := Deep.hone_of hone 1 q1 rfl
    match us, hxl with
    | [x0, x1], _ =>
      have w0 := hfd 0 q0 rfl
      have w1 := hfd 1 q1 rfl
      simp [p0, p1, c0, c1] at w0 w1
      obtain ⟨d1, r0, _, v0⟩ := DataW.trod_int k0 w0
      obtain ⟨d2, r1, _, v1⟩ := DataW.trod_int k1 w1
      simp at r0 r1
      subst r0 r1
      exact ⟨A, c, xs, d1, d2, n2, n3, G, gc, gs, _, y0, y4, rfl, hI, h64, came_i64 v0, came_i64 v1, came_i64 w2, came_i64 w3, rfl, rfl, hD, rfl, hGl, hGd, came_cmp hGw⟩
theorem came_shortM4 {ts : List TypeId} {ds : List (DataW H)} {ys : List (DataW H × List MemPlace)} {j : Nat} {t : TypeId} {fs : Array Field} {g : Field} {f : TypeId} {y : DataW H × List MemPlace} {xs : List (Int × Int × Int × Int)} {m : Nat} (hsz : (DataW.weightsEach P ts ds).all (· ≤ reachBytes) = true) (ht : ts[j]? = some t) (hd : ds[j]? = some (.agg (ys.map (·.1))))
    (hu : P.underlying t = some (.struct fs)) (hg : fs[4]? = some g) (hy : ys[4]? = some y) (he : P.underlying g.type = some (.slice f)) (hm : P.bytesOf f = m) (h : RowD y.1 (xs.map (·.1))) : xs.length * m ≤ 140737488351232 := by
  have := came_shortF hsz ht hd hu hg hy he hm h
  rwa [List.length_map] at this
end

end Go.Proofs.Ytmelblnflalanaa

/- Cells of a zone under way: less, forget; is it a clock? -/
namespace Go.Proofs.Ytmelblnflalanaa
open Go Go.RowKit
set_option linter.unusedVariables false
set_option linter.unusedSimpArgs false
attribute [local go_sem] min_ints max_ints

/-- A cell made stricter. -/
def lessM (m : Mat) (i j : Nat) (x : Int) : Mat := upd m i j (min (m i j) x)

set_option maxHeartbeats 400000 in
set_option maxRecDepth 100000 in
theorem less_any (b i j n : Nat) (m : Mat) (x : Int) (w : World) (hi : i < 9) (hj : j < 9) (h : MatAt w b 71 .i32 n m) :
    Calls Try.prog 42 #[.pointer (some ⟨b, 0, none⟩), .int .i64 i, .int .i64 j, .int .i32 x] w fun e w' => e = .returned (.tuple #[]) ∧ Only b w w' ∧ MatAt w' b 71 .i32 n (lessM m i j x) := by
  have hc := h.cell i j hi hj
  have hf := h.frozen (1 + i * 9 + j)
  have HM := Lib.hid h
  clear h
  go_enter Try.func42, Try.ntmps42
  go_wp2
  go_region
  go_wp2
  go_end0
  exact ⟨rfl, ((Only.refl _ _).setCell _ _).drew, HM.out.set i j hi hj _⟩

/-- A clock that nothing is said of, behind the first p cells. -/
def forgetUp (x : Nat) (m : Mat) : Nat → Mat
  | 0 => m
  | p + 1 => if p = x then forgetUp x m p else upd (upd (forgetUp x m p) x p 2147483647) p x (upd (forgetUp x m p) x p 2147483647 p 0)
def ForgetR (w0 : World) (b n x : Nat) (m : Mat) (p : Nat) (wr : World) : Prop := Only b w0 wr ∧ MatAt wr b 71 .i32 n (forgetUp x m p)
theorem ForgetR.skip {w0 wr : World} {b n x : Nat} {m : Mat} (h : ForgetR w0 b n x m x wr) : ForgetR w0 b n x m (x + 1) wr :=
  ⟨h.1, by have := h.2; unfold forgetUp; rw [if_pos rfl]; exact this⟩

set_option maxHeartbeats 1000000 in
set_option maxRecDepth 100000 in
theorem forget_any (b n x : Nat) (m : Mat) (w : World) (hn : n ≤ 8) (hx : x ≤ n) (h : MatAt w b 71 .i32 n m) :
    Calls Try.prog 44 #[.pointer (some ⟨b, 0, none⟩), .int .i64 x] w fun e w' => e = .returned (.tuple #[]) ∧ Only b w w' ∧ MatAt w' b 71 .i32 n (forgetUp x m (n + 1)) := by
  have h0 := h.head
  have H0 := Lib.hid (show ForgetR w b n x m 0 w from ⟨Only.refl _ _, h⟩)
  have g1 : IntKind.i64.wrap ((n : Int) + 1) = (n : Int) + 1 := IntWalk.i64_in _ (by omega)
  clear h
  go_enter Try.func44, Try.ntmps44
  go_wp2
  go_loopg [11] (n + 1) (fun g v wr => ∃ p : Nat, v = .int .i64 p ∧ ForgetR w b n x m p wr ∧ Hid (p ≤ n + 1 ∧ g + p = n + 1))
  case atStart => exact ⟨0, by simp, H0.out, by omega, by omega⟩
  case round =>
    clear H0
    obtain ⟨p, rfl, H, HG⟩ := hrel
    have HR := Lib.hid H
    clear H
    by_cases hp : p < n + 1
    · have hpi : (p : Int) < (n : Int) + 1 := by omega
      by_cases e : p = x
      · subst e
        have t1 : ((p : Int) != (p : Int)) = false := by simp
        go_wp2
        go_roundg (gk - 1)
        case measure => have h := HG.out; omega
        case rel => exact ⟨p + 1, by go_num, HR.out.skip, by omega, by have h := HG.out; omega⟩
      · have t1 : ((p : Int) != (x : Int)) = true := by simp; omega
        have E := Lib.hid e
        clear e
        have c1 := HR.out.2.cell x p (by omega) (by omega)
        have f1 := HR.out.2.frozen (1 + x * 9 + p)
        have hlt := HR.out.2.lt
        go_wp2_with fail
        have HM2 := Lib.hid (HR.out.2.set x p (by omega) (by omega) 2147483647)
        have HO2 := Lib.hid (HR.out.1.setCell (1 + x * 9 + p) (.int .i32 2147483647))
        generalize wr.setCell ⟨b, 1 + x * 9 + p, none⟩ (.int .i32 2147483647) = w2 at *
        obtain ⟨m1, hm1⟩ : ∃ m1, m1 = upd (forgetUp x m p) x p 2147483647 := ⟨_, rfl⟩
        rw [← hm1] at HM2
        have HM1 := Lib.hid hm1
        have c2 := HM2.out.cell p 0 (by omega) (by omega)
        have f2 := HM2.out.frozen (1 + p * 9 + x)
        have c3 := HM2.out.cell p x (by omega) (by omega)
        have hp9 : (p : Int) < 9 := by omega
        have hx9 : (x : Int) < 9 := by omega
        simp only [Nat.add_zero] at c2
        clear c1 f1 hm1
        go_region
        go_wp2
        go_roundg (gk - 1)
        case measure => have h := HG.out; omega
        case rel =>
          refine ⟨p + 1, by go_num, ⟨(HO2.out.setCell _ _).drew, ?_⟩, by omega, by have h := HG.out; omega⟩
          have e : forgetUp x m (p + 1) = upd m1 p x (m1 p 0) := by rw [HM1.out, forgetUp, if_neg E.out]
          rw [e]
          exact HM2.out.set p x (by omega) (by omega) _
    · have e : p = n + 1 := by have := HG.out.1; omega
      subst e
      have hpi : ¬ (((n + 1 : Nat) : Int) < (n : Int) + 1) := by omega
      go_wp2
      go_end0
      exact ⟨rfl, HR.out.1, HR.out.2⟩

end Go.Proofs.Ytmelblnflalanaa

/- What is asked of zones: Dim, Empty, Cell, Cells, Includes. -/
namespace Go.Proofs.Ytmelblnflalanaa
open Go.RowKit
set_option linter.unusedVariables false
set_option linter.unusedSimpArgs false
attribute [local go_sem] min_ints max_ints

set_option maxHeartbeats 400000 in
theorem dim_nil (w : World) : Calls Try.prog 35 #[.pointer none] w fun e w' => e = .returned (.int .i64 0) ∧ w = w' := by
  go_enter Try.func35, Try.ntmps35
  go_wp2
  go_ret
  exact ⟨rfl, rfl⟩
set_option maxHeartbeats 400000 in
theorem dim_zone (b n : Nat) (m : Mat) (w : World) (h : MatAt w b 109 .i32 n m) : Calls Try.prog 35 #[.pointer (some ⟨b, 0, none⟩)] w fun e w' => e = .returned (.int .i64 n) ∧ w = w' := by
  have h0 := h.head
  clear h
  go_enter Try.func35, Try.ntmps35
  go_wp2
  go_ret
  exact ⟨rfl, rfl⟩
set_option maxHeartbeats 400000 in
theorem empty_nil (w : World) : Calls Try.prog 32 #[.pointer none] w fun e w' => e = .returned (.bool false) ∧ w = w' := by
  go_enter Try.func32, Try.ntmps32
  go_wp2
  go_ret
  exact ⟨rfl, rfl⟩
set_option maxHeartbeats 400000 in
theorem empty_zone (b n : Nat) (m : Mat) (w : World) (h : MatAt w b 109 .i32 n m) : Calls Try.prog 32 #[.pointer (some ⟨b, 0, none⟩)] w fun e w' => e = .returned (.bool (decide (m 0 0 < 1))) ∧ w = w' := by
  have h0 := h.cell 0 0 (by omega) (by omega)
  simp only [Nat.zero_mul, Nat.add_zero] at h0
  clear h
  go_enter Try.func32, Try.ntmps32
  go_wp2
  go_ret
  exact ⟨rfl, rfl⟩

/-- What Cell answers. -/
def cellP (n : Nat) (m : Mat) (i j : Int) : Int × Int := if 0 ≤ i ∧ i ≤ n ∧ 0 ≤ j ∧ j ≤ n then (m i.toNat j.toNat, 0) else (0, 12)
set_option maxHeartbeats 400000 in
theorem cell_nil (i j : Int) (w : World) : Calls Try.prog 37 #[.pointer none, .int .i64 i, .int .i64 j] w fun e w' => e = .returned (.tuple #[.int .i32 0, .int .i64 1]) ∧ w = w' := by
  go_enter Try.func37, Try.ntmps37
  go_wp2
  go_ret2
  exact ⟨rfl, rfl⟩
set_option maxRecDepth 100000 in
set_option maxHeartbeats 1000000 in
theorem cell_zone (b n : Nat) (m : Mat) (i j : Int) (w : World) (hn : n ≤ 8) (h : MatAt w b 109 .i32 n m) :
    Calls Try.prog 37 #[.pointer (some ⟨b, 0, none⟩), .int .i64 i, .int .i64 j] w fun e w' => e = .returned (.tuple #[.int .i32 (cellP n m i j).1, .int .i64 (cellP n m i j).2]) ∧ w = w' := by
  have h0 := h.head
  have H := Lib.hid h
  clear h
  by_cases a1 : i < 0
  · have hz : cellP n m i j = (0, 12) := by unfold cellP; rw [if_neg (by omega)]
    rw [hz]
    clear hz
    have d1 : decide (i < 0) = true := decide_eq_true a1
    go_enter Try.func37, Try.ntmps37
    go_wp2
    go_ret2
    exact ⟨rfl, rfl⟩
  · have d1 : decide (i < 0) = false := decide_eq_false a1
    by_cases a2 : (n : Int) < i
    · have hz : cellP n m i j = (0, 12) := by unfold cellP; rw [if_neg (by omega)]
      rw [hz]
      clear hz
      have d2 : decide ((n : Int) < i) = true := decide_eq_true a2
      go_enter Try.func37, Try.ntmps37
      go_wp2
      go_ret2
      exact ⟨rfl, rfl⟩
    · have d2 : decide ((n : Int) < i) = false := decide_eq_false a2
      by_cases a3 : j < 0
      · have hz : cellP n m i j = (0, 12) := by unfold cellP; rw [if_neg (by omega)]
        rw [hz]
        clear hz
        have d3 : decide (j < 0) = true := decide_eq_true a3
        go_enter Try.func37, Try.ntmps37
        go_wp2
        go_ret2
        exact ⟨rfl, rfl⟩
      · have d3 : decide (j < 0) = false := decide_eq_false a3
        by_cases a4 : (n : Int) < j
        · have hz : cellP n m i j = (0, 12) := by unfold cellP; rw [if_neg (by omega)]
          rw [hz]
          clear hz
          have d4 : decide ((n : Int) < j) = true := decide_eq_true a4
          go_enter Try.func37, Try.ntmps37
          go_wp2
          go_ret2
          exact ⟨rfl, rfl⟩
        · have d4 : decide ((n : Int) < j) = false := decide_eq_false a4
          obtain ⟨p, rfl⟩ : ∃ p : Nat, i = p := ⟨i.toNat, by omega⟩
          obtain ⟨q, rfl⟩ : ∃ q : Nat, j = q := ⟨j.toNat, by omega⟩
          have hz : cellP n m p q = (m p q, 0) := by unfold cellP; rw [if_pos (by omega)]; rfl
          rw [hz]
          clear hz
          have hc := H.out.cell p q (by omega) (by omega)
          go_enter Try.func37, Try.ntmps37
          go_wp2
          go_ret2
          exact ⟨rfl, rfl⟩

theorem infoB : (Try.prog.info? 52).map (fun i => (i.zero, i.size, i.bytes)) = some (some (.int .i32 0), 1, 4) := by kernel_rfl
theorem addr_add (g o j : Nat) : (⟨g, o, none⟩ : Addr).add j = ⟨g, o + j, none⟩ := by unfold Addr.add; split <;> simp_all

theorem slice_row (g o n : Nat) (hn : n ≤ 8) (w : World) :
    (Instr.sliceAt 68 (.pointer (some ⟨g, o, none⟩)) none (some (.int .i64 ((n : Int) + 1))) none).run Try.prog w = .ok (.slice (some ⟨g, o, none⟩) (n + 1) 9) w := by
  have hl : Try.prog.arrayLen 68 = 9 := by kernel_rfl
  have hu : Try.prog.underlying 68 = some (.array (Try.prog.arrayLen 68) (Try.prog.elem 68)) := by kernel_rfl
  have hs : (sizeOf (Try.prog.elem 68)).run Try.prog w = .ok 1 w := by kernel_rfl
  rw [run_sliceAt_array_h w _ _ hu .i64 _ (by omega) (by rw [hl]; omega), hs, hl]
  have e : ((n : Int) + 1).toNat = n + 1 := by omega
  simp [slicedAt, e, Addr.add]

theorem own_drew {w : World} {base : Nat} {e : TypeId} {size n : Nat} {v : Value} {xs : List Value} (h : w.ownsRow base e size v n xs) : w.drew.ownsRow base e size v n xs := h
theorem row_cells {w : World} {b n N : Nat} {T : TypeId} {k : IntKind} {m : Mat} (h : MatAt w b T k N m) {i : Nat} (hi : i < 9) (hn : n ≤ 8) :
    ∀ j u, ((List.range (n + 1)).map (fun c => Value.int k (m i c)))[j]? = some u → w.cell? ((⟨b, 1 + i * 9, none⟩ : Addr).add j) = some u := by
  intro j u hu
  rw [addr_add]
  rw [List.getElem?_map] at hu
  by_cases hj : j < n + 1
  · simp [hj] at hu
    subst hu
    exact h.cell i j hi (by omega)
  · simp [hj] at hu

/-- The rows that all has gathered. -/
def AllR (w0 : World) (b n : Nat) (m : Mat) (i : Nat) (v : Value) (wr : World) : Prop :=
  Below w0.heap.size w0 wr ∧ wr.ownsRow w0.heap.size 52 1 v (i * (n + 1)) (vals .i32 (rowsL n m i)) ∧ i ≤ n + 1

set_option maxRecDepth 100000 in
set_option maxHeartbeats 1000000 in
theorem all_any (b n : Nat) (m : Mat) (w : World) (hn : n ≤ 8) (h : MatAt w b 109 .i32 n m) :
    Calls Try.prog 71 #[.pointer (some ⟨b, 0, none⟩)] w fun e w' => ∃ v, e = .returned v ∧ AllR w b n m (n + 1) v w' := by
  have h0 := h.head
  have H := Lib.hid h
  clear h
  obtain ⟨i0, hi, hz0, hz1, hz2⟩ := info_parts infoB
  have HI := Lib.hid (And.intro hi (And.intro hz0 (And.intro hz1 hz2)))
  clear hi hz0 hz1 hz2
  have HS := Lib.hid (show AllR w b n m 0 (.slice none 0 0) w from ⟨Below.refl _ _, by simpa [rowsL, vals] using World.ownsRow_nil w _ _ _, by omega⟩)
  go_enter Try.func71, Try.ntmps71
  go_wp2
  go_loopg [3, 10] (n + 1) (fun g v x wr => ∃ i : Nat, x = .int .i64 i ∧ AllR w b n m i v wr ∧ Hid (g + i = n + 1))
  case atStart => exact ⟨0, by simp, HS.out, by show _ = _; omega⟩
  case round =>
    clear HS h0
    obtain ⟨i, rfl, HA, HG⟩ := hrel
    have HR := Lib.hid HA
    have hm := H.out.later HA.1
    have h0 := hm.head
    have HM := Lib.hid hm
    clear HA hm
    by_cases hi : i < n + 1
    · have hii : (i : Int) < (n : Int) + 1 := by omega
      have i9 : (i : Int) < 9 := by omega
      have n9 : (n : Int) + 1 ≤ 9 := by omega
      have g1 : IntKind.i64.wrap ((n : Int) + 1) = (n : Int) + 1 := IntWalk.i64_in _ (by omega)
      have D0 := Lib.hid (show wr.drew.cell? _ = _ from h0)
      have hin : i * (n + 1) ≤ 8 * 9 := Nat.mul_le_mul (by omega) (by omega)
      have hsl := slice_row b (1 + i * 9) n hn
      go_wp2_with fail
      refine wp_region_still_tail 12 (by kernel_rfl) (by kernel_rfl) ?_
      simp only [List.take_succ_cons, List.take_zero, List.drop_succ_cons, List.drop_zero]
      change wpStill _ _ wr.drew _ _ _
      generalize wr.drew = w2 at *
      have d0 := D0.out
      clear D0
      repeat still_step
      refine wpStill_nil ?_
      go_wp2_with (at_builtin; refine wpList_append_own _ rfl _ _ 22 rfl w.heap.size 52 i0 (.int .i32 0) 1 4 Try.underlying22 HI.out.1 HI.out.2.1 HI.out.2.2.1 HI.out.2.2.2 rfl (by decide) _ _ _ rfl (own_drew HR.out.2.1) ⟨b, 1 + i * 9, none⟩ (n + 1) 9 ((List.range (n + 1)).map (fun c => Value.int .i32 (m i c))) rfl (by simp) (row_cells HM.out.drew (by omega) hn) (by intro u hu; obtain ⟨c, _, rfl⟩ := List.mem_map.1 hu; rfl) ?c3 ?c4 ?c5 ?_)
      case c3 => unfold maxLen; omega
      case c4 => omega
      case c5 => exact HR.out.1.size
      intro v' w3 hown hgrow _
      have HN := Lib.hid (show AllR w b n m (i + 1) v' w3 from by
        refine ⟨(Below.drew HR.out.1).grown hgrow HR.out.1.size (fun k hk => ?_), ?_, by omega⟩
        · exact (HR.out.2.1.lt k hk).1
        · have e : (i + 1) * (n + 1) = i * (n + 1) + (n + 1) := by rw [Nat.add_mul]; omega
          rw [e]
          have e2 : vals .i32 (rowsL n m (i + 1)) = vals .i32 (rowsL n m i) ++ (List.range (n + 1)).map (fun c => Value.int .i32 (m i c)) := by
            simp [vals, rowsL]
          rw [e2, List.range_succ, List.map_append]; exact hown)
      clear hown hgrow
      go_wp2
      go_roundg (gk - 1)
      case measure => have h := HG.out; omega
      case rel => exact ⟨i + 1, by go_num, HN.out, by have h := HG.out; show _ = _; omega⟩
    · have hii : ¬ (i : Int) < (n : Int) + 1 := by omega
      have e : i = n + 1 := by have := HR.out.2.2; omega
      subst e
      go_wp2
      go_ret
      exact ⟨_, rfl, HR.out⟩

/-- A slice that cells tells: all of them, in new memory. -/
theorem AllR.own {w0 wr : World} {b n : Nat} {m : Mat} {v : Value} (h : AllR w0 b n m (n + 1) v wr) : OwnI wr w0.heap.size 52 .i32 v (flat n m) := by
  unfold OwnI
  rw [flat_length]; exact h.2.1

theorem cells_nil (w : World) : Calls Try.prog 51 #[.pointer none] w fun e w' => e = .returned (.slice none 0 0) ∧ w = w' := by
  go_enter Try.func51, Try.ntmps51
  go_wp2
  go_ret
  exact ⟨rfl, rfl⟩
set_option maxRecDepth 100000 in
set_option maxHeartbeats 1000000 in
theorem cells_zone (b n : Nat) (m : Mat) (w : World) (hn : n ≤ 8) (h : MatAt w b 109 .i32 n m) :
    Calls Try.prog 51 #[.pointer (some ⟨b, 0, none⟩)] w fun e w' => ∃ v, e = .returned v ∧ Below w.heap.size w w' ∧ OwnI w' w.heap.size 52 .i32 v (flat n m) := by
  go_enter Try.func51, Try.ntmps51
  go_wp2_with fail
  refine (all_any b n m _ hn h).mono ?_
  rintro e w1 ⟨v, rfl, hA⟩
  have HA := Lib.hid hA
  clear hA h
  go_wp2
  go_ret
  exact ⟨v, rfl, HA.out.1, HA.out.own⟩

/-! ### are two of as many clocks? -/
def alikeP (z o : Option (Nat × Mat)) : Bool := match z, o with
  | some (n, _), some (k, _) => decide (n = k)
  | _, _ => false
end Go.Proofs.Ytmelblnflalanaa

/- What is asked of the program's zones, or of nil. -/
namespace Go.Proofs.Ytmelblnflalanaa
open Go Go.RowKit
set_option linter.unusedVariables false
set_option linter.unusedSimpArgs false

/-- The number of a zone's clocks. -/
def dimP (z : Option (Nat × Mat)) : Int := match z with | some (n, _) => n | none => 0
/-- All cells of a zone. -/
def cellsP (z : Option (Nat × Mat)) : List Int := match z with | some (n, m) => flat n m | none => []

/-- Has a zone no valuation? -/
def emptyP (z : Option (Nat × Mat)) : Bool := match z with | some (_, m) => decide (m 0 0 < 1) | none => false
/-- What Cell answers of a zone, or of nil. -/
def cellZ (z : Option (Nat × Mat)) (i j : Int) : Int × Int := match z with | some (n, m) => cellP n m i j | none => (0, 1)
theorem cell_any (v : Value) (z : Option (Nat × Mat)) (i j : Int) (w : World) (h : ZoneV 109 w v z) :
    Calls Try.prog 37 #[v, .int .i64 i, .int .i64 j] w fun e w' => e = .returned (.tuple #[.int .i32 (cellZ z i j).1, .int .i64 (cellZ z i j).2]) ∧ w = w' := by
  match z, h with
  | none, h =>
    have h : v = .pointer none := h
    subst h
    exact cell_nil i j w
  | some (n, m), ⟨b, e, hn, _, hm⟩ =>
    subst e
    exact cell_zone b n m i j w hn hm

/-- A slice in new memory, or nil: what Cells tells. -/
def TellsL (w0 : World) (xs : List Int) (e : Ending) (w' : World) : Prop := ∃ v, e = .returned v ∧ Below w0.heap.size w0 w' ∧ OwnI w' w0.heap.size 52 .i32 v xs
theorem tells_nil (w0 w' : World) (h : w0 = w') : TellsL w0 [] (.returned (.slice none 0 0)) w' := by
  subst h
  exact ⟨_, rfl, Below.refl _ _, by unfold OwnI; simpa [vals] using World.ownsRow_nil _ _ _ _⟩
theorem cells_any (v : Value) (z : Option (Nat × Mat)) (w : World) (h : ZoneV 109 w v z) : Calls Try.prog 51 #[v] w (TellsL w (cellsP z)) := by
  match z, h with
  | none, h =>
    have h : v = .pointer none := h
    subst h
    refine (cells_nil w).mono ?_
    rintro e w' ⟨rfl, hw⟩
    exact tells_nil w w' hw
  | some (n, m), ⟨b, e, hn, _, hm⟩ =>
    subst e
    exact cells_zone b n m w hn hm

/-- The zone that Of tells of. -/
def zOf (n : Int) (cells : List Int) : Option (Nat × Mat) := (ofP n cells).1.map fun m => (n.toNat, m)
theorem cellsP_short (z : Option (Nat × Mat)) (h : ∀ n m, z = some (n, m) → n ≤ 8) : (cellsP z).length ≤ 81 := by
  match z with
  | none => simp [cellsP]
  | some (n, m) =>
    have hn := h n m rfl
    show (flat n m).length ≤ 81
    rw [flat_length]
    have := Nat.mul_le_mul (show n + 1 ≤ 9 by omega) (show n + 1 ≤ 9 by omega)
    omega


end Go.Proofs.Ytmelblnflalanaa

/- How the program adds wide bounds and closes a wide matrix. -/
namespace Go.Proofs.Ytmelblnflalanaa
open Go.RowKit
set_option linter.unusedVariables false
set_option linter.unusedSimpArgs false
attribute [local go_sem] min_ints max_ints

theorem mul_bits (a b : Int) : 0 ≤ (a % 2) * (b % 2) ∧ (a % 2) * (b % 2) ≤ 1 := by
  rcases two_cases a b with ⟨h, _⟩ | ⟨h, _⟩ <;> rw [h] <;> omega

set_option maxRecDepth 100000 in
set_option maxHeartbeats 1000000 in
theorem sum_fin (a b : Int) (w : World) (ha1 : -1152921504606846976 ≤ a) (ha2 : a ≤ 1152921504606846976) (hb1 : -1152921504606846976 ≤ b) (hb2 : b ≤ 1152921504606846976) :
    Calls Try.prog 73 #[.int .i64 a, .int .i64 b] w fun e w' => e = .returned (.int .i64 (wsum a b)) ∧ w = w' := by
  have t1 : (a == 4611686018427387904) = false := by simp; omega
  have t2 : (b == 4611686018427387904) = false := by simp; omega
  obtain ⟨p, hp, hp0, hp1, hp2⟩ : ∃ p, Go.bits .and .i64 (Go.bits .and .i64 a b) 1 = p ∧ 0 ≤ p ∧ p ≤ 1 ∧ p = (a % 2) * (b % 2) := ⟨_, i64_and_and1 a b, (mul_bits a b).1, (mul_bits a b).2, rfl⟩
  have HP := Lib.hid hp2
  clear hp2
  obtain ⟨x, hx, hx0, hx1, hx2⟩ : ∃ x, Go.bits .andNot .i64 a 1 = x ∧ a - 1 ≤ x ∧ x ≤ a ∧ x = a - a % 2 := ⟨_, i64_andNot1 a (by omega) (by omega), by omega, by omega, rfl⟩
  have HX := Lib.hid hx2
  clear hx2
  obtain ⟨y, hy, hy0, hy1, hy2⟩ : ∃ y, Go.bits .andNot .i64 b 1 = y ∧ b - 1 ≤ y ∧ y ≤ b ∧ y = b - b % 2 := ⟨_, i64_andNot1 b (by omega) (by omega), by omega, by omega, rfl⟩
  have HY := Lib.hid hy2
  clear hy2
  have HR : wsum a b = x + y + p := by
    unfold wsum none62
    rw [if_neg (by omega), HP.out, HX.out, HY.out]
  rw [HR]
  clear HR
  go_enter Try.func73, Try.ntmps73
  go_wp2
  go_ret
  exact ⟨rfl, rfl⟩

set_option maxRecDepth 100000 in
set_option maxHeartbeats 1000000 in
theorem sum_none_left (b : Int) (w : World) :
    Calls Try.prog 73 #[.int .i64 4611686018427387904, .int .i64 b] w fun e w' => e = .returned (.int .i64 4611686018427387904) ∧ w = w' := by
  go_enter Try.func73, Try.ntmps73
  go_wp2
  go_ret
  exact ⟨rfl, rfl⟩

set_option maxRecDepth 100000 in
set_option maxHeartbeats 1000000 in
theorem sum_none_right (a : Int) (w : World) :
    Calls Try.prog 73 #[.int .i64 a, .int .i64 4611686018427387904] w fun e w' => e = .returned (.int .i64 4611686018427387904) ∧ w = w' := by
  by_cases h : a = 4611686018427387904
  · subst h; exact sum_none_left _ _
  · have t1 : (a == 4611686018427387904) = false := by simp; omega
    clear h
    go_enter Try.func73, Try.ntmps73
    go_wp2
    go_ret
    exact ⟨rfl, rfl⟩

theorem dsum_any (a b : Int) (w : World) (ha : Bd 1152921504606846976 a) (hb : Bd 1152921504606846976 b) :
    Calls Try.prog 73 #[.int .i64 a, .int .i64 b] w fun e w' => e = .returned (.int .i64 (wsum a b)) ∧ w = w' := by
  rcases ha with rfl | ha
  · have : wsum none62 b = 4611686018427387904 := by simp [wsum, none62]
    rw [this]; exact sum_none_left _ _
  · rcases hb with rfl | hb
    · have : wsum a none62 = 4611686018427387904 := by simp [wsum, none62]
      rw [this]; exact sum_none_right _ _
    · exact sum_fin a b w ha.1 ha.2 hb.1 hb.2

theorem sum_still (a b : Int) (w : World) (ha : Bd 1152921504606846976 a) (hb : Bd 1152921504606846976 b) :
    Calls Try.prog 73 #[.int .i64 a, .int .i64 b] w fun e w' => e = .returned (.int .i64 (wsum a b)) ∧ w' = w :=
  (dsum_any a b w ha hb).mono fun _ _ h => ⟨h.1, h.2.symm⟩

/-- The machine's matrix is cur; nothing else was touched. -/
def CloseAt (w0 : World) (b n : Nat) (cur : Mat) (wr : World) : Prop := Only b w0 wr ∧ MatAt wr b 104 .i64 n cur

def OuterR (w0 : World) (b n : Nat) (m0 : Mat) (g k : Nat) (m : Mat) (wr : World) : Prop := CloseAt w0 b n m wr ∧ RoundOk n m0 k m ∧ g + k = n + 1
def MidR (w0 : World) (b n : Nat) (m : Mat) (k g i : Nat) (cur : Mat) (wr : World) : Prop :=
  CloseAt w0 b n cur wr ∧ InnerOk n (1073741824 * 4 ^ k) m k i 0 cur ∧ (∀ a, a < i → 1 ≤ fw k n m a a) ∧ i ≤ n + 1 ∧ g + i = n + 1
def InnR (w0 : World) (b n : Nat) (m : Mat) (k i g j : Nat) (cur : Mat) (wr : World) : Prop :=
  CloseAt w0 b n cur wr ∧ InnerOk n (1073741824 * 4 ^ k) m k i j cur ∧ j ≤ n + 1 ∧ g + j = n + 1

theorem CloseAt.step {w0 wr : World} {b n : Nat} {cur : Mat} (h : CloseAt w0 b n cur wr) {i j : Nat} (hi : i < 9) (hj : j < 9) (v : Int) :
    CloseAt w0 b n (upd cur i j v) (wr.setCell ⟨b, 1 + i * 9 + j, none⟩ (.int .i64 v)).drew :=
  ⟨(h.1.setCell _ _).drew, h.2.set i j hi hj v⟩

theorem InnR.bounds {w0 wr : World} {b n : Nat} {m m0 cur : Mat} {k i g j : Nat} (h : InnR w0 b n m k i g j cur wr) (hr : RoundOk n m0 k m) (hn : n ≤ 8) (hk : k ≤ n) (hi : i ≤ n) (hj : j ≤ n) :
    Bd 1152921504606846976 (cur i j) ∧ Bd 1152921504606846976 (cur i k) ∧ Bd 1152921504606846976 (cur k j) := by
  have h4 := pow2_le (show k ≤ 9 by omega)
  have h1 := one_le_pow2 k
  have := h.2.1.bounds hr.fit (by omega) hk hi hj
  exact ⟨this.1.mono (by omega), this.2.1.mono (by omega), this.2.2.mono (by omega)⟩

theorem InnR.step {w0 wr : World} {b n : Nat} {m m0 cur : Mat} {k i g j : Nat} (h : InnR w0 b n m k i g j cur wr) (hr : RoundOk n m0 k m) (hn : n ≤ 8) (hk : k ≤ n) (hi : i ≤ n) (hj : j ≤ n) :
    InnR w0 b n m k i (g - 1) (j + 1) (upd cur i j (min (cur i j) (wsum (cur i k) (cur k j)))) (wr.setCell ⟨b, 1 + i * 9 + j, none⟩ (.int .i64 (min (cur i j) (wsum (cur i k) (cur k j))))).drew := by
  have h1 := one_le_pow2 k
  have := h.2.2.2
  exact ⟨h.1.step (by omega) (by omega) _, h.2.1.step hr.fit (by omega) hk hi hj, by omega, by omega⟩

theorem InnR.next {w0 wr : World} {b n : Nat} {m cur : Mat} {k i g j : Nat} (h : InnR w0 b n m k i g j cur wr) (hj : ¬ j < n + 1) (hd : 1 ≤ cur i i) (hi : i ≤ n) (hall : ∀ a, a < i → 1 ≤ fw k n m a a) :
    MidR w0 b n m k (n - i) (i + 1) cur wr := by
  have e : j = n + 1 := by have := h.2.2.1; omega
  subst e
  obtain ⟨h1, h2, h3⟩ := (h.2.1.row hi).2 hd
  refine ⟨h.1, h3, fun a ha => ?_, by omega, by omega⟩
  by_cases e : a = i
  · subst e; exact h2
  · exact hall a (by omega)

theorem InnR.fail {w0 wr : World} {b n : Nat} {m m0 cur : Mat} {k i g j : Nat} (h : InnR w0 b n m k i g j cur wr) (hr : RoundOk n m0 k m) (hj : ¬ j < n + 1) (hd : cur i i < 1) (hk : k ≤ n) (hi : i ≤ n) : closed n m0 = none := by
  have e : j = n + 1 := by have := h.2.2.1; omega
  subst e
  exact hr.fail hk hi ((h.2.1.row hi).1 hd)

theorem MidR.next {w0 wr : World} {b n : Nat} {m m0 cur : Mat} {k i g : Nat} (h : MidR w0 b n m k g i cur wr) (hr : RoundOk n m0 k m) (hi : ¬ i < n + 1) (hk : k ≤ n) :
    OuterR w0 b n m0 (n - k) (k + 1) cur wr := by
  have e : i = n + 1 := by have := h.2.2.2.1; omega
  subst e
  exact ⟨h.1, hr.next hk h.2.1 (fun a ha => h.2.2.1 a (by omega)), by omega⟩

/-- What close answers. -/
def CloseEnds (w0 : World) (b n : Nat) (m0 : Mat) (e : Ending) (w' : World) : Prop :=
  Only b w0 w' ∧ ((closed n m0 = none ∧ e = .returned (.bool false)) ∨ ∃ m', closed n m0 = some m' ∧ e = .returned (.bool true) ∧ MatAt w' b 104 .i64 n m')

set_option maxRecDepth 100000 in
set_option maxHeartbeats 2000000 in
theorem close_any (b n : Nat) (m0 : Mat) (w : World) (hn : n ≤ 8) (h : MatAt w b 104 .i64 n m0) (hf : Fit n 1073741824 m0) :
    Calls Try.prog 54 #[.pointer (some ⟨b, 0, none⟩)] w (CloseEnds w b n m0) := by
  have H0 := Lib.hid (show OuterR w b n m0 (n + 1) 0 m0 w from ⟨⟨Only.refl _ _, h⟩, RoundOk.start hf, by omega⟩)
  have h0 := h.head
  clear h hf
  go_enter Try.func54, Try.ntmps54
  go_wp2
  go_loopg [11] (n + 1) (fun g v wr => ∃ k : Nat, ∃ m, v = .int .i64 k ∧ OuterR w b n m0 g k m wr)
  case atStart => exact ⟨0, m0, by simp, H0.out⟩
  case round =>
    clear H0 h0
    obtain ⟨k, m, rfl, H⟩ := hrel
    have HK := Lib.hid H
    have h0 := H.1.2.head
    clear H
    by_cases hk : k < n + 1
    · have hkk : (k : Int) < (n : Int) + 1 := by omega
      have H1 := Lib.hid (show MidR w b n m k (n + 1) 0 m wr from ⟨HK.out.1, HK.out.2.1.inner (by omega), fun a ha => by omega, by omega, by omega⟩)
      go_wp2
      go_loopg [19] (n + 1) (fun g v wr => ∃ i : Nat, ∃ cur, v = .int .i64 i ∧ MidR w b n m k g i cur wr)
      case atStart => exact ⟨0, m, by simp, H1.out⟩
      case round =>
        clear H1 h0
        obtain ⟨i, cur, rfl, H⟩ := hrel
        have HI := Lib.hid H
        have h0 := H.1.2.head
        clear H
        by_cases hi : i < n + 1
        · have hii : (i : Int) < (n : Int) + 1 := by omega
          have H1 := Lib.hid (show InnR w b n m k i (n + 1) 0 cur wr from ⟨HI.out.1, HI.out.2.1, by omega, by omega⟩)
          go_wp2
          go_loopg [27] (n + 1) (fun g v wr => ∃ j : Nat, ∃ cur, v = .int .i64 j ∧ InnR w b n m k i g j cur wr)
          case atStart => exact ⟨0, cur, by simp, H1.out⟩
          case round =>
            clear H1 h0
            obtain ⟨j, cur, rfl, H⟩ := hrel
            have HJ := Lib.hid H
            by_cases hj : j < n + 1
            · have hjj : (j : Int) < (n : Int) + 1 := by omega
              have c1 := H.1.2.cell i j (by omega) (by omega)
              have c2 := H.1.2.cell i k (by omega) (by omega)
              have c3 := H.1.2.cell k j (by omega) (by omega)
              have f1 := H.1.2.frozen (1 + i * 9 + j)
              clear H
              have HB := Lib.hid (HJ.out.bounds HK.out.2.1 hn (by omega) (by omega) (by omega))
              have HS := Lib.hid (HJ.out.step HK.out.2.1 hn (by omega) (by omega) (by omega))
              have i9 : (i : Int) < 9 := by omega
              have j9 : (j : Int) < 9 := by omega
              have k9 : (k : Int) < 9 := by omega
              have C1 := Lib.hid (show wr.drew.cell? _ = _ from c1)
              have C2 := Lib.hid (show wr.drew.cell? _ = _ from c2)
              have C3 := Lib.hid (show wr.drew.cell? _ = _ from c3)
              go_wp2
              refine wp_region_still_tail 33 (by kernel_rfl) (by kernel_rfl) ?_
              simp only [List.take_succ_cons, List.take_zero, List.drop_succ_cons, List.drop_zero]
              change wpStill _ _ wr.drew _ _ _
              generalize wr.drew = w2 at *
              have d1 := C1.out
              have d2 := C2.out
              have d3 := C3.out
              clear C1 C2 C3
              repeat still_step
              still_call (sum_still _ _ _ HB.out.2.1 HB.out.2.2)
              repeat still_step
              refine wpStill_nil ?_
              go_wp2
              go_roundg (gk - 1)
              case measure => have := HJ.out.2.2.2; omega
              case rel => exact ⟨j + 1, _, by go_num, HS.out⟩
            · have hjj : ¬ (j : Int) < (n : Int) + 1 := by omega
              have c1 := H.1.2.cell i i (by omega) (by omega)
              have h0 := H.1.2.head
              clear H
              by_cases hd : cur i i < 1
              · go_wp2
                go_ret
                exact ⟨HJ.out.1.1, .inl ⟨HJ.out.fail HK.out.2.1 hj hd (by omega) (by omega), rfl⟩⟩
              · go_wp2
                go_roundg (n - i)
                case measure => have := HI.out.2.2.2.2; omega
                case rel =>
                  exact ⟨i + 1, _, by go_num, HJ.out.next hj (by omega) (by omega) HI.out.2.2.1⟩
        · have hii : ¬ (i : Int) < (n : Int) + 1 := by omega
          go_wp2
          go_roundg (n - k)
          case measure => have := HK.out.2.2; omega
          case rel =>
            exact ⟨k + 1, _, by go_num, HI.out.next HK.out.2.1 hi (by omega)⟩
    · have hkk : ¬ (k : Int) < (n : Int) + 1 := by omega
      go_wp2
      go_ret
      have e : k = n + 1 := by have := HK.out.2.1.le; omega
      subst e
      exact ⟨HK.out.1.1, .inr ⟨m, HK.out.2.1.done, rfl, HK.out.1.2⟩⟩

end Go.Proofs.Ytmelblnflalanaa

/- Is a bound right? -/
namespace Go.Proofs.Ytmelblnflalanaa
open Go Go.RowKit
set_option linter.unusedVariables false
set_option linter.unusedSimpArgs false

set_option maxHeartbeats 400000 in
theorem right_any (b : Int) (w : World) : Calls Try.prog 24 #[.int .i32 b] w fun e w' => e = .returned (.bool (rightB b)) ∧ w = w' := by
  unfold rightB
  by_cases h0 : b = 2147483647
  · subst h0
    go_enter Try.func24, Try.ntmps24
    go_wp2
    go_ret
    exact ⟨by simp, rfl⟩
  · have t0 : (b == 2147483647) = false := by simp [h0]
    by_cases h1 : -536870912 ≤ b
    · have d1 : decide ((-536870912 : Int) ≤ b) = true := decide_eq_true h1
      by_cases h2 : b ≤ 536870913
      all_goals
        go_enter Try.func24, Try.ntmps24
        go_wp2
        go_ret
        exact ⟨by simp [*], rfl⟩
    · have d1 : decide ((-536870912 : Int) ≤ b) = false := decide_eq_false h1
      go_enter Try.func24, Try.ntmps24
      go_wp2
      go_ret
      exact ⟨by simp [*], rfl⟩


theorem right_yes (b : Int) (w : World) (h : rightB b = true) : Calls Try.prog 24 #[.int .i32 b] w fun e w' => e = .returned (.bool true) ∧ w = w' :=
  (right_any b w).mono fun _ _ k => ⟨by rw [k.1, h], k.2⟩
theorem right_no (b : Int) (w : World) (h : rightB b = false) : Calls Try.prog 24 #[.int .i32 b] w fun e w' => e = .returned (.bool false) ∧ w = w' :=
  (right_any b w).mono fun _ _ k => ⟨by rw [k.1, h], k.2⟩

end Go.Proofs.Ytmelblnflalanaa

/- What zone makes of a wide matrix: the zone, or the error. -/
namespace Go.Proofs.Ytmelblnflalanaa
open Go.RowKit
set_option linter.unusedVariables false
set_option linter.unusedSimpArgs false
attribute [local go_sem] min_ints max_ints


theorem zero_matrix (n : Nat) : (Try.zeroCells107).setIfInBounds 0 (Value.int .i64 n) = matCells .i32 n (fun _ _ => 0) := rfl

theorem size_matrix : (Try.prog.info? 107).map (·.size) = some 82 := by kernel_rfl

theorem zone_lay (n : Nat) (m : Mat) : Array.foldl (fun (cs : Array Value) (x : Value × Nat) => cs.setIfInBounds x.snd x.fst) Try.zeroCells109 (matCells .i32 n m).zipIdx 0 82 = matCells .i32 n m := by
  have h := lay_whole (matCells .i32 n m) Try.zeroCells109 (by rw [matCells_size]; rfl)
  rw [matCells_size] at h
  exact h

/-- The narrow matrix while it is filled. -/
def FillR (w1 : World) (b b2 n : Nat) (m : Mat) (g i j : Nat) (wr : World) : Prop :=
  Only b2 w1 wr ∧ MatAt wr b 104 .i64 n m ∧ MatAt wr b2 107 .i32 n (filled (narM n m) i j) ∧ (∀ a c, a < i ∨ (a = i ∧ c < j) → c ≤ n → inR (m a c)) ∧ i ≤ n + 1 ∧ j ≤ n + 1

theorem FillR.step {w1 wr : World} {b b2 n : Nat} {m : Mat} {g g' i j : Nat} (h : FillR w1 b b2 n m g i j wr) (hn : n ≤ 8) (hb : b ≠ b2) (hi : i < n + 1) (hj : j < n + 1) (hr : inR (m i j)) (v : Int) (hv : v = nar (m i j)) :
    FillR w1 b b2 n m g' i (j + 1) (wr.setCell ⟨b2, 1 + i * 9 + j, none⟩ (.int .i32 v)) := by
  have e : nar (m i j) = narM n m i j := by unfold narM; rw [if_pos (by omega)]
  have h3 := h.2.2.1.set i j (by omega) (by omega) v
  rw [hv, e, upd_filled] at h3
  rw [hv, e]
  refine ⟨h.1.setCell _ _, h.2.1.only ((Only.refl _ _).setCell _ _) hb, h3, fun a c hac hc => ?_, h.2.2.2.2.1, by omega⟩
  by_cases e : a = i ∧ c = j
  · obtain ⟨rfl, rfl⟩ := e; exact hr
  · exact h.2.2.2.1 a c (by omega) hc
theorem FillR.row {w1 wr : World} {b b2 n : Nat} {m : Mat} {g g' i j : Nat} (h : FillR w1 b b2 n m g i j wr) (hi : i < n + 1) (hj : ¬ j < n + 1) : FillR w1 b b2 n m g' (i + 1) 0 wr := by
  have e : j = n + 1 := by have := h.2.2.2.2.2; omega
  subst e
  refine ⟨h.1, h.2.1, by rw [filled_row (narM_inside n m)]; exact h.2.2.1, fun a c hac hc => h.2.2.2.1 a c (by omega) hc, by omega, by omega⟩
theorem FillR.done {w1 wr : World} {b b2 n : Nat} {m : Mat} {g i : Nat} (h : FillR w1 b b2 n m g i 0 wr) (hi : ¬ i < n + 1) :
    Only b2 w1 wr ∧ MatAt wr b2 107 .i32 n (narM n m) ∧ allR n m := by
  have e : i = n + 1 := by have := h.2.2.2.2.1; omega
  subst e
  refine ⟨h.1, ?_, fun a ha c hc => h.2.2.2.1 a c (by omega) hc⟩
  have := h.2.2.1
  rw [filled_done (narM_inside n m)] at this
  exact this

/-- What zone answers: v and the number of the error. -/
def ZoneEnds (w0 : World) (b n : Nat) (m0 : Mat) (e : Ending) (w' : World) : Prop :=
  Only b w0 w' ∧ ∃ v, e = .returned (.tuple #[v, .int .i64 (zoneP n m0).2]) ∧ ZoneV 109 w' v ((zoneP n m0).1.map fun m => (n, m))

theorem zone_made {w1 : World} {c n : Nat} {m : Mat} (h : MatAt w1 c 107 .i32 n m) : MatAt (w1.alloc (.cells (matCells .i32 n m) 109)) w1.heap.size 109 .i32 n m := by
  unfold MatAt; exact heap_alloc_new _ _

set_option maxRecDepth 100000 in
set_option maxHeartbeats 2000000 in
theorem zone_any (b n : Nat) (m0 : Mat) (w : World) (hn : n ≤ 8) (h : MatAt w b 104 .i64 n m0) (hf : Fit n 1073741824 m0) :
    Calls Try.prog 26 #[.pointer (some ⟨b, 0, none⟩)] w (ZoneEnds w b n m0) := by
  have h0 := h.head
  have hlt := h.lt
  have HF := Lib.hid hf
  have HM := Lib.hid (show MatAt (w.alloc (.cells (matCells .i32 n (fun _ _ => 0)) 107)) w.heap.size 107 .i32 n (fun _ _ => 0) from by unfold MatAt; exact heap_alloc_new _ _)
  have HB := Lib.hid (h.alloc (.cells (matCells .i32 n (fun _ _ => 0)) 107))
  clear h hf
  have hz0 := zero_matrix n
  go_enter Try.func26, Try.ntmps26
  go_wp2_with fail
  refine (close_any b n m0 _ hn HB.out HF.out).mono ?_
  rintro e w1 ⟨ho, hcl⟩
  have HO := Lib.hid ho
  have hsz : w.heap.size < w1.heap.size := by have := ho.size; simp at this; omega
  have hM1 : MatAt w1 w.heap.size 107 .i32 n (fun _ _ => 0) := HM.out.only ho (by omega)
  have HM1 := Lib.hid hM1
  clear ho hz0
  rcases hcl with ⟨hc, rfl⟩ | ⟨m', hc, rfl, hm⟩
  · have HC := Lib.hid hc
    have hb := zone_lay n (fun _ _ => 0)
    have hs := matCells_size .i32 n (fun _ _ => 0)
    clear hc hM1
    go_wp2_with (refine wpList_load_row rfl 107 _ rfl w.heap.size rfl 107 _ (0, 0) _ HM1.out Try.underlying107 rfl (by rw [matCells_size]; exact size_matrix) ?_)
    go_ret2
    have hz : zoneP n m0 = (some (fun _ _ => 0), 0) := by unfold zoneP; rw [HC.out]
    exact ⟨(((Only.refl _ _).alloc _).trans HO.out).alloc _, .pointer (some ⟨w1.heap.size, 0, none⟩), by rw [hz]; rfl, by rw [hz]; exact ⟨_, rfl, hn, right_zero n, zone_made HM1.out⟩⟩
  · have HC := Lib.hid hc
    have h0 := hm.head
    have HS := Lib.hid (show FillR w1 b w.heap.size n m' (n + 1) 0 0 w1 from ⟨Only.refl _ _, hm, by rw [filled_zero]; exact HM1.out, fun a c h => by omega, by omega, by omega⟩)
    clear hc hm hM1
    go_wp2
    go_loopg [27] (n + 1) (fun g v wr => ∃ i : Nat, v = .int .i64 i ∧ FillR w1 b w.heap.size n m' g i 0 wr ∧ g + i = n + 1)
    case atStart => exact ⟨0, by simp, HS.out, by omega⟩
    case round =>
      clear HS h0
      obtain ⟨i, rfl, H, hg⟩ := hrel
      have HG := Lib.hid hg
      have HI := Lib.hid H
      have h0 := H.2.1.head
      clear H hg
      by_cases hi : i < n + 1
      · have hii : (i : Int) < (n : Int) + 1 := by omega
        go_wp2
        go_loopg [35] (n + 1) (fun g v wr => ∃ j : Nat, v = .int .i64 j ∧ FillR w1 b w.heap.size n m' g i j wr ∧ g + j = n + 1)
        case atStart => exact ⟨0, by simp, HI.out, by omega⟩
        case round =>
          clear HI h0
          obtain ⟨j, rfl, H, hg⟩ := hrel
          have HG2 := Lib.hid hg
          have HJ := Lib.hid H
          clear hg
          by_cases hj : j < n + 1
          · have hjj : (j : Int) < (n : Int) + 1 := by omega
            have c1 := H.2.1.cell i j (by omega) (by omega)
            have f1 := H.2.2.1.frozen (1 + i * 9 + j)
            have hb2 : w.heap.size < wr.heap.size := H.2.2.1.lt
            obtain ⟨old, ho⟩ : ∃ old, wr.cell? ⟨w.heap.size, 1 + i * 9 + j, none⟩ = some (.int .i32 old) := ⟨_, H.2.2.1.cell i j (by omega) (by omega)⟩
            clear H
            obtain ⟨x, hx⟩ : ∃ x, x = m' i j := ⟨_, rfl⟩
            rw [← hx] at c1
            have HX := Lib.hid hx
            clear hx
            by_cases h1 : x = none62
            · have hx : x = 4611686018427387904 := h1
              have HX1 := Lib.hid h1
              clear h1
              subst hx
              go_wp2
              go_roundg (gk - 1)
              case measure => have := HG2.out; omega
              case rel => exact ⟨j + 1, by go_num, HJ.out.step hn (by omega) hi hj (.inl (by rw [← HX.out]; rfl)) _ (by rw [← HX.out]; rfl), by have := HG2.out; omega⟩
            · have t1 : (x == 4611686018427387904) = false := by simpa [none62] using h1
              have H1 := Lib.hid h1
              clear h1
              by_cases h2 : x < -536870912
              · have d2 : decide (x < -536870912) = true := decide_eq_true h2
                go_wp2
                go_ret2
                have hall : ¬ allR n m' := fun ha => by have := ha i (by omega) j (by omega); rw [← HX.out] at this; rcases this with h | h; exact H1.out h; omega
                have hz : zoneP n m0 = (none, 10) := by unfold zoneP; rw [HC.out]; simp only; rw [if_neg hall]
                exact ⟨(((Only.refl _ _).alloc _).trans HO.out).andThen HJ.out.1 (Nat.le_refl _), .pointer none, by rw [hz]; rfl, by rw [hz]; rfl⟩
              · have d2 : decide (x < -536870912) = false := decide_eq_false h2
                by_cases h3 : 536870913 < x
                · go_wp2
                  go_ret2
                  have hall : ¬ allR n m' := fun ha => by have := ha i (by omega) j (by omega); rw [← HX.out] at this; rcases this with h | h; exact H1.out h; omega
                  have hz : zoneP n m0 = (none, 10) := by unfold zoneP; rw [HC.out]; simp only; rw [if_neg hall]
                  exact ⟨(((Only.refl _ _).alloc _).trans HO.out).andThen HJ.out.1 (Nat.le_refl _), .pointer none, by rw [hz]; rfl, by rw [hz]; rfl⟩
                · go_wp2
                  go_roundg (gk - 1)
                  case measure => have := HG2.out; omega
                  case rel => exact ⟨j + 1, by go_num, HJ.out.step hn (by omega) hi hj (by rw [← HX.out]; exact .inr (by omega)) _ (by rw [← HX.out]; unfold nar; rw [if_neg H1.out]), by have := HG2.out; omega⟩
          · have hjj : ¬ (j : Int) < (n : Int) + 1 := by omega
            go_wp2
            go_roundg (n - i)
            case measure => have := HG.out; omega
            case rel => exact ⟨i + 1, by go_num, HJ.out.row hi hj, by omega⟩
      · have hii : ¬ (i : Int) < (n : Int) + 1 := by omega
        obtain ⟨hO2, hM2, hall⟩ := HI.out.done hi
        have HO2 := Lib.hid hO2
        have HM2 := Lib.hid hM2
        have HA := Lib.hid hall
        have hb := zone_lay n (narM n m')
        have hs := matCells_size .i32 n (narM n m')
        clear hO2 hM2 hall h0
        go_wp2_with (refine wpList_load_row rfl 107 _ rfl w.heap.size rfl 107 _ (0, 0) _ HM2.out Try.underlying107 rfl (by rw [matCells_size]; exact size_matrix) ?_)
        go_ret2
        have hz : zoneP n m0 = (some (narM n m'), 0) := by unfold zoneP; rw [HC.out]; simp only; rw [if_pos HA.out]
        exact ⟨((((Only.refl _ _).alloc _).trans HO.out).andThen HO2.out (Nat.le_refl _)).alloc _, .pointer (some ⟨wr.heap.size, 0, none⟩), by rw [hz]; rfl, by rw [hz]; exact ⟨_, rfl, hn, narM_right HA.out, zone_made HM2.out⟩⟩

end Go.Proofs.Ytmelblnflalanaa
