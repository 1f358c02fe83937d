/- Texts of ours, laid together: Yo, Yl, Yp, Yq, Yr, Vx, Vy. -/
import Derived.Lib.AtoiTie
import Derived.Lib.ItoaNum
import Derived.Lib.IndexLaws
import Derived.Lib.ParseIntBTie
import Derived.Deep.DeepCutAuto
import Derived.Test.YtmgdhlcgbgpgpaaDoorMg6
/- Fractions as texts, there and back: plain. -/
namespace Go.Proofs.YtmgdhlcgbgpgpaaDoor
open Go Go.RowKit
set_option linter.unusedVariables false
set_option linter.unusedSimpArgs false

/-- A text, cut at the first '/'. -/
def cutS (s : List UInt8) : List UInt8 × List UInt8 × Bool :=
  if Lib.indexByte s 47 < 0 then (s, [], false) else (s.take (Lib.indexByte s 47).toNat, s.drop ((Lib.indexByte s 47).toNat + 1), true)
/-- What a text tells of, or the error. -/
def parseR (s : List UInt8) : (Int × Int) × Int :=
  match Lib.atoiAll (cutS s).1 with
  | .ok n =>
    if (cutS s).2.2 = true then
      match Lib.atoiAll (cutS s).2.1 with
      | .ok d => if printR (n, d) = s then ((n, d), 0) else ((0, 0), 7)
      | _ => ((0, 0), 7)
    else if printR (n, 1) = s then ((n, 1), 0) else ((0, 0), 7)
  | _ => ((0, 0), 7)
theorem parse_ends (s : List UInt8) : ((parseR s).2 = 0 ∧ printR (parseR s).1 = s) ∨ parseR s = ((0, 0), 7) := by
  unfold parseR
  split
  · split
    · split
      · split
        · rename_i h; exact .inl ⟨rfl, h⟩
        · exact .inr rfl
      · exact .inr rfl
    · split
      · rename_i h; exact .inl ⟨rfl, h⟩
      · exact .inr rfl
  · exact .inr rfl

/-! ### numerals of 64 bits -/
theorem mag_app (c : UInt8) : ∀ (l : List UInt8) (acc : Nat), Lib.parseUint10 acc (l ++ [c]) = match Lib.parseUint10 acc l with | .ok n => Lib.parseUint10 n [c] | e => e := by
  intro l
  induction l with
  | nil => intro acc; rfl
  | cons a t ih =>
    intro acc
    rw [List.cons_append, Lib.parseUint10, Lib.parseUint10]
    split
    · split
      · rfl
      · split
        · rfl
        · exact ih _
    · rfl
theorem mag_one (n k : Nat) (hk : k < 10) (h : n * 10 + k < 18446744073709551616) : Lib.parseUint10 n [UInt8.ofNat (48 + k)] = .ok (n * 10 + k) := by
  have e : (UInt8.ofNat (48 + k)).toNat = 48 + k := by simp; omega
  rw [Lib.parseUint10, e, if_pos (by omega), if_neg (by omega), if_neg (by omega), Lib.parseUint10]
  congr 1
  omega
theorem mag_digits (u : Nat) (h : u < 18446744073709551616) : Lib.parseUint10 0 (Lib.decDigits u) = .ok u := by
  induction u using Nat.strongRecOn with
  | _ u ih =>
    by_cases h1 : u < 10
    · rw [Lib.decDigits, dif_pos h1, mag_one 0 u h1 (by omega)]
      congr 1
      omega
    · rw [Lib.decDigits, dif_neg h1, mag_app, ih (u / 10) (by omega) (by omega)]
      show Lib.parseUint10 (u / 10) [UInt8.ofNat (48 + u % 10)] = _
      rw [mag_one _ _ (by omega) (by omega)]
      congr 1
      omega
theorem digitsR_some (u : Nat) : Lib.decDigits u ≠ [] := by
  rw [Lib.decDigits]
  split
  · simp
  · simp
theorem digitsR_all (u : Nat) : ∀ c ∈ Lib.decDigits u, ∃ d, d < 10 ∧ c = UInt8.ofNat (48 + d) := by
  induction u using Nat.strongRecOn with
  | _ u ih =>
    by_cases h : u < 10
    · rw [Lib.decDigits, dif_pos h]
      intro c hc
      exact ⟨u, h, List.mem_singleton.1 hc⟩
    · rw [Lib.decDigits, dif_neg h]
      intro c hc
      rcases List.mem_append.1 hc with hc | hc
      · exact ih (u / 10) (by omega) c hc
      · exact ⟨u % 10, by omega, List.mem_singleton.1 hc⟩
theorem digit_no (d k : Nat) (h : d < 10) (hk : k < 48) : (UInt8.ofNat (48 + d)).toNat ≠ k := by
  have e : (UInt8.ofNat (48 + d)).toNat = 48 + d := by simp; omega
  omega
theorem itoa_no47 (n : Int) : ∀ c ∈ Lib.itoa n, c ≠ 47 := by
  have hd : ∀ u, ∀ c ∈ Lib.decDigits u, c ≠ 47 := fun u c hc e => by
    obtain ⟨d, h1, h2⟩ := digitsR_all u c hc
    subst e
    exact digit_no d 47 h1 (by omega) (by rw [← h2]; rfl)
  unfold Lib.itoa
  split
  · intro c hc
    rcases List.mem_cons.1 hc with rfl | hc
    · decide
    · exact hd _ c hc
  · exact hd _
theorem atoi_itoa64 (n : Int) (h : I64 n) : Lib.atoiAll (Lib.itoa n) = .ok n := by
  obtain ⟨h1, h2⟩ := h
  unfold Lib.itoa
  by_cases hn : n < 0
  · rw [if_pos hn, Lib.atoiAll_minus]
    unfold Lib.parseMag
    rw [if_neg (digitsR_some _), mag_digits _ (by omega)]
    unfold Lib.signed
    show (if _ then _ else _) = _
    rw [if_neg (by omega)]
    congr 1
    omega
  · rw [if_neg hn]
    have hm : Lib.parseMag (Lib.decDigits n.toNat) = .ok n.toNat := by
      unfold Lib.parseMag
      rw [if_neg (digitsR_some _), mag_digits _ (by omega)]
    cases hc : Lib.decDigits n.toNat with
    | nil => exact absurd hc (digitsR_some _)
    | cons c r =>
      obtain ⟨d, d1, d2⟩ := digitsR_all n.toNat c (by rw [hc]; exact List.mem_cons_self ..)
      rw [Lib.atoiAll_plain c r (by rw [d2]; exact digit_no d 43 d1 (by omega)) (by rw [d2]; exact digit_no d 45 d1 (by omega)), ← hc, hm]
      unfold Lib.signless
      show (if _ then _ else _) = _
      rw [if_neg (by omega)]
      congr 1
      omega
theorem index_no47 : ∀ {l : List UInt8}, (∀ c ∈ l, c ≠ 47) → Lib.indexByte l 47 = -1
  | [], _ => rfl
  | a :: l, h => by
    have h1 : (a == 47) = false := beq_eq_false_iff_ne.2 (h a (List.mem_cons_self ..))
    have h2 := index_no47 (l := l) (fun c hc => h c (List.mem_cons_of_mem _ hc))
    rw [Lib.indexByte, h1, h2]
    rfl
theorem index_at47 : ∀ {l : List UInt8} (r : List UInt8), (∀ c ∈ l, c ≠ 47) → Lib.indexByte (l ++ 47 :: r) 47 = (l.length : Int)
  | [], r, _ => rfl
  | a :: l, r, h => by
    have h1 : (a == 47) = false := beq_eq_false_iff_ne.2 (h a (List.mem_cons_self ..))
    have h2 := index_at47 (l := l) r (fun c hc => h c (List.mem_cons_of_mem _ hc))
    rw [List.cons_append, Lib.indexByte, h1, h2]
    have h3 : ((l.length : Int) == -1) = false := by simp
    rw [h3]
    simp
theorem cut_no {l : List UInt8} (h : ∀ c ∈ l, c ≠ 47) : cutS l = (l, [], false) := by
  unfold cutS
  rw [index_no47 h, if_pos (by decide)]
theorem cut_at {l : List UInt8} (r : List UInt8) (h : ∀ c ∈ l, c ≠ 47) : cutS (l ++ 47 :: r) = (l, r, true) := by
  unfold cutS
  rw [index_at47 r h, if_neg (by omega)]
  simp
/-- The text of a right fraction is read as itself. -/
theorem parse_print {r : Int × Int} (h : rightR r = true) (h1 : I64 r.1) (h2 : I64 r.2) : parseR (printR r) = (r, 0) := by
  have hp : printR r = if r.2 = 1 then Lib.itoa r.1 else Lib.itoa r.1 ++ 47 :: Lib.itoa r.2 := by
    unfold printR; rw [if_pos h]
  by_cases hy : r.2 = 1
  · rw [if_pos hy] at hp
    have e : (r.1, (1 : Int)) = r := by rw [← hy]
    unfold parseR
    rw [hp, cut_no (itoa_no47 _), atoi_itoa64 _ h1]
    show (if false = true then _ else if printR (r.1, 1) = Lib.itoa r.1 then ((r.1, (1 : Int)), (0 : Int)) else ((0, 0), 7)) = (r, 0)
    rw [if_neg (by decide), e, hp, if_pos rfl]
  · rw [if_neg hy] at hp
    unfold parseR
    rw [hp, cut_at _ (itoa_no47 _), atoi_itoa64 _ h1]
    show (if true = true then (match Lib.atoiAll (Lib.itoa r.2) with | .ok d => if printR (r.1, d) = Lib.itoa r.1 ++ 47 :: Lib.itoa r.2 then ((r.1, d), (0 : Int)) else ((0, 0), 7) | _ => ((0, 0), 7)) else _) = (r, 0)
    rw [if_pos rfl, atoi_itoa64 _ h2]
    show (if printR r = _ then (r, (0 : Int)) else _) = _
    rw [hp, if_pos rfl]
theorem parse64 (s : List UInt8) : I64 (parseR s).1.1 ∧ I64 (parseR s).1.2 := by
  unfold parseR
  split
  · rename_i n hn
    have b1 := Lib.atoiAll_bounds hn
    split
    · split
      · rename_i d hd
        have b2 := Lib.atoiAll_bounds hd
        split
        · exact ⟨b1, b2⟩
        · exact ⟨zero64, zero64⟩
      · exact ⟨zero64, zero64⟩
    · split
      · exact ⟨b1, by show I64 1; exact ⟨by decide, by decide⟩⟩
      · exact ⟨zero64, zero64⟩
  · exact ⟨zero64, zero64⟩

end Go.Proofs.YtmgdhlcgbgpgpaaDoor

/- A drawn region by one invariant: guarded operations too. -/
namespace Go.Proofs.YtmgdhlcgbgpgpaaDoor
open Go Go.RowKit
set_option linter.unusedVariables false
set_option linter.unusedSimpArgs false

section
variable {P : Program} {ops : Array Oper} {Q : Exit → Act → World → Prop}
/-- A guarded operation is run: the guard's slot holds what is wanted. -/
theorem want_on {o : Oper} {a : Act} {j d : Nat} {b : Bool} (hg : o.guard = some (j, b)) (hj : (ops[j]?).bind (·.dst) = some d) (hv : a.eval (.tmp d) = .bool b) : Region.wanted o (yielded ops a.tmps) = true := by
  have hv' : a.tmps.getD d undef = .bool b := hv
  have ht : a.tmps[d]? = some (.bool b) := by
    rw [Array.getD_eq_getD_getElem?] at hv'
    cases h : a.tmps[d]? with
    | none => rw [h] at hv'; cases hv'
    | some x => rw [h] at hv'; exact congrArg some hv'
  unfold Region.wanted
  rw [hg]
  show (yielded ops a.tmps j == some b) = true
  unfold yielded
  rw [hj]
  show ((match (a.tmps[d]? : Option Value) with | some (.bool b) => some b | _ => none) == some b) = true
  rw [ht]
  simp
theorem want_off {o : Oper} {a : Act} {j d : Nat} {b : Bool} (hg : o.guard = some (j, b)) (hj : (ops[j]?).bind (·.dst) = some d) (hv : a.eval (.tmp d) = .bool (!b)) : Region.wanted o (yielded ops a.tmps) = false := by
  have hv' : a.tmps.getD d undef = .bool (!b) := hv
  have ht : a.tmps[d]? = some (.bool (!b)) := by
    rw [Array.getD_eq_getD_getElem?] at hv'
    cases h : a.tmps[d]? with
    | none => rw [h] at hv'; cases hv'
    | some x => rw [h] at hv'; exact congrArg some hv'
  unfold Region.wanted
  rw [hg]
  show (yielded ops a.tmps j == some b) = false
  unfold yielded
  rw [hj]
  show ((match (a.tmps[d]? : Option Value) with | some (.bool b) => some b | _ => none) == some b) = false
  rw [ht]
  cases b <;> rfl
theorem wpOp_want {i : Nat} {o : Oper} {K : Act → World → Prop} {a : Act} {w : World} (ho : ops[i]? = some o) (hg : Region.wanted o (yielded ops a.tmps) = true) (h : o.wp P a w K Q) : wpOp P ops Q i K a w := by
  unfold wpOp
  rw [ho]
  simp only [hg, if_true]
  exact .inl h
/-- A guarded operation that is left out. -/
theorem op_skip {i : Nat} {o : Oper} {K : Act → World → Prop} {a : Act} {w : World} {d : Nat} (ho : ops[i]? = some o) (hg : Region.wanted o (yielded ops a.tmps) = false) (hd : o.dst = some d) (h : K (a.put (some d) undef) w) : wpOp P ops Q i K a w := by
  unfold wpOp
  rw [ho]
  simp only [hg]
  rw [hd]
  exact h
theorem op_moveG {i : Nat} {o : Oper} {K : Act → World → Prop} {a : Act} {w : World} {d : Nat} {s : Operand} (ho : ops[i]? = some o) (hg : Region.wanted o (yielded ops a.tmps) = true) (hop : o.op = .move s) (hd : o.dst = some d)
    {v : Value} (hx : a.eval s = v) (h : K (a.put (some d) v) w) : wpOp P ops Q i K a w :=
  wpOp_want ho hg (BigFrame.wp_move _ hop (by rw [hx, hd]; exact h))
theorem op_assignG {i : Nat} {o : Oper} {K : Act → World → Prop} {a : Act} {w : World} {d : Nat} {s : Operand} (ho : ops[i]? = some o) (hg : Region.wanted o (yielded ops a.tmps) = true) (hop : o.op = .assign s) (hd : o.dst = some d)
    {v : Value} (hx : a.eval s = v) (h : K (a.put (some d) v) w) : wpOp P ops Q i K a w :=
  wpOp_want ho hg (BigFrame.wp_assign _ hop (by rw [hx, hd]; exact h))
theorem op_loadG {i : Nat} {o : Oper} {K : Act → World → Prop} {a : Act} {w : World} {d g : Nat} {x : Operand} {ty t : TypeId} {cs : Array Value} {td : TypeDesc} (ho : ops[i]? = some o) (hg : Region.wanted o (yielded ops a.tmps) = true) (hop : o.op = .load ty x) (hd : o.dst = some d)
    (hu : P.underlying ty = some td) (hdd : (match td with | .struct _ | .array _ _ => true | _ => false) = true) (hi : (P.info? ty).map (·.size) = some cs.size)
    (hx : a.eval x = .pointer (some ⟨g, 0, none⟩)) (hw : w.heap[g]? = some (.cells cs t)) (h : K (a.put (some d) (.agg cs)) w) : wpOp P ops Q i K a w :=
  wpOp_want ho hg (wp_load_row ty x hop g hx t cs (0, 0) td hw hu hdd hi (by rw [hd]; exact h))
theorem op_valueG {i : Nat} {o : Oper} {K : Act → World → Prop} {a : Act} {w w' : World} {d : Nat} {v : Value} (ho : ops[i]? = some o) (hg : Region.wanted o (yielded ops a.tmps) = true)
    (hd : o.dst = some d) (hx : (execOp a.eval o).run P w = .ok (.value v) w') (h : K (a.put (some d) v) w') : wpOp P ops Q i K a w := by
  refine wpOp_want ho hg ?_
  unfold Oper.wp
  rw [hx, Oper.upon_value, hd]
  exact h
theorem op_goG {i : Nat} {o : Oper} {K : Act → World → Prop} {a : Act} {w : World} {d : Nat} {f : FuncId} {xs : Array Operand} {ats : Array TypeId} {args : Array Value} {fn : Func} {c : Code} {v : Value} (ho : ops[i]? = some o) (hg : Region.wanted o (yielded ops a.tmps) = true)
    (hop : o.op = .call { callee := .value (.func f), args := xs, argTypes := ats }) (hd : o.dst = some d) (hf : P.funcs[f]? = some fn) (hn : (fn.name == "runtime.NumGoroutine") = false) (hb : fn.body = some c)
    (hx : xs.map a.eval = args) {R : World → Prop} (hc : Calls P f args w fun e w' => e = .returned v ∧ R w') (h : ∀ w', R w' → K (a.put (some d) v) w') : wpOp P ops Q i K a w := by
  refine wpOp_want ho hg ?_
  have e : execOp a.eval o = callFunc f (#[] ++ xs.map a.eval ++ #[]) := by
    obtain ⟨dst, op, ty, pos, after, guard⟩ := o
    simp only at hop
    subst hop
    rfl
  unfold Oper.wp
  rw [e, hx, show #[] ++ args ++ #[] = args by simp, enter_run hf hn hb args w, Oper.upon_enter]
  refine hc.mono ?_
  rintro e w' ⟨rfl, hr⟩
  rw [hd]
  exact h w' hr
end

/-- The keys of a table, but for one place, are others. -/
def keysB (ks : List (Nat × Nat)) (j i d : Nat) : Bool := (List.range ks.length).all fun k => k == j || (!((ks.getD k (0, 0)).1 == i) && !((ks.getD k (0, 0)).2 == d))
section
variable {tbl : List (Nat × Nat × Value)} {base : List (Nat × Value)} {L : Nat → Bool} {vals : Nat → Value}
theorem TabR.set (h : TabR tbl base L vals) (j : Nat) {i d : Nat} {x : Value} (hj : tbl[j]? = some (i, d, x)) (hk : keysB (tbl.map fun t => (t.1, t.2.1)) j i d = true) (h2 : ((base.map (·.1)).all fun b => !(b == d)) = true) :
    TabR tbl base (fun k => k == i || L k) (fun k => if k = d then x else vals k) := by
  refine h.put (fun t ht hor => ?_) (fun b hb => ?_)
  · obtain ⟨k, hk1, hk2⟩ := List.getElem_of_mem ht
    have h3 := (List.all_eq_true.1 hk) k (List.mem_range.2 (by simpa using hk1))
    by_cases hkj : k = j
    · subst hkj
      rw [List.getElem?_eq_getElem hk1, hk2] at hj
      exact Option.some.inj hj
    · exfalso
      have e : (tbl.map fun t => (t.1, t.2.1)).getD k (0, 0) = (t.1, t.2.1) := by
        rw [List.getD_eq_getElem?_getD, List.getElem?_map, List.getElem?_eq_getElem hk1, hk2]
        rfl
      rw [e] at h3
      simp only [Bool.or_eq_true, beq_iff_eq, hkj, false_or, Bool.and_eq_true, Bool.not_eq_true', beq_eq_false_iff_ne, ne_eq] at h3
      rcases hor with h4 | h4
      · exact h3.1 h4
      · exact h3.2 h4
  · have := (List.all_eq_true.1 h2) b.1 (List.mem_map_of_mem hb)
    simpa using this
end

end Go.Proofs.YtmgdhlcgbgpgpaaDoor

/- What rat reads of a text. -/
namespace Go.Proofs.YtmgdhlcgbgpgpaaDoor
open Go Go.RowKit
set_option linter.unusedVariables false
set_option linter.unusedSimpArgs false


def tbCut (s : List UInt8) (n0 : Nat) : List (Nat × Nat × Value) :=
  [(0, 13, .string ⟨(s).toArray⟩), (1, 14, .int .i64 n0), (2, 15, .string ⟨(s.take n0).toArray⟩), (3, 16, .string ⟨(s).toArray⟩), (4, 17, .int .i64 n0), (5, 18, .string ⟨#[47]⟩), (6, 19, .int .i64 1), (7, 20, .int .i64 (n0 + 1)), (8, 21, .string ⟨(s.drop (n0 + 1)).toArray⟩), (9, 4, .string ⟨(s.take n0).toArray⟩), (10, 5, .string ⟨(s.drop (n0 + 1)).toArray⟩), (11, 6, .bool true)]
def bsCut (s : List UInt8) (n0 : Nat) : List (Nat × Value) := [(0, .string ⟨(s).toArray⟩), (1, .string ⟨#[47]⟩), (7, .int .i64 n0)]


theorem ext_take (s : List UInt8) (i : Nat) : (⟨s.toArray⟩ : ByteArray).extract 0 i = ⟨(s.take i).toArray⟩ := ByteArray.ext (by simp [ByteArray.data_extract])
theorem ext_drop (s : List UInt8) (i : Nat) (h : i + 1 ≤ s.length) : (⟨s.toArray⟩ : ByteArray).extract (i + 1) s.length = ⟨(s.drop (i + 1)).toArray⟩ := ByteArray.ext (by simp [ByteArray.data_extract, List.take_of_length_le])

set_option maxRecDepth 100000 in
set_option maxHeartbeats 2000000 in
theorem index1_any (s : List UInt8) (w : World) : Calls Tryd.prog 93 #[.string ⟨s.toArray⟩, .string ⟨#[47]⟩] w fun e w' => e = .returned (.int .i64 (Lib.indexByte s 47)) ∧ w' = w := by
  have HI := Lib.hid (fun W => Tryd.stringslite_IndexByte ⟨s.toArray⟩ 47 W)
  by_cases hs : s = [47]
  · subst hs
    have e : Lib.indexByte [47] 47 = 0 := rfl
    rw [e]
    go_enter Tryd.func93, Tryd.ntmps93
    go_wp2
    go_ret
    exact ⟨rfl, rfl⟩
  · have f1 : ([47] == s) = false := by simp [Ne.symm hs]
    have f2 : (s == [47]) = false := by simp [hs]
    obtain ⟨r, hr⟩ : ∃ r, r = Lib.indexByte s 47 := ⟨_, rfl⟩
    have HI : Hid (∀ W, Calls Tryd.prog 104 #[.string ⟨s.toArray⟩, .int .u8 47] W fun e w' => e = .returned (.int .i64 r) ∧ w' = W) := Lib.hid (fun W => by rw [hr]; exact HI.out W)
    rw [← hr]
    clear hr hs
    go_enter Tryd.func93, Tryd.ntmps93
    go_wp2_with fail
    refine (HI.out _).mono ?_
    rintro e w1 ⟨rfl, rfl⟩
    go_wp2
    go_ret
    exact ⟨rfl, rfl⟩

set_option maxRecDepth 100000 in
set_option maxHeartbeats 4000000 in
theorem cutl_any (s : List UInt8) (hl : s.length ≤ 281474976710656) (w : World) : Calls Tryd.prog 85 #[.string ⟨s.toArray⟩, .string ⟨#[47]⟩] w fun e w' => e = .returned (.tuple #[.string ⟨(cutS s).1.toArray⟩, .string ⟨(cutS s).2.1.toArray⟩, .bool (cutS s).2.2]) ∧ Below w.heap.size w w' := by
  have HI := Lib.hid (fun W => index1_any s W)
  by_cases h : Lib.indexByte s 47 < 0
  · have e : cutS s = (s, [], false) := by unfold cutS; rw [if_pos h]
    have e2 : Lib.indexByte s 47 = -1 := by have := Lib.indexByte_ge s 47; omega
    rw [e2] at HI
    rw [e]
    clear h e e2
    go_enter Tryd.func85, Tryd.ntmps85
    go_wp2_with fail
    refine (HI.out _).mono ?_
    rintro e w1 ⟨rfl, hw⟩
    rw [hw]
    clear hw
    go_wp2
    go_ret3
    exact ⟨rfl, Below.refl _ _⟩
  · obtain ⟨n0, hi⟩ : ∃ n0 : Nat, Lib.indexByte s 47 = (n0 : Int) := ⟨(Lib.indexByte s 47).toNat, by omega⟩
    have e : cutS s = (s.take n0, s.drop (n0 + 1), true) := by unfold cutS; rw [if_neg h, hi]; rfl
    have hlt : n0 < s.length := by
      obtain ⟨h1, _⟩ := Lib.indexByte_some hi
      exact (List.getElem?_eq_some_iff.1 h1).1
    rw [hi] at HI
    rw [e]
    clear h e hi
    have g1 : (0 : Int) ≤ (n0 : Int) := by omega
    have g2 : (n0 : Int) ≤ (s.length : Int) := by omega
    have g3 : (n0 : Int) + 1 ≤ (s.length : Int) := by omega
    have g4 : (0 : Int) ≤ (n0 : Int) + 1 := by omega
    have g5 : decide ((0 : Int) ≤ (n0 : Int)) = true := decide_eq_true g1
    have g6 : IntKind.i64.wrap ((n0 : Int) + 1) = (n0 : Int) + 1 := IntWalk.i64_in _ (by omega)
    have g7 : ((n0 : Int) + 1).toNat = n0 + 1 := by omega
    go_enter Tryd.func85, Tryd.ntmps85
    go_wp2_with fail
    refine (HI.out _).mono ?_
    rintro e w1 ⟨rfl, hw⟩
    rw [hw]
    clear hw
    clear HI
    go_upto_region 3 with fail
    refine wp_region_tab (by kernel_rfl) [0, 1, 7, 13, 14, 15, 16, 17, 18, 19, 20, 21, 4, 5, 6] [[], [], [0, 1], [], [], [], [5], [4, 6], [3, 7], [0, 1, 2], [0, 1, 2, 3, 4, 5, 6, 7, 8, 9], [0, 1, 2, 3, 4, 5, 6, 7, 8, 9, 10]]
      (fun L vals wx => Below w.heap.size w wx ∧ TabR (tbCut s n0) (bsCut s n0) L vals) (by kernel_rfl) rfl ?_ ?_ ?_
    · exact ⟨Below.drew (Below.refl _ _), TabR.start (by simp [bsCut])⟩
    · intro i hi a L vals wx E hJ hLi hn K hK hK0
      obtain ⟨hI, hT⟩ := hJ
      match i, hi with
      | 0, _ => exact op_moveG rfl rfl rfl rfl ((E 0 (by decide)).trans (hT.rd 0 rfl)) (hK 13 _ _ (by decide) ⟨hI, hT.set 0 rfl (by kernel_rfl) (by kernel_rfl)⟩)
      | 1, _ => exact op_moveG rfl rfl rfl rfl ((E 7 (by decide)).trans (hT.rd 2 rfl)) (hK 14 _ _ (by decide) ⟨hI, hT.set 1 rfl (by kernel_rfl) (by kernel_rfl)⟩)
      | 2, _ =>
        have e1 := (E 13 (by decide)).trans (hT.val 0 rfl (hn 0 (by decide)))
        have e2 := (E 14 (by decide)).trans (hT.val 1 rfl (hn 1 (by decide)))
        refine op_valueG (w' := wx) (v := .string ⟨(s.take n0).toArray⟩) rfl rfl rfl ?_ (hK 15 _ _ (by decide) ⟨hI, hT.set 2 rfl (by kernel_rfl) (by kernel_rfl)⟩)
        clear hK hK0 hT E
        revert e1 e2
        generalize a.eval = ρ
        intro e1 e2
        go_simp
        exact ext_take s n0
      | 3, _ => exact op_moveG rfl rfl rfl rfl ((E 0 (by decide)).trans (hT.rd 0 rfl)) (hK 16 _ _ (by decide) ⟨hI, hT.set 3 rfl (by kernel_rfl) (by kernel_rfl)⟩)
      | 4, _ => exact op_moveG rfl rfl rfl rfl ((E 7 (by decide)).trans (hT.rd 2 rfl)) (hK 17 _ _ (by decide) ⟨hI, hT.set 4 rfl (by kernel_rfl) (by kernel_rfl)⟩)
      | 5, _ => exact op_moveG rfl rfl rfl rfl ((E 1 (by decide)).trans (hT.rd 1 rfl)) (hK 18 _ _ (by decide) ⟨hI, hT.set 5 rfl (by kernel_rfl) (by kernel_rfl)⟩)
      | 6, _ =>
        have e1 := (E 18 (by decide)).trans (hT.val 5 rfl (hn 5 (by decide)))
        refine op_valueG (w' := wx) (v := .int .i64 1) rfl rfl rfl ?_ (hK 19 _ _ (by decide) ⟨hI, hT.set 6 rfl (by kernel_rfl) (by kernel_rfl)⟩)
        clear hK hK0 hT E
        revert e1
        generalize a.eval = ρ
        intro e1
        go_simp
      | 7, _ =>
        have e1 := (E 17 (by decide)).trans (hT.val 4 rfl (hn 4 (by decide)))
        have e2 := (E 19 (by decide)).trans (hT.val 6 rfl (hn 6 (by decide)))
        refine op_valueG (w' := wx) (v := .int .i64 (n0 + 1)) rfl rfl rfl ?_ (hK 20 _ _ (by decide) ⟨hI, hT.set 7 rfl (by kernel_rfl) (by kernel_rfl)⟩)
        clear hK hK0 hT E
        revert e1 e2
        generalize a.eval = ρ
        intro e1 e2
        go_simp
      | 8, _ =>
        have e1 := (E 16 (by decide)).trans (hT.val 3 rfl (hn 3 (by decide)))
        have e2 := (E 20 (by decide)).trans (hT.val 7 rfl (hn 7 (by decide)))
        refine op_valueG (w' := wx) (v := .string ⟨(s.drop (n0 + 1)).toArray⟩) rfl rfl rfl ?_ (hK 21 _ _ (by decide) ⟨hI, hT.set 8 rfl (by kernel_rfl) (by kernel_rfl)⟩)
        clear hK hK0 hT E
        revert e1 e2
        generalize a.eval = ρ
        intro e1 e2
        go_simp
        exact ext_drop s n0 (by omega)
      | 9, _ => exact op_assignG rfl rfl rfl rfl ((E 15 (by decide)).trans (hT.val 2 rfl (hn 2 (by decide)))) (hK 4 _ _ (by decide) ⟨hI, hT.set 9 rfl (by kernel_rfl) (by kernel_rfl)⟩)
      | 10, _ => exact op_assignG rfl rfl rfl rfl ((E 21 (by decide)).trans (hT.val 8 rfl (hn 8 (by decide)))) (hK 5 _ _ (by decide) ⟨hI, hT.set 10 rfl (by kernel_rfl) (by kernel_rfl)⟩)
      | 11, _ =>
        have c1 : a.eval (.const (Value.bool true)) = Value.bool true := rfl
        refine op_valueG (w' := wx) (v := .bool true) rfl rfl rfl ?_ (hK 6 _ _ (by decide) ⟨hI, hT.set 11 rfl (by kernel_rfl) (by kernel_rfl)⟩)
        clear hK hK0 hT E
        revert c1
        generalize a.eval = ρ
        intro c1
        go_simp
      | k + 12, h => exact absurd (show k + 12 < 12 from h) (by omega)
    · intro L vals wx hJ hall
      obtain ⟨hI, hT⟩ := hJ
      have HI := Lib.hid hI
      have v0 : vals 0 = .string ⟨(s).toArray⟩ := hT.rd 0 rfl
      have v1 : vals 1 = .string ⟨#[47]⟩ := hT.rd 1 rfl
      have v7 : vals 7 = .int .i64 n0 := hT.rd 2 rfl
      have v4 : vals 4 = .string ⟨(s.take n0).toArray⟩ := hT.val 9 rfl (hall 9 (by decide))
      have v5 : vals 5 = .string ⟨(s.drop (n0 + 1)).toArray⟩ := hT.val 10 rfl (hall 10 (by decide))
      have v6 : vals 6 = .bool true := hT.val 11 rfl (hall 11 (by decide))
      simp only [overA, Act.put, List.setIfInBounds_toArray, List.set_cons_zero, List.set_cons_succ]
      rw [v0, v1, v7, v4, v5, v6]
      clear hI hT hall v0 v1 v7 v4 v5 v6
      go_wp2
      go_ret3
      exact ⟨rfl, HI.out⟩

set_option maxRecDepth 100000 in
set_option maxHeartbeats 2000000 in
theorem cut47_any (s : List UInt8) (hl : s.length ≤ 281474976710656) (w : World) : Calls Tryd.prog 67 #[.string ⟨s.toArray⟩, .string ⟨#[47]⟩] w fun e w' => e = .returned (.tuple #[.string ⟨(cutS s).1.toArray⟩, .string ⟨(cutS s).2.1.toArray⟩, .bool (cutS s).2.2]) ∧ Below w.heap.size w w' := by
  have HC := Lib.hid (fun W => cutl_any s hl W)
  obtain ⟨⟨a, b, c⟩, hq⟩ : ∃ q, q = cutS s := ⟨_, rfl⟩
  rw [← hq] at HC ⊢
  have HC : Hid (∀ W, Calls Tryd.prog 85 #[.string ⟨s.toArray⟩, .string ⟨#[47]⟩] W fun e w' => e = .returned (.tuple #[.string ⟨a.toArray⟩, .string ⟨b.toArray⟩, .bool c]) ∧ Below W.heap.size W w') := HC
  clear hq
  go_enter Tryd.func67, Tryd.ntmps67
  go_wp2_with fail
  refine (HC.out _).mono ?_
  rintro e w1 ⟨rfl, hb⟩
  have HB := Lib.hid hb
  clear hb
  go_wp2
  go_ret3
  exact ⟨rfl, HB.out⟩

/-- A package's variable holds an interface's value. -/
def SentQ (name : String) (w : World) : Prop := ∃ tp p, w.var? Tryd.prog name = some #[.iface tp p]
theorem SentQ.below {name : String} {w w' : World} (h : SentQ name w) (hb : Below w.heap.size w w') : SentQ name w' := by
  obtain ⟨tp, p, h⟩ := h
  refine ⟨tp, p, ?_⟩
  unfold World.var? at *
  cases hg : Tryd.prog.globalNamed name with
  | none => simp [hg] at h
  | some g =>
    simp only [hg, Option.bind_some] at h ⊢
    have hlt : g < w.heap.size := by
      rcases Nat.lt_or_ge g w.heap.size with h' | h'
      · exact h'
      · rw [Array.getElem?_eq_none h'] at h; simp at h
    rw [hb.block g hlt]
    exact h
/-- How ParseInt ends. -/
def IntEnds (w : World) (l : List UInt8) (e : Ending) (w' : World) : Prop :=
  Below w.heap.size w w' ∧ ((∃ v, e = .returned (.tuple #[.int .i64 v, .nilIface]) ∧ Lib.atoiAll l = .ok v) ∨ (∃ v T N, e = .returned (.tuple #[.int .i64 v, .iface T (.pointer (some ⟨N, 0, none⟩))]) ∧ ∀ v', Lib.atoiAll l ≠ .ok v'))

set_option maxRecDepth 100000 in
set_option maxHeartbeats 1000000 in
theorem parseint_any (l : List UInt8) (hl : l.length ≤ 281474976710656) (w : World) (h1 : SentQ "strconv.ErrSyntax" w) (h2 : SentQ "strconv.ErrRange" w) :
    Calls Tryd.prog 68 #[.string ⟨l.toArray⟩, .int .i64 10, .int .i64 64] w (IntEnds w l) := by
  have hs : (⟨l.toArray⟩ : ByteArray).size ≤ 281474976710656 := by simpa [ByteArray.size] using hl
  obtain ⟨t1, p1, h1⟩ := h1
  obtain ⟨t2, p2, h2⟩ := h2
  cases h : Lib.atoiAll l
  case ok v =>
    refine (Tryd.strconv_ParseInt_10_at64_ok ⟨l.toArray⟩ (by omega) v (by rw [Lib.parseIntB_64]; exact h) w).mono fun e w' ⟨he, hw⟩ => ⟨?_, .inl ⟨v, he, h⟩⟩
    rcases hw with rfl | ⟨t, rfl⟩
    · exact Below.refl _ _
    · exact Lib.bytesWorld_below _ _ _
  case range =>
    refine (Tryd.strconv_ParseInt_10_at64_range_var ⟨l.toArray⟩ hs (by rw [Lib.parseIntB_64]; exact h) t2 p2 w h2).mono fun e w' ⟨N, he, _, _, hb⟩ => ⟨hb, .inr ⟨_, _, N, he, fun v' e => ?_⟩⟩
    rw [h] at e; cases e
  all_goals
    refine (Tryd.strconv_ParseInt_10_at64_syntax_var ⟨l.toArray⟩ hs (by rw [Lib.parseIntB_64]; exact h) t1 p1 w h1).mono fun e w' ⟨N, he, _, _, hb⟩ => ⟨hb, .inr ⟨_, _, N, he, fun v' e => ?_⟩⟩
    rw [h] at e; cases e

end Go.Proofs.YtmgdhlcgbgpgpaaDoor

/- What rat's Parse tells of any text. -/
namespace Go.Proofs.YtmgdhlcgbgpgpaaDoor
open Go Go.RowKit
set_option linter.unusedVariables false
set_option linter.unusedSimpArgs false

theorem parse_no1 {s : List UInt8} (h : ∀ v, Lib.atoiAll (cutS s).1 ≠ .ok v) : parseR s = ((0, 0), 7) := by
  unfold parseR
  split
  · rename_i n hn; exact absurd hn (h n)
  · rfl
theorem parse_no2 {s : List UInt8} {n : Int} (h1 : Lib.atoiAll (cutS s).1 = .ok n) (hc : (cutS s).2.2 = true) (h : ∀ v, Lib.atoiAll (cutS s).2.1 ≠ .ok v) : parseR s = ((0, 0), 7) := by
  unfold parseR
  rw [h1]
  show (if (cutS s).2.2 = true then _ else _) = _
  rw [if_pos hc]
  split
  · rename_i d hd; exact absurd hd (h d)
  · rfl
theorem parse_one {s : List UInt8} {n : Int} (h1 : Lib.atoiAll (cutS s).1 = .ok n) (hc : (cutS s).2.2 = false) : parseR s = if printR (n, 1) = s then ((n, 1), 0) else ((0, 0), 7) := by
  unfold parseR
  rw [h1]
  show (if (cutS s).2.2 = true then _ else _) = _
  rw [if_neg (by rw [hc]; decide)]
theorem parse_two {s : List UInt8} {n d : Int} (h1 : Lib.atoiAll (cutS s).1 = .ok n) (hc : (cutS s).2.2 = true) (h2 : Lib.atoiAll (cutS s).2.1 = .ok d) : parseR s = if printR (n, d) = s then ((n, d), 0) else ((0, 0), 7) := by
  unfold parseR
  rw [h1]
  show (if (cutS s).2.2 = true then _ else _) = _
  rw [if_pos hc, h2]
theorem cut_le (s : List UInt8) : (cutS s).1.length ≤ s.length ∧ (cutS s).2.1.length ≤ s.length := by
  unfold cutS
  split
  · exact ⟨Nat.le_refl _, Nat.zero_le _⟩
  · exact ⟨by simp; omega, by simp⟩

set_option maxRecDepth 100000 in
set_option maxHeartbeats 8000000 in
theorem rparse_any (s : List UInt8) (hl : s.length ≤ 140737488351232) (w : World) (ht : TabQ w) (h1 : SentQ "strconv.ErrSyntax" w) (h2 : SentQ "strconv.ErrRange" w) :
    Calls Tryd.prog 42 #[.string ⟨s.toArray⟩] w fun e w' => e = .returned (.tuple #[.agg #[.int .i64 (parseR s).1.1, .int .i64 (parseR s).1.2], .int .i64 (parseR s).2]) ∧ Below w.heap.size w w' := by
  have HC := Lib.hid (fun W => cut47_any s (by omega) W)
  have HN1 := Lib.hid (parse_no1 (s := s))
  have HN2 := Lib.hid (fun n => parse_no2 (s := s) (n := n))
  have HO1 := Lib.hid (fun n => parse_one (s := s) (n := n))
  have HO2 := Lib.hid (fun n d => parse_two (s := s) (n := n) (d := d))
  have HL := cut_le s
  obtain ⟨R, hR⟩ : ∃ q, q = parseR s := ⟨_, rfl⟩
  rw [← hR] at HN1 HN2 HO1 HO2 ⊢
  obtain ⟨⟨a, b, c⟩, hq⟩ : ∃ q, q = cutS s := ⟨_, rfl⟩
  rw [← hq] at HC HN1 HN2 HO1 HO2 HL
  have HC : Hid (∀ W, Calls Tryd.prog 67 #[.string ⟨s.toArray⟩, .string ⟨#[47]⟩] W fun e w' => e = .returned (.tuple #[.string ⟨a.toArray⟩, .string ⟨b.toArray⟩, .bool c]) ∧ Below W.heap.size W w') := HC
  have HPA := Lib.hid (fun W => parseint_any a (by have := HL.1; show a.length ≤ _; have : a.length ≤ s.length := this; omega) W)
  have HPB := Lib.hid (fun W => parseint_any b (by have := HL.2; have : b.length ≤ s.length := this; omega) W)
  have S1 := Lib.hid h1
  have S2 := Lib.hid h2
  have HPR := Lib.hid (fun (n d : Int) (hn : I64 n) (hd : I64 d) W hW => rprint_any n d hn hd W hW)
  have hle : w.heap.size ≤ w.heap.size := Nat.le_refl _
  have K := Lib.hid ((RtL.start ht).one 0 0)
  clear hR hq h1 h2 HL ht hl
  go_enter Tryd.func42, Tryd.ntmps42
  go_upto_region 1 with fail
  generalize w.alloc (.cells #[.int .i64 0, .int .i64 0] 23) = w1 at *
  go_wp2_with fail
  refine (HC.out _).mono ?_
  rintro e w2 ⟨rfl, hb⟩
  replace K := Lib.hid (K.out.step hb)
  clear hb HC
  go_wp2_with fail
  refine (HPA.out _ (S1.out.below K.out.below) (S2.out.below K.out.below)).mono ?_
  rintro e w3 ⟨hb, hend⟩
  replace K := Lib.hid (K.out.step hb)
  clear hb HPA
  rcases hend with ⟨n, rfl, hn⟩ | ⟨v, T, N, rfl, hn⟩
  · have HN := Lib.hid hn
    have N64 := Lib.hid (show I64 n from Lib.atoiAll_bounds hn)
    clear hn
    cases c with
    | false =>
      go_upto_region 7 with fail
      replace K := Lib.hid (K.out.new n 1)
      generalize w3.alloc (.cells #[.int .i64 n, .int .i64 1] 23) = wm at *
      generalize w3.heap.size = g10 at *
      simp only [List.cons_append, List.nil_append] at K
      have HE0 := Lib.hid (HO1.out n HN.out (by simp))
      have HPR := Lib.hid (HPR.out n 1 N64.out ⟨by decide, by decide⟩)
      obtain ⟨p, hp⟩ : ∃ q, q = printR (n, 1) := ⟨_, rfl⟩
      rw [← hp] at HPR HE0
      clear hp
      obtain ⟨a1, b1⟩ := K.out.cells 1 rfl
      go_wp2_with fail
      refine (HPR.out _ K.out.tab).mono ?_
      rintro e w9 ⟨rfl, hb⟩
      replace K := Lib.hid (K.out.step hb)
      clear hb a1 b1
      by_cases hps : p = s
      · have f1 : (p == s) = true := by simp [hps]
        have f2 : (p != s) = false := by simp [hps]
        have HE := Lib.hid (HE0.out.trans (if_pos hps))
        clear hps HE0
        have T1 := Lib.hid (rat_cells (K.out.l (w.heap.size, 0, 0) (by simp)) (.int .i64 n) (.int .i64 1))
        have T2 := Lib.hid ((K.out.below.setCell (p := ⟨w.heap.size, 0, none⟩) hle (.int .i64 n)).setCell (p := ⟨w.heap.size, 1, none⟩) hle (.int .i64 1))
        obtain ⟨z1, z2, z3, z4⟩ := cell_two (K.out.l (w.heap.size, 0, 0) (by simp))
        obtain ⟨a1, b1⟩ := K.out.cells 1 rfl
        go_wp2
        refine bodyPost_ret (results_row_tmp (fn := Tryd.f42) rfl _ _ w.heap.size _ _ _ _ rfl T1.out Tryd.underlying23 rfl (by kernel_rfl)) rfl ?_
        exact ⟨by rw [HE.out]; rfl, T2.out⟩
      · have f1 : (p == s) = false := by simp [hps]
        have f2 : (p != s) = true := by simp [hps]
        have HE1 := Lib.hid (HE0.out.trans (if_neg hps))
        clear hps HE0
        have HE := Lib.hid (HE1.out)
        have T1 := Lib.hid (rat_cells (K.out.l (w.heap.size, 0, 0) (by simp)) (.int .i64 0) (.int .i64 0))
        have T2 := Lib.hid ((K.out.below.setCell (p := ⟨w.heap.size, 0, none⟩) hle (.int .i64 0)).setCell (p := ⟨w.heap.size, 1, none⟩) hle (.int .i64 0))
        obtain ⟨z1, z2, z3, z4⟩ := cell_two (K.out.l (w.heap.size, 0, 0) (by simp))
        go_wp2
        refine bodyPost_ret (results_row_tmp (fn := Tryd.f42) rfl _ _ w.heap.size _ _ _ _ rfl T1.out Tryd.underlying23 rfl (by kernel_rfl)) rfl ?_
        exact ⟨by rw [HE.out]; rfl, T2.out⟩
    | true =>
      go_wp2_with fail
      refine (HPB.out _ (S1.out.below K.out.below) (S2.out.below K.out.below)).mono ?_
      rintro e w4 ⟨hb, hend⟩
      replace K := Lib.hid (K.out.step hb)
      clear hb HPB
      rcases hend with ⟨d, rfl, hd⟩ | ⟨v, T, N, rfl, hd⟩
      · have HD := Lib.hid hd
        have D64 := Lib.hid (show I64 d from Lib.atoiAll_bounds hd)
        clear hd
        go_upto_region 7 with fail
        replace K := Lib.hid (K.out.new n d)
        generalize w4.alloc (.cells #[.int .i64 n, .int .i64 d] 23) = wm at *
        generalize w4.heap.size = g10 at *
        simp only [List.cons_append, List.nil_append] at K
        have HE0 := Lib.hid (HO2.out n d HN.out (by simp) HD.out)
        have HPR := Lib.hid (HPR.out n d N64.out D64.out)
        obtain ⟨p, hp⟩ : ∃ q, q = printR (n, d) := ⟨_, rfl⟩
        rw [← hp] at HPR HE0
        clear hp
        obtain ⟨a1, b1⟩ := K.out.cells 1 rfl
        go_wp2_with fail
        refine (HPR.out _ K.out.tab).mono ?_
        rintro e w9 ⟨rfl, hb⟩
        replace K := Lib.hid (K.out.step hb)
        clear hb a1 b1
        by_cases hps : p = s
        · have f1 : (p == s) = true := by simp [hps]
          have f2 : (p != s) = false := by simp [hps]
          have HE := Lib.hid (HE0.out.trans (if_pos hps))
          clear hps HE0
          have T1 := Lib.hid (rat_cells (K.out.l (w.heap.size, 0, 0) (by simp)) (.int .i64 n) (.int .i64 d))
          have T2 := Lib.hid ((K.out.below.setCell (p := ⟨w.heap.size, 0, none⟩) hle (.int .i64 n)).setCell (p := ⟨w.heap.size, 1, none⟩) hle (.int .i64 d))
          obtain ⟨z1, z2, z3, z4⟩ := cell_two (K.out.l (w.heap.size, 0, 0) (by simp))
          obtain ⟨a1, b1⟩ := K.out.cells 1 rfl
          go_wp2
          refine bodyPost_ret (results_row_tmp (fn := Tryd.f42) rfl _ _ w.heap.size _ _ _ _ rfl T1.out Tryd.underlying23 rfl (by kernel_rfl)) rfl ?_
          exact ⟨by rw [HE.out]; rfl, T2.out⟩
        · have f1 : (p == s) = false := by simp [hps]
          have f2 : (p != s) = true := by simp [hps]
          have HE1 := Lib.hid (HE0.out.trans (if_neg hps))
          clear hps HE0
          have HE := Lib.hid (HE1.out)
          have T1 := Lib.hid (rat_cells (K.out.l (w.heap.size, 0, 0) (by simp)) (.int .i64 0) (.int .i64 0))
          have T2 := Lib.hid ((K.out.below.setCell (p := ⟨w.heap.size, 0, none⟩) hle (.int .i64 0)).setCell (p := ⟨w.heap.size, 1, none⟩) hle (.int .i64 0))
          obtain ⟨z1, z2, z3, z4⟩ := cell_two (K.out.l (w.heap.size, 0, 0) (by simp))
          go_wp2
          refine bodyPost_ret (results_row_tmp (fn := Tryd.f42) rfl _ _ w.heap.size _ _ _ _ rfl T1.out Tryd.underlying23 rfl (by kernel_rfl)) rfl ?_
          exact ⟨by rw [HE.out]; rfl, T2.out⟩
      · have HD := Lib.hid hd
        clear hd
        go_upto_region 7 with fail
        replace K := Lib.hid (K.out.new n v)
        generalize w4.alloc (.cells #[.int .i64 n, .int .i64 v] 23) = wm at *
        generalize w4.heap.size = g10 at *
        simp only [List.cons_append, List.nil_append] at K
        have HE := Lib.hid (HN2.out n HN.out (by simp) HD.out)
        have T1 := Lib.hid (rat_cells (K.out.l (w.heap.size, 0, 0) (by simp)) (.int .i64 0) (.int .i64 0))
        have T2 := Lib.hid ((K.out.below.setCell (p := ⟨w.heap.size, 0, none⟩) hle (.int .i64 0)).setCell (p := ⟨w.heap.size, 1, none⟩) hle (.int .i64 0))
        obtain ⟨z1, z2, z3, z4⟩ := cell_two (K.out.l (w.heap.size, 0, 0) (by simp))
        go_wp2
        refine bodyPost_ret (results_row_tmp (fn := Tryd.f42) rfl _ _ w.heap.size _ _ _ _ rfl T1.out Tryd.underlying23 rfl (by kernel_rfl)) rfl ?_
        exact ⟨by rw [HE.out]; rfl, T2.out⟩
  · have HN := Lib.hid hn
    clear hn
    go_upto_region 7 with fail
    replace K := Lib.hid (K.out.new v 1)
    generalize w3.alloc (.cells #[.int .i64 v, .int .i64 1] 23) = wm at *
    generalize w3.heap.size = g10 at *
    simp only [List.cons_append, List.nil_append] at K
    have HE := Lib.hid (HN1.out HN.out)
    have T1 := Lib.hid (rat_cells (K.out.l (w.heap.size, 0, 0) (by simp)) (.int .i64 0) (.int .i64 0))
    have T2 := Lib.hid ((K.out.below.setCell (p := ⟨w.heap.size, 0, none⟩) hle (.int .i64 0)).setCell (p := ⟨w.heap.size, 1, none⟩) hle (.int .i64 0))
    obtain ⟨z1, z2, z3, z4⟩ := cell_two (K.out.l (w.heap.size, 0, 0) (by simp))
    go_wp2
    refine bodyPost_ret (results_row_tmp (fn := Tryd.f42) rfl _ _ w.heap.size _ _ _ _ rfl T1.out Tryd.underlying23 rfl (by kernel_rfl)) rfl ?_
    exact ⟨by rw [HE.out]; rfl, T2.out⟩

end Go.Proofs.YtmgdhlcgbgpgpaaDoor

/- RatBack: there and back, by texts. -/
namespace Go.Proofs.YtmgdhlcgbgpgpaaDoor
open Go Go.RowKit
set_option linter.unusedVariables false
set_option linter.unusedSimpArgs false

theorem print_le {r : Int × Int} (h1 : I64 r.1) (h2 : I64 r.2) : (printR r).length ≤ 140737488351232 := by
  have a := Lib.itoa_length_le r.1 h1.1 h1.2
  have b := Lib.itoa_length_le r.2 h2.1 h2.2
  unfold printR
  split
  · split
    · omega
    · simp; omega
  · simp

set_option maxRecDepth 100000 in
set_option maxHeartbeats 8000000 in
theorem back02_any (x y : Int) (s : List UInt8) (w : World) (hx : I64 x) (hy : I64 y) (hl : s.length ≤ 140737488351232) (ht : TabQ w) (h1 : SentQ "strconv.ErrSyntax" w) (h2 : SentQ "strconv.ErrRange" w) :
    Calls Tryd.prog 11 #[.agg #[.int .i64 x, .int .i64 y], .string ⟨s.toArray⟩] w fun e w' => e = .returned (.bool true) ∧ Below w.heap.size w w' := by
  have HR := Lib.hid (fun W => right_any x y hx hy W)
  have HP := Lib.hid (fun W hW => rprint_any x y hx hy W hW)
  have HB := Lib.hid (fun W a b c => rparse_any (printR (x, y)) (print_le hx hy) W a b c)
  have HE := Lib.hid (fun (h : rightR (x, y) = true) => parse_print h hx hy)
  have HS := Lib.hid (fun W a b c => rparse_any s hl W a b c)
  have HU := Lib.hid (parse_ends s)
  have HU64 := Lib.hid (parse64 s)
  obtain ⟨p, hp⟩ : ∃ q, q = printR (x, y) := ⟨_, rfl⟩
  obtain ⟨R, hR⟩ : ∃ q, q = parseR p := ⟨_, rfl⟩
  obtain ⟨⟨⟨u1, u2⟩, eu⟩, hu⟩ : ∃ q, q = parseR s := ⟨_, rfl⟩
  obtain ⟨rb, hrb⟩ : ∃ q, q = rightR (x, y) := ⟨_, rfl⟩
  rw [← hp] at HP HB HE
  rw [← hR] at HB HE
  rw [← hrb] at HR HE
  rw [← hu] at HS HU HU64
  have HS : Hid (∀ W, TabQ W → SentQ "strconv.ErrSyntax" W → SentQ "strconv.ErrRange" W → Calls Tryd.prog 42 #[.string ⟨s.toArray⟩] W fun e w' => e = .returned (.tuple #[.agg #[.int .i64 u1, .int .i64 u2], .int .i64 eu]) ∧ Below W.heap.size W w') := HS
  have HPU := Lib.hid (fun W hW => rprint_any u1 u2 HU64.out.1 HU64.out.2 W hW)
  have S1 := Lib.hid h1
  have S2 := Lib.hid h2
  have K := Lib.hid ((RtL.start ht).one x y)
  clear hp hR hu hrb h1 h2 ht hx hy
  go_enter Tryd.func11, Tryd.ntmps11
  go_upto_region 1 with fail
  generalize w.alloc (.cells #[.int .i64 x, .int .i64 y] 23) = w1 at *
  obtain ⟨a0, b0⟩ := K.out.cells 0 rfl
  go_wp2_with fail
  refine (HR.out _).mono ?_
  rintro e w2 ⟨rfl, hb⟩
  replace K := Lib.hid (K.out.step hb)
  clear hb a0 b0 HR
  go_upto_if 10 with fail
  go_cut [] (fun wx => Hid (RtL w [(w.heap.size, x, y)] wx))
  case first =>
    cases rb with
    | false =>
      go_wp2_with fail
      go_meet
      exact K
    | true =>
      have HE2 := Lib.hid (HE.out (by simp))
      have HB : Hid (∀ W, TabQ W → SentQ "strconv.ErrSyntax" W → SentQ "strconv.ErrRange" W → Calls Tryd.prog 42 #[.string ⟨p.toArray⟩] W fun e w' => e = .returned (.tuple #[.agg #[.int .i64 x, .int .i64 y], .int .i64 0]) ∧ Below W.heap.size W w') := Lib.hid (fun W a b c => by have h := HB.out W a b c; rw [HE2.out] at h; exact h)
      clear HE HE2
      obtain ⟨a0, b0⟩ := K.out.cells 0 rfl
      go_wp2_with fail
      refine (HP.out _ K.out.tab).mono ?_
      rintro e w3 ⟨rfl, hb⟩
      replace K := Lib.hid (K.out.step hb)
      clear hb a0 b0 HP
      go_wp2_with fail
      refine (HB.out _ K.out.tab (S1.out.below K.out.below) (S2.out.below K.out.below)).mono ?_
      rintro e w4 ⟨rfl, hb⟩
      replace K := Lib.hid (K.out.step hb)
      clear hb HB
      go_upto_region 3 with fail
      replace K := Lib.hid (K.out.new x y)
      generalize w4.alloc (.cells #[.int .i64 x, .int .i64 y] 23) = w5 at *
      generalize w4.heap.size = g5 at *
      simp only [List.cons_append, List.nil_append] at K
      obtain ⟨a0, b0⟩ := K.out.cells 0 rfl
      obtain ⟨a1, b1⟩ := K.out.cells 1 rfl
      go_wp2_with fail
      go_meet
      exact Lib.hid ⟨K.out.below, fun t ht => K.out.l t (by simp at ht ⊢; simp [ht]), K.out.tab⟩
  case rest =>
    clear K
    have K := hcut
    clear hcut HE HP HB
    go_wp2_with fail
    refine (HS.out _ K.out.tab (S1.out.below K.out.below) (S2.out.below K.out.below)).mono ?_
    rintro e w6 ⟨rfl, hb⟩
    replace K := Lib.hid (K.out.step hb)
    clear hb HS
    go_upto_region 6 with fail
    replace K := Lib.hid (K.out.new u1 u2)
    generalize w6.alloc (.cells #[.int .i64 u1, .int .i64 u2] 23) = w7 at *
    generalize w6.heap.size = g7 at *
    simp only [List.cons_append, List.nil_append] at K
    go_wp2_with fail
    refine (live02_any _ K.out.tab).mono ?_
    rintro e w8 ⟨rfl, hb⟩
    replace K := Lib.hid (K.out.step hb)
    clear hb
    obtain ⟨a1, b1⟩ := K.out.cells 1 rfl
    rcases HU.out with ⟨he, hpu⟩ | he
    · have he : eu = 0 := he
      have HPU : Hid (∀ W, TabQ W → Calls Tryd.prog 44 #[.agg #[.int .i64 u1, .int .i64 u2]] W fun e w' => e = .returned (.string ⟨s.toArray⟩) ∧ Below W.heap.size W w') := Lib.hid (fun W hW => by have h := HPU.out W hW; rw [show printR (u1, u2) = s from hpu] at h; exact h)
      subst he
      clear hpu HU
      go_wp2_with fail
      refine (HPU.out _ K.out.tab).mono ?_
      rintro e w9 ⟨rfl, hb⟩
      replace K := Lib.hid (K.out.step hb)
      clear hb a1 b1
      go_wp2
      go_ret
      exact ⟨rfl, K.out.below⟩
    · simp only [Prod.mk.injEq] at he
      obtain ⟨⟨rfl, rfl⟩, rfl⟩ := he
      clear HU HPU
      go_wp2
      go_ret
      exact ⟨rfl, K.out.below⟩

end Go.Proofs.YtmgdhlcgbgpgpaaDoor

/- The fraction of a sign and two sizes, as the document makes it. -/
namespace Go.Proofs.YtmgdhlcgbgpgpaaDoor
open Go Go.RowKit
set_option linter.unusedVariables false
set_option linter.unusedSimpArgs false

set_option maxRecDepth 100000 in
set_option maxHeartbeats 16000000 in
theorem held_any (neg : Bool) (a b : Nat) (w : World) (ha : a ≤ 170141183460469231731687303715884105728) (hb : b ≤ 170141183460469231731687303715884105728) :
    Calls Tryd.prog 48 #[.bool neg, szV a, szV b] w fun e w' => e = .returned (.tuple #[rtV (heldP neg a b).1, .int .i64 (heldP neg a b).2]) ∧ Below w.heap.size w w' := by
  have hz3 : ∀ (w : World) (o : Obj), (w.alloc o).heap.size = w.heap.size + 1 := fun w o => by simp
  obtain ⟨q1, q2⟩ := two_fr w (.cells #[.int .u64 (hiN a), .int .u64 (loN a)] 59) (.cells #[.int .u64 (hiN b), .int .u64 (loN b)] 59)
  have q3 := heap_alloc_new ((w.alloc (.cells #[.int .u64 (hiN a), .int .u64 (loN a)] 59)).alloc (.cells #[.int .u64 (hiN b), .int .u64 (loN b)] 59)) (.cells #[.int .i64 0, .int .i64 0] 23)
  simp only [hz3] at q3
  have H4 := Lib.hid ((heap_alloc_old _ (.cells #[.int .i64 0, .int .i64 0] 23) (heap_lt2 q1)).trans q1)
  have H5 := Lib.hid ((heap_alloc_old _ (.cells #[.int .i64 0, .int .i64 0] 23) (heap_lt2 q2)).trans q2)
  have H6 := Lib.hid q3
  have HB := Lib.hid (below_three w (.cells #[.int .u64 (hiN a), .int .u64 (loN a)] 59) (.cells #[.int .u64 (hiN b), .int .u64 (loN b)] 59) (.cells #[.int .i64 0, .int .i64 0] 23))
  clear q1 q2 q3 hz3
  by_cases hb0 : b = 0
  · have HA := Lib.hid (show heldP neg a b = ((0, 0), 21) by unfold heldP; rw [if_pos hb0])
    have e1 : (hiN b == 0) = true := by rw [hb0]; rfl
    have e2 : (loN b == 0) = true := by rw [hb0]; rfl
    rw [HA.out]
    clear hb0 HA
    unfold szV
    go_enter Tryd.func48, Tryd.ntmps48
    go_upto_region 1 with fail
    generalize ((w.alloc (.cells #[.int .u64 (hiN a), .int .u64 (loN a)] 59)).alloc (.cells #[.int .u64 (hiN b), .int .u64 (loN b)] 59)).alloc (.cells #[.int .i64 0, .int .i64 0] 23) = w1 at *
    obtain ⟨k1, k2, _, _⟩ := cell_two H5.out
    obtain ⟨k3, k4, k5, k6⟩ := cell_two H6.out
    have hle : w.heap.size ≤ w.heap.size + 1 + 1 := by omega
    have T1 := Lib.hid (rat_cells H6.out (.int .i64 0) (.int .i64 0))
    have T2 := Lib.hid ((HB.out.setCell (p := ⟨w.heap.size + 1 + 1, 0, none⟩) hle (.int .i64 0)).setCell (p := ⟨w.heap.size + 1 + 1, 1, none⟩) hle (.int .i64 0))
    go_wp2
    refine bodyPost_ret (results_row_tmp (fn := Tryd.f48) rfl _ _ (w.heap.size + 1 + 1) _ _ _ _ rfl T1.out Tryd.underlying23 rfl (by kernel_rfl)) rfl ?_
    exact ⟨rfl, T2.out⟩
  · have e0 : ((hiN b == 0) && (loN b == 0)) = false := by
      rw [Bool.eq_false_iff]; intro h
      rw [Bool.and_eq_true] at h
      exact hb0 (hilo_zero.1 ⟨by simpa using h.1, by simpa using h.2⟩)
    have HA := Lib.hid (show heldP neg a b = fracS neg a b by unfold heldP; rw [if_neg hb0])
    have hg : 0 < Nat.gcd a b := Nat.gcd_pos_of_pos_right _ (by omega)
    have hgb : Nat.gcd a b ≤ b := Nat.le_of_dvd (by omega) (Nat.gcd_dvd_right _ _)
    have HC : Hid (∀ W, Calls Tryd.prog 50 #[.agg #[.int .u64 (hiN a), .int .u64 (loN a)], .agg #[.int .u64 (hiN b), .int .u64 (loN b)]] W fun e w' => e = .returned (.agg #[.int .u64 (hiN (Nat.gcd a b)), .int .u64 (loN (Nat.gcd a b))]) ∧ Below W.heap.size W w') := Lib.hid (fun W => dcommon_any a b ha hb W)
    have HF := Lib.hid (show fracS neg a b = if fitsI (sgnI neg (a / Nat.gcd a b)) = true ∧ b / Nat.gcd a b ≤ 9223372036854775807 then ((sgnI neg (a / Nat.gcd a b), ((b / Nat.gcd a b : Nat) : Int)), 0) else ((0, 0), 20) from rfl)
    obtain ⟨G, hG⟩ : ∃ G, G = Nat.gcd a b := ⟨_, rfl⟩
    rw [← hG] at hg hgb HC HF
    clear hG
    have HO1 : Hid (∀ W, Calls Tryd.prog 74 #[.agg #[.int .u64 (hiN a), .int .u64 (loN a)], .agg #[.int .u64 (hiN G), .int .u64 (loN G)]] W fun e w' => e = .returned (.tuple #[.agg #[.int .u64 (hiN (a / G)), .int .u64 (loN (a / G))], .agg #[.int .u64 (hiN (a % G)), .int .u64 (loN (a % G))]]) ∧ Below W.heap.size W w') := Lib.hid (fun W => divide_any a G (by omega) hg (by omega) W)
    have HO2 : Hid (∀ W, Calls Tryd.prog 74 #[.agg #[.int .u64 (hiN b), .int .u64 (loN b)], .agg #[.int .u64 (hiN G), .int .u64 (loN G)]] W fun e w' => e = .returned (.tuple #[.agg #[.int .u64 (hiN (b / G)), .int .u64 (loN (b / G))], .agg #[.int .u64 (hiN (b % G)), .int .u64 (loN (b % G))]]) ∧ Below W.heap.size W w') := Lib.hid (fun W => divide_any b G (by omega) hg (by omega) W)
    obtain ⟨n, hn⟩ : ∃ n, n = a / G := ⟨_, rfl⟩
    obtain ⟨d, hd⟩ : ∃ d, d = b / G := ⟨_, rfl⟩
    obtain ⟨m1, hm1⟩ : ∃ m, m = a % G := ⟨_, rfl⟩
    obtain ⟨m2, hm2⟩ : ∃ m, m = b % G := ⟨_, rfl⟩
    rw [← hn] at HO1 HF
    rw [← hd] at HO2 HF
    rw [← hm1] at HO1
    rw [← hm2] at HO2
    have hn1 : n < 340282366920938463463374607431768211456 := by rw [hn]; exact Nat.lt_of_le_of_lt (Nat.div_le_self _ _) (by omega)
    have hd1 : d < 340282366920938463463374607431768211456 := by rw [hd]; exact Nat.lt_of_le_of_lt (Nat.div_le_self _ _) (by omega)
    obtain ⟨AP, hAP⟩ : ∃ AP, AP = heldP neg a b := ⟨_, rfl⟩
    rw [← hAP] at HA ⊢
    have HAF := Lib.hid (HA.out.trans HF.out)
    have HN1 := Lib.hid hn1
    have HD1 := Lib.hid hd1
    clear hn hd hm1 hm2 hAP HA HF hn1 hd1 hg hgb ha hb hb0
    unfold szV
    go_enter Tryd.func48, Tryd.ntmps48
    go_upto_region 1 with fail
    generalize ((w.alloc (.cells #[.int .u64 (hiN a), .int .u64 (loN a)] 59)).alloc (.cells #[.int .u64 (hiN b), .int .u64 (loN b)] 59)).alloc (.cells #[.int .i64 0, .int .i64 0] 23) = w1 at *
    obtain ⟨g6, hg6⟩ : ∃ g, g = w.heap.size + 1 + 1 := ⟨_, rfl⟩
    rw [← hg6] at H6 ⊢
    obtain ⟨g5, hg5⟩ : ∃ g, g = w.heap.size + 1 := ⟨_, rfl⟩
    rw [← hg5] at H5 ⊢
    have hle : w.heap.size ≤ g6 := by omega
    clear hg6 hg5
    go_cut [17] (fun s17 wx => s17 = .bool false ∧ Hid (wx = w1))
    case first =>
      obtain ⟨k1, k2, _, _⟩ := cell_two H5.out
      cases e1 : (hiN b == 0) with
      | true =>
        have e2 : (loN b == 0) = false := by rw [e1, Bool.true_and] at e0; exact e0
        clear e0
        go_wp2_with fail
        go_meet
        exact ⟨rfl, rfl⟩
      | false =>
        clear e0
        go_wp2_with fail
        go_meet
        exact ⟨rfl, rfl⟩
    case rest =>
      obtain ⟨rfl, hcw⟩ := hcut
      have hcw := hcw.out
      subst hcw
      clear e0
      obtain ⟨k40, k41, k42, k43⟩ := cell_two H4.out
      obtain ⟨k50, k51, k52, k53⟩ := cell_two H5.out
      go_wp2_with fail
      refine (HC.out _).mono ?_
      rintro e w2 ⟨rfl, hb⟩
      clear k40 k41 k42 k43 k50 k51 k52 k53
      have H4' := Lib.hid (heap_keep H4.out hb)
      have H5' := Lib.hid (heap_keep H5.out hb)
      have H6' := Lib.hid (heap_keep H6.out hb)
      have HB' := Lib.hid (HB.out.trans (hb.mono HB.out.size))
      clear HB H4 H5 H6
      have H4 := H4'
      have H5 := H5'
      have H6 := H6'
      have HB := HB'
      clear HB' H4' H5' H6'
      clear hb
      go_upto_region 4 with fail
      have hb := below_one w2 (.cells #[.int .u64 (hiN G), .int .u64 (loN G)] 59)
      have q := heap_alloc_new w2 (.cells #[.int .u64 (hiN G), .int .u64 (loN G)] 59)
      have H8 := Lib.hid q
      have H4' := Lib.hid (heap_keep H4.out hb)
      have H5' := Lib.hid (heap_keep H5.out hb)
      have H6' := Lib.hid (heap_keep H6.out hb)
      have HB' := Lib.hid (HB.out.trans (hb.mono HB.out.size))
      clear HB H4 H5 H6
      have H4 := H4'
      have H5 := H5'
      have H6 := H6'
      have HB := HB'
      clear HB' H4' H5' H6'
      generalize w2.alloc (.cells #[.int .u64 (hiN G), .int .u64 (loN G)] 59) = w3 at *
      obtain ⟨g8, hg8⟩ : ∃ g, g = w2.heap.size := ⟨_, rfl⟩
      rw [← hg8] at H8 ⊢
      clear hb q hg8
      obtain ⟨k40, k41, k42, k43⟩ := cell_two H4.out
      obtain ⟨k80, k81, k82, k83⟩ := cell_two H8.out
      go_wp2_with fail
      refine (HO1.out _).mono ?_
      rintro e w4 ⟨rfl, hb⟩
      clear k40 k41 k42 k43 k80 k81 k82 k83
      have H4' := Lib.hid (heap_keep H4.out hb)
      have H5' := Lib.hid (heap_keep H5.out hb)
      have H6' := Lib.hid (heap_keep H6.out hb)
      have H8' := Lib.hid (heap_keep H8.out hb)
      have HB' := Lib.hid (HB.out.trans (hb.mono HB.out.size))
      clear HB H4 H5 H6 H8
      have H4 := H4'
      have H5 := H5'
      have H6 := H6'
      have H8 := H8'
      have HB := HB'
      clear HB' H4' H5' H6' H8'
      clear hb
      have HF := Lib.hid (two_fr w4 (.cells #[.int .u64 0, .int .u64 0] 59) (.cells #[.int .u64 0, .int .u64 0] 59))
      go_upto_region 5 with (first | (refine wpList_store_row rfl 59 _ _ rfl w4.heap.size _ rfl rfl 59 _ HF.out.1 (by kernel_rfl) rfl (by kernel_rfl) ?_) | (refine wpList_store_row rfl 59 _ _ rfl (w4.heap.size + 1) _ rfl rfl 59 _ (second_fr _ HF.out.2) (by kernel_rfl) rfl (by kernel_rfl) ?_))
      obtain ⟨hb, q, _⟩ := pair_st w4 59 59 #[.int .u64 0, .int .u64 0] #[.int .u64 0, .int .u64 0] #[.int .u64 (hiN n), .int .u64 (loN n)] #[.int .u64 (hiN m1), .int .u64 (loN m1)]
      have H9 := Lib.hid q
      have H4' := Lib.hid (heap_keep H4.out hb)
      have H5' := Lib.hid (heap_keep H5.out hb)
      have H6' := Lib.hid (heap_keep H6.out hb)
      have H8' := Lib.hid (heap_keep H8.out hb)
      have HB' := Lib.hid (HB.out.trans (hb.mono HB.out.size))
      clear HB H4 H5 H6 H8
      have H4 := H4'
      have H5 := H5'
      have H6 := H6'
      have H8 := H8'
      have HB := HB'
      clear HB' H4' H5' H6' H8'
      generalize (((w4.alloc (.cells #[.int .u64 0, .int .u64 0] 59)).alloc (.cells #[.int .u64 0, .int .u64 0] 59)).setRow w4.heap.size #[.int .u64 (hiN n), .int .u64 (loN n)]).setRow (w4.heap.size + 1) #[.int .u64 (hiN m1), .int .u64 (loN m1)] = w5 at *
      obtain ⟨g9, hg9⟩ : ∃ g, g = w4.heap.size := ⟨_, rfl⟩
      rw [← hg9] at H9 ⊢
      clear hb q hg9 HF
      obtain ⟨k50, k51, k52, k53⟩ := cell_two H5.out
      obtain ⟨k80, k81, k82, k83⟩ := cell_two H8.out
      go_wp2_with fail
      refine (HO2.out _).mono ?_
      rintro e w6 ⟨rfl, hb⟩
      clear k50 k51 k52 k53 k80 k81 k82 k83
      have H4' := Lib.hid (heap_keep H4.out hb)
      have H5' := Lib.hid (heap_keep H5.out hb)
      have H6' := Lib.hid (heap_keep H6.out hb)
      have H8' := Lib.hid (heap_keep H8.out hb)
      have H9' := Lib.hid (heap_keep H9.out hb)
      have HB' := Lib.hid (HB.out.trans (hb.mono HB.out.size))
      clear HB H4 H5 H6 H8 H9
      have H4 := H4'
      have H5 := H5'
      have H6 := H6'
      have H8 := H8'
      have H9 := H9'
      have HB := HB'
      clear HB' H4' H5' H6' H8' H9'
      clear hb
      have HF := Lib.hid (two_fr w6 (.cells #[.int .u64 0, .int .u64 0] 59) (.cells #[.int .u64 0, .int .u64 0] 59))
      go_upto_region 6 with (first | (refine wpList_store_row rfl 59 _ _ rfl w6.heap.size _ rfl rfl 59 _ HF.out.1 (by kernel_rfl) rfl (by kernel_rfl) ?_) | (refine wpList_store_row rfl 59 _ _ rfl (w6.heap.size + 1) _ rfl rfl 59 _ (second_fr _ HF.out.2) (by kernel_rfl) rfl (by kernel_rfl) ?_))
      obtain ⟨hb, q, _⟩ := pair_st w6 59 59 #[.int .u64 0, .int .u64 0] #[.int .u64 0, .int .u64 0] #[.int .u64 (hiN d), .int .u64 (loN d)] #[.int .u64 (hiN m2), .int .u64 (loN m2)]
      have H11 := Lib.hid q
      have H4' := Lib.hid (heap_keep H4.out hb)
      have H5' := Lib.hid (heap_keep H5.out hb)
      have H6' := Lib.hid (heap_keep H6.out hb)
      have H8' := Lib.hid (heap_keep H8.out hb)
      have H9' := Lib.hid (heap_keep H9.out hb)
      have HB' := Lib.hid (HB.out.trans (hb.mono HB.out.size))
      clear HB H4 H5 H6 H8 H9
      have H4 := H4'
      have H5 := H5'
      have H6 := H6'
      have H8 := H8'
      have H9 := H9'
      have HB := HB'
      clear HB' H4' H5' H6' H8' H9'
      generalize (((w6.alloc (.cells #[.int .u64 0, .int .u64 0] 59)).alloc (.cells #[.int .u64 0, .int .u64 0] 59)).setRow w6.heap.size #[.int .u64 (hiN d), .int .u64 (loN d)]).setRow (w6.heap.size + 1) #[.int .u64 (hiN m2), .int .u64 (loN m2)] = w7 at *
      obtain ⟨g11, hg11⟩ : ∃ g, g = w6.heap.size := ⟨_, rfl⟩
      rw [← hg11] at H11 ⊢
      clear hb q hg11 HF
      cases neg with
      | false =>
        have hfit : fitsI (sgnI false n) = true ↔ n ≤ 9223372036854775807 := by
          unfold fitsI
          rw [decide_eq_true_iff]
          show (-9223372036854775808 ≤ (n : Int) ∧ (n : Int) ≤ 9223372036854775807) ↔ _
          omega
        by_cases c1 : n < 18446744073709551616
        · rw [small_hi c1, small_lo c1] at H9
          by_cases c2 : n ≤ 9223372036854775807
          · have d2 : decide ((9223372036854775807 : Int) < (n : Int)) = false := decide_eq_false (by omega)
            by_cases c3 : d < 18446744073709551616
            · rw [small_hi c3, small_lo c3] at H11
              by_cases c4 : d ≤ 9223372036854775807
              · have d4 : decide ((9223372036854775807 : Int) < (d : Int)) = false := decide_eq_false (by omega)
                have HE := Lib.hid (show AP = ((sgnI false n, (d : Int)), 0) by rw [HAF.out, if_pos ⟨hfit.2 c2, c4⟩])
                obtain ⟨k90, k91, _, _⟩ := cell_two H9.out
                obtain ⟨k110, k111, _, _⟩ := cell_two H11.out
                have gd : IntKind.i64.wrap (d : Int) = (d : Int) := IntWalk.i64_in _ (by omega)
                have gn : IntKind.i64.wrap (n : Int) = (n : Int) := IntWalk.i64_in _ (by omega)
                clear HAF HN1 HD1 hfit c1 c2 c3 c4
                go_upto_region 12 with fail
                have HB2 := Lib.hid (HB.out.alloc HB.out.size (.cells #[.int .i64 (n : Int), .int .i64 (d : Int)] 23))
                have H62 := Lib.hid (heap_keep H6.out (below_one w7 (.cells #[.int .i64 (n : Int), .int .i64 (d : Int)] 23)))
                have H92 := Lib.hid (heap_keep H9.out (below_one w7 (.cells #[.int .i64 (n : Int), .int .i64 (d : Int)] 23)))
                have H14 := Lib.hid (heap_alloc_new w7 (.cells #[.int .i64 (n : Int), .int .i64 (d : Int)] 23))
                have hlt : g6 < w7.heap.size := heap_lt2 H6.out
                have hlw : w.heap.size ≤ w7.heap.size := by omega
                generalize w7.alloc (.cells #[.int .i64 (n : Int), .int .i64 (d : Int)] 23) = v1 at *
                obtain ⟨g14, hg14⟩ : ∃ g, g = w7.heap.size := ⟨_, rfl⟩
                rw [← hg14] at H14 hlt hlw ⊢
                clear hg14 k90 k91 k110 k111
                have H15 := H14
                have H63 := H62
                have HB3 := HB2
                obtain ⟨k60, k61, k62, k63⟩ := cell_two H63.out
                obtain ⟨k150, k151, _, _⟩ := cell_two H15.out
                have T1 := Lib.hid (rat_cells H63.out (.int .i64 (n : Int)) (.int .i64 (d : Int)))
                have T2 := Lib.hid ((HB3.out.setCell (p := ⟨g6, 0, none⟩) hle (.int .i64 (n : Int))).setCell (p := ⟨g6, 1, none⟩) hle (.int .i64 (d : Int)))
                go_wp2
                refine bodyPost_ret (results_row_tmp (fn := Tryd.f48) rfl _ _ g6 _ _ _ _ rfl T1.out Tryd.underlying23 rfl (by kernel_rfl)) rfl ?_
                exact ⟨by rw [HE.out]; rfl, T2.out⟩
              · have d4 : decide ((9223372036854775807 : Int) < (d : Int)) = true := decide_eq_true (by omega)
                have d5 : (9223372036854775807 : Int) < (d : Int) := by omega
                have HE := Lib.hid (show AP = ((0, 0), 20) by rw [HAF.out, if_neg (by intro h; exact c4 h.2)])
                obtain ⟨k90, k91, _, _⟩ := cell_two H9.out
                obtain ⟨k110, k111, _, _⟩ := cell_two H11.out
                obtain ⟨k60, k61, k62, k63⟩ := cell_two H6.out
                have T1 := Lib.hid (rat_cells H6.out (.int .i64 0) (.int .i64 0))
                have T2 := Lib.hid ((HB.out.setCell (p := ⟨g6, 0, none⟩) hle (.int .i64 0)).setCell (p := ⟨g6, 1, none⟩) hle (.int .i64 0))
                clear HAF HN1 HD1
                go_wp2
                refine bodyPost_ret (results_row_tmp (fn := Tryd.f48) rfl _ _ g6 _ _ _ _ rfl T1.out Tryd.underlying23 rfl (by kernel_rfl)) rfl ?_
                exact ⟨by rw [HE.out]; rfl, T2.out⟩
            · have d3 : (hiN d != 0) = true := by have h := HD1.out; unfold hiN; simp; omega
              have d5 : (hiN d == 0) = false := by have h := HD1.out; unfold hiN; simp; omega
              have HE := Lib.hid (show AP = ((0, 0), 20) by rw [HAF.out, if_neg (by intro h; have := h.2; omega)])
              obtain ⟨k90, k91, _, _⟩ := cell_two H9.out
              obtain ⟨k110, k111, _, _⟩ := cell_two H11.out
              obtain ⟨k60, k61, k62, k63⟩ := cell_two H6.out
              have T1 := Lib.hid (rat_cells H6.out (.int .i64 0) (.int .i64 0))
              have T2 := Lib.hid ((HB.out.setCell (p := ⟨g6, 0, none⟩) hle (.int .i64 0)).setCell (p := ⟨g6, 1, none⟩) hle (.int .i64 0))
              clear HAF HN1 HD1
              go_wp2
              refine bodyPost_ret (results_row_tmp (fn := Tryd.f48) rfl _ _ g6 _ _ _ _ rfl T1.out Tryd.underlying23 rfl (by kernel_rfl)) rfl ?_
              exact ⟨by rw [HE.out]; rfl, T2.out⟩
          · have d2 : decide ((9223372036854775807 : Int) < (n : Int)) = true := decide_eq_true (by omega)
            have d5 : (9223372036854775807 : Int) < (n : Int) := by omega
            have HE := Lib.hid (show AP = ((0, 0), 20) by rw [HAF.out, if_neg (by intro h; exact c2 (hfit.1 h.1))])
            obtain ⟨k90, k91, _, _⟩ := cell_two H9.out
            obtain ⟨k110, k111, _, _⟩ := cell_two H11.out
            obtain ⟨k60, k61, k62, k63⟩ := cell_two H6.out
            have T1 := Lib.hid (rat_cells H6.out (.int .i64 0) (.int .i64 0))
            have T2 := Lib.hid ((HB.out.setCell (p := ⟨g6, 0, none⟩) hle (.int .i64 0)).setCell (p := ⟨g6, 1, none⟩) hle (.int .i64 0))
            clear HAF HN1 HD1
            go_wp2
            refine bodyPost_ret (results_row_tmp (fn := Tryd.f48) rfl _ _ g6 _ _ _ _ rfl T1.out Tryd.underlying23 rfl (by kernel_rfl)) rfl ?_
            exact ⟨by rw [HE.out]; rfl, T2.out⟩
        · have d3 : (hiN n != 0) = true := by have h := HN1.out; unfold hiN; simp; omega
          have d5 : (hiN n == 0) = false := by have h := HN1.out; unfold hiN; simp; omega
          have HE := Lib.hid (show AP = ((0, 0), 20) by rw [HAF.out, if_neg (by intro h; have := hfit.1 h.1; omega)])
          obtain ⟨k90, k91, _, _⟩ := cell_two H9.out
          obtain ⟨k110, k111, _, _⟩ := cell_two H11.out
          obtain ⟨k60, k61, k62, k63⟩ := cell_two H6.out
          have T1 := Lib.hid (rat_cells H6.out (.int .i64 0) (.int .i64 0))
          have T2 := Lib.hid ((HB.out.setCell (p := ⟨g6, 0, none⟩) hle (.int .i64 0)).setCell (p := ⟨g6, 1, none⟩) hle (.int .i64 0))
          clear HAF HN1 HD1
          go_wp2
          refine bodyPost_ret (results_row_tmp (fn := Tryd.f48) rfl _ _ g6 _ _ _ _ rfl T1.out Tryd.underlying23 rfl (by kernel_rfl)) rfl ?_
          exact ⟨by rw [HE.out]; rfl, T2.out⟩
      | true =>
        have hfit : fitsI (sgnI true n) = true ↔ n ≤ 9223372036854775808 := by
          unfold fitsI
          rw [decide_eq_true_iff]
          show (-9223372036854775808 ≤ -(n : Int) ∧ -(n : Int) ≤ 9223372036854775807) ↔ _
          omega
        by_cases c1 : n < 18446744073709551616
        · rw [small_hi c1, small_lo c1] at H9
          by_cases c2 : n ≤ 9223372036854775808
          · have d2 : decide ((9223372036854775808 : Int) < (n : Int)) = false := decide_eq_false (by omega)
            by_cases c3 : d < 18446744073709551616
            · rw [small_hi c3, small_lo c3] at H11
              by_cases c4 : d ≤ 9223372036854775807
              · have d4 : decide ((9223372036854775807 : Int) < (d : Int)) = false := decide_eq_false (by omega)
                have HE := Lib.hid (show AP = ((sgnI true n, (d : Int)), 0) by rw [HAF.out, if_pos ⟨hfit.2 c2, c4⟩])
                obtain ⟨k90, k91, _, _⟩ := cell_two H9.out
                obtain ⟨k110, k111, _, _⟩ := cell_two H11.out
                have gd : IntKind.i64.wrap (d : Int) = (d : Int) := IntWalk.i64_in _ (by omega)
                have gn2 : IntKind.i64.wrap (IntKind.u64.wrap (-(n : Int))) = -(n : Int) := by rw [IntKind.wrap_u64, IntKind.wrap_i64]; omega
                obtain ⟨zz, gn⟩ : ∃ zz, IntKind.i64.wrap (n : Int) = zz := ⟨_, rfl⟩
                clear HAF HN1 HD1 hfit c1 c2 c3 c4
                go_upto_region 12 with fail
                have HB2 := Lib.hid (HB.out.alloc HB.out.size (.cells #[.int .i64 zz, .int .i64 (d : Int)] 23))
                have H62 := Lib.hid (heap_keep H6.out (below_one w7 (.cells #[.int .i64 zz, .int .i64 (d : Int)] 23)))
                have H92 := Lib.hid (heap_keep H9.out (below_one w7 (.cells #[.int .i64 zz, .int .i64 (d : Int)] 23)))
                have H14 := Lib.hid (heap_alloc_new w7 (.cells #[.int .i64 zz, .int .i64 (d : Int)] 23))
                have hlt : g6 < w7.heap.size := heap_lt2 H6.out
                have hlw : w.heap.size ≤ w7.heap.size := by omega
                generalize w7.alloc (.cells #[.int .i64 zz, .int .i64 (d : Int)] 23) = v1 at *
                obtain ⟨g14, hg14⟩ : ∃ g, g = w7.heap.size := ⟨_, rfl⟩
                rw [← hg14] at H14 hlt hlw ⊢
                clear hg14 k90 k91 k110 k111
                obtain ⟨k90, k91, _, _⟩ := cell_two H92.out
                obtain ⟨k140, k141, k142, k143⟩ := cell_two H14.out
                go_upto_region 14 with fail
                have H15 := Lib.hid ((cell_set H14.out (.int .i64 (-(n : Int)))).1)
                have H63 := Lib.hid (heap_other (c := 0) (.int .i64 (-(n : Int))) H62.out (show g6 ≠ g14 by omega))
                have HB3 := Lib.hid (HB2.out.setCell (p := ⟨g14, 0, none⟩) hlw (.int .i64 (-(n : Int))))
                generalize v1.setCell ⟨g14, 0, none⟩ (.int .i64 (-(n : Int))) = v2 at *
                clear k90 k91 k140 k141 k142 k143 H62 HB2 H92 H14
                obtain ⟨k60, k61, k62, k63⟩ := cell_two H63.out
                obtain ⟨k150, k151, _, _⟩ := cell_two H15.out
                have T1 := Lib.hid (rat_cells H63.out (.int .i64 (-(n : Int))) (.int .i64 (d : Int)))
                have T2 := Lib.hid ((HB3.out.setCell (p := ⟨g6, 0, none⟩) hle (.int .i64 (-(n : Int)))).setCell (p := ⟨g6, 1, none⟩) hle (.int .i64 (d : Int)))
                go_wp2
                refine bodyPost_ret (results_row_tmp (fn := Tryd.f48) rfl _ _ g6 _ _ _ _ rfl T1.out Tryd.underlying23 rfl (by kernel_rfl)) rfl ?_
                exact ⟨by rw [HE.out]; rfl, T2.out⟩
              · have d4 : decide ((9223372036854775807 : Int) < (d : Int)) = true := decide_eq_true (by omega)
                have d5 : (9223372036854775807 : Int) < (d : Int) := by omega
                have HE := Lib.hid (show AP = ((0, 0), 20) by rw [HAF.out, if_neg (by intro h; exact c4 h.2)])
                obtain ⟨k90, k91, _, _⟩ := cell_two H9.out
                obtain ⟨k110, k111, _, _⟩ := cell_two H11.out
                obtain ⟨k60, k61, k62, k63⟩ := cell_two H6.out
                have T1 := Lib.hid (rat_cells H6.out (.int .i64 0) (.int .i64 0))
                have T2 := Lib.hid ((HB.out.setCell (p := ⟨g6, 0, none⟩) hle (.int .i64 0)).setCell (p := ⟨g6, 1, none⟩) hle (.int .i64 0))
                clear HAF HN1 HD1
                go_wp2
                refine bodyPost_ret (results_row_tmp (fn := Tryd.f48) rfl _ _ g6 _ _ _ _ rfl T1.out Tryd.underlying23 rfl (by kernel_rfl)) rfl ?_
                exact ⟨by rw [HE.out]; rfl, T2.out⟩
            · have d3 : (hiN d != 0) = true := by have h := HD1.out; unfold hiN; simp; omega
              have d5 : (hiN d == 0) = false := by have h := HD1.out; unfold hiN; simp; omega
              have HE := Lib.hid (show AP = ((0, 0), 20) by rw [HAF.out, if_neg (by intro h; have := h.2; omega)])
              obtain ⟨k90, k91, _, _⟩ := cell_two H9.out
              obtain ⟨k110, k111, _, _⟩ := cell_two H11.out
              obtain ⟨k60, k61, k62, k63⟩ := cell_two H6.out
              have T1 := Lib.hid (rat_cells H6.out (.int .i64 0) (.int .i64 0))
              have T2 := Lib.hid ((HB.out.setCell (p := ⟨g6, 0, none⟩) hle (.int .i64 0)).setCell (p := ⟨g6, 1, none⟩) hle (.int .i64 0))
              clear HAF HN1 HD1
              go_wp2
              refine bodyPost_ret (results_row_tmp (fn := Tryd.f48) rfl _ _ g6 _ _ _ _ rfl T1.out Tryd.underlying23 rfl (by kernel_rfl)) rfl ?_
              exact ⟨by rw [HE.out]; rfl, T2.out⟩
          · have d2 : decide ((9223372036854775808 : Int) < (n : Int)) = true := decide_eq_true (by omega)
            have d5 : (9223372036854775808 : Int) < (n : Int) := by omega
            have HE := Lib.hid (show AP = ((0, 0), 20) by rw [HAF.out, if_neg (by intro h; exact c2 (hfit.1 h.1))])
            obtain ⟨k90, k91, _, _⟩ := cell_two H9.out
            obtain ⟨k110, k111, _, _⟩ := cell_two H11.out
            obtain ⟨k60, k61, k62, k63⟩ := cell_two H6.out
            have T1 := Lib.hid (rat_cells H6.out (.int .i64 0) (.int .i64 0))
            have T2 := Lib.hid ((HB.out.setCell (p := ⟨g6, 0, none⟩) hle (.int .i64 0)).setCell (p := ⟨g6, 1, none⟩) hle (.int .i64 0))
            clear HAF HN1 HD1
            go_wp2
            refine bodyPost_ret (results_row_tmp (fn := Tryd.f48) rfl _ _ g6 _ _ _ _ rfl T1.out Tryd.underlying23 rfl (by kernel_rfl)) rfl ?_
            exact ⟨by rw [HE.out]; rfl, T2.out⟩
        · have d3 : (hiN n != 0) = true := by have h := HN1.out; unfold hiN; simp; omega
          have d5 : (hiN n == 0) = false := by have h := HN1.out; unfold hiN; simp; omega
          have HE := Lib.hid (show AP = ((0, 0), 20) by rw [HAF.out, if_neg (by intro h; have := hfit.1 h.1; omega)])
          obtain ⟨k90, k91, _, _⟩ := cell_two H9.out
          obtain ⟨k110, k111, _, _⟩ := cell_two H11.out
          obtain ⟨k60, k61, k62, k63⟩ := cell_two H6.out
          have T1 := Lib.hid (rat_cells H6.out (.int .i64 0) (.int .i64 0))
          have T2 := Lib.hid ((HB.out.setCell (p := ⟨g6, 0, none⟩) hle (.int .i64 0)).setCell (p := ⟨g6, 1, none⟩) hle (.int .i64 0))
          clear HAF HN1 HD1
          go_wp2
          refine bodyPost_ret (results_row_tmp (fn := Tryd.f48) rfl _ _ g6 _ _ _ _ rfl T1.out Tryd.underlying23 rfl (by kernel_rfl)) rfl ?_
          exact ⟨by rw [HE.out]; rfl, T2.out⟩

end Go.Proofs.YtmgdhlcgbgpgpaaDoor

/- New and Of, as the document makes them. -/
namespace Go.Proofs.YtmgdhlcgbgpgpaaDoor
open Go Go.RowKit
set_option linter.unusedVariables false
set_option linter.unusedSimpArgs false

set_option maxRecDepth 100000 in
set_option maxHeartbeats 2000000 in
theorem dof_any (n : Int) (w : World) : Calls Tryd.prog 16 #[.int .i64 n] w fun e w' => e = .returned (.agg #[.int .i64 n, .int .i64 1]) ∧ Below w.heap.size w w' := by
  go_enter Tryd.func16, Tryd.ntmps16
  go_wp2
  simp [bodyPost, results, Tryd.results16, go_sem]
  first | exact below_one w _ | exact ⟨rfl, below_one w _⟩
set_option maxRecDepth 100000 in
set_option maxHeartbeats 2000000 in
theorem dnew_any (n d : Int) (hn : I64 n) (hd : I64 d) (w : World) : Calls Tryd.prog 13 #[.int .i64 n, .int .i64 d] w fun e w' => e = .returned (.tuple #[rtV (newP n d).1, .int .i64 (newP n d).2]) ∧ Below w.heap.size w w' := by
  rw [← dnew_is]
  have an := abs64 hn
  have ad := abs64 hd
  have HS1 := Lib.hid (fun W => dsize_any n hn.1 hn.2 W)
  have HS2 := Lib.hid (fun W => dsize_any d hd.1 hd.2 W)
  obtain ⟨M, hM⟩ : ∃ M, M = dnewP n d := ⟨_, rfl⟩
  have HH : Hid (∀ W, Calls Tryd.prog 48 #[.bool (decide (n < 0) != decide (d < 0)), .agg #[.int .u64 (hiN n.natAbs), .int .u64 (loN n.natAbs)], .agg #[.int .u64 (hiN d.natAbs), .int .u64 (loN d.natAbs)]] W fun e w' => e = .returned (.tuple #[.agg #[.int .i64 M.1.1, .int .i64 M.1.2], .int .i64 M.2]) ∧ Below W.heap.size W w') := Lib.hid (fun W => by rw [hM]; exact held_any (decide (n < 0) != decide (d < 0)) n.natAbs d.natAbs W (by omega) (by omega))
  rw [small_hi (show n.natAbs < 18446744073709551616 by omega), small_lo (show n.natAbs < 18446744073709551616 by omega), small_hi (show d.natAbs < 18446744073709551616 by omega), small_lo (show d.natAbs < 18446744073709551616 by omega)] at HH
  rw [← hM]
  obtain ⟨sx, hsx⟩ : ∃ sx, (!(decide (n < 0) == decide (d < 0))) = sx := ⟨_, rfl⟩
  rw [show (decide (n < 0) != decide (d < 0)) = sx from hsx] at HH
  have H1 := Lib.hid (heap_alloc_new w (.cells #[.int .i64 0, .int .i64 0] 23))
  have HB := Lib.hid (below_one w (.cells #[.int .i64 0, .int .i64 0] 23))
  have hle : w.heap.size ≤ w.heap.size := Nat.le_refl _
  obtain ⟨mx, hmx⟩ : ∃ m, m = n.natAbs := ⟨_, rfl⟩
  obtain ⟨my, hmy⟩ : ∃ m, m = d.natAbs := ⟨_, rfl⟩
  rw [← hmx] at HS1 HH
  rw [← hmy] at HS2 HH
  clear hM hmx hmy an ad hn hd
  go_enter Tryd.func13, Tryd.ntmps13
  go_upto_region 1 with fail
  generalize w.alloc (.cells #[.int .i64 0, .int .i64 0] 23) = w1 at *
  go_wp2_with (first | (go_at_call_of 49 n; refine (HS1.out _).mono ?_; rintro e w2 ⟨rfl, rfl⟩) | (go_at_call_of 49 d; refine (HS2.out _).mono ?_; rintro e w2 ⟨rfl, rfl⟩))
  refine (HH.out _).mono ?_
  rintro e w4 ⟨rfl, hb⟩
  have H4 := Lib.hid (heap_keep H1.out hb)
  have HB4 := Lib.hid (HB.out.trans (hb.mono HB.out.size))
  clear hb H1 HB
  obtain ⟨k1, k2, k3, k4⟩ := cell_two H4.out
  have T1 := Lib.hid (rat_cells H4.out (.int .i64 M.1.1) (.int .i64 M.1.2))
  have T2 := Lib.hid ((HB4.out.setCell (p := ⟨w.heap.size, 0, none⟩) hle (.int .i64 M.1.1)).setCell (p := ⟨w.heap.size, 1, none⟩) hle (.int .i64 M.1.2))
  go_wp2
  refine bodyPost_ret (results_row_tmp (fn := Tryd.f13) rfl _ _ w.heap.size _ _ _ _ rfl T1.out Tryd.underlying23 rfl (by kernel_rfl)) rfl ?_
  exact ⟨rfl, T2.out⟩

end Go.Proofs.YtmgdhlcgbgpgpaaDoor
