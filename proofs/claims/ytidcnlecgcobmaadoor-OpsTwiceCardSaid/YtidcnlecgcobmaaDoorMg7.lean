/- Texts of ours, laid together: Qn, Row, Row3. -/
import Derived.Test.YtidcnlecgcobmaaDoorRows
import Derived.WalkKit
import Derived.ProofKit
import Derived.OpenShut
import Derived.Carry
import Derived.Deep.Slices
import Derived.Deep.Fields
import Derived.SizedLaws
import Derived.Test.YtidcnlecgcobmaaDoorMg6
/- What OpsNone tells. -/
namespace Go.Proofs.YtidcnlecgcobmaaDoor
open Go Go.RowKit
set_option linter.unusedVariables false
set_option linter.unusedSimpArgs false

def lun : Mat := (limP 1 []).1.getD fun _ _ => 0
theorem lun_is : limP 1 [] = (some lun, 0) := some_of (by decide +kernel) (by decide +kernel)
theorem stable_tabn : Stable Tab := fun _ _ h hb => h.below hb
theorem thirteen (p : Nat) (hp : p < 13) (v : Value) : (#[v, v, v, v, v, v, v, v, v, v, v, v, v] : Array Value)[p]? = some v := by
  rcases (show p = 0 ∨ p = 1 ∨ p = 2 ∨ p = 3 ∨ p = 4 ∨ p = 5 ∨ p = 6 ∨ p = 7 ∨ p = 8 ∨ p = 9 ∨ p = 10 ∨ p = 11 ∨ p = 12 by omega) with rfl | rfl | rfl | rfl | rfl | rfl | rfl | rfl | rfl | rfl | rfl | rfl | rfl <;> rfl

set_option maxRecDepth 100000 in
set_option maxHeartbeats 2000000 in
theorem opsnone_any (clock n : Int) (l : Value) (w : World) (ht : Tab w) :
    Calls Tryd.prog 12 #[.int .i64 clock, .int .i64 n, l] w fun e w' => e = .returned (.bool true) ∧ Below w.heap.size w w' := by
  have HG0 := Lib.hid ((Bag.start (Below.refl w.heap.size w)).add ht stable_tabn)
  have HUN := Lib.hid (fun w => universe_any 1 w)
  rw [lun_is] at HUN
  clear ht
  go_enter Tryd.func12, Tryd.ntmps12
  go_wp2_with fail
  refine (up_nil' _).mono ?_
  rintro e w1 ⟨rfl, hb⟩
  have HG1 := Lib.hid (HG0.out.step hb)
  clear hb HG0
  go_wp2_with fail
  refine (down_nil' _).mono ?_
  rintro e w2 ⟨rfl, hb⟩
  have HG2 := Lib.hid (HG1.out.step hb)
  clear hb HG1
  go_wp2_with fail
  refine (reset_nil clock n _).mono ?_
  rintro e w3 ⟨rfl, hb⟩
  have HG3 := Lib.hid (HG2.out.step hb)
  clear hb HG2
  go_wp2_with fail
  refine (unset_nil clock n _).mono ?_
  rintro e w4 ⟨rfl, hb⟩
  have HG4 := Lib.hid (HG3.out.step hb)
  clear hb HG3
  go_wp2_with fail
  have HA4 := Lib.hid (fun o => HG4.out.alloc o)
  refine (free_nil _ _).mono ?_
  rintro e w5 ⟨rfl, hb⟩
  have HG5 := Lib.hid ((HA4.out _).step hb)
  clear hb HG4 HA4
  go_wp2_with fail
  refine (copy_nil _ _ _).mono ?_
  rintro e w6 ⟨rfl, hb⟩
  have HG6 := Lib.hid (HG5.out.step hb)
  clear hb HG5
  go_wp2_with fail
  refine (constrain_nil _ _).mono ?_
  rintro e w7 ⟨rfl, hb⟩
  have HG7 := Lib.hid (HG6.out.step hb)
  clear hb HG6
  go_wp2_with fail
  refine (guards_nil _ _).mono ?_
  rintro e w8 ⟨rfl, hb⟩
  have HG8 := Lib.hid (HG7.out.step hb)
  clear hb HG7
  go_wp2_with fail
  refine (and_nil _ _).mono ?_
  rintro e w9 ⟨rfl, hb⟩
  have HG9 := Lib.hid (HG8.out.step hb)
  clear hb HG8
  go_wp2_with fail
  refine (hull_nil _ _).mono ?_
  rintro e w10 ⟨rfl, hb⟩
  have HG10 := Lib.hid (HG9.out.step hb)
  clear hb HG9
  go_wp2_with fail
  have HA10 := Lib.hid (fun o => HG10.out.alloc o)
  refine (keepz_nil _ _).mono ?_
  rintro e w11 ⟨rfl, hb⟩
  have HG11 := Lib.hid ((HA10.out _).step hb)
  clear hb HG10 HA10
  go_wp2_with fail
  refine (HUN.out _).mono ?_
  rintro e wu ⟨hb, v, rfl, hv⟩
  have HGU := Lib.hid (HG11.out.step hb)
  obtain ⟨bu, eu, _⟩ := (show ZoneV 126 wu v (some (1, lun)) from hv)
  subst eu
  clear hb hv HG11 HUN
  go_wp2_with fail
  have HGA := Lib.hid (fun o => HGU.out.alloc o)
  refine (and_has _ _ 1 [.pointer none] _ (by exact ptrs_new _ _ _) (by decide) (fun j hj => ⟨none, by simp at hj; subst hj; rfl⟩) ⟨0, by decide, rfl⟩).mono ?_
  rintro e wa ⟨rfl, hb⟩
  have HG12 := Lib.hid ((HGA.out _).step hb)
  clear hb HGU HGA
  go_wp2_with fail
  have HGA := Lib.hid (fun o => HG12.out.alloc o)
  refine (hull_has _ _ 2 [.pointer (some ⟨bu, 0, none⟩), .pointer none] _ (by exact ptrs_new _ _ _) (by simp) (fun j hj => by
    rcases (show j = 0 ∨ j = 1 by simp at hj; omega) with rfl | rfl
    · exact ⟨_, rfl⟩
    · exact ⟨_, rfl⟩) ⟨1, by simp, rfl⟩).mono ?_
  rintro e wb ⟨rfl, hb⟩
  have HG13 := Lib.hid ((HGA.out _).step hb)
  clear hb HG12 HGA
  have HCE := Lib.hid (fun p (hp : p < 13) => show (wb.alloc (.cells #[.int .i64 1, .int .i64 1, .int .i64 1, .int .i64 1, .int .i64 1, .int .i64 1, .int .i64 1, .int .i64 1, .int .i64 1, .int .i64 1, .int .i64 1, .int .i64 1, .int .i64 1] 29)).cell? ⟨wb.heap.size, p, none⟩ = some (.int .i64 1) by
    unfold World.cell?; rw [heap_alloc_new]; exact thirteen p hp _)
  have HG14 := Lib.hid (HG13.out.alloc (.cells #[.int .i64 1, .int .i64 1, .int .i64 1, .int .i64 1, .int .i64 1, .int .i64 1, .int .i64 1, .int .i64 1, .int .i64 1, .int .i64 1, .int .i64 1, .int .i64 1, .int .i64 1] 29))
  go_wp2
  generalize wb.alloc (.cells #[.int .i64 1, .int .i64 1, .int .i64 1, .int .i64 1, .int .i64 1, .int .i64 1, .int .i64 1, .int .i64 1, .int .i64 1, .int .i64 1, .int .i64 1, .int .i64 1, .int .i64 1] 29) = wc at *
  go_loopg [36] 13 (fun g v wr => ∃ p : Nat, v = .int .i64 p ∧ wc = wr ∧ Hid (p ≤ 13 ∧ g + p = 13))
  case atStart => exact ⟨0, by simp, rfl, by omega, by omega⟩
  case round =>
    obtain ⟨p, rfl, rfl, HG⟩ := hrel
    by_cases hp : p < 13
    · have hpi : (p : Int) < 13 := by omega
      have c1 := HCE.out p hp
      go_wp2
      go_roundg (gk - 1)
      case measure => have h := HG.out; omega
      case rel => exact ⟨p + 1, by go_num, rfl, by omega, by have h := HG.out; omega⟩
    · have e : p = 13 := by have := HG.out.1; omega
      subst e
      go_wp2_with fail
      refine (live04_any _ (HG14.out.at 0 rfl)).mono ?_
      rintro e w6 ⟨rfl, hb⟩
      have HG15 := Lib.hid (HG14.out.step hb)
      clear hb
      go_wp2
      go_ret
      exact ⟨rfl, HG15.out.below⟩

theorem opsnonel_any (clock n : Int) (B : Option Addr) (d : Nat) (l : List (Int × Int × Int)) (w : World) (hL : Lims w B l) (hlmax : l.length ≤ 4611686018427387904)
    (hlk : ∀ q, q < l.length → -2147483648 ≤ (l.getD q (0, 0, 0)).2.2 ∧ (l.getD q (0, 0, 0)).2.2 ≤ 2147483647) (ht : Tab w) :
    Calls Tryd.prog 12 #[.int .i64 clock, .int .i64 n, .slice B l.length d] w fun e w' => e = .returned (.bool true) ∧ Below w.heap.size w w' :=
  opsnone_any clock n _ w ht

end Go.Proofs.YtidcnlecgcobmaaDoor

/- How a law's call ends: it tells true, and what came in reads as before. -/
namespace Go.Proofs.YtidcnlecgcobmaaDoor
open Go Go.ChangeShapes Go.WideShapes Go.ChangeAt Go.RowKit
set_option linter.unusedVariables false
set_option linter.unusedSimpArgs false

section
variable {H : Type} {enc : TypeId × Value → H} {P : Program} {W W' : World}
/-- All that came in reads as before, where below the old heap's size nothing has turned. -/
theorem stays_all (hl : laidOutB P = true) {sp : Nat → Bool} : ∀ {ts : List TypeId} {vs : List Value} {ds : List (DataW H)} {ps : List MemPlace},
    (∀ t ∈ ts, P.readableRec t = true ∧ t < P.types.size) → DataW.TrodAll enc P W 0 (fun _ => true) true ts vs ds ps → (∀ p ∈ ps, W.sameAt W' p) → (∀ p ∈ ps, sp p.block = true) →
    DataW.TrodAll enc P W' 0 sp true ts vs ds ps
  | [], [], [], _, _, h, _, _ => h
  | t :: _, _ :: _, _ :: _, _, ht, ⟨p, q, h1, h2, e⟩, hk, hs =>
    ⟨p, q, WideElems.Trod_stays hl (ht t (List.mem_cons.2 (.inl rfl))).1 (ht t (List.mem_cons.2 (.inl rfl))).2 h1 (fun x hx => hk x (by rw [e]; exact List.mem_append_left _ hx)) (fun x hx => hs x (by rw [e]; exact List.mem_append_left _ hx)),
      stays_all hl (fun t ht' => ht t (List.mem_cons.2 (.inr ht'))) h2 (fun x hx => hk x (by rw [e]; exact List.mem_append_right _ hx)) (fun x hx => hs x (by rw [e]; exact List.mem_append_right _ hx)), e⟩

/-- The post of a law's row, out of true and Below. -/
theorem law_post {f : Func} {s : ChangeSpec} {args : Array Value} {ds gs : List (DataW H)} {before : List MemPlace} {tb : TypeId} {apart fresh handsOn again : Bool}
    (hl : laidOutB P = true) (hr : ∀ t ∈ f.params.toList, P.readableRec t = true ∧ t < P.types.size) (hv : s.vars = [])
    (hres : f.resultTypes = #[tb]) (hb : P.underlying tb = some .bool) (hfn : s.fn H (ds ++ gs) = { results := [.lit (.bool true)], args := ds })
    (hW : DataW.Whole enc P f.params.toList s.vars apart W args.toList ds gs before) (hbel : Below W.heap.size W W') :
    s.post enc P f apart fresh handsOn again W args (.bool true) W' := by
  have hlt := hW.lt
  have hW' := hW
  obtain ⟨p, q, hA, hV, rfl, hz, hn⟩ := hW'
  rw [hv] at hV
  obtain ⟨rfl, rfl⟩ := trodVars_none hV
  simp only [List.append_nil] at hW hlt hz hn hfn
  have hargs : ∀ sp : Nat → Bool, (∀ x ∈ p, sp x.block = true) → DataW.TrodAll enc P W' 0 sp true f.params.toList args.toList ds p :=
    fun sp hs => stays_all hl hr hA (fun x hx => hbel.same (hlt x hx)) hs
  have hone : ∀ (b : Nat) (sp : Nat → Bool) (hd : Bool), DataW.TrodAll enc P W' b sp hd f.resultTypes.toList ((Value.bool true).resultList f.resultTypes.size) [.lit (.bool true)] [] := by
    intro b sp hd
    rw [hres]
    exact trodAll_mk1 (shut_bool hb true)
  have hvars : ∀ sp : Nat → Bool, DataW.TrodVars enc P W' sp s.vars ([] : List (DataW H)) [] := by
    intro sp
    rw [hv]
    rfl
  refine ⟨ds, [], p, [], p, [], hW, ?_, ?_, ?_, hbel.frame _, fun _ => ⟨ok_one hres rfl (okWide_bool_mk hb true), ?_⟩⟩
  · simp only [List.append_nil, hfn]; exact hone _ _ _
  · simp only [List.append_nil, hfn]; exact hargs _ (fun x hx => by simpa using hlt x hx)
  · simp only [List.append_nil, hfn]; exact hvars _
  · refine ⟨[.lit (.bool true)] ++ ds, [], [] ++ p, ⟨[] ++ p, [], trodAll_append (hargs _ (fun _ _ => rfl)) (hone _ _ _), hvars _, by simp, ?_, ?_⟩, ?_⟩
    · intro b off hp
      have hp' : MemPlace.cell b off ∈ p := by simpa using hp
      rw [hbel.frozen (p := ⟨b, off, none⟩) (hlt _ hp')]
      exact hz b off hp'
    · intro ha
      simpa using hn ha
    · intro x hx _
      simpa using hx

/-- A slice of numbers that came in. -/
theorem came_row {t e : TypeId} {k : IntKind} {v : Value} {d : DataW H} {ps : List MemPlace} {r : Reach} {base : Nat} (ht : P.underlying t = some (.slice e)) (he : P.underlying e = some (.int k)) (hc : P.cellsOf e = 1)
    (hval : Value.okWide P W r base t v) (h : DataW.Trod enc P W 0 (fun _ => true) true t v d ps) :
    ∃ A c xs, v = .slice A xs.length c ∧ Ints W k A xs ∧ (∀ n ∈ xs, (Lit.int k n).wf = true) ∧ (xs = [] ∨ ∃ el sp, d = .slice el sp ∧ el.length = xs.length) := by
  obtain ⟨a0, len, cap, rfl⟩ := okWide_slice ht hval
  obtain ⟨fuel, hf⟩ := h
  rcases open_ints ht he hc hf with ⟨hcs, hx⟩ | ⟨a, len', cap', zs, hcs, _, hle, hmax, hall, hx, hcell, hwf⟩
  · simp [Value.cells] at hcs
    obtain ⟨rfl, rfl, rfl⟩ := hcs
    exact ⟨none, 0, [], rfl, fun j hj => by simp at hj, by simp, .inl rfl⟩
  · simp [Value.cells] at hcs
    obtain ⟨rfl, rfl, rfl⟩ := hcs
    have hz : zs.length = cap := by simpa using hall
    simp only [Prod.mk.injEq] at hx
    refine ⟨some a, cap, zs.take len, by rw [List.length_take]; congr 1; omega, ?_, fun n hn => hwf n (List.mem_of_mem_take hn), .inr ⟨_, _, hx.1, by simp [lits]⟩⟩
    intro j hj
    rw [List.length_take] at hj
    obtain ⟨b, off, rfl, hcell'⟩ := ints_at hcell (by omega)
    refine ⟨b, off, rfl, ?_⟩
    rw [hcell' j (by omega)]
    congr 2
    simp [List.getD_eq_getElem?_getD, List.getElem?_take, show j < len by omega]
/-- Its length is within what the machine can hold. -/
theorem came_short {ts : List TypeId} {ds : List (DataW H)} {j : Nat} {t e : TypeId} {d : DataW H} {xs : List Int} {m : Nat} (hsz : (DataW.weightsEach P ts ds).all (· ≤ reachBytes) = true) (ht : ts[j]? = some t) (hd : ds[j]? = some d)
    (hu : P.underlying t = some (.slice e)) (hm : P.bytesOf e = m) (hm1 : 1 ≤ m) (h : xs = [] ∨ ∃ el sp, d = .slice el sp ∧ el.length = xs.length) : xs.length * m ≤ 140737488351232 := by
  rcases h with rfl | ⟨el, sp, rfl, he⟩
  · simp
  · have h1 := sized_slice hsz ht hd hu
    rw [hm] at h1
    have h2 : el.length * m ≤ (el.length + sp.length) * m := Nat.mul_le_mul_right _ (by omega)
    rw [← he]
    exact Nat.le_trans h2 h1
/-- The bounds of 32 bits. -/
theorem came_i32 {xs : List Int} (h : ∀ n ∈ xs, (Lit.int .i32 n).wf = true) : ∀ q, q < xs.length → -2147483648 ≤ xs.getD q 0 ∧ xs.getD q 0 ≤ 2147483647 := by
  intro q hq
  have h1 := h (xs.getD q 0) (by rw [List.getD_eq_getElem?_getD, List.getElem?_eq_getElem hq]; exact List.getElem_mem hq)
  exact bounds_i32 h1
/-- A pair of numbers that came in. -/
theorem came_pair {t e : TypeId} {k : IntKind} {v : Value} {d : DataW H} {ps : List MemPlace} {r : Reach} {base : Nat} (ht : P.underlying t = some (.array 2 e)) (he : P.underlying e = some (.int k)) (hc : P.cellsOf e = 1) (hct : P.cellsOf t = 2)
    (hval : Value.okWide P W r base t v) (h : DataW.Trod enc P W 0 (fun _ => true) true t v d ps) :
    ∃ x y, v = .agg #[.int k x, .int k y] ∧ (Lit.int k x).wf = true ∧ (Lit.int k y).wf = true := by
  obtain ⟨cs, rfl, hsz, _⟩ : ∃ cs, v = .agg cs ∧ cs.size = P.cellsOf t ∧ Row.okWide P W r base t cs := by
    simpa [Value.okWide, ht] using hval
  rw [hct] at hsz
  obtain ⟨l⟩ := cs
  match l, hsz with
  | [a, b], _ =>
    obtain ⟨fuel, hf⟩ := h
    obtain ⟨xs, m, _, hx, hlen, hn, hel⟩ := DataW.trod_array ht hf
    have h0 := hel 0 (by omega)
    have h1 := hel 1 (by omega)
    simp [Value.cells, hc] at h0 h1
    rw [List.getElem?_eq_getElem (by omega)] at h0 h1
    obtain ⟨x, e0, _, w0⟩ := DataW.trod_int he h0
    obtain ⟨y, e1, _, w1⟩ := DataW.trod_int he h1
    simp at e0 e1
    subst e0 e1
    exact ⟨x, y, rfl, w0, w1⟩
end

end Go.Proofs.YtidcnlecgcobmaaDoor

/- A slice of structs of three numbers that came in; rows of 32 bits. -/
namespace Go.Proofs.YtidcnlecgcobmaaDoor
open Go Go.ChangeShapes Go.WideShapes Go.ChangeAt Go.RowKit
set_option linter.unusedVariables false
set_option linter.unusedSimpArgs false

section
variable {H : Type} {enc : TypeId × Value → H} {P : Program} {W W' : World}
/-- A slice of bounds of differences that came in. -/
theorem came_lims {t e : TypeId} {f0 f1 f2 : Field} {v : Value} {d : DataW H} {ps : List MemPlace} {r : Reach} {base : Nat} (ht : P.underlying t = some (.slice e)) (he : P.underlying e = some (.struct #[f0, f1, f2]))
    (k0 : P.underlying f0.type = some (.int .i64)) (k1 : P.underlying f1.type = some (.int .i64)) (k2 : P.underlying f2.type = some (.int .i32)) (hone : Deep.oneCellFields P #[f0, f1, f2] = true) (hc : P.cellsOf e = 3)
    (hval : Value.okWide P W r base t v) (h : DataW.Trod enc P W 0 (fun _ => true) true t v d ps) :
    ∃ A c xs, v = .slice A xs.length c ∧ Lims W A xs ∧ (∀ q, q < xs.length → (Lit.int .i64 (xs.getD q (0, 0, 0)).1).wf = true ∧ (Lit.int .i64 (xs.getD q (0, 0, 0)).2.1).wf = true ∧ (Lit.int .i32 (xs.getD q (0, 0, 0)).2.2).wf = true) ∧
      (xs = [] ∨ ∃ el sp, d = .slice el sp ∧ el.length = xs.length) := by
  obtain ⟨a0, len, cap, rfl⟩ := okWide_slice ht hval
  obtain ⟨fuel, hf⟩ := h
  rcases Deep.open_slice ht hf with ⟨hcs, hx⟩ | ⟨a, len', cap', m, n, D, Pl, hcs, _, hle, _, hmm, hx, hi⟩
  · simp [Value.cells] at hcs
    obtain ⟨rfl, rfl, rfl⟩ := hcs
    exact ⟨none, 0, [], rfl, fun j hj => by simp at hj, by simp, .inl rfl⟩
  · simp [Value.cells] at hcs
    obtain ⟨rfl, rfl, rfl⟩ := hcs
    have hlm : len ≤ m := by rw [hmm]; split <;> omega
    have each : ∀ i, i < m → ∃ q : Int × Int × Int, W.cell? (a.add (i * 3)) = some (.int .i64 q.1) ∧ W.cell? (a.add (i * 3 + 1)) = some (.int .i64 q.2.1) ∧ W.cell? (a.add (i * 3 + 2)) = some (.int .i32 q.2.2) ∧
        (Lit.int .i64 q.1).wf = true ∧ (Lit.int .i64 q.2.1).wf = true ∧ (Lit.int .i32 q.2.2).wf = true := by
      intro i him
      obtain ⟨cs', h1, h2⟩ := hi i him
      rw [hc] at h1
      obtain ⟨_, hlen, hcell⟩ := World.cells?_some h1
      obtain ⟨xs, k, _, hxy, _, hxl, hfd⟩ := DataW.trod_struct he h2
      obtain ⟨o0, c0⟩ := Deep.hone_of hone 0 f0 rfl
      obtain ⟨o1, c1⟩ := Deep.hone_of hone 1 f1 rfl
      obtain ⟨o2, c2⟩ := Deep.hone_of hone 2 f2 rfl
      match xs, hxl, cs', hlen with
      | [y0, y1, y2], _, [v0, v1, v2], _ =>
        have g0 := hfd 0 f0 rfl
        have g1 := hfd 1 f1 rfl
        have g2 := hfd 2 f2 rfl
        simp [o0, o1, o2, c0, c1, c2] at g0 g1 g2
        have e0 := hcell 0 (by omega)
        have e1 := hcell 1 (by omega)
        have e2 := hcell 2 (by omega)
        rw [Deep.add_add] at e0 e1 e2
        obtain ⟨z0, q0, _, w0⟩ := DataW.trod_int k0 g0
        obtain ⟨z1, q1, _, w1⟩ := DataW.trod_int k1 g1
        obtain ⟨z2, q2, _, w2⟩ := DataW.trod_int k2 g2
        simp at q0 q1 q2
        subst q0 q1 q2
        exact ⟨(z0, z1, z2), by simpa using e0, by simpa using e1, by simpa using e2, w0, w1, w2⟩
    obtain ⟨q, hq⟩ := Deep.choose_lt each
    simp only [Prod.mk.injEq] at hx
    refine ⟨some a, cap, (List.range len).map q, by simp, ?_, ?_, .inr ⟨_, _, hx.1, by simp⟩⟩
    · intro j hj
      simp only [List.length_map, List.length_range] at hj
      obtain ⟨h0, h1, h2, _⟩ := hq j (by omega)
      have hsp : a.spot = none := by
        have := World.cell?_spot (hq 0 (by omega)).1
        simpa [Addr.add] using this
      obtain ⟨b, off, spot⟩ := a
      simp only at hsp
      subst hsp
      have eg : ((List.range len).map q).getD j (0, 0, 0) = q j := by simp [List.getD_eq_getElem?_getD, hj]
      rw [eg]
      have ea : ∀ k, (⟨b, off, none⟩ : Addr).add k = ⟨b, off + k, none⟩ := fun k => by unfold Addr.add; split <;> simp_all
      rw [ea] at h0 h1 h2
      exact ⟨b, off, rfl, h0, by rw [Nat.add_assoc]; exact h1, by rw [Nat.add_assoc]; exact h2⟩
    · intro j hj
      simp only [List.length_map, List.length_range] at hj
      have eg : ((List.range len).map q).getD j (0, 0, 0) = q j := by simp [List.getD_eq_getElem?_getD, hj]
      rw [eg]
      exact (hq j (by omega)).2.2.2
theorem came_lim32 {xs : List (Int × Int × Int)} (h : ∀ q, q < xs.length → (Lit.int .i64 (xs.getD q (0, 0, 0)).1).wf = true ∧ (Lit.int .i64 (xs.getD q (0, 0, 0)).2.1).wf = true ∧ (Lit.int .i32 (xs.getD q (0, 0, 0)).2.2).wf = true) :
    ∀ q, q < xs.length → -2147483648 ≤ (xs.getD q (0, 0, 0)).2.2 ∧ (xs.getD q (0, 0, 0)).2.2 ≤ 2147483647 := fun q hq => bounds_i32 (h q hq).2.2
/-- Its length is within what the machine can hold. -/
theorem came_short3 {ts : List TypeId} {ds : List (DataW H)} {j : Nat} {t e : TypeId} {d : DataW H} {xs : List (Int × Int × Int)} {m : Nat} (hsz : (DataW.weightsEach P ts ds).all (· ≤ reachBytes) = true) (ht : ts[j]? = some t) (hd : ds[j]? = some d)
    (hu : P.underlying t = some (.slice e)) (hm : P.bytesOf e = m) (h : xs = [] ∨ ∃ el sp, d = .slice el sp ∧ el.length = xs.length) : xs.length * m ≤ 140737488351232 := by
  rcases h with rfl | ⟨el, sp, rfl, he⟩
  · simp
  · have h1 := sized_slice hsz ht hd hu
    rw [hm] at h1
    have h2 : el.length * m ≤ (el.length + sp.length) * m := Nat.mul_le_mul_right _ (by omega)
    rw [← he]
    exact Nat.le_trans h2 h1
/-- The bounds of 32 bits without a sign. -/
theorem came_u32 {xs : List Int} (h : ∀ n ∈ xs, (Lit.int .u32 n).wf = true) : ∀ q, q < xs.length → 0 ≤ xs.getD q 0 ∧ xs.getD q 0 ≤ 4294967295 := by
  intro q hq
  have h1 := h (xs.getD q 0) (by rw [List.getD_eq_getElem?_getD, List.getElem?_eq_getElem hq]; exact List.getElem_mem hq)
  exact bounds_u32 h1
end

end Go.Proofs.YtidcnlecgcobmaaDoor
