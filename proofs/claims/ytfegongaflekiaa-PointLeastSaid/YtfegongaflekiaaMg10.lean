/- Texts of ours, laid together: Jq, Jr, Vt, Vu, Vv, Vw. -/
import Derived.Test.YtfegongaflekiaaMg9
/- Behind which delays a valuation is in a zone, as point tells them. -/
namespace Go.Proofs.Ytfegongaflekiaa
open Go Go.RowKit
set_option linter.unusedVariables false
set_option linter.unusedSimpArgs false
attribute [local go_sem] min_ints max_ints

theorem span64_narrow {s s' : SpanP} {x : Int × Int} {b : Int} {above : Bool} (hs : Span64 s) (h : narrowP s x b above = some s') : Span64 s' := by
  obtain ⟨⟨h1, h2⟩, h3, h4⟩ := hs
  unfold narrowP at h
  cases above with
  | true =>
    simp only [if_true] at h
    split at h
    · split at h
      · cases h; exact ⟨⟨h1, h2⟩, (subP64 _ _).1, (subP64 _ _).2⟩
      · cases h; exact ⟨⟨h1, h2⟩, h3, h4⟩
    · cases h
  | false =>
    simp only [Bool.false_eq_true, if_false] at h
    split at h
    · split at h
      · cases h; exact ⟨⟨(subP64 _ _).1, (subP64 _ _).2⟩, h3, h4⟩
      · cases h; exact ⟨⟨h1, h2⟩, h3, h4⟩
    · cases h
/-- What is told from the cell k on. -/
def delTold (n : Nat) (m : Mat) (v : List (Int × Int)) (k : Nat) (s : SpanP) : Option SpanP := (delayFrom n m v ((n + 1) * (n + 1) - k) k s).bind fun s => if spanEnd s = true then some s else none
theorem delTold_step {n : Nat} {m : Mat} {v : List (Int × Int)} {i j : Nat} (hi : i ≤ n) (hj : j ≤ n) (s : SpanP) : delTold n m v (i * (n + 1) + j) s = (delayStep n m v i j s).bind fun t => delTold n m v (i * (n + 1) + j + 1) t := by
  have hk : i * (n + 1) + j < (n + 1) * (n + 1) := at_lt (by omega) (by omega)
  have e1 : (i * (n + 1) + j) / (n + 1) = i := by rw [Nat.mul_comm, Nat.mul_add_div (by omega), Nat.div_eq_of_lt (by omega)]; rfl
  have e2 : (i * (n + 1) + j) % (n + 1) = j := by rw [Nat.mul_comm, Nat.mul_add_mod, Nat.mod_eq_of_lt (by omega)]
  unfold delTold
  obtain ⟨g, hg⟩ : ∃ g, (n + 1) * (n + 1) - (i * (n + 1) + j) = g + 1 := ⟨(n + 1) * (n + 1) - (i * (n + 1) + j) - 1, by omega⟩
  rw [hg, show (n + 1) * (n + 1) - (i * (n + 1) + j + 1) = g by omega]
  show (Option.bind (delayStep n m v ((i * (n + 1) + j) / (n + 1)) ((i * (n + 1) + j) % (n + 1)) s) (delayFrom n m v g (i * (n + 1) + j + 1))).bind _ = _
  rw [e1, e2]
  cases delayStep n m v i j s <;> rfl
theorem delTold_end {n : Nat} {m : Mat} {v : List (Int × Int)} (s : SpanP) : delTold n m v ((n + 1) * (n + 1)) s = if spanEnd s = true then some s else none := by
  unfold delTold
  rw [Nat.sub_self]
  rfl
def spanZero : SpanP := ⟨(0, 0), (0, 0), false, false, false⟩
/-- What Delays leaves. -/
def DelEnds (w : World) (o : Option SpanP) (e : Ending) (w' : World) : Prop := e = .returned (.tuple #[.agg (spanCs (o.getD spanZero)), .bool o.isSome]) ∧ Below w.heap.size w w'

theorem cells7_at {w0 wr : World} {L : List (Nat × Array Value × TypeId)} {g : Nat} {T : TypeId} {a0 a1 a2 a3 a4 a5 a6 : Value} (h : Blx w0 L wr) (j : Nat) (hj : L[j]? = some (g, #[a0, a1, a2, a3, a4, a5, a6], T)) : (wr.cell? ⟨g, 0, none⟩ = some a0 ∧ wr.cell? ⟨g, 1, none⟩ = some a1 ∧ wr.cell? ⟨g, 2, none⟩ = some a2 ∧ wr.cell? ⟨g, 3, none⟩ = some a3 ∧ wr.cell? ⟨g, 4, none⟩ = some a4 ∧ wr.cell? ⟨g, 5, none⟩ = some a5 ∧ wr.cell? ⟨g, 6, none⟩ = some a6) ∧ wr.frozen? ⟨g, 0, none⟩ = false ∧ wr.frozen? ⟨g, 1, none⟩ = false ∧ wr.frozen? ⟨g, 2, none⟩ = false ∧ wr.frozen? ⟨g, 3, none⟩ = false ∧ wr.frozen? ⟨g, 4, none⟩ = false ∧ wr.frozen? ⟨g, 5, none⟩ = false ∧ wr.frozen? ⟨g, 6, none⟩ = false :=
  ⟨⟨(h.cell j hj 0 rfl).1, (h.cell j hj 1 rfl).1, (h.cell j hj 2 rfl).1, (h.cell j hj 3 rfl).1, (h.cell j hj 4 rfl).1, (h.cell j hj 5 rfl).1, (h.cell j hj 6 rfl).1⟩, (h.cell j hj 0 (v := a0) rfl).2, (h.cell j hj 1 (v := a1) rfl).2, (h.cell j hj 2 (v := a2) rfl).2, (h.cell j hj 3 (v := a3) rfl).2, (h.cell j hj 4 (v := a4) rfl).2, (h.cell j hj 5 (v := a5) rfl).2, (h.cell j hj 6 (v := a6) rfl).2⟩
theorem cells7_store {w0 wr : World} {L : List (Nat × Array Value × TypeId)} {g : Nat} {T : TypeId} {a0 a1 a2 a3 a4 a5 a6 : Value} (h : Blx w0 L wr) (j : Nat) (hj : L[j]? = some (g, #[a0, a1, a2, a3, a4, a5, a6], T)) (b0 b1 b2 b3 b4 b5 b6 : Value) : Blx w0 (L.set j (g, #[b0, b1, b2, b3, b4, b5, b6], T)) (((((((wr.setCell ⟨g, 0, none⟩ b0).setCell ⟨g, 1, none⟩ b1).setCell ⟨g, 2, none⟩ b2).setCell ⟨g, 3, none⟩ b3).setCell ⟨g, 4, none⟩ b4).setCell ⟨g, 5, none⟩ b5).setCell ⟨g, 6, none⟩ b6) := by
  have hl : j < L.length := (List.getElem?_eq_some_iff.1 hj).1
  have one : ∀ x : Nat × Array Value × TypeId, (L.set j x)[j]? = some x := fun x => by rw [List.getElem?_set, if_pos rfl, if_pos hl]
  have e0 : (#[a0, a1, a2, a3, a4, a5, a6] : Array Value).setIfInBounds 0 b0 = #[b0, a1, a2, a3, a4, a5, a6] := rfl
  have h1 := h.set j hj 0 b0
  rw [e0] at h1
  have e1 : (#[b0, a1, a2, a3, a4, a5, a6] : Array Value).setIfInBounds 1 b1 = #[b0, b1, a2, a3, a4, a5, a6] := rfl
  have h2 := h1.set j (one _) 1 b1
  rw [List.set_set, e1] at h2
  have e2 : (#[b0, b1, a2, a3, a4, a5, a6] : Array Value).setIfInBounds 2 b2 = #[b0, b1, b2, a3, a4, a5, a6] := rfl
  have h3 := h2.set j (one _) 2 b2
  rw [List.set_set, e2] at h3
  have e3 : (#[b0, b1, b2, a3, a4, a5, a6] : Array Value).setIfInBounds 3 b3 = #[b0, b1, b2, b3, a4, a5, a6] := rfl
  have h4 := h3.set j (one _) 3 b3
  rw [List.set_set, e3] at h4
  have e4 : (#[b0, b1, b2, b3, a4, a5, a6] : Array Value).setIfInBounds 4 b4 = #[b0, b1, b2, b3, b4, a5, a6] := rfl
  have h5 := h4.set j (one _) 4 b4
  rw [List.set_set, e4] at h5
  have e5 : (#[b0, b1, b2, b3, b4, a5, a6] : Array Value).setIfInBounds 5 b5 = #[b0, b1, b2, b3, b4, b5, a6] := rfl
  have h6 := h5.set j (one _) 5 b5
  rw [List.set_set, e5] at h6
  have e6 : (#[b0, b1, b2, b3, b4, b5, a6] : Array Value).setIfInBounds 6 b6 = #[b0, b1, b2, b3, b4, b5, b6] := rfl
  have h7 := h6.set j (one _) 6 b6
  rw [List.set_set, e6] at h7
  exact h7

set_option maxRecDepth 100000 in
set_option maxHeartbeats 4000000 in
theorem delays_empty (b n : Nat) (m : Mat) (A : Option Addr) (c : Nat) (l : List (Int × Int)) (w : World) (hn : n ≤ 8) (hm : MatAt w b 108 .i32 n m) (he : emptyP (some (n, m)) = true) (hI : RatsA w A l) (h64 : All64v l) (hv : rightV l = true) (hl : l.length = n) :
    Calls Try.prog 23 #[.pointer (some ⟨b, 0, none⟩), .slice A l.length c] w (DelEnds w none) := by
  have HR := Lib.hid (fun W (hb : Below w.heap.size w W) => right_val A c l W (hI.below hb) (by omega) h64)
  rw [hv] at HR
  have HD := Lib.hid (fun W (hb : Below w.heap.size w W) => dim_zone b n m W (hm.later hb))
  have HEm := Lib.hid (fun W (hb : Below w.heap.size w W) => empty_zone b n m W (hm.later hb))
  rw [show decide (m 0 0 < 1) = true from he] at HEm
  have K := Lib.hid ((Blx.start w).new #[.int .i64 0, .int .i64 0, .int .i64 0, .int .i64 0, .bool false, .bool false, .bool false] 70)
  have hlen : ((l.length : Nat) : Int) = (n : Int) := by rw [hl]
  clear hI hm h64 hv hl hn he
  go_enter Try.func23, Try.ntmps23
  go_upto_region 1 with fail
  generalize w.alloc (.cells #[.int .i64 0, .int .i64 0, .int .i64 0, .int .i64 0, .bool false, .bool false, .bool false] 70) = w1 at *
  go_wp2_with fail
  refine (HR.out _ K.out.below).mono ?_
  rintro e w2 ⟨rfl, hb⟩
  replace K := Lib.hid (K.out.step hb)
  clear hb HR
  go_wp2_with fail
  refine (HD.out _ K.out.below).mono ?_
  rintro e w3 ⟨rfl, rfl⟩
  go_wp2_with fail
  refine (HEm.out _ K.out.below).mono ?_
  rintro e w3 ⟨rfl, rfl⟩
  simp only [List.nil_append] at K
  obtain ⟨⟨c0, c1, c2, c3, c4, c5, c6⟩, f0, f1, f2, f3, f4, f5, f6⟩ := cells7_at K.out 0 rfl
  replace K := Lib.hid (cells7_store K.out 0 rfl (.int .i64 0) (.int .i64 0) (.int .i64 0) (.int .i64 0) (.bool false) (.bool false) (.bool false))
  simp only [List.set_cons_zero] at K
  go_wp2
  generalize World.setCell _ _ _ = wz at *
  refine bodyPost_ret (results_row_tmp (fn := Try.f23) rfl _ _ w.heap.size _ _ _ _ rfl (K.out.l _ (List.mem_singleton.2 rfl)) Try.underlying70 rfl (by kernel_rfl)) rfl ?_
  exact ⟨rfl, K.out.below⟩

set_option maxRecDepth 100000 in
set_option maxHeartbeats 8000000 in
theorem delays_zone (b n : Nat) (m : Mat) (A : Option Addr) (c : Nat) (l : List (Int × Int)) (w : World) (hn : n ≤ 8) (hm : MatAt w b 108 .i32 n m) (hr : RightM n m) (he : emptyP (some (n, m)) = false) (hI : RatsA w A l) (h64 : All64v l) (hv : rightV l = true) (hl : l.length = n) :
    Calls Try.prog 23 #[.pointer (some ⟨b, 0, none⟩), .slice A l.length c] w (DelEnds w (delaysP n m l)) := by
  have HR := Lib.hid (fun W (hb : Below w.heap.size w W) => right_val A c l W (hI.below hb) (by omega) h64)
  rw [hv] at HR
  have HD := Lib.hid (fun W (hb : Below w.heap.size w W) => dim_zone b n m W (hm.later hb))
  have HEm := Lib.hid (fun W (hb : Below w.heap.size w W) => empty_zone b n m W (hm.later hb))
  rw [show decide (m 0 0 < 1) = false from he] at HEm
  have HC := Lib.hid (fun W (hb : Below w.heap.size w W) (i j : Nat) (hi : i ≤ n) (hj : j ≤ n) => show Calls Try.prog 76 #[.pointer (some ⟨b, 0, none⟩), .int .i64 (i : Int), .int .i64 (j : Int)] W (fun e w' => e = .returned (.tuple #[.int .i32 (m i j), .int .i64 0]) ∧ W = w') from by
    have h := cell_zone b n m i j W hn (hm.later hb)
    rw [show cellP n m i j = (m i j, 0) by unfold cellP; rw [if_pos (by omega)]; simp] at h
    exact h)
  have HA := Lib.hid (fun W (hb : Below w.heap.size w W) (i : Nat) (hi : i ≤ n) => at_val A c l i (by omega) (by omega) W (hI.below hb))
  have HK := Lib.hid (fun W (i j : Nat) (hi : i ≤ n) (hj : j ≤ n) => keepsq_any (clockV l i).1 (clockV l i).2 (clockV l j).1 (clockV l j).2 (m i j) (clock64 h64 (by omega)).1 (clock64 h64 (by omega)).2 (clock64 h64 (by omega)).1 (clock64 h64 (by omega)).2 (clock_right hv (by omega)).1 (clock_right hv (by omega)).1 (clock_right hv (by omega)).2 (clock_right hv (by omega)).2 (hr i j hi hj) W)
  have HNT := Lib.hid (fun (w0 W : World) (g : Nat) (s : SpanP) (i j : Nat) (hi : i ≤ n) (hj : j ≤ n) (hs : Span64 s) (hne : m i j ≠ 2147483647) K => narrow_above w0 W g s (clockV l (max i j)).1 (clockV l (max i j)).2 (m i j) (clock64 h64 (by omega)).1 (clock64 h64 (by omega)).2 hs (hr i j hi hj) hne K)
  have HNF := Lib.hid (fun (w0 W : World) (g : Nat) (s : SpanP) (i j : Nat) (hi : i ≤ n) (hj : j ≤ n) (hs : Span64 s) (hne : m i j ≠ 2147483647) K => narrow_below w0 W g s (clockV l (max i j)).1 (clockV l (max i j)).2 (m i j) (clock64 h64 (by omega)).1 (clock64 h64 (by omega)).2 hs (hr i j hi hj) hne K)
  have HO := Lib.hid (fun W => rof2_any 0 W)
  have K := Lib.hid ((Blx.start w).new #[.int .i64 0, .int .i64 0, .int .i64 0, .int .i64 0, .bool false, .bool false, .bool false] 70)
  obtain ⟨R, hR⟩ : ∃ R, R = delaysP n m l := ⟨_, rfl⟩
  rw [← hR]
  have HE : Hid (R = delTold n m l 0 ⟨(0, 1), (0, 0), true, false, true⟩) := Lib.hid (by
    rw [hR]
    unfold delaysP
    rw [if_pos ⟨hv, hl, by have := of_decide_eq_false he; exact this⟩]; rfl)
  have hlen : ((l.length : Nat) : Int) = (n : Int) := by rw [hl]
  have n1 : IntKind.i64.wrap ((n : Int) + 1) = (n : Int) + 1 := IntWalk.i64_in _ (by omega)
  clear hI hm h64 hv hl he hr hR
  go_enter Try.func23, Try.ntmps23
  go_upto_region 1 with fail
  generalize w.alloc (.cells #[.int .i64 0, .int .i64 0, .int .i64 0, .int .i64 0, .bool false, .bool false, .bool false] 70) = w1 at *
  simp only [List.nil_append] at K
  go_wp2_with fail
  refine (HR.out _ K.out.below).mono ?_
  rintro e w2 ⟨rfl, hb⟩
  replace K := Lib.hid (K.out.step hb)
  clear hb HR
  go_wp2_with fail
  refine (HD.out _ K.out.below).mono ?_
  rintro e w3 ⟨rfl, rfl⟩
  go_wp2_with fail
  refine (HEm.out _ K.out.below).mono ?_
  rintro e w3 ⟨rfl, rfl⟩
  clear HD HEm
  go_wp2_with fail
  refine (HO.out _).mono ?_
  rintro e wA ⟨rfl, hb⟩
  replace K := Lib.hid (K.out.step hb)
  clear hb HO
  have KS := Lib.hid (show Blx wA [(wA.heap.size, spanCs ⟨(0, 1), (0, 0), true, false, true⟩, 70)] (wA.alloc (.cells #[.int .i64 0, .int .i64 1, .int .i64 0, .int .i64 0, .bool true, .bool false, .bool true] 70)) from (Blx.start wA).new (spanCs ⟨(0, 1), (0, 0), true, false, true⟩) 70)
  go_upto_region 5 with fail
  generalize wA.alloc (.cells #[.int .i64 0, .int .i64 1, .int .i64 0, .int .i64 0, .bool true, .bool false, .bool true] 70) = wB at *
  generalize wA.heap.size = gs at *
  have HBW := Lib.hid (fun W (hb : Below wA.heap.size wA W) => K.out.below.trans (hb.mono K.out.below.size))
  have KRS := Lib.hid (fun W (hb : Below wA.heap.size wA W) => K.out.step hb)
  clear K
  go_wp2
  go_loopg [38] (n + 1) (fun q x wr => ∃ (i : Nat) (s : SpanP), x = .int .i64 i ∧ Hid (Blx wA [(gs, spanCs s, 70)] wr) ∧ Hid (q + i = n + 1 ∧ Span64 s ∧ R = delTold n m l (i * (n + 1)) s))
  case atStart => exact ⟨0, _, by simp, KS, Lib.hid ⟨by omega, ⟨⟨⟨by decide, by decide⟩, ⟨by decide, by decide⟩⟩, ⟨by decide, by decide⟩, ⟨by decide, by decide⟩⟩, by rw [HE.out, Nat.zero_mul]⟩⟩
  case round =>
    clear KS HE
    obtain ⟨i, s, rfl, KS, HG⟩ := hrel
    by_cases hi : i < n + 1
    · have hii : (i : Int) < (n : Int) + 1 := by omega
      have w5 : IntKind.i64.wrap ((i : Int) + 1) = ((i + 1 : Nat) : Int) := by rw [IntWalk.i64_in _ (by omega)]; omega
      go_wp2
      go_loopg [43] (n + 1) (fun q x wr => ∃ (j : Nat) (s : SpanP), x = .int .i64 j ∧ Hid (Blx wA [(gs, spanCs s, 70)] wr) ∧ Hid (q + j = n + 1 ∧ Span64 s ∧ R = delTold n m l (i * (n + 1) + j) s))
      case atStart => exact ⟨0, s, by simp, KS, Lib.hid ⟨by omega, HG.out.2.1, HG.out.2.2⟩⟩
      case round =>
        clear KS
        obtain ⟨j, t, rfl, KS, HG2⟩ := hrel
        by_cases hj : j < n + 1
        · have hjj : (j : Int) < (n : Int) + 1 := by omega
          have w6 : IntKind.i64.wrap ((j : Int) + 1) = ((j + 1 : Nat) : Int) := by rw [IntWalk.i64_in _ (by omega)]; omega
          have HST : Hid (R = (delayStep n m l i j t).bind fun s => delTold n m l (i * (n + 1) + j + 1) s) := Lib.hid (HG2.out.2.2.trans (delTold_step (by omega) (by omega) t))
          have HC2 := Lib.hid (fun W hb => HC.out W hb i j (by omega) (by omega))
          have HAI := Lib.hid (fun W hb => HA.out W hb i (by omega))
          have HAJ := Lib.hid (fun W hb => HA.out W hb j (by omega))
          have HAM := Lib.hid (fun W hb => HA.out W hb (max i j) (by omega))
          have HKK := Lib.hid (fun W => HK.out W i j (by omega) (by omega))
          have HNT2 := Lib.hid (fun w0 W g hne K => HNT.out w0 W g t i j (by omega) (by omega) HG2.out.2.1 hne K)
          have HNF2 := Lib.hid (fun w0 W g hne K => HNF.out w0 W g t i j (by omega) (by omega) HG2.out.2.1 hne K)
          unfold delayStep at HST
          obtain ⟨bb, hbb⟩ : ∃ bb, bb = m i j := ⟨_, rfl⟩
          rw [← hbb] at HC2 HKK HNT2 HNF2 HST
          clear hbb
          obtain ⟨x, hx⟩ : ∃ x, x = clockV l i := ⟨_, rfl⟩
          obtain ⟨y, hy⟩ : ∃ y, y = clockV l j := ⟨_, rfl⟩
          obtain ⟨z, hz⟩ : ∃ z, z = clockV l (max i j) := ⟨_, rfl⟩
          rw [← hx] at HAI HKK HST
          rw [← hy] at HAJ HKK HST
          rw [← hz] at HAM HNT2 HNF2 HST
          clear hx hy hz
          obtain ⟨x1, x2⟩ := x
          obtain ⟨y1, y2⟩ := y
          obtain ⟨z1, z2⟩ := z
          simp only at HAI HAJ HAM HKK HNT2 HNF2
          go_wp2_with fail
          refine (HC2.out _ (HBW.out _ KS.out.below)).mono ?_
          rintro e w' ⟨rfl, rfl⟩
          clear HC2
          by_cases h0 : decide (i = 0) = decide (j = 0)
          · have e0 : (((i : Int) == 0) == ((j : Int) == 0)) = true := by
              have h0 := decide_eq_decide.1 h0
              by_cases q : i = 0
              · have q2 := h0.1 q
                subst q; subst q2; rfl
              · have q2 : ¬ j = 0 := fun h => q (h0.2 h)
                rw [show ((i : Int) == 0) = false by simp; omega, show ((j : Int) == 0) = false by simp; omega]; rfl
            obtain ⟨kb, hkb⟩ : ∃ q, q = keepsQ (x1, x2) (y1, y2) bb := ⟨_, rfl⟩
            rw [if_pos h0, ← hkb] at HST
            rw [← hkb] at HKK
            clear hkb h0
            go_wp2_with fail
            refine (HAI.out _ (HBW.out _ KS.out.below)).mono ?_
            rintro e wa ⟨rfl, hb⟩
            replace KS := Lib.hid (KS.out.step hb)
            clear hb HAI
            go_wp2_with fail
            refine (HAJ.out _ (HBW.out _ KS.out.below)).mono ?_
            rintro e wb ⟨rfl, hb⟩
            replace KS := Lib.hid (KS.out.step hb)
            clear hb HAJ
            go_wp2_with fail
            refine (HKK.out _).mono ?_
            rintro e wc ⟨rfl, hb⟩
            replace KS := Lib.hid (KS.out.step hb)
            clear hb HKK
            cases kb with
            | false =>
              have HE : Hid (R = none) := Lib.hid (HST.out.trans (by rw [if_neg (by decide)]; rfl))
              have KR := Lib.hid (KRS.out _ KS.out.below)
              obtain ⟨⟨c0, c1, c2, c3, c4, c5, c6⟩, f0, f1, f2, f3, f4, f5, f6⟩ := cells7_at KR.out 0 rfl
              replace KR := Lib.hid (cells7_store KR.out 0 rfl (.int .i64 0) (.int .i64 0) (.int .i64 0) (.int .i64 0) (.bool false) (.bool false) (.bool false))
              simp only [List.set_cons_zero] at KR
              go_wp2
              generalize World.setCell _ _ _ = wz at *
              refine bodyPost_ret (results_row_tmp (fn := Try.f23) rfl _ _ w.heap.size _ _ _ _ rfl (KR.out.l _ (List.mem_singleton.2 rfl)) Try.underlying70 rfl (by kernel_rfl)) rfl ?_
              exact ⟨by rw [HE.out]; rfl, KR.out.below⟩
            | true =>
              have HE : Hid (R = delTold n m l (i * (n + 1) + (j + 1)) t) := Lib.hid (HST.out.trans (by rw [if_pos rfl]; rfl))
              go_wp2
              go_roundg (gk - 1)
              case measure => have h := HG2.out.1; omega
              case rel => exact ⟨j + 1, t, by go_num, KS, Lib.hid ⟨by have h := HG2.out.1; omega, HG2.out.2.1, HE.out⟩⟩
          · have e0 : (((i : Int) == 0) == ((j : Int) == 0)) = false := by
              by_cases q : i = 0
              · have q2 : ¬ j = 0 := fun h => h0 (by rw [decide_eq_true q, decide_eq_true h])
                rw [show ((i : Int) == 0) = true by simp; omega, show ((j : Int) == 0) = false by simp; omega]; rfl
              · have q2 : j = 0 := Classical.byContradiction fun h => h0 (by rw [decide_eq_false q, decide_eq_false h])
                rw [show ((i : Int) == 0) = false by simp; omega, show ((j : Int) == 0) = true by simp; omega]; rfl
            rw [if_neg h0] at HST
            by_cases hinf : bb = 2147483647
            · have e1 : (bb == 2147483647) = true := by simp [hinf]
              have HE : Hid (R = delTold n m l (i * (n + 1) + (j + 1)) t) := Lib.hid (HST.out.trans (by rw [if_pos hinf]; rfl))
              clear hinf h0
              go_wp2
              go_roundg (gk - 1)
              case measure => have h := HG2.out.1; omega
              case rel => exact ⟨j + 1, t, by go_num, KS, Lib.hid ⟨by have h := HG2.out.1; omega, HG2.out.2.1, HE.out⟩⟩
            · have e1 : (bb == 2147483647) = false := by simp [hinf]
              rw [if_neg hinf] at HST
              have em : max (i : Int) (j : Int) = ((max i j : Nat) : Int) := by omega
              have HNT2 := Lib.hid (fun w0 W g K => HNT2.out w0 W g hinf K)
              have HNF2 := Lib.hid (fun w0 W g K => HNF2.out w0 W g hinf K)
              have HNN := Lib.hid (fun W (K : Blx wA [(gs, spanCs t, 70)] W) => show Calls Try.prog 79 #[.pointer (some ⟨gs, 0, none⟩), .agg #[.int .i64 z1, .int .i64 z2], .int .i32 bb, .bool (decide (0 < i))] W (NarEnds wA gs t (narrowP t (z1, z2) bb (decide (0 < i)))) from by
                by_cases q : i = 0
                · rw [decide_eq_false (show ¬ 0 < i by omega)]; exact HNF2.out wA W gs K
                · rw [decide_eq_true (show 0 < i by omega)]; exact HNT2.out wA W gs K)
              have H64 := Lib.hid (fun s' h => span64_narrow (s' := s') (above := decide (0 < i)) (x := (z1, z2)) (b := bb) HG2.out.2.1 h)
              obtain ⟨o, ho⟩ : ∃ o, o = narrowP t (z1, z2) bb (decide (0 < i)) := ⟨_, rfl⟩
              rw [← ho] at HNN HST
              replace H64 := Lib.hid (fun s' (h : o = some s') => H64.out s' (by rw [← ho]; exact h))
              clear hinf h0 ho HNT2 HNF2
              go_wp2_with fail
              refine (HAM.out _ (HBW.out _ KS.out.below)).mono ?_
              rintro e wa ⟨rfl, hb⟩
              replace KS := Lib.hid (KS.out.step hb)
              clear hb HAM
              go_wp2_with fail
              refine (HNN.out _ KS.out).mono ?_
              rintro e wn h
              cases o with
              | none =>
                obtain ⟨rfl, KS⟩ := h
                have HE : Hid (R = none) := Lib.hid HST.out
                have KR := Lib.hid (KRS.out _ KS.below)
                obtain ⟨⟨c0, c1, c2, c3, c4, c5, c6⟩, f0, f1, f2, f3, f4, f5, f6⟩ := cells7_at KR.out 0 rfl
                replace KR := Lib.hid (cells7_store KR.out 0 rfl (.int .i64 0) (.int .i64 0) (.int .i64 0) (.int .i64 0) (.bool false) (.bool false) (.bool false))
                simp only [List.set_cons_zero] at KR
                go_wp2
                generalize World.setCell _ _ _ = wz at *
                refine bodyPost_ret (results_row_tmp (fn := Try.f23) rfl _ _ w.heap.size _ _ _ _ rfl (KR.out.l _ (List.mem_singleton.2 rfl)) Try.underlying70 rfl (by kernel_rfl)) rfl ?_
                exact ⟨by rw [HE.out]; rfl, KR.out.below⟩
              | some t' =>
                obtain ⟨rfl, KS⟩ := h
                have HE : Hid (R = delTold n m l (i * (n + 1) + (j + 1)) t') := Lib.hid HST.out
                have KS := Lib.hid KS
                go_wp2
                go_roundg (gk - 1)
                case measure => have h := HG2.out.1; omega
                case rel => exact ⟨j + 1, t', by go_num, KS, Lib.hid ⟨by have h := HG2.out.1; omega, H64.out t' rfl, HE.out⟩⟩
        · have hjj : ¬ (j : Int) < (n : Int) + 1 := by omega
          have HE : Hid (R = delTold n m l ((i + 1) * (n + 1)) t) := Lib.hid (by
            have h := HG2.out.2.2
            rw [show i * (n + 1) + j = (i + 1) * (n + 1) by rw [Nat.succ_mul]; have := HG2.out.1; omega] at h
            exact h)
          go_wp2
          go_roundg (n - i)
          case measure => have h := HG.out.1; omega
          case rel => exact ⟨i + 1, t, by go_num, KS, Lib.hid ⟨by have h := HG.out.1; omega, HG2.out.2.1, HE.out⟩⟩
    · have hii : ¬ (i : Int) < (n : Int) + 1 := by omega
      have HE : Hid (R = if spanEnd s = true then some s else none) := Lib.hid (by
        have h := HG.out.2.2
        rw [show i = n + 1 by have := HG.out.1; omega, delTold_end] at h
        exact h)
      have S64 := Lib.hid HG.out.2.1
      obtain ⟨⟨a1, a2⟩, ⟨h1, h2⟩, li, hi', ev⟩ := s
      have HCM := Lib.hid (fun W => compare_any a1 a2 h1 h2 S64.out.1.1 S64.out.1.2 S64.out.2.1 S64.out.2.2 W)
      have HSE : Hid (spanEnd ⟨(a1, a2), (h1, h2), li, hi', ev⟩ = (ev || (!decide (0 < cmpP (a1, a2) (h1, h2)) && (!decide (cmpP (a1, a2) (h1, h2) = 0) || (li && hi'))))) := Lib.hid rfl
      obtain ⟨cc, hcc⟩ : ∃ cc, cc = cmpP (a1, a2) (h1, h2) := ⟨_, rfl⟩
      rw [← hcc] at HCM HSE
      clear HG S64 hcc HC HA HK HNT HNF
      cases ev with
      | true =>
        have HE : Hid (R = some ⟨(a1, a2), (h1, h2), li, hi', true⟩) := Lib.hid (by rw [HE.out, HSE.out]; rfl)
        have KR := Lib.hid (KRS.out _ KS.out.below)
        obtain ⟨⟨c0, c1, c2, c3, c4, c5, c6⟩, f0, f1, f2, f3, f4, f5, f6⟩ := cells7_at KR.out 0 rfl
        obtain ⟨⟨k0, k1, k2, k3, k4, k5, k6⟩, _⟩ := cells7_at (a0 := .int .i64 a1) (a1 := .int .i64 a2) (a2 := .int .i64 h1) (a3 := .int .i64 h2) (a4 := .bool li) (a5 := .bool hi') (a6 := .bool true) KS.out 0 rfl
        replace KR := Lib.hid (cells7_store KR.out 0 rfl (.int .i64 a1) (.int .i64 a2) (.int .i64 h1) (.int .i64 h2) (.bool li) (.bool hi') (.bool true))
        simp only [List.set_cons_zero] at KR
        go_wp2
        generalize World.setCell _ _ _ = wz at *
        refine bodyPost_ret (results_row_tmp (fn := Try.f23) rfl _ _ w.heap.size _ _ _ _ rfl (KR.out.l _ (List.mem_singleton.2 rfl)) Try.underlying70 rfl (by kernel_rfl)) rfl ?_
        exact ⟨by rw [HE.out]; rfl, KR.out.below⟩
      | false =>
        obtain ⟨⟨k0, k1, k2, k3, k4, k5, k6⟩, _⟩ := cells7_at (a0 := .int .i64 a1) (a1 := .int .i64 a2) (a2 := .int .i64 h1) (a3 := .int .i64 h2) (a4 := .bool li) (a5 := .bool hi') (a6 := .bool false) KS.out 0 rfl
        go_wp2_with fail
        refine (HCM.out _).mono ?_
        rintro e wc ⟨rfl, hb⟩
        replace KS := Lib.hid (KS.out.step hb)
        clear hb HCM k0 k1 k2 k3 k4 k5 k6
        have KR := Lib.hid (KRS.out _ KS.out.below)
        obtain ⟨⟨c0, c1, c2, c3, c4, c5, c6⟩, f0, f1, f2, f3, f4, f5, f6⟩ := cells7_at KR.out 0 rfl
        obtain ⟨⟨k0, k1, k2, k3, k4, k5, k6⟩, _⟩ := cells7_at (a0 := .int .i64 a1) (a1 := .int .i64 a2) (a2 := .int .i64 h1) (a3 := .int .i64 h2) (a4 := .bool li) (a5 := .bool hi') (a6 := .bool false) KS.out 0 rfl
        by_cases q1 : 0 < cc
        · have t1 : decide (0 < cc) = true := decide_eq_true q1
          have HE : Hid (R = none) := Lib.hid (by rw [HE.out, HSE.out, t1]; rfl)
          clear q1 HSE
          replace KR := Lib.hid (cells7_store KR.out 0 rfl (.int .i64 0) (.int .i64 0) (.int .i64 0) (.int .i64 0) (.bool false) (.bool false) (.bool false))
          simp only [List.set_cons_zero] at KR
          go_wp2
          generalize World.setCell _ _ _ = wz at *
          refine bodyPost_ret (results_row_tmp (fn := Try.f23) rfl _ _ w.heap.size _ _ _ _ rfl (KR.out.l _ (List.mem_singleton.2 rfl)) Try.underlying70 rfl (by kernel_rfl)) rfl ?_
          exact ⟨by rw [HE.out]; rfl, KR.out.below⟩
        · have t1 : decide (0 < cc) = false := decide_eq_false q1
          by_cases q2 : cc = 0
          · subst q2
            clear q1
            cases li with
            | false =>
              have HE : Hid (R = none) := Lib.hid (by rw [HE.out, HSE.out]; rfl)
              clear HSE
              replace KR := Lib.hid (cells7_store KR.out 0 rfl (.int .i64 0) (.int .i64 0) (.int .i64 0) (.int .i64 0) (.bool false) (.bool false) (.bool false))
              simp only [List.set_cons_zero] at KR
              go_wp2
              generalize World.setCell _ _ _ = wz at *
              refine bodyPost_ret (results_row_tmp (fn := Try.f23) rfl _ _ w.heap.size _ _ _ _ rfl (KR.out.l _ (List.mem_singleton.2 rfl)) Try.underlying70 rfl (by kernel_rfl)) rfl ?_
              exact ⟨by rw [HE.out]; rfl, KR.out.below⟩
            | true =>
              cases hi' with
              | false =>
                have HE : Hid (R = none) := Lib.hid (by rw [HE.out, HSE.out]; rfl)
                clear HSE
                replace KR := Lib.hid (cells7_store KR.out 0 rfl (.int .i64 0) (.int .i64 0) (.int .i64 0) (.int .i64 0) (.bool false) (.bool false) (.bool false))
                simp only [List.set_cons_zero] at KR
                go_wp2
                generalize World.setCell _ _ _ = wz at *
                refine bodyPost_ret (results_row_tmp (fn := Try.f23) rfl _ _ w.heap.size _ _ _ _ rfl (KR.out.l _ (List.mem_singleton.2 rfl)) Try.underlying70 rfl (by kernel_rfl)) rfl ?_
                exact ⟨by rw [HE.out]; rfl, KR.out.below⟩
              | true =>
                have HE : Hid (R = some ⟨(a1, a2), (h1, h2), true, true, false⟩) := Lib.hid (by rw [HE.out, HSE.out]; rfl)
                clear HSE
                replace KR := Lib.hid (cells7_store KR.out 0 rfl (.int .i64 a1) (.int .i64 a2) (.int .i64 h1) (.int .i64 h2) (.bool true) (.bool true) (.bool false))
                simp only [List.set_cons_zero] at KR
                go_wp2
                generalize World.setCell _ _ _ = wz at *
                refine bodyPost_ret (results_row_tmp (fn := Try.f23) rfl _ _ w.heap.size _ _ _ _ rfl (KR.out.l _ (List.mem_singleton.2 rfl)) Try.underlying70 rfl (by kernel_rfl)) rfl ?_
                exact ⟨by rw [HE.out]; rfl, KR.out.below⟩
          · have t2 : (cc == 0) = false := by simp [q2]
            have HE : Hid (R = some ⟨(a1, a2), (h1, h2), li, hi', false⟩) := Lib.hid (by rw [HE.out, HSE.out, t1, decide_eq_false q2]; rfl)
            clear q1 q2 HSE
            replace KR := Lib.hid (cells7_store KR.out 0 rfl (.int .i64 a1) (.int .i64 a2) (.int .i64 h1) (.int .i64 h2) (.bool li) (.bool hi') (.bool false))
            simp only [List.set_cons_zero] at KR
            go_wp2
            generalize World.setCell _ _ _ = wz at *
            refine bodyPost_ret (results_row_tmp (fn := Try.f23) rfl _ _ w.heap.size _ _ _ _ rfl (KR.out.l _ (List.mem_singleton.2 rfl)) Try.underlying70 rfl (by kernel_rfl)) rfl ?_
            exact ⟨by rw [HE.out]; rfl, KR.out.below⟩
/-- Delays of a zone that is there, of a valuation that may be one. -/
theorem delays_any (v : Value) (n : Nat) (m : Mat) (A : Option Addr) (c : Nat) (l : List (Int × Int)) (w : World) (hz : ZoneV 108 w v (some (n, m))) (hk : m = (fun _ _ => 0) ∨ ClosedZ n m) (hI : RatsA w A l) (h64 : All64v l) (hv : rightV l = true) (hl : l.length = n) :
    Calls Try.prog 23 #[v, .slice A l.length c] w (DelEnds w (delaysP n m l)) := by
  obtain ⟨b, e, hn, hr, hm⟩ := hz
  subst e
  rcases hk with rfl | hc
  · have he : emptyP (some (n, fun _ _ => 0)) = true := by show decide ((0 : Int) < 1) = true; decide
    have hd : delaysP n (fun _ _ => 0) l = none := by
      unfold delaysP
      rw [if_neg (by intro h; exact absurd h.2.2 (by decide))]
    rw [hd]
    exact delays_empty b n _ A c l w hn hm he hI h64 hv hl
  · exact delays_zone b n m A c l w hn hm hr hc.full.notEmpty hI h64 hv hl

end Go.Proofs.Ytfegongaflekiaa

/- What live tells of points, whatever is asked. -/
namespace Go.Proofs.Ytfegongaflekiaa
open Go Go.RowKit
set_option linter.unusedVariables false
set_option linter.unusedSimpArgs false

theorem some_of6 {r : Option Mat × Int} (h1 : r.1.isSome = true) (h2 : r.2 = 0) : r = (some (r.1.getD fun _ _ => 0), 0) := by
  obtain ⟨a, b⟩ := r
  cases a
  · cases h1
  · simp only at h2; subst h2; rfl
def lp0 : Mat := (limP 1 [(1, 0, 16), (0, 1, -14)]).1.getD fun _ _ => 0
theorem lp0_is : limP 1 [(1, 0, 16), (0, 1, -14)] = (some lp0, 0) := some_of6 (by decide +kernel) (by decide +kernel)
theorem lp0_closed : ClosedZ 1 lp0 := by
  have h1 : ∀ i, i < 2 → ∀ j, j < 2 → rightB (lp0 i j) = true := by decide +kernel
  have h2 : ∀ i, i < 2 → lp0 i i = 1 := by decide +kernel
  have h3 : ∀ j, j < 2 → lp0 0 j ≤ 1 := by decide +kernel
  have h4 : ∀ q, q < 2 → ∀ i, i < 2 → ∀ j, j < 2 → widW lp0 i j ≤ wsum (widW lp0 i q) (widW lp0 q j) := by decide +kernel
  exact ⟨⟨fun i j hi hj => h1 i (by omega) j (by omega), fun i hi => h2 i (by omega), fun j hj => h3 j (by omega)⟩, fun q hq i j hi hj => h4 q hq i (by omega) j (by omega)⟩
theorem lp0_least : leastA (some (1, lp0)) = ([(15, 2)], 0) := by decide +kernel
theorem lp0_in : inZ (some (1, lp0)) [(15, 2)] = true := by decide +kernel
theorem some_span {o : Option SpanP} {s : SpanP} (h : (o.map fun t => (t.lo, t.hi, t.loIn, t.hiIn, t.ever)) = some (s.lo, s.hi, s.loIn, s.hiIn, s.ever)) : o = some s := by
  cases o with
  | none => cases h
  | some t =>
    obtain ⟨a, b, c, d, e⟩ := t
    obtain ⟨a', b', c', d', e'⟩ := s
    simp only [Option.map_some, Option.some.injEq, Prod.mk.injEq] at h
    obtain ⟨rfl, rfl, rfl, rfl, rfl⟩ := h
    rfl
theorem lp0_delays : delaysP 1 lp0 [(7, 1)] = some ⟨(0, 1), (1, 1), false, false, false⟩ := some_span (by decide +kernel)
theorem lims_two (w : World) (e : TypeId) (a b c a' b' c' : Int) : Lims (w.alloc (.cells #[.int .i64 a, .int .i64 b, .int .i32 c, .int .i64 a', .int .i64 b', .int .i32 c'] e (0, 0))) (some ⟨w.heap.size, 0, none⟩) [(a, b, c), (a', b', c')] := by
  have h1 := heap_alloc_new w (.cells #[.int .i64 a, .int .i64 b, .int .i32 c, .int .i64 a', .int .i64 b', .int .i32 c'] e (0, 0))
  intro j hj
  have e0 : j = 0 ∨ j = 1 := by simp at hj; omega
  rcases e0 with rfl | rfl <;> refine ⟨w.heap.size, 0, rfl, ?_, ?_, ?_⟩ <;> (unfold World.cell?; rw [h1]; rfl)
theorem rats_one (w : World) (e : TypeId) (x y : Int) : RatsA (w.alloc (.cells #[.int .i64 x, .int .i64 y] e (0, 0))) (some ⟨w.heap.size, 0, none⟩) [(x, y)] := fun j hj => by
  have h0 : j = 0 := by simpa using hj
  subst h0
  have h1 := heap_alloc_new w (.cells #[.int .i64 x, .int .i64 y] e (0, 0))
  refine ⟨w.heap.size, 0, rfl, ?_, ?_⟩ <;> (unfold World.cell?; rw [h1]; rfl)
theorem one64 {x y : Int} (hx : I64 x) (hy : I64 y) : All64v [(x, y)] := fun j hj => by
  have h0 : j = 0 := by simpa using hj
  subst h0
  exact ⟨hx, hy⟩

set_option maxRecDepth 100000 in
set_option maxHeartbeats 4000000 in
theorem live06_any (w : World) : Calls Try.prog 11 #[] w fun e w' => e = .returned (.bool true) ∧ Below w.heap.size w w' := by
  have HL := Lib.hid (fun A c w hI => limits_any 1 A c [(1, 0, 16), (0, 1, -14)] w hI (by simp) (fun q hq => by
    have : q = 0 ∨ q = 1 := by simp at hq; omega
    rcases this with rfl | rfl <;> decide))
  rw [lp0_is] at HL
  have HLE := Lib.hid (fun v w h => least_any v (some (1, lp0)) w h (fun n m e => by cases e; exact .inr lp0_closed))
  rw [lp0_least] at HLE
  have HDE := Lib.hid (fun v A c w h hI => delays_any v 1 lp0 A c [(7, 1)] w h (.inr lp0_closed) hI (one64 ⟨by decide, by decide⟩ ⟨by decide, by decide⟩) (by decide) rfl)
  rw [lp0_delays] at HDE
  have HIN := Lib.hid (fun v A c w h hI => in_any v (some (1, lp0)) A c [(15, 2)] w h hI (by decide) (one64 ⟨by decide, by decide⟩ ⟨by decide, by decide⟩))
  rw [lp0_in] at HIN
  go_enter Try.func11, Try.ntmps11
  go_wp2_with fail
  have HB0 := Lib.hid ((Below.refl w.heap.size w).alloc (Nat.le_refl _) (.cells #[.int .i64 1, .int .i64 0, .int .i32 16, .int .i64 0, .int .i64 1, .int .i32 (-14)] 95))
  have HL0 := Lib.hid (lims_two w 95 1 0 16 0 1 (-14))
  generalize w.alloc (.cells #[.int .i64 1, .int .i64 0, .int .i32 16, .int .i64 0, .int .i64 1, .int .i32 (-14)] 95) = w0 at *
  refine (HL.out _ _ _ HL0.out).mono ?_
  rintro e w1 ⟨hb, v, rfl, hv⟩
  have HB1 := Lib.hid (HB0.out.trans (hb.mono HB0.out.size))
  have HV1 := Lib.hid (show ZoneV 108 w1 v (some (1, lp0)) from hv)
  obtain ⟨b1, e1, _⟩ := hv
  subst e1
  clear hb HB0 HL0 HL
  go_wp2_with fail
  refine (HLE.out _ _ HV1.out).mono ?_
  rintro e w2 ⟨v2, rfl, hq⟩
  replace HV1 := Lib.hid (HV1.out.below hq.1)
  replace HB1 := Lib.hid (HB1.out.trans (hq.1.mono HB1.out.size))
  obtain ⟨A2, c2, rfl, hr2⟩ := hq.rats
  have HR2 := Lib.hid hr2
  clear hq hr2 HLE
  go_wp2_with fail
  have HR3 := Lib.hid (rats_one w2 59 7 1)
  have HB3 := Lib.hid (below_one w2 (.cells #[.int .i64 7, .int .i64 1] 59))
  replace HV1 := Lib.hid (HV1.out.below HB3.out)
  replace HR2 := Lib.hid (HR2.out.below HB3.out)
  replace HB1 := Lib.hid (HB1.out.trans (HB3.out.mono HB1.out.size))
  generalize w2.alloc (.cells #[.int .i64 7, .int .i64 1] 59) = w3 at *
  refine (HDE.out _ _ _ _ HV1.out HR3.out).mono ?_
  rintro e w4 ⟨he, hb⟩
  simp only [spanCs, Option.getD_some, Option.isSome_some] at he
  subst he
  replace HV1 := Lib.hid (HV1.out.below hb)
  replace HR2 := Lib.hid (HR2.out.below hb)
  replace HB1 := Lib.hid (HB1.out.trans (hb.mono HB1.out.size))
  clear hb HB3 HR3 HDE
  go_upto_region 6 with fail
  have HB5 := Lib.hid (below_one w4 (.cells #[.int .i64 0, .int .i64 1, .int .i64 1, .int .i64 1, .bool false, .bool false, .bool false] 70))
  have K := Lib.hid ((Blx.start w4).new #[.int .i64 0, .int .i64 1, .int .i64 1, .int .i64 1, .bool false, .bool false, .bool false] 70)
  replace HV1 := Lib.hid (HV1.out.below HB5.out)
  replace HR2 := Lib.hid (HR2.out.below HB5.out)
  replace HB1 := Lib.hid (HB1.out.trans (HB5.out.mono HB1.out.size))
  generalize w4.alloc (.cells #[.int .i64 0, .int .i64 1, .int .i64 1, .int .i64 1, .bool false, .bool false, .bool false] 70) = w5 at *
  simp only [List.nil_append] at K
  generalize w4.heap.size = g5 at *
  obtain ⟨b2, off, rfl, k1, k2⟩ := HR2.out 0 (by decide)
  rw [show off + 0 * 2 = off by omega] at k1 k2
  go_wp2_with fail
  refine (HIN.out _ _ _ _ HV1.out HR2.out).mono ?_
  rintro e w6 ⟨rfl, hb⟩
  replace K := Lib.hid (K.out.step hb)
  replace HB1 := Lib.hid (HB1.out.trans (hb.mono HB1.out.size))
  clear hb HIN k1 k2
  obtain ⟨⟨c0, c1, c2, c3, c4, c5, c6⟩, _⟩ := cells7_at K.out 0 rfl
  go_wp2
  go_ret
  exact ⟨rfl, HB1.out⟩

end Go.Proofs.Ytfegongaflekiaa

/- Numbers of two words, as the document reckons with them. -/
namespace Go.Proofs.Ytfegongaflekiaa
open Go Go.RowKit
set_option linter.unusedVariables false
set_option linter.unusedSimpArgs false

set_option maxRecDepth 100000 in
set_option maxHeartbeats 1000000 in
theorem dminus_any (s t : Nat) (h : t ≤ s) (hs : s < 340282366920938463463374607431768211456) (w : World) : Calls Try.prog 134 #[szV s, szV t] w fun e w' => e = .returned (szV (s - t)) ∧ Below w.heap.size w w' := by
  obtain ⟨a1, a2⟩ := hi_range (n := s) (by omega)
  obtain ⟨b1, b2⟩ := hi_range (n := t) (by omega)
  obtain ⟨c1, c2⟩ := lo_range s
  obtain ⟨d1, d2⟩ := lo_range t
  obtain ⟨k0, k1⟩ := bor_range (loN s) (loN t)
  have e1 := less_lo s t h
  have e2 := less_hi s t h hs
  unfold szV
  go_enter Try.func134, Try.ntmps134
  go_wp2_with (first | simp only [sub64_0 (loN s) (loN t) c1 d1 d2] | simp only [sub64 (hiN s) (hiN t) _ a1 b1 b2 k0 k1])
  simp [bodyPost, results, Try.results134, go_sem]
  exact below_three w _ _ _

theorem below_words (s t : Nat) : (s < t) ↔ (hiN s < hiN t ∨ (hiN s = hiN t ∧ loN s < loN t)) := by
  have h1 := hi_lo s
  have h2 := hi_lo t
  have h3 := lo_range s
  have h4 := lo_range t
  omega
set_option maxRecDepth 100000 in
set_option maxHeartbeats 1000000 in
theorem dbelow_any (s t : Nat) (w : World) : Calls Try.prog 83 #[szV s, szV t] w fun e w' => e = .returned (.bool (decide (s < t))) ∧ Below w.heap.size w w' := by
  have hb := below_words s t
  unfold szV
  by_cases h1 : hiN s < hiN t
  · rw [decide_eq_true (hb.2 (.inl h1))]
    have d1 : decide (hiN s < hiN t) = true := decide_eq_true h1
    clear hb
    generalize hiN s = a at *
    generalize loN s = b at *
    generalize hiN t = c at *
    generalize loN t = d at *
    go_enter Try.func83, Try.ntmps83
    go_wp2
    go_ret
    exact ⟨rfl, below_two w _ _⟩
  · have d1 : decide (hiN s < hiN t) = false := decide_eq_false h1
    by_cases h2 : hiN s = hiN t
    · have d2 : (hiN s == hiN t) = true := by simp [h2]
      by_cases h3 : loN s < loN t
      · rw [decide_eq_true (hb.2 (.inr ⟨h2, h3⟩))]
        have d3 : decide (loN s < loN t) = true := decide_eq_true h3
        clear hb h2
        generalize hiN s = a at *
        generalize loN s = b at *
        generalize hiN t = c at *
        generalize loN t = d at *
        go_enter Try.func83, Try.ntmps83
        go_wp2
        go_ret
        exact ⟨rfl, below_two w _ _⟩
      · rw [decide_eq_false (fun h => by rcases hb.1 h with h | h; exact h1 h; exact h3 h.2)]
        have d3 : decide (loN s < loN t) = false := decide_eq_false h3
        clear hb h2
        generalize hiN s = a at *
        generalize loN s = b at *
        generalize hiN t = c at *
        generalize loN t = d at *
        go_enter Try.func83, Try.ntmps83
        go_wp2
        go_ret
        exact ⟨rfl, below_two w _ _⟩
    · rw [decide_eq_false (fun h => by rcases hb.1 h with h | h; exact h1 h; exact h2 h.1)]
      have d2 : (hiN s == hiN t) = false := by simp [h2]
      clear hb
      generalize hiN s = a at *
      generalize loN s = b at *
      generalize hiN t = c at *
      generalize loN t = d at *
      go_enter Try.func83, Try.ntmps83
      go_wp2
      go_ret
      exact ⟨rfl, below_two w _ _⟩
set_option maxRecDepth 100000 in
set_option maxHeartbeats 1000000 in
theorem dmul_any (x y : Nat) (hx : x < 18446744073709551616) (hy : y < 18446744073709551616) (w : World) : Calls Try.prog 81 #[.int .u64 x, .int .u64 y] w fun e w' => e = .returned (szV (x * y)) ∧ Below w.heap.size w w' := by
  have HM : Hid (∀ W, Calls Try.prog 109 #[.int .u64 x, .int .u64 y] W fun e w' => e = .returned (.tuple #[.int .u64 (hiN (x * y)), .int .u64 (loN (x * y))]) ∧ W = w') := Lib.hid (fun W => mul64_any x y hx hy W)
  generalize x * y = P at *
  clear hx hy
  unfold szV
  go_enter Try.func81, Try.ntmps81
  go_wp2_with (refine (HM.out _).mono ?_; rintro e w1 ⟨rfl, rfl⟩)
  simp [bodyPost, results, Try.results81, go_sem]
  first | exact below_one w _ | exact ⟨rfl, below_one w _⟩
set_option maxRecDepth 100000 in
set_option maxHeartbeats 1000000 in
theorem dsize_any (n : Int) (h0 : -9223372036854775808 ≤ n) (h1 : n ≤ 9223372036854775807) (w : World) : Calls Try.prog 82 #[.int .i64 n] w fun e w' => e = .returned (.int .u64 (n.natAbs : Int)) ∧ w = w' := by
  by_cases hn : n < 0
  · have e1 : decide (n < 0) = true := decide_eq_true hn
    have e2 : IntKind.u64.wrap (-IntKind.u64.wrap n) = (n.natAbs : Int) := by rw [IntKind.wrap_u64, IntKind.wrap_u64]; omega
    obtain ⟨m, hm⟩ : ∃ m : Int, m = (n.natAbs : Int) := ⟨_, rfl⟩
    rw [← hm] at e2 ⊢
    clear hm
    go_enter Try.func82, Try.ntmps82
    go_wp2
    go_ret
    exact ⟨rfl, rfl⟩
  · have e1 : decide (n < 0) = false := decide_eq_false hn
    have e2 : IntKind.u64.wrap n = (n.natAbs : Int) := by rw [IntKind.wrap_u64]; omega
    obtain ⟨m, hm⟩ : ∃ m : Int, m = (n.natAbs : Int) := ⟨_, rfl⟩
    rw [← hm] at e2 ⊢
    clear hm
    go_enter Try.func82, Try.ntmps82
    go_wp2
    go_ret
    exact ⟨rfl, rfl⟩

/-- The blocks of a division while it goes on. -/
structure OdR (w0 : World) (gt g0 g1 gq gr : Nat) (s t q r : Nat) (wr : World) : Prop where
  below : Below w0.heap.size w0 wr
  ne : w0.heap.size < gt ∧ gt < g0 ∧ g0 < g1 ∧ g1 < gq ∧ gq < gr
  hs : wr.heap[w0.heap.size]? = some (.cells #[.int .u64 (hiN s), .int .u64 (loN s)] 128)
  ht : wr.heap[gt]? = some (.cells #[.int .u64 (hiN t), .int .u64 (loN t)] 128)
  h0 : wr.heap[g0]? = some (.cells #[.int .u64 0, .int .u64 0] 128)
  h1 : wr.heap[g1]? = some (.cells #[.int .u64 0, .int .u64 0] 128)
  hq : wr.heap[gq]? = some (.cells #[.int .u64 (hiN q), .int .u64 (loN q)] 128)
  hr : wr.heap[gr]? = some (.cells #[.int .u64 (hiN r), .int .u64 (loN r)] 128)
section
variable {w0 wr w' : World} {gt g0 g1 gq gr s t q r : Nat}
theorem OdR.step (h : OdR w0 gt g0 g1 gq gr s t q r wr) (hb : Below wr.heap.size wr w') : OdR w0 gt g0 g1 gq gr s t q r w' :=
  ⟨h.below.trans (hb.mono h.below.size), h.ne, (hb.block _ (heap_lt2 h.hs)).trans h.hs, (hb.block _ (heap_lt2 h.ht)).trans h.ht, (hb.block _ (heap_lt2 h.h0)).trans h.h0, (hb.block _ (heap_lt2 h.h1)).trans h.h1, (hb.block _ (heap_lt2 h.hq)).trans h.hq, (hb.block _ (heap_lt2 h.hr)).trans h.hr⟩
theorem OdR.drew (h : OdR w0 gt g0 g1 gq gr s t q r wr) : OdR w0 gt g0 g1 gq gr s t q r wr.drew := ⟨Below.drew h.below, h.ne, h.hs, h.ht, h.h0, h.h1, h.hq, h.hr⟩
theorem OdR.setR (h : OdR w0 gt g0 g1 gq gr s t q r wr) (x : Nat) : OdR w0 gt g0 g1 gq gr s t q x (wr.setRow gr #[.int .u64 (hiN x), .int .u64 (loN x)]) := by
  have hn := h.ne
  exact ⟨below_row h.below (by omega) _, hn, row_other _ h.hs (by omega), row_other _ h.ht (by omega), row_other _ h.h0 (by omega), row_other _ h.h1 (by omega), row_other _ h.hq (by omega), setRow_heap _ _ _ _ _ _ h.hr⟩
theorem OdR.setRlo (h : OdR w0 gt g0 g1 gq gr s t q r wr) (x : Nat) (y : Int) (hh : hiN r = hiN x) (hy : y = loN x) : OdR w0 gt g0 g1 gq gr s t q x (wr.setCell ⟨gr, 1, none⟩ (.int .u64 y)) := by
  have hn := h.ne
  have h1 := (cell_set h.hr (.int .u64 y)).2
  rw [hh, hy] at h1
  rw [hy]
  exact ⟨h.below.setCell (p := ⟨gr, 1, none⟩) (by show w0.heap.size ≤ gr; omega) _, hn, heap_other _ h.hs (by omega), heap_other _ h.ht (by omega), heap_other _ h.h0 (by omega), heap_other _ h.h1 (by omega), heap_other _ h.hq (by omega), h1⟩
theorem OdR.setQhi (h : OdR w0 gt g0 g1 gq gr s t q r wr) (x : Nat) (y : Int) (hh : loN q = loN x) (hy : y = hiN x) : OdR w0 gt g0 g1 gq gr s t x r (wr.setCell ⟨gq, 0, none⟩ (.int .u64 y)) := by
  have hn := h.ne
  have h1 := (cell_set h.hq (.int .u64 y)).1
  rw [hh, hy] at h1
  rw [hy]
  exact ⟨h.below.setCell (p := ⟨gq, 0, none⟩) (by show w0.heap.size ≤ gq; omega) _, hn, heap_other _ h.hs (by omega), heap_other _ h.ht (by omega), heap_other _ h.h0 (by omega), heap_other _ h.h1 (by omega), h1, heap_other _ h.hr (by omega)⟩
theorem OdR.setQlo (h : OdR w0 gt g0 g1 gq gr s t q r wr) (x : Nat) (y : Int) (hh : hiN q = hiN x) (hy : y = loN x) : OdR w0 gt g0 g1 gq gr s t x r (wr.setCell ⟨gq, 1, none⟩ (.int .u64 y)) := by
  have hn := h.ne
  have h1 := (cell_set h.hq (.int .u64 y)).2
  rw [hh, hy] at h1
  rw [hy]
  exact ⟨h.below.setCell (p := ⟨gq, 1, none⟩) (by show w0.heap.size ≤ gq; omega) _, hn, heap_other _ h.hs (by omega), heap_other _ h.ht (by omega), heap_other _ h.h0 (by omega), heap_other _ h.h1 (by omega), h1, heap_other _ h.hr (by omega)⟩
end
theorem OdR.made (w : World) (s t : Nat) : OdR w (w.heap.size + 1) (w.heap.size + 1 + 1) (w.heap.size + 1 + 1 + 1) (w.heap.size + 1 + 1 + 1 + 1) (w.heap.size + 1 + 1 + 1 + 1 + 1) s t 0 0
    ((((((w.alloc (.cells #[.int .u64 (hiN s), .int .u64 (loN s)] 128)).alloc (.cells #[.int .u64 (hiN t), .int .u64 (loN t)] 128)).alloc (.cells #[.int .u64 0, .int .u64 0] 128)).alloc (.cells #[.int .u64 0, .int .u64 0] 128)).alloc (.cells #[.int .u64 0, .int .u64 0] 128)).alloc (.cells #[.int .u64 0, .int .u64 0] 128)) := by
  have hz : ∀ (w : World) (o : Obj), (w.alloc o).heap.size = w.heap.size + 1 := fun w o => by simp
  have b2 := below_two w (.cells #[.int .u64 (hiN s), .int .u64 (loN s)] 128) (.cells #[.int .u64 (hiN t), .int .u64 (loN t)] 128)
  have b3 := b2.alloc b2.size (.cells #[.int .u64 0, .int .u64 0] 128)
  have b4 := b3.alloc b3.size (.cells #[.int .u64 0, .int .u64 0] 128)
  have b5 := b4.alloc b4.size (.cells #[.int .u64 0, .int .u64 0] 128)
  have b6 := b5.alloc b5.size (.cells #[.int .u64 0, .int .u64 0] 128)
  refine ⟨b6, by omega, ?_, ?_, ?_, ?_, ?_, ?_⟩
  · iterate 5 rw [heap_alloc_old _ _ (by simp only [hz]; omega)]
    exact heap_alloc_new _ _
  · iterate 4 rw [heap_alloc_old _ _ (by simp only [hz]; omega)]
    rw [← hz w (.cells #[.int .u64 (hiN s), .int .u64 (loN s)] 128)]
    exact heap_alloc_new _ _
  · iterate 3 rw [heap_alloc_old _ _ (by simp only [hz]; omega)]
    have h := heap_alloc_new ((w.alloc (.cells #[.int .u64 (hiN s), .int .u64 (loN s)] 128)).alloc (.cells #[.int .u64 (hiN t), .int .u64 (loN t)] 128)) (.cells #[.int .u64 0, .int .u64 0] 128)
    simp only [hz] at h
    exact h
  · iterate 2 rw [heap_alloc_old _ _ (by simp only [hz]; omega)]
    have h := heap_alloc_new (((w.alloc (.cells #[.int .u64 (hiN s), .int .u64 (loN s)] 128)).alloc (.cells #[.int .u64 (hiN t), .int .u64 (loN t)] 128)).alloc (.cells #[.int .u64 0, .int .u64 0] 128)) (.cells #[.int .u64 0, .int .u64 0] 128)
    simp only [hz] at h
    exact h
  · rw [heap_alloc_old _ _ (by simp only [hz]; omega)]
    have h := heap_alloc_new ((((w.alloc (.cells #[.int .u64 (hiN s), .int .u64 (loN s)] 128)).alloc (.cells #[.int .u64 (hiN t), .int .u64 (loN t)] 128)).alloc (.cells #[.int .u64 0, .int .u64 0] 128)).alloc (.cells #[.int .u64 0, .int .u64 0] 128)) (.cells #[.int .u64 0, .int .u64 0] 128)
    simp only [hz] at h
    exact h
  · have h := heap_alloc_new (((((w.alloc (.cells #[.int .u64 (hiN s), .int .u64 (loN s)] 128)).alloc (.cells #[.int .u64 (hiN t), .int .u64 (loN t)] 128)).alloc (.cells #[.int .u64 0, .int .u64 0] 128)).alloc (.cells #[.int .u64 0, .int .u64 0] 128)).alloc (.cells #[.int .u64 0, .int .u64 0] 128)) (.cells #[.int .u64 0, .int .u64 0] 128)
    simp only [hz] at h
    exact h

end Go.Proofs.Ytfegongaflekiaa

/- Division of numbers of two words, as the document does it. -/
namespace Go.Proofs.Ytfegongaflekiaa
open Go Go.RowKit
set_option linter.unusedVariables false
set_option linter.unusedSimpArgs false

def dvQ (s t j : Nat) : Nat := s / 2 ^ j / t
theorem dv_start (s t : Nat) (h : s < 340282366920938463463374607431768211456) : dvQ s t 128 = 0 ∧ ovR s t 128 = 0 := by
  have e : s / 2 ^ 128 = 0 := Nat.div_eq_of_lt (by simpa using h)
  unfold dvQ ovR
  rw [e]
  simp
theorem dv_end (s t : Nat) : dvQ s t 0 = s / t ∧ ovR s t 0 = s % t := by unfold dvQ ovR; simp
theorem dv_le (s t j : Nat) : dvQ s t j ≤ s := Nat.le_trans (Nat.div_le_self _ _) (Nat.div_le_self _ _)
theorem dv_step (s t i : Nat) (ht : 0 < t) :
    (2 * ovR s t (i + 1) + bitN s i < t → ovR s t i = 2 * ovR s t (i + 1) + bitN s i ∧ dvQ s t i = 2 * dvQ s t (i + 1)) ∧
    (¬ 2 * ovR s t (i + 1) + bitN s i < t → ovR s t i = 2 * ovR s t (i + 1) + bitN s i - t ∧ dvQ s t i = 2 * dvQ s t (i + 1) + 1) := rem_step s t i ht
theorem or_one (r : Nat) : bits .or .u64 (loN (2 * r)) 1 = loN (2 * r + 1) ∧ hiN (2 * r) = hiN (2 * r + 1) := low_bit r 1 (by decide)
theorem OdR.setQ {w0 wr : World} {gt g0 g1 gq gr s t q r : Nat} (h : OdR w0 gt g0 g1 gq gr s t q r wr) (x : Nat) : OdR w0 gt g0 g1 gq gr s t x r (wr.setRow gq #[.int .u64 (hiN x), .int .u64 (loN x)]) := by
  have hn := h.ne
  exact ⟨below_row h.below (by omega) _, hn, row_other _ h.hs (by omega), row_other _ h.ht (by omega), row_other _ h.h0 (by omega), row_other _ h.h1 (by omega), setRow_heap _ _ _ _ _ _ h.hq, row_other _ h.hr (by omega)⟩

set_option maxRecDepth 100000 in
set_option maxHeartbeats 4000000 in
theorem divide_any (s t : Nat) (hs : s < 340282366920938463463374607431768211456) (ht0 : 0 < t) (ht : t ≤ 170141183460469231731687303715884105728) (w : World) :
    Calls Try.prog 123 #[szV s, szV t] w fun e w' => e = .returned (.tuple #[szV (s / t), szV (s % t)]) ∧ Below w.heap.size w w' := by
  have HE := Lib.hid (dv_end s t)
  obtain ⟨q0, r0⟩ := dv_start s t hs
  have HQ := Lib.hid q0
  have HR := Lib.hid r0
  have HS := Lib.hid hs
  clear q0 r0
  unfold szV
  go_enter Try.func123, Try.ntmps123
  go_upto_region 2 with fail
  have HO := Lib.hid (OdR.made w s t)
  generalize ((((((w.alloc (.cells #[.int .u64 (hiN s), .int .u64 (loN s)] 128)).alloc (.cells #[.int .u64 (hiN t), .int .u64 (loN t)] 128)).alloc (.cells #[.int .u64 0, .int .u64 0] 128)).alloc (.cells #[.int .u64 0, .int .u64 0] 128)).alloc (.cells #[.int .u64 0, .int .u64 0] 128)).alloc (.cells #[.int .u64 0, .int .u64 0] 128)) = w1 at *
  obtain ⟨gr, hgr⟩ : ∃ g, g = w.heap.size + 1 + 1 + 1 + 1 + 1 := ⟨_, rfl⟩
  rw [← hgr] at HO ⊢
  obtain ⟨gq, hgq⟩ : ∃ g, g = w.heap.size + 1 + 1 + 1 + 1 := ⟨_, rfl⟩
  rw [← hgq] at HO ⊢
  obtain ⟨g1, hg1⟩ : ∃ g, g = w.heap.size + 1 + 1 + 1 := ⟨_, rfl⟩
  rw [← hg1] at HO ⊢
  obtain ⟨g0, hg0⟩ : ∃ g, g = w.heap.size + 1 + 1 := ⟨_, rfl⟩
  rw [← hg0] at HO ⊢
  obtain ⟨gt, hgt⟩ : ∃ g, g = w.heap.size + 1 := ⟨_, rfl⟩
  rw [← hgt] at HO ⊢
  clear hgr hgq hg1 hg0 hgt
  go_wp2
  go_loopg [8] 128 (fun g v wr => ∃ j : Nat, v = .int .i64 ((j : Int) - 1) ∧ Hid (OdR w gt g0 g1 gq gr s t (dvQ s t j) (ovR s t j) wr) ∧ Hid (j ≤ 128 ∧ g = j))
  case atStart => exact ⟨128, by simp, by rw [HQ.out, HR.out]; exact HO.out, by omega, rfl⟩
  case round =>
    obtain ⟨j, rfl, HV, HJ⟩ := hrel
    by_cases hj : 0 < j
    · obtain ⟨i, rfl⟩ : ∃ i, j = i + 1 := ⟨j - 1, by omega⟩
      have hji : 0 ≤ ((i + 1 : Nat) : Int) - 1 := by omega
      rw [show ((i + 1 : Nat) : Int) - 1 = (i : Int) by omega] at hji ⊢
      have hi127 : i < 128 := by have := HJ.out.1; omega
      have hrt : ovR s t (i + 1) < t := Nat.mod_lt _ ht0
      obtain ⟨hst1, hst2⟩ := dv_step s t i ht0
      have hqle := dv_le s t i
      obtain ⟨r, hr⟩ : ∃ r, r = ovR s t (i + 1) := ⟨_, rfl⟩
      obtain ⟨q, hq⟩ : ∃ q, q = dvQ s t (i + 1) := ⟨_, rfl⟩
      rw [← hr] at HV hrt hst1 hst2
      rw [← hq] at HV hst1 hst2
      have hb2 : bitN s i < 2 := Nat.mod_lt _ (by omega)
      have hq2 : q < 170141183460469231731687303715884105728 := by
        by_cases hc : 2 * r + bitN s i < t
        · have := (hst1 hc).2; omega
        · have := (hst2 hc).2; omega
      have HST := Lib.hid (And.intro hst1 hst2)
      clear hst1 hst2 hr hq hqle
      obtain ⟨lb1, lb2⟩ := low_bit r (bitN s i) hb2
      have e1 := shl_hi r (by omega)
      have e2 : IntKind.u64.wrap (hiN r * 2) = hiN r * 2 := by rw [IntKind.wrap_u64]; unfold hiN; omega
      have e3 : IntKind.u64.wrap (loN r * 2) = loN (2 * r) := by rw [IntKind.wrap_u64]; exact shl_lo r
      have f1 := shl_hi q hq2
      have f2 : IntKind.u64.wrap (hiN q * 2) = hiN q * 2 := by rw [IntKind.wrap_u64]; unfold hiN; omega
      have f3 : IntKind.u64.wrap (loN q * 2) = loN (2 * q) := by rw [IntKind.wrap_u64]; exact shl_lo q
      have et : hiN r / 9223372036854775808 = 0 := by unfold hiN; omega
      have HLB := Lib.hid lb2
      obtain ⟨k1, k2, _, _⟩ := cell_two HV.out.hs
      obtain ⟨k3, k4, _, _⟩ := cell_two HV.out.hr
      obtain ⟨k5, k6, _, _⟩ := cell_two HV.out.hq
      by_cases h64 : 64 ≤ i
      · have dd : decide (64 ≤ (i : Int)) = true := decide_eq_true (by omega)
        have dm : 64 ≤ (i : Int) := by omega
        have tm : (i : Int).tmod 64 = (i : Int) - 64 := by rw [Int.tmod_eq_emod_of_nonneg (by omega)]; omega
        have pu : IntKind.u64.wrap ((i : Int) - 64) = (i : Int) - 64 := by rw [IntKind.wrap_u64]; omega
        have pn : ((i : Int) - 64).toNat = i - 64 := by omega
        have pw : IntKind.i64.wrap ((i : Int) - 64) = (i : Int) - 64 := IntWalk.i64_in _ (by omega)
        have pa : 0 ≤ (i : Int) - 64 := by omega
        have pb : (i : Int) - 64 ≤ 64 := by omega
        have eb := bit_hi_word s i h64 hs
        go_upto_region 10 with ((refine wpList_store_row rfl 128 _ _ rfl gr _ rfl rfl 128 _ HV.out.hr (by kernel_rfl) rfl (by kernel_rfl) ?_))
        have HV2 := Lib.hid (HV.out.setR (2 * r + bitN s i))

        generalize wr.setRow gr #[.int .u64 (hiN (2 * r + bitN s i)), .int .u64 (loN (2 * r + bitN s i))] = w2 at *
        clear k1 k2 k3 k4 k5 k6 e1 e2 e3 lb1 lb2 HLB HV
        obtain ⟨k5, k6, _, _⟩ := cell_two HV2.out.hq
        go_upto_region 11 with ((refine wpList_store_row rfl 128 _ _ rfl gq _ rfl rfl 128 _ HV2.out.hq (by kernel_rfl) rfl (by kernel_rfl) ?_))
        have HV3 := Lib.hid (HV2.out.setQ (2 * q))
        generalize w2.setRow gq #[.int .u64 (hiN (2 * q)), .int .u64 (loN (2 * q))] = w3 at *
        clear k5 k6 f1 f2 f3 HV2
        obtain ⟨R, hR⟩ : ∃ R, R = 2 * r + bitN s i := ⟨_, rfl⟩
        rw [← hR] at HV3 HST
        have hR2 : R < 340282366920938463463374607431768211456 := by omega
        clear hR
        obtain ⟨c1, c2, _, _⟩ := cell_two HV3.out.hr
        obtain ⟨c3, c4, _, _⟩ := cell_two HV3.out.ht
        go_wp2_with fail
        refine (dbelow_any R t _).mono ?_
        rintro e w4 ⟨rfl, hb⟩
        have HV4 := Lib.hid (HV3.out.step hb)
        clear hb HV3 c1 c2 c3 c4
        by_cases hlt : R < t
        · obtain ⟨n1, n2⟩ := HST.out.1 hlt
          have HV5 := Lib.hid (show OdR w gt g0 g1 gq gr s t (dvQ s t i) (ovR s t i) w4 by rw [n1, n2]; exact HV4.out)
          rw [decide_eq_true hlt]
          clear n1 n2 hlt HV4
          go_wp2_with fail
          go_roundg i
          case measure => have h := HJ.out; omega
          case rel => exact ⟨i, by go_num, HV5.out, by omega, rfl⟩
        · obtain ⟨n1, n2⟩ := HST.out.2 hlt
          have HN := Lib.hid (And.intro n1 n2)
          rw [decide_eq_false hlt]
          clear n1 n2
          go_wp2_with (first | (refine wpList_load_row rfl 128 _ rfl gr rfl 128 _ (0, 0) _ HV4.out.hr Try.underlying128 rfl (by kernel_rfl) ?_) | (refine wpList_load_row rfl 128 _ rfl gt rfl 128 _ (0, 0) _ HV4.out.ht Try.underlying128 rfl (by kernel_rfl) ?_))
          refine (dminus_any R t (by omega) hR2 _).mono ?_
          rintro e w5 ⟨rfl, hb⟩
          have HV5 := Lib.hid (HV4.out.step hb)
          clear hb HV4
          rw [show szV (R - t) = .agg #[.int .u64 (hiN (R - t)), .int .u64 (loN (R - t))] from rfl]
          go_upto_region 13 with ((refine wpList_store_row rfl 128 _ _ rfl gr _ rfl rfl 128 _ HV5.out.hr (by kernel_rfl) rfl (by kernel_rfl) ?_))
          have HV6 := Lib.hid (HV5.out.setR (R - t))
          generalize w5.setRow gr #[.int .u64 (hiN (R - t)), .int .u64 (loN (R - t))] = w6 at *
          clear HV5
          obtain ⟨sh1, sh2⟩ := or_one q
          obtain ⟨k1, k2, k3, k4⟩ := cell_two HV6.out.hq
          have HV7 := Lib.hid (HV6.out.setQlo (2 * q + 1) _ sh2 rfl)
          have HV8 := Lib.hid (show OdR w gt g0 g1 gq gr s t (dvQ s t i) (ovR s t i) _ by rw [HN.out.1, HN.out.2]; exact HV7.out)
          clear sh2 HV7 HV6 HN
          go_wp2_with fail
          go_roundg i
          case measure => have h := HJ.out; omega
          case rel => exact ⟨i, by go_num, HV8.out, by omega, rfl⟩
      · have dd : decide (64 ≤ (i : Int)) = false := decide_eq_false (by omega)
        have dm : ¬ 64 ≤ (i : Int) := by omega
        have tm : (i : Int).tmod 64 = (i : Int) := by rw [Int.tmod_eq_emod_of_nonneg (by omega)]; omega
        have pu : IntKind.u64.wrap (i : Int) = (i : Int) := by rw [IntKind.wrap_u64]; omega
        have pw : IntKind.i64.wrap (i : Int) = (i : Int) := IntWalk.i64_in _ (by omega)
        have pa : 0 ≤ (i : Int) := by omega
        have pb : (i : Int) ≤ 64 := by omega
        have eb := bit_lo_word s i (by omega)
        go_upto_region 10 with ((refine wpList_store_row rfl 128 _ _ rfl gr _ rfl rfl 128 _ HV.out.hr (by kernel_rfl) rfl (by kernel_rfl) ?_))
        have HV2 := Lib.hid (HV.out.setR (2 * r + bitN s i))

        generalize wr.setRow gr #[.int .u64 (hiN (2 * r + bitN s i)), .int .u64 (loN (2 * r + bitN s i))] = w2 at *
        clear k1 k2 k3 k4 k5 k6 e1 e2 e3 lb1 lb2 HLB HV
        obtain ⟨k5, k6, _, _⟩ := cell_two HV2.out.hq
        go_upto_region 11 with ((refine wpList_store_row rfl 128 _ _ rfl gq _ rfl rfl 128 _ HV2.out.hq (by kernel_rfl) rfl (by kernel_rfl) ?_))
        have HV3 := Lib.hid (HV2.out.setQ (2 * q))
        generalize w2.setRow gq #[.int .u64 (hiN (2 * q)), .int .u64 (loN (2 * q))] = w3 at *
        clear k5 k6 f1 f2 f3 HV2
        obtain ⟨R, hR⟩ : ∃ R, R = 2 * r + bitN s i := ⟨_, rfl⟩
        rw [← hR] at HV3 HST
        have hR2 : R < 340282366920938463463374607431768211456 := by omega
        clear hR
        obtain ⟨c1, c2, _, _⟩ := cell_two HV3.out.hr
        obtain ⟨c3, c4, _, _⟩ := cell_two HV3.out.ht
        go_wp2_with fail
        refine (dbelow_any R t _).mono ?_
        rintro e w4 ⟨rfl, hb⟩
        have HV4 := Lib.hid (HV3.out.step hb)
        clear hb HV3 c1 c2 c3 c4
        by_cases hlt : R < t
        · obtain ⟨n1, n2⟩ := HST.out.1 hlt
          have HV5 := Lib.hid (show OdR w gt g0 g1 gq gr s t (dvQ s t i) (ovR s t i) w4 by rw [n1, n2]; exact HV4.out)
          rw [decide_eq_true hlt]
          clear n1 n2 hlt HV4
          go_wp2_with fail
          go_roundg i
          case measure => have h := HJ.out; omega
          case rel => exact ⟨i, by go_num, HV5.out, by omega, rfl⟩
        · obtain ⟨n1, n2⟩ := HST.out.2 hlt
          have HN := Lib.hid (And.intro n1 n2)
          rw [decide_eq_false hlt]
          clear n1 n2
          go_wp2_with (first | (refine wpList_load_row rfl 128 _ rfl gr rfl 128 _ (0, 0) _ HV4.out.hr Try.underlying128 rfl (by kernel_rfl) ?_) | (refine wpList_load_row rfl 128 _ rfl gt rfl 128 _ (0, 0) _ HV4.out.ht Try.underlying128 rfl (by kernel_rfl) ?_))
          refine (dminus_any R t (by omega) hR2 _).mono ?_
          rintro e w5 ⟨rfl, hb⟩
          have HV5 := Lib.hid (HV4.out.step hb)
          clear hb HV4
          rw [show szV (R - t) = .agg #[.int .u64 (hiN (R - t)), .int .u64 (loN (R - t))] from rfl]
          go_upto_region 13 with ((refine wpList_store_row rfl 128 _ _ rfl gr _ rfl rfl 128 _ HV5.out.hr (by kernel_rfl) rfl (by kernel_rfl) ?_))
          have HV6 := Lib.hid (HV5.out.setR (R - t))
          generalize w5.setRow gr #[.int .u64 (hiN (R - t)), .int .u64 (loN (R - t))] = w6 at *
          clear HV5
          obtain ⟨sh1, sh2⟩ := or_one q
          obtain ⟨k1, k2, k3, k4⟩ := cell_two HV6.out.hq
          have HV7 := Lib.hid (HV6.out.setQlo (2 * q + 1) _ sh2 rfl)
          have HV8 := Lib.hid (show OdR w gt g0 g1 gq gr s t (dvQ s t i) (ovR s t i) _ by rw [HN.out.1, HN.out.2]; exact HV7.out)
          clear sh2 HV7 HV6 HN
          go_wp2_with fail
          go_roundg i
          case measure => have h := HJ.out; omega
          case rel => exact ⟨i, by go_num, HV8.out, by omega, rfl⟩
    · obtain rfl : j = 0 := by omega
      have hji : ¬ (0 : Int) ≤ -1 := by omega
      rw [show ((0 : Nat) : Int) - 1 = -1 from rfl]
      rw [HE.out.1, HE.out.2] at HV
      go_upto_region 14 with fail
      obtain ⟨hb, hne, _, _, h0, h1, hq, hr⟩ := HV.out
      obtain ⟨q1, q2, q3, q4⟩ := cell_two hq
      obtain ⟨r1, r2, r3, r4⟩ := cell_two hr
      obtain ⟨a1, a2, a3, a4⟩ := cell_two h0
      obtain ⟨b1, b2, b3, b4⟩ := cell_two h1
      clear hq hr
      have HB := Lib.hid hb
      have H0 := Lib.hid h0
      have H1 := Lib.hid h1
      have n1 : g0 ≠ g1 := by omega
      have n2 : g0 ≠ gq := by omega
      have n3 : g0 ≠ gr := by omega
      have n4 : g1 ≠ gq := by omega
      have n5 : g1 ≠ gr := by omega
      clear hb h0 h1
      go_region
      obtain ⟨W, hW⟩ : ∃ W, W = ((((wr.setCell ⟨g0, 0, none⟩ (.int .u64 (hiN (s / t)))).setCell ⟨g0, 1, none⟩ (.int .u64 (loN (s / t)))).setCell ⟨g1, 0, none⟩ (.int .u64 (hiN (s % t)))).setCell ⟨g1, 1, none⟩ (.int .u64 (loN (s % t)))).drew := ⟨_, rfl⟩
      rw [← hW]
      have f0 : W.heap[g0]? = some (.cells #[.int .u64 (hiN (s / t)), .int .u64 (loN (s / t))] 128) := by
        rw [hW]
        exact heap_other _ (heap_other _ (cell_set (cell_set H0.out (.int .u64 (hiN (s / t)))).1 (.int .u64 (loN (s / t)))).2 n1) n1
      have f1 : W.heap[g1]? = some (.cells #[.int .u64 (hiN (s % t)), .int .u64 (loN (s % t))] 128) := by
        rw [hW]
        exact (cell_set (cell_set (heap_other _ (heap_other _ H1.out (Ne.symm n1)) (Ne.symm n1)) (.int .u64 (hiN (s % t)))).1 (.int .u64 (loN (s % t)))).2
      have HF := Lib.hid (show Below w.heap.size w W by
        rw [hW]
        exact Below.drew ((((HB.out.setCell (p := ⟨g0, 0, none⟩) (by show w.heap.size ≤ g0; omega) _).setCell (p := ⟨g0, 1, none⟩) (by show w.heap.size ≤ g0; omega) _).setCell (p := ⟨g1, 0, none⟩) (by show w.heap.size ≤ g1; omega) _).setCell (p := ⟨g1, 1, none⟩) (by show w.heap.size ≤ g1; omega) _))
      have HF0 := Lib.hid f0
      have HF1 := Lib.hid f1
      clear hW q1 q2 q3 q4 r1 r2 r3 r4 a1 a2 a3 a4 b1 b2 b3 b4 f0 f1
      go_wp2
      refine bodyPost_ret (results_cells2 (fn := Try.f123) rfl _ _ g0 g1 _ _ _ _ _ _ rfl rfl HF0.out HF1.out Try.underlying128 rfl (by kernel_rfl) (by kernel_rfl)) rfl ?_
      exact ⟨rfl, HF.out⟩

end Go.Proofs.Ytfegongaflekiaa

/- The greatest divisor, and the fraction of a sign and two sizes, as the document makes them. -/
namespace Go.Proofs.Ytfegongaflekiaa
open Go Go.RowKit
set_option linter.unusedVariables false
set_option linter.unusedSimpArgs false

set_option maxRecDepth 100000 in
set_option maxHeartbeats 4000000 in
theorem dcommon_any (a b : Nat) (ha : a ≤ 170141183460469231731687303715884105728) (hb : b ≤ 170141183460469231731687303715884105728) (w : World) :
    Calls Try.prog 116 #[szV a, szV b] w fun e w' => e = .returned (szV (Nat.gcd a b)) ∧ Below w.heap.size w w' := by
  obtain ⟨G, hG⟩ : ∃ G, G = Nat.gcd a b := ⟨_, rfl⟩
  rw [← hG]
  have HG := Lib.hid hG
  have HA := Lib.hid (And.intro ha hb)
  clear ha hb hG
  unfold szV
  go_enter Try.func116, Try.ntmps116
  go_upto_block 0 with fail
  have HO := Lib.hid (CmR.made 128 w a b)
  generalize (((w.alloc (.cells #[.int .u64 (hiN a), .int .u64 (loN a)] 128)).alloc (.cells #[.int .u64 (hiN b), .int .u64 (loN b)] 128)).alloc (.cells #[.int .u64 0, .int .u64 0] 128)) = w1 at *
  obtain ⟨g0, hg0⟩ : ∃ g, g = w.heap.size + 1 + 1 := ⟨_, rfl⟩
  rw [← hg0] at HO ⊢
  obtain ⟨gb, hgb⟩ : ∃ g, g = w.heap.size + 1 := ⟨_, rfl⟩
  rw [← hgb] at HO ⊢
  clear hg0 hgb
  go_wp2
  go_loopg [5] b (fun g v wr => ∃ x y : Nat, Hid (CmR 128 w gb g0 x y wr) ∧ Hid (g = y ∧ G = Nat.gcd x y ∧ x ≤ 170141183460469231731687303715884105728 ∧ y ≤ 170141183460469231731687303715884105728))
  case atStart => exact ⟨a, b, HO.out, rfl, HG.out, HA.out.1, HA.out.2⟩
  case round =>
    obtain ⟨x, y, HV, HP⟩ := hrel
    by_cases hy : y = 0
    · have e1 : (hiN y == 0) = true := by rw [hy]; rfl
      have e2 : (loN y == 0) = true := by rw [hy]; rfl
      have h := HP.out.2.1
      rw [hy, Nat.gcd_zero_right] at h
      subst h
      clear hy
      go_wp2_with (first | (refine wpList_load_row rfl 128 _ rfl w.heap.size rfl 128 _ (0, 0) _ HV.out.ha Try.underlying128 rfl (by kernel_rfl) ?_) | (refine wpList_load_row rfl 128 _ rfl gb rfl 128 _ (0, 0) _ HV.out.hb Try.underlying128 rfl (by kernel_rfl) ?_) | (refine wpList_store_row rfl 128 _ _ rfl g0 _ rfl rfl 128 _ HV.out.h0 (by kernel_rfl) rfl (by kernel_rfl) ?_))
      refine bodyPost_ret (results_cell_row (fn := Try.f116) rfl _ _ g0 _ _ _ _ rfl (setRow_heap _ _ _ _ _ _ HV.out.h0) Try.underlying128 rfl (by kernel_rfl)) rfl ?_
      exact ⟨rfl, below_row HV.out.below (by have := HV.out.ne; omega) _⟩
    · have e0 : ((hiN y == 0) && (loN y == 0)) = false := by
        rw [Bool.eq_false_iff]; intro h
        rw [Bool.and_eq_true] at h
        exact hy (hilo_zero.1 ⟨by simpa using h.1, by simpa using h.2⟩)
      cases e1 : (hiN y == 0) with
      | true =>
        have e2 : (loN y == 0) = false := by rw [e1, Bool.true_and] at e0; exact e0
        clear e0
        go_wp2_with (first | (refine wpList_load_row rfl 128 _ rfl w.heap.size rfl 128 _ (0, 0) _ HV.out.ha Try.underlying128 rfl (by kernel_rfl) ?_) | (refine wpList_load_row rfl 128 _ rfl gb rfl 128 _ (0, 0) _ HV.out.hb Try.underlying128 rfl (by kernel_rfl) ?_))
        refine (divide_any x y (by have h := HP.out; omega) (by omega) (by have h := HP.out; omega) _).mono ?_
        rintro e w3 ⟨rfl, hb2⟩
        have HV3 := Lib.hid (HV.out.step hb2)
        clear hb2 HV
        rw [show szV (x / y) = .agg #[.int .u64 (hiN (x / y)), .int .u64 (loN (x / y))] from rfl, show szV (x % y) = .agg #[.int .u64 (hiN (x % y)), .int .u64 (loN (x % y))] from rfl]
        have HZ := Lib.hid (two_fresh w3 128)
        go_upto_region 3 with (first | (refine wpList_store_row rfl 128 _ _ rfl w3.heap.size _ rfl rfl 128 _ HZ.out.1 (by kernel_rfl) rfl (by kernel_rfl) ?_) | (refine wpList_store_row rfl 128 _ _ rfl (w3.heap.size + 1) _ rfl rfl 128 _ (second_fresh _ HZ.out.2) (by kernel_rfl) rfl (by kernel_rfl) ?_))
        obtain ⟨pb, p1, p2⟩ := pair_stored w3 128 (x / y) (x % y)
        have HV4 := Lib.hid (HV3.out.step pb)
        have HR := Lib.hid p2
        have hlt : gb < w3.heap.size := HV3.out.hb.lt
        have hla : w.heap.size < w3.heap.size := HV3.out.ha.lt
        clear pb p1 p2 HZ HV3
        generalize (((w3.alloc (.cells #[.int .u64 0, .int .u64 0] 128)).alloc (.cells #[.int .u64 0, .int .u64 0] 128)).setRow w3.heap.size #[.int .u64 (hiN (x / y)), .int .u64 (loN (x / y))]).setRow (w3.heap.size + 1) #[.int .u64 (hiN (x % y)), .int .u64 (loN (x % y))] = w4 at *
        obtain ⟨gr, hgr⟩ : ∃ g, g = w3.heap.size + 1 := ⟨_, rfl⟩
        rw [← hgr] at HR ⊢
        have hgr2 : w.heap.size < gr ∧ gb < gr := by omega
        have HV5 := Lib.hid (HV4.out.setA y)
        have HR5 := Lib.hid (show Blk 128 gr (x % y) _ from row_other #[.int .u64 (hiN y), .int .u64 (loN y)] HR.out (show gr ≠ w.heap.size by omega))
        have HV6 := Lib.hid (HV5.out.setB (x % y))
        have HQ := Lib.hid (show G = Nat.gcd y (x % y) ∧ x % y < y from ⟨by rw [HP.out.2.1, Nat.gcd_comm x y, Nat.gcd_rec y x, Nat.gcd_comm], Nat.mod_lt _ (by omega)⟩)
        clear hgr hlt hla hgr2
        go_upto_region 4 with (first | (refine wpList_load_row rfl 128 _ rfl gb rfl 128 _ (0, 0) _ HV4.out.hb Try.underlying128 rfl (by kernel_rfl) ?_) | (refine wpList_store_row rfl 128 _ _ rfl w.heap.size _ rfl rfl 128 _ HV4.out.ha (by kernel_rfl) rfl (by kernel_rfl) ?_))
        go_wp2_with (first | (refine wpList_load_row rfl 128 _ rfl gr rfl 128 _ (0, 0) _ HR5.out Try.underlying128 rfl (by kernel_rfl) ?_) | (refine wpList_store_row rfl 128 _ _ rfl gb _ rfl rfl 128 _ HV5.out.hb (by kernel_rfl) rfl (by kernel_rfl) ?_))
        go_roundg (x % y)
        case measure => have h := HP.out; have h2 := HQ.out; omega
        case rel => exact ⟨y, x % y, HV6.out, rfl, HQ.out.1, by have h := HP.out; omega, by have h := HP.out; have h2 := HQ.out; omega⟩
      | false =>
        clear e0
        go_wp2_with (first | (refine wpList_load_row rfl 128 _ rfl w.heap.size rfl 128 _ (0, 0) _ HV.out.ha Try.underlying128 rfl (by kernel_rfl) ?_) | (refine wpList_load_row rfl 128 _ rfl gb rfl 128 _ (0, 0) _ HV.out.hb Try.underlying128 rfl (by kernel_rfl) ?_))
        refine (divide_any x y (by have h := HP.out; omega) (by omega) (by have h := HP.out; omega) _).mono ?_
        rintro e w3 ⟨rfl, hb2⟩
        have HV3 := Lib.hid (HV.out.step hb2)
        clear hb2 HV
        rw [show szV (x / y) = .agg #[.int .u64 (hiN (x / y)), .int .u64 (loN (x / y))] from rfl, show szV (x % y) = .agg #[.int .u64 (hiN (x % y)), .int .u64 (loN (x % y))] from rfl]
        have HZ := Lib.hid (two_fresh w3 128)
        go_upto_region 3 with (first | (refine wpList_store_row rfl 128 _ _ rfl w3.heap.size _ rfl rfl 128 _ HZ.out.1 (by kernel_rfl) rfl (by kernel_rfl) ?_) | (refine wpList_store_row rfl 128 _ _ rfl (w3.heap.size + 1) _ rfl rfl 128 _ (second_fresh _ HZ.out.2) (by kernel_rfl) rfl (by kernel_rfl) ?_))
        obtain ⟨pb, p1, p2⟩ := pair_stored w3 128 (x / y) (x % y)
        have HV4 := Lib.hid (HV3.out.step pb)
        have HR := Lib.hid p2
        have hlt : gb < w3.heap.size := HV3.out.hb.lt
        have hla : w.heap.size < w3.heap.size := HV3.out.ha.lt
        clear pb p1 p2 HZ HV3
        generalize (((w3.alloc (.cells #[.int .u64 0, .int .u64 0] 128)).alloc (.cells #[.int .u64 0, .int .u64 0] 128)).setRow w3.heap.size #[.int .u64 (hiN (x / y)), .int .u64 (loN (x / y))]).setRow (w3.heap.size + 1) #[.int .u64 (hiN (x % y)), .int .u64 (loN (x % y))] = w4 at *
        obtain ⟨gr, hgr⟩ : ∃ g, g = w3.heap.size + 1 := ⟨_, rfl⟩
        rw [← hgr] at HR ⊢
        have hgr2 : w.heap.size < gr ∧ gb < gr := by omega
        have HV5 := Lib.hid (HV4.out.setA y)
        have HR5 := Lib.hid (show Blk 128 gr (x % y) _ from row_other #[.int .u64 (hiN y), .int .u64 (loN y)] HR.out (show gr ≠ w.heap.size by omega))
        have HV6 := Lib.hid (HV5.out.setB (x % y))
        have HQ := Lib.hid (show G = Nat.gcd y (x % y) ∧ x % y < y from ⟨by rw [HP.out.2.1, Nat.gcd_comm x y, Nat.gcd_rec y x, Nat.gcd_comm], Nat.mod_lt _ (by omega)⟩)
        clear hgr hlt hla hgr2
        go_upto_region 4 with (first | (refine wpList_load_row rfl 128 _ rfl gb rfl 128 _ (0, 0) _ HV4.out.hb Try.underlying128 rfl (by kernel_rfl) ?_) | (refine wpList_store_row rfl 128 _ _ rfl w.heap.size _ rfl rfl 128 _ HV4.out.ha (by kernel_rfl) rfl (by kernel_rfl) ?_))
        go_wp2_with (first | (refine wpList_load_row rfl 128 _ rfl gr rfl 128 _ (0, 0) _ HR5.out Try.underlying128 rfl (by kernel_rfl) ?_) | (refine wpList_store_row rfl 128 _ _ rfl gb _ rfl rfl 128 _ HV5.out.hb (by kernel_rfl) rfl (by kernel_rfl) ?_))
        go_roundg (x % y)
        case measure => have h := HP.out; have h2 := HQ.out; omega
        case rel => exact ⟨y, x % y, HV6.out, rfl, HQ.out.1, by have h := HP.out; omega, by have h := HP.out; have h2 := HQ.out; omega⟩

end Go.Proofs.Ytfegongaflekiaa

/- Whether a fraction is right, as the document tells it. -/
namespace Go.Proofs.Ytfegongaflekiaa
open Go Go.RowKit
set_option linter.unusedVariables false
set_option linter.unusedSimpArgs false

set_option maxRecDepth 100000 in
set_option maxHeartbeats 4000000 in
theorem dright_any (x y : Int) (hx : I64 x) (hy : I64 y) (w : World) : Calls Try.prog 80 #[.agg #[.int .i64 x, .int .i64 y]] w fun e w' => e = .returned (.bool (rightR (x, y))) ∧ Below w.heap.size w w' := by
  have H1 := Lib.hid (heap_alloc_new w (.cells #[.int .i64 x, .int .i64 y] 59))
  have HB := Lib.hid (below_one w (.cells #[.int .i64 x, .int .i64 y] 59))
  by_cases h : 0 < y
  · have d1 : decide (0 < y) = true := decide_eq_true h
    have ax := abs64 hx
    have ay := abs64 hy
    have HS := Lib.hid (fun W => dsize_any x hx.1 hx.2 W)
    have HC := Lib.hid (fun W => dcommon_any x.natAbs y.natAbs (by omega) (by omega) W)
    have hG : Nat.gcd x.natAbs y.natAbs ≤ y.natAbs := Nat.le_of_dvd (by omega) (Nat.gcd_dvd_right _ _)
    have hyw : IntKind.u64.wrap y = (y.natAbs : Int) := by rw [IntKind.wrap_u64]; obtain ⟨_, _⟩ := hy; omega
    have hR : rightR (x, y) = true ↔ Nat.gcd x.natAbs y.natAbs = 1 := ⟨fun h' => (of_decide_eq_true h').2, fun h' => decide_eq_true ⟨h, h'⟩⟩
    obtain ⟨G, hg⟩ : ∃ G, G = Nat.gcd x.natAbs y.natAbs := ⟨_, rfl⟩
    rw [← hg] at HC hG hR
    have HC : Hid (∀ W, Calls Try.prog 116 #[.agg #[.int .u64 (hiN x.natAbs), .int .u64 (loN x.natAbs)], .agg #[.int .u64 (hiN y.natAbs), .int .u64 (loN y.natAbs)]] W fun e w' => e = .returned (.agg #[.int .u64 (hiN G), .int .u64 (loN G)]) ∧ Below W.heap.size W w') := HC
    rw [small_hi (show x.natAbs < 18446744073709551616 by omega), small_lo (show x.natAbs < 18446744073709551616 by omega), small_hi (show y.natAbs < 18446744073709551616 by omega), small_lo (show y.natAbs < 18446744073709551616 by omega), small_hi (show G < 18446744073709551616 by omega), small_lo (show G < 18446744073709551616 by omega)] at HC
    obtain ⟨R, hR2⟩ : ∃ R, R = rightR (x, y) := ⟨_, rfl⟩
    rw [← hR2] at hR ⊢
    have HR := Lib.hid hR
    clear hR2 hR hg hG h ax ay
    obtain ⟨mx, hmx⟩ : ∃ m, m = x.natAbs := ⟨_, rfl⟩
    obtain ⟨my, hmy⟩ : ∃ m, m = y.natAbs := ⟨_, rfl⟩
    rw [← hmx] at HS HC
    rw [← hmy] at HC hyw
    clear hmx hmy hx hy
    have hgr : ((G : Int) == 1) = R := by
      rw [Bool.eq_iff_iff, HR.out]
      simp
      omega
    clear HR
    go_enter Try.func80, Try.ntmps80
    go_upto_region 1 with fail
    generalize w.alloc (.cells #[.int .i64 x, .int .i64 y] 59) = w1 at *
    have kh : Below w.heap.size w w1.drew ∧ w1.drew.heap[w.heap.size]? = some (.cells #[.int .i64 x, .int .i64 y] 59) := ⟨Below.drew HB.out, H1.out⟩
    cases R with
    | true =>
      go_region_held3 (fun wr => wr.cell? ⟨w.heap.size, 0, none⟩ = some (.int .i64 x) ∧ wr.cell? ⟨w.heap.size, 1, none⟩ = some (.int .i64 y))
        (first | exact ⟨(cell_two kh.2).1, (cell_two kh.2).2.1⟩ | go_keep)
        (first | (go_at_call 82; refine (HS.out _).mono ?_; rintro e v1 ⟨rfl, rfl⟩) | (go_at_call 116; refine (HC.out _).mono ?_; rintro e v2 ⟨rfl, hb⟩; have kh := And.intro (kh.1.trans (hb.mono kh.1.size)) (heap_keep kh.2 hb); clear hb))
      go_wp2
      go_ret
      exact ⟨rfl, kh.1⟩
    | false =>
      go_region_held3 (fun wr => wr.cell? ⟨w.heap.size, 0, none⟩ = some (.int .i64 x) ∧ wr.cell? ⟨w.heap.size, 1, none⟩ = some (.int .i64 y))
        (first | exact ⟨(cell_two kh.2).1, (cell_two kh.2).2.1⟩ | go_keep)
        (first | (go_at_call 82; refine (HS.out _).mono ?_; rintro e v1 ⟨rfl, rfl⟩) | (go_at_call 116; refine (HC.out _).mono ?_; rintro e v2 ⟨rfl, hb⟩; have kh := And.intro (kh.1.trans (hb.mono kh.1.size)) (heap_keep kh.2 hb); clear hb))
      go_wp2
      go_ret
      exact ⟨rfl, kh.1⟩
  · have d1 : decide (0 < y) = false := decide_eq_false h
    have hR : rightR (x, y) = false := decide_eq_false (fun h' => h h'.1)
    rw [hR]
    clear hR h
    go_enter Try.func80, Try.ntmps80
    go_upto_region 1 with fail
    generalize w.alloc (.cells #[.int .i64 x, .int .i64 y] 59) = w1 at *
    obtain ⟨k1, k2, _, _⟩ := cell_two H1.out
    go_quiet (fail)
    go_wp2
    go_ret
    exact ⟨rfl, belowN HB.out _⟩

end Go.Proofs.Ytfegongaflekiaa
