/- Texts of ours, laid together: Jq, Jr, Jv, Jz. -/
import Derived.Test.YtmelblnflalanaaMg13
/- Behind which delays a valuation is in a zone, as point tells them. -/
namespace Go.Proofs.Ytmelblnflalanaa
open Go Go.RowKit
set_option linter.unusedVariables false
set_option linter.unusedSimpArgs false
attribute [local go_sem] min_ints max_ints

theorem span64_narrow {s s' : SpanP} {x : Int × Int} {b : Int} {above : Bool} (hs : Span64 s) (h : narrowP s x b above = some s') : Span64 s' := by
  obtain ⟨⟨h1, h2⟩, h3, h4⟩ := hs
  unfold narrowP at h
  cases above with
  | true =>
    simp only [if_true] at h
    split at h
    · split at h
      · cases h; exact ⟨⟨h1, h2⟩, (subP64 _ _).1, (subP64 _ _).2⟩
      · cases h; exact ⟨⟨h1, h2⟩, h3, h4⟩
    · cases h
  | false =>
    simp only [Bool.false_eq_true, if_false] at h
    split at h
    · split at h
      · cases h; exact ⟨⟨(subP64 _ _).1, (subP64 _ _).2⟩, h3, h4⟩
      · cases h; exact ⟨⟨h1, h2⟩, h3, h4⟩
    · cases h
/-- What is told from the cell k on. -/
def delTold (n : Nat) (m : Mat) (v : List (Int × Int)) (k : Nat) (s : SpanP) : Option SpanP := (delayFrom n m v ((n + 1) * (n + 1) - k) k s).bind fun s => if spanEnd s = true then some s else none
theorem delTold_step {n : Nat} {m : Mat} {v : List (Int × Int)} {i j : Nat} (hi : i ≤ n) (hj : j ≤ n) (s : SpanP) : delTold n m v (i * (n + 1) + j) s = (delayStep n m v i j s).bind fun t => delTold n m v (i * (n + 1) + j + 1) t := by
  have hk : i * (n + 1) + j < (n + 1) * (n + 1) := at_lt (by omega) (by omega)
  have e1 : (i * (n + 1) + j) / (n + 1) = i := by rw [Nat.mul_comm, Nat.mul_add_div (by omega), Nat.div_eq_of_lt (by omega)]; rfl
  have e2 : (i * (n + 1) + j) % (n + 1) = j := by rw [Nat.mul_comm, Nat.mul_add_mod, Nat.mod_eq_of_lt (by omega)]
  unfold delTold
  obtain ⟨g, hg⟩ : ∃ g, (n + 1) * (n + 1) - (i * (n + 1) + j) = g + 1 := ⟨(n + 1) * (n + 1) - (i * (n + 1) + j) - 1, by omega⟩
  rw [hg, show (n + 1) * (n + 1) - (i * (n + 1) + j + 1) = g by omega]
  show (Option.bind (delayStep n m v ((i * (n + 1) + j) / (n + 1)) ((i * (n + 1) + j) % (n + 1)) s) (delayFrom n m v g (i * (n + 1) + j + 1))).bind _ = _
  rw [e1, e2]
  cases delayStep n m v i j s <;> rfl
theorem delTold_end {n : Nat} {m : Mat} {v : List (Int × Int)} (s : SpanP) : delTold n m v ((n + 1) * (n + 1)) s = if spanEnd s = true then some s else none := by
  unfold delTold
  rw [Nat.sub_self]
  rfl
def spanZero : SpanP := ⟨(0, 0), (0, 0), false, false, false⟩
/-- What Delays leaves. -/
def DelEnds (w : World) (o : Option SpanP) (e : Ending) (w' : World) : Prop := e = .returned (.tuple #[.agg (spanCs (o.getD spanZero)), .bool o.isSome]) ∧ Below w.heap.size w w'

theorem cells7_at {w0 wr : World} {L : List (Nat × Array Value × TypeId)} {g : Nat} {T : TypeId} {a0 a1 a2 a3 a4 a5 a6 : Value} (h : Blx w0 L wr) (j : Nat) (hj : L[j]? = some (g, #[a0, a1, a2, a3, a4, a5, a6], T)) : (wr.cell? ⟨g, 0, none⟩ = some a0 ∧ wr.cell? ⟨g, 1, none⟩ = some a1 ∧ wr.cell? ⟨g, 2, none⟩ = some a2 ∧ wr.cell? ⟨g, 3, none⟩ = some a3 ∧ wr.cell? ⟨g, 4, none⟩ = some a4 ∧ wr.cell? ⟨g, 5, none⟩ = some a5 ∧ wr.cell? ⟨g, 6, none⟩ = some a6) ∧ wr.frozen? ⟨g, 0, none⟩ = false ∧ wr.frozen? ⟨g, 1, none⟩ = false ∧ wr.frozen? ⟨g, 2, none⟩ = false ∧ wr.frozen? ⟨g, 3, none⟩ = false ∧ wr.frozen? ⟨g, 4, none⟩ = false ∧ wr.frozen? ⟨g, 5, none⟩ = false ∧ wr.frozen? ⟨g, 6, none⟩ = false :=
  ⟨⟨(h.cell j hj 0 rfl).1, (h.cell j hj 1 rfl).1, (h.cell j hj 2 rfl).1, (h.cell j hj 3 rfl).1, (h.cell j hj 4 rfl).1, (h.cell j hj 5 rfl).1, (h.cell j hj 6 rfl).1⟩, (h.cell j hj 0 (v := a0) rfl).2, (h.cell j hj 1 (v := a1) rfl).2, (h.cell j hj 2 (v := a2) rfl).2, (h.cell j hj 3 (v := a3) rfl).2, (h.cell j hj 4 (v := a4) rfl).2, (h.cell j hj 5 (v := a5) rfl).2, (h.cell j hj 6 (v := a6) rfl).2⟩
theorem cells7_store {w0 wr : World} {L : List (Nat × Array Value × TypeId)} {g : Nat} {T : TypeId} {a0 a1 a2 a3 a4 a5 a6 : Value} (h : Blx w0 L wr) (j : Nat) (hj : L[j]? = some (g, #[a0, a1, a2, a3, a4, a5, a6], T)) (b0 b1 b2 b3 b4 b5 b6 : Value) : Blx w0 (L.set j (g, #[b0, b1, b2, b3, b4, b5, b6], T)) (((((((wr.setCell ⟨g, 0, none⟩ b0).setCell ⟨g, 1, none⟩ b1).setCell ⟨g, 2, none⟩ b2).setCell ⟨g, 3, none⟩ b3).setCell ⟨g, 4, none⟩ b4).setCell ⟨g, 5, none⟩ b5).setCell ⟨g, 6, none⟩ b6) := by
  have hl : j < L.length := (List.getElem?_eq_some_iff.1 hj).1
  have one : ∀ x : Nat × Array Value × TypeId, (L.set j x)[j]? = some x := fun x => by rw [List.getElem?_set, if_pos rfl, if_pos hl]
  have e0 : (#[a0, a1, a2, a3, a4, a5, a6] : Array Value).setIfInBounds 0 b0 = #[b0, a1, a2, a3, a4, a5, a6] := rfl
  have h1 := h.set j hj 0 b0
  rw [e0] at h1
  have e1 : (#[b0, a1, a2, a3, a4, a5, a6] : Array Value).setIfInBounds 1 b1 = #[b0, b1, a2, a3, a4, a5, a6] := rfl
  have h2 := h1.set j (one _) 1 b1
  rw [List.set_set, e1] at h2
  have e2 : (#[b0, b1, a2, a3, a4, a5, a6] : Array Value).setIfInBounds 2 b2 = #[b0, b1, b2, a3, a4, a5, a6] := rfl
  have h3 := h2.set j (one _) 2 b2
  rw [List.set_set, e2] at h3
  have e3 : (#[b0, b1, b2, a3, a4, a5, a6] : Array Value).setIfInBounds 3 b3 = #[b0, b1, b2, b3, a4, a5, a6] := rfl
  have h4 := h3.set j (one _) 3 b3
  rw [List.set_set, e3] at h4
  have e4 : (#[b0, b1, b2, b3, a4, a5, a6] : Array Value).setIfInBounds 4 b4 = #[b0, b1, b2, b3, b4, a5, a6] := rfl
  have h5 := h4.set j (one _) 4 b4
  rw [List.set_set, e4] at h5
  have e5 : (#[b0, b1, b2, b3, b4, a5, a6] : Array Value).setIfInBounds 5 b5 = #[b0, b1, b2, b3, b4, b5, a6] := rfl
  have h6 := h5.set j (one _) 5 b5
  rw [List.set_set, e5] at h6
  have e6 : (#[b0, b1, b2, b3, b4, b5, a6] : Array Value).setIfInBounds 6 b6 = #[b0, b1, b2, b3, b4, b5, b6] := rfl
  have h7 := h6.set j (one _) 6 b6
  rw [List.set_set, e6] at h7
  exact h7

set_option maxRecDepth 100000 in
set_option maxHeartbeats 4000000 in
theorem delays_empty (b n : Nat) (m : Mat) (A : Option Addr) (c : Nat) (l : List (Int × Int)) (w : World) (hn : n ≤ 8) (hm : MatAt w b 109 .i32 n m) (he : emptyP (some (n, m)) = true) (hI : RatsA w A l) (h64 : All64v l) (hv : rightV l = true) (hl : l.length = n) :
    Calls Try.prog 11 #[.pointer (some ⟨b, 0, none⟩), .slice A l.length c] w (DelEnds w none) := by
  have HR := Lib.hid (fun W (hb : Below w.heap.size w W) => right_val A c l W (hI.below hb) (by omega) h64)
  rw [hv] at HR
  have HD := Lib.hid (fun W (hb : Below w.heap.size w W) => dim_zone b n m W (hm.later hb))
  have HEm := Lib.hid (fun W (hb : Below w.heap.size w W) => empty_zone b n m W (hm.later hb))
  rw [show decide (m 0 0 < 1) = true from he] at HEm
  have K := Lib.hid ((Blx.start w).new #[.int .i64 0, .int .i64 0, .int .i64 0, .int .i64 0, .bool false, .bool false, .bool false] 40)
  have hlen : ((l.length : Nat) : Int) = (n : Int) := by rw [hl]
  clear hI hm h64 hv hl hn he
  go_enter Try.func11, Try.ntmps11
  go_upto_region 1 with fail
  generalize w.alloc (.cells #[.int .i64 0, .int .i64 0, .int .i64 0, .int .i64 0, .bool false, .bool false, .bool false] 40) = w1 at *
  go_wp2_with fail
  refine (HR.out _ K.out.below).mono ?_
  rintro e w2 ⟨rfl, hb⟩
  replace K := Lib.hid (K.out.step hb)
  clear hb HR
  go_wp2_with fail
  refine (HD.out _ K.out.below).mono ?_
  rintro e w3 ⟨rfl, rfl⟩
  go_wp2_with fail
  refine (HEm.out _ K.out.below).mono ?_
  rintro e w3 ⟨rfl, rfl⟩
  simp only [List.nil_append] at K
  obtain ⟨⟨c0, c1, c2, c3, c4, c5, c6⟩, f0, f1, f2, f3, f4, f5, f6⟩ := cells7_at K.out 0 rfl
  replace K := Lib.hid (cells7_store K.out 0 rfl (.int .i64 0) (.int .i64 0) (.int .i64 0) (.int .i64 0) (.bool false) (.bool false) (.bool false))
  simp only [List.set_cons_zero] at K
  go_wp2
  generalize World.setCell _ _ _ = wz at *
  refine bodyPost_ret (results_row_tmp (fn := Try.f11) rfl _ _ w.heap.size _ _ _ _ rfl (K.out.l _ (List.mem_singleton.2 rfl)) Try.underlying40 rfl (by kernel_rfl)) rfl ?_
  exact ⟨rfl, K.out.below⟩

set_option maxRecDepth 100000 in
set_option maxHeartbeats 8000000 in
theorem delays_zone (b n : Nat) (m : Mat) (A : Option Addr) (c : Nat) (l : List (Int × Int)) (w : World) (hn : n ≤ 8) (hm : MatAt w b 109 .i32 n m) (hr : RightM n m) (he : emptyP (some (n, m)) = false) (hI : RatsA w A l) (h64 : All64v l) (hv : rightV l = true) (hl : l.length = n) :
    Calls Try.prog 11 #[.pointer (some ⟨b, 0, none⟩), .slice A l.length c] w (DelEnds w (delaysP n m l)) := by
  have HR := Lib.hid (fun W (hb : Below w.heap.size w W) => right_val A c l W (hI.below hb) (by omega) h64)
  rw [hv] at HR
  have HD := Lib.hid (fun W (hb : Below w.heap.size w W) => dim_zone b n m W (hm.later hb))
  have HEm := Lib.hid (fun W (hb : Below w.heap.size w W) => empty_zone b n m W (hm.later hb))
  rw [show decide (m 0 0 < 1) = false from he] at HEm
  have HC := Lib.hid (fun W (hb : Below w.heap.size w W) (i j : Nat) (hi : i ≤ n) (hj : j ≤ n) => show Calls Try.prog 37 #[.pointer (some ⟨b, 0, none⟩), .int .i64 (i : Int), .int .i64 (j : Int)] W (fun e w' => e = .returned (.tuple #[.int .i32 (m i j), .int .i64 0]) ∧ W = w') from by
    have h := cell_zone b n m i j W hn (hm.later hb)
    rw [show cellP n m i j = (m i j, 0) by unfold cellP; rw [if_pos (by omega)]; simp] at h
    exact h)
  have HA := Lib.hid (fun W (hb : Below w.heap.size w W) (i : Nat) (hi : i ≤ n) => at_val A c l i (by omega) (by omega) W (hI.below hb))
  have HK := Lib.hid (fun W (i j : Nat) (hi : i ≤ n) (hj : j ≤ n) => keepsq_any (clockV l i).1 (clockV l i).2 (clockV l j).1 (clockV l j).2 (m i j) (clock64 h64 (by omega)).1 (clock64 h64 (by omega)).2 (clock64 h64 (by omega)).1 (clock64 h64 (by omega)).2 (clock_right hv (by omega)).1 (clock_right hv (by omega)).1 (clock_right hv (by omega)).2 (clock_right hv (by omega)).2 (hr i j hi hj) W)
  have HNT := Lib.hid (fun (w0 W : World) (g : Nat) (s : SpanP) (i j : Nat) (hi : i ≤ n) (hj : j ≤ n) (hs : Span64 s) (hne : m i j ≠ 2147483647) K => narrow_above w0 W g s (clockV l (max i j)).1 (clockV l (max i j)).2 (m i j) (clock64 h64 (by omega)).1 (clock64 h64 (by omega)).2 hs (hr i j hi hj) hne K)
  have HNF := Lib.hid (fun (w0 W : World) (g : Nat) (s : SpanP) (i j : Nat) (hi : i ≤ n) (hj : j ≤ n) (hs : Span64 s) (hne : m i j ≠ 2147483647) K => narrow_below w0 W g s (clockV l (max i j)).1 (clockV l (max i j)).2 (m i j) (clock64 h64 (by omega)).1 (clock64 h64 (by omega)).2 hs (hr i j hi hj) hne K)
  have HO := Lib.hid (fun W => rof2_any 0 W)
  have K := Lib.hid ((Blx.start w).new #[.int .i64 0, .int .i64 0, .int .i64 0, .int .i64 0, .bool false, .bool false, .bool false] 40)
  obtain ⟨R, hR⟩ : ∃ R, R = delaysP n m l := ⟨_, rfl⟩
  rw [← hR]
  have HE : Hid (R = delTold n m l 0 ⟨(0, 1), (0, 0), true, false, true⟩) := Lib.hid (by
    rw [hR]
    unfold delaysP
    rw [if_pos ⟨hv, hl, by have := of_decide_eq_false he; exact this⟩]; rfl)
  have hlen : ((l.length : Nat) : Int) = (n : Int) := by rw [hl]
  have n1 : IntKind.i64.wrap ((n : Int) + 1) = (n : Int) + 1 := IntWalk.i64_in _ (by omega)
  clear hI hm h64 hv hl he hr hR
  go_enter Try.func11, Try.ntmps11
  go_upto_region 1 with fail
  generalize w.alloc (.cells #[.int .i64 0, .int .i64 0, .int .i64 0, .int .i64 0, .bool false, .bool false, .bool false] 40) = w1 at *
  simp only [List.nil_append] at K
  go_wp2_with fail
  refine (HR.out _ K.out.below).mono ?_
  rintro e w2 ⟨rfl, hb⟩
  replace K := Lib.hid (K.out.step hb)
  clear hb HR
  go_wp2_with fail
  refine (HD.out _ K.out.below).mono ?_
  rintro e w3 ⟨rfl, rfl⟩
  go_wp2_with fail
  refine (HEm.out _ K.out.below).mono ?_
  rintro e w3 ⟨rfl, rfl⟩
  clear HD HEm
  go_wp2_with fail
  refine (HO.out _).mono ?_
  rintro e wA ⟨rfl, hb⟩
  replace K := Lib.hid (K.out.step hb)
  clear hb HO
  have KS := Lib.hid (show Blx wA [(wA.heap.size, spanCs ⟨(0, 1), (0, 0), true, false, true⟩, 40)] (wA.alloc (.cells #[.int .i64 0, .int .i64 1, .int .i64 0, .int .i64 0, .bool true, .bool false, .bool true] 40)) from (Blx.start wA).new (spanCs ⟨(0, 1), (0, 0), true, false, true⟩) 40)
  go_upto_region 5 with fail
  generalize wA.alloc (.cells #[.int .i64 0, .int .i64 1, .int .i64 0, .int .i64 0, .bool true, .bool false, .bool true] 40) = wB at *
  generalize wA.heap.size = gs at *
  have HBW := Lib.hid (fun W (hb : Below wA.heap.size wA W) => K.out.below.trans (hb.mono K.out.below.size))
  have KRS := Lib.hid (fun W (hb : Below wA.heap.size wA W) => K.out.step hb)
  clear K
  go_wp2
  go_loopg [38] (n + 1) (fun q x wr => ∃ (i : Nat) (s : SpanP), x = .int .i64 i ∧ Hid (Blx wA [(gs, spanCs s, 40)] wr) ∧ Hid (q + i = n + 1 ∧ Span64 s ∧ R = delTold n m l (i * (n + 1)) s))
  case atStart => exact ⟨0, _, by simp, KS, Lib.hid ⟨by omega, ⟨⟨⟨by decide, by decide⟩, ⟨by decide, by decide⟩⟩, ⟨by decide, by decide⟩, ⟨by decide, by decide⟩⟩, by rw [HE.out, Nat.zero_mul]⟩⟩
  case round =>
    clear KS HE
    obtain ⟨i, s, rfl, KS, HG⟩ := hrel
    by_cases hi : i < n + 1
    · have hii : (i : Int) < (n : Int) + 1 := by omega
      have w5 : IntKind.i64.wrap ((i : Int) + 1) = ((i + 1 : Nat) : Int) := by rw [IntWalk.i64_in _ (by omega)]; omega
      go_wp2
      go_loopg [43] (n + 1) (fun q x wr => ∃ (j : Nat) (s : SpanP), x = .int .i64 j ∧ Hid (Blx wA [(gs, spanCs s, 40)] wr) ∧ Hid (q + j = n + 1 ∧ Span64 s ∧ R = delTold n m l (i * (n + 1) + j) s))
      case atStart => exact ⟨0, s, by simp, KS, Lib.hid ⟨by omega, HG.out.2.1, HG.out.2.2⟩⟩
      case round =>
        clear KS
        obtain ⟨j, t, rfl, KS, HG2⟩ := hrel
        by_cases hj : j < n + 1
        · have hjj : (j : Int) < (n : Int) + 1 := by omega
          have w6 : IntKind.i64.wrap ((j : Int) + 1) = ((j + 1 : Nat) : Int) := by rw [IntWalk.i64_in _ (by omega)]; omega
          have HST : Hid (R = (delayStep n m l i j t).bind fun s => delTold n m l (i * (n + 1) + j + 1) s) := Lib.hid (HG2.out.2.2.trans (delTold_step (by omega) (by omega) t))
          have HC2 := Lib.hid (fun W hb => HC.out W hb i j (by omega) (by omega))
          have HAI := Lib.hid (fun W hb => HA.out W hb i (by omega))
          have HAJ := Lib.hid (fun W hb => HA.out W hb j (by omega))
          have HAM := Lib.hid (fun W hb => HA.out W hb (max i j) (by omega))
          have HKK := Lib.hid (fun W => HK.out W i j (by omega) (by omega))
          have HNT2 := Lib.hid (fun w0 W g hne K => HNT.out w0 W g t i j (by omega) (by omega) HG2.out.2.1 hne K)
          have HNF2 := Lib.hid (fun w0 W g hne K => HNF.out w0 W g t i j (by omega) (by omega) HG2.out.2.1 hne K)
          unfold delayStep at HST
          obtain ⟨bb, hbb⟩ : ∃ bb, bb = m i j := ⟨_, rfl⟩
          rw [← hbb] at HC2 HKK HNT2 HNF2 HST
          clear hbb
          obtain ⟨x, hx⟩ : ∃ x, x = clockV l i := ⟨_, rfl⟩
          obtain ⟨y, hy⟩ : ∃ y, y = clockV l j := ⟨_, rfl⟩
          obtain ⟨z, hz⟩ : ∃ z, z = clockV l (max i j) := ⟨_, rfl⟩
          rw [← hx] at HAI HKK HST
          rw [← hy] at HAJ HKK HST
          rw [← hz] at HAM HNT2 HNF2 HST
          clear hx hy hz
          obtain ⟨x1, x2⟩ := x
          obtain ⟨y1, y2⟩ := y
          obtain ⟨z1, z2⟩ := z
          simp only at HAI HAJ HAM HKK HNT2 HNF2
          go_wp2_with fail
          refine (HC2.out _ (HBW.out _ KS.out.below)).mono ?_
          rintro e w' ⟨rfl, rfl⟩
          clear HC2
          by_cases h0 : decide (i = 0) = decide (j = 0)
          · have e0 : (((i : Int) == 0) == ((j : Int) == 0)) = true := by
              have h0 := decide_eq_decide.1 h0
              by_cases q : i = 0
              · have q2 := h0.1 q
                subst q; subst q2; rfl
              · have q2 : ¬ j = 0 := fun h => q (h0.2 h)
                rw [show ((i : Int) == 0) = false by simp; omega, show ((j : Int) == 0) = false by simp; omega]; rfl
            obtain ⟨kb, hkb⟩ : ∃ q, q = keepsQ (x1, x2) (y1, y2) bb := ⟨_, rfl⟩
            rw [if_pos h0, ← hkb] at HST
            rw [← hkb] at HKK
            clear hkb h0
            go_wp2_with fail
            refine (HAI.out _ (HBW.out _ KS.out.below)).mono ?_
            rintro e wa ⟨rfl, hb⟩
            replace KS := Lib.hid (KS.out.step hb)
            clear hb HAI
            go_wp2_with fail
            refine (HAJ.out _ (HBW.out _ KS.out.below)).mono ?_
            rintro e wb ⟨rfl, hb⟩
            replace KS := Lib.hid (KS.out.step hb)
            clear hb HAJ
            go_wp2_with fail
            refine (HKK.out _).mono ?_
            rintro e wc ⟨rfl, hb⟩
            replace KS := Lib.hid (KS.out.step hb)
            clear hb HKK
            cases kb with
            | false =>
              have HE : Hid (R = none) := Lib.hid (HST.out.trans (by rw [if_neg (by decide)]; rfl))
              have KR := Lib.hid (KRS.out _ KS.out.below)
              obtain ⟨⟨c0, c1, c2, c3, c4, c5, c6⟩, f0, f1, f2, f3, f4, f5, f6⟩ := cells7_at KR.out 0 rfl
              replace KR := Lib.hid (cells7_store KR.out 0 rfl (.int .i64 0) (.int .i64 0) (.int .i64 0) (.int .i64 0) (.bool false) (.bool false) (.bool false))
              simp only [List.set_cons_zero] at KR
              go_wp2
              generalize World.setCell _ _ _ = wz at *
              refine bodyPost_ret (results_row_tmp (fn := Try.f11) rfl _ _ w.heap.size _ _ _ _ rfl (KR.out.l _ (List.mem_singleton.2 rfl)) Try.underlying40 rfl (by kernel_rfl)) rfl ?_
              exact ⟨by rw [HE.out]; rfl, KR.out.below⟩
            | true =>
              have HE : Hid (R = delTold n m l (i * (n + 1) + (j + 1)) t) := Lib.hid (HST.out.trans (by rw [if_pos rfl]; rfl))
              go_wp2
              go_roundg (gk - 1)
              case measure => have h := HG2.out.1; omega
              case rel => exact ⟨j + 1, t, by go_num, KS, Lib.hid ⟨by have h := HG2.out.1; omega, HG2.out.2.1, HE.out⟩⟩
          · have e0 : (((i : Int) == 0) == ((j : Int) == 0)) = false := by
              by_cases q : i = 0
              · have q2 : ¬ j = 0 := fun h => h0 (by rw [decide_eq_true q, decide_eq_true h])
                rw [show ((i : Int) == 0) = true by simp; omega, show ((j : Int) == 0) = false by simp; omega]; rfl
              · have q2 : j = 0 := Classical.byContradiction fun h => h0 (by rw [decide_eq_false q, decide_eq_false h])
                rw [show ((i : Int) == 0) = false by simp; omega, show ((j : Int) == 0) = true by simp; omega]; rfl
            rw [if_neg h0] at HST
            by_cases hinf : bb = 2147483647
            · have e1 : (bb == 2147483647) = true := by simp [hinf]
              have HE : Hid (R = delTold n m l (i * (n + 1) + (j + 1)) t) := Lib.hid (HST.out.trans (by rw [if_pos hinf]; rfl))
              clear hinf h0
              go_wp2
              go_roundg (gk - 1)
              case measure => have h := HG2.out.1; omega
              case rel => exact ⟨j + 1, t, by go_num, KS, Lib.hid ⟨by have h := HG2.out.1; omega, HG2.out.2.1, HE.out⟩⟩
            · have e1 : (bb == 2147483647) = false := by simp [hinf]
              rw [if_neg hinf] at HST
              have em : max (i : Int) (j : Int) = ((max i j : Nat) : Int) := by omega
              have HNT2 := Lib.hid (fun w0 W g K => HNT2.out w0 W g hinf K)
              have HNF2 := Lib.hid (fun w0 W g K => HNF2.out w0 W g hinf K)
              have HNN := Lib.hid (fun W (K : Blx wA [(gs, spanCs t, 40)] W) => show Calls Try.prog 40 #[.pointer (some ⟨gs, 0, none⟩), .agg #[.int .i64 z1, .int .i64 z2], .int .i32 bb, .bool (decide (0 < i))] W (NarEnds wA gs t (narrowP t (z1, z2) bb (decide (0 < i)))) from by
                by_cases q : i = 0
                · rw [decide_eq_false (show ¬ 0 < i by omega)]; exact HNF2.out wA W gs K
                · rw [decide_eq_true (show 0 < i by omega)]; exact HNT2.out wA W gs K)
              have H64 := Lib.hid (fun s' h => span64_narrow (s' := s') (above := decide (0 < i)) (x := (z1, z2)) (b := bb) HG2.out.2.1 h)
              obtain ⟨o, ho⟩ : ∃ o, o = narrowP t (z1, z2) bb (decide (0 < i)) := ⟨_, rfl⟩
              rw [← ho] at HNN HST
              replace H64 := Lib.hid (fun s' (h : o = some s') => H64.out s' (by rw [← ho]; exact h))
              clear hinf h0 ho HNT2 HNF2
              go_wp2_with fail
              refine (HAM.out _ (HBW.out _ KS.out.below)).mono ?_
              rintro e wa ⟨rfl, hb⟩
              replace KS := Lib.hid (KS.out.step hb)
              clear hb HAM
              go_wp2_with fail
              refine (HNN.out _ KS.out).mono ?_
              rintro e wn h
              cases o with
              | none =>
                obtain ⟨rfl, KS⟩ := h
                have HE : Hid (R = none) := Lib.hid HST.out
                have KR := Lib.hid (KRS.out _ KS.below)
                obtain ⟨⟨c0, c1, c2, c3, c4, c5, c6⟩, f0, f1, f2, f3, f4, f5, f6⟩ := cells7_at KR.out 0 rfl
                replace KR := Lib.hid (cells7_store KR.out 0 rfl (.int .i64 0) (.int .i64 0) (.int .i64 0) (.int .i64 0) (.bool false) (.bool false) (.bool false))
                simp only [List.set_cons_zero] at KR
                go_wp2
                generalize World.setCell _ _ _ = wz at *
                refine bodyPost_ret (results_row_tmp (fn := Try.f11) rfl _ _ w.heap.size _ _ _ _ rfl (KR.out.l _ (List.mem_singleton.2 rfl)) Try.underlying40 rfl (by kernel_rfl)) rfl ?_
                exact ⟨by rw [HE.out]; rfl, KR.out.below⟩
              | some t' =>
                obtain ⟨rfl, KS⟩ := h
                have HE : Hid (R = delTold n m l (i * (n + 1) + (j + 1)) t') := Lib.hid HST.out
                have KS := Lib.hid KS
                go_wp2
                go_roundg (gk - 1)
                case measure => have h := HG2.out.1; omega
                case rel => exact ⟨j + 1, t', by go_num, KS, Lib.hid ⟨by have h := HG2.out.1; omega, H64.out t' rfl, HE.out⟩⟩
        · have hjj : ¬ (j : Int) < (n : Int) + 1 := by omega
          have HE : Hid (R = delTold n m l ((i + 1) * (n + 1)) t) := Lib.hid (by
            have h := HG2.out.2.2
            rw [show i * (n + 1) + j = (i + 1) * (n + 1) by rw [Nat.succ_mul]; have := HG2.out.1; omega] at h
            exact h)
          go_wp2
          go_roundg (n - i)
          case measure => have h := HG.out.1; omega
          case rel => exact ⟨i + 1, t, by go_num, KS, Lib.hid ⟨by have h := HG.out.1; omega, HG2.out.2.1, HE.out⟩⟩
    · have hii : ¬ (i : Int) < (n : Int) + 1 := by omega
      have HE : Hid (R = if spanEnd s = true then some s else none) := Lib.hid (by
        have h := HG.out.2.2
        rw [show i = n + 1 by have := HG.out.1; omega, delTold_end] at h
        exact h)
      have S64 := Lib.hid HG.out.2.1
      obtain ⟨⟨a1, a2⟩, ⟨h1, h2⟩, li, hi', ev⟩ := s
      have HCM := Lib.hid (fun W => compare_any a1 a2 h1 h2 S64.out.1.1 S64.out.1.2 S64.out.2.1 S64.out.2.2 W)
      have HSE : Hid (spanEnd ⟨(a1, a2), (h1, h2), li, hi', ev⟩ = (ev || (!decide (0 < cmpP (a1, a2) (h1, h2)) && (!decide (cmpP (a1, a2) (h1, h2) = 0) || (li && hi'))))) := Lib.hid rfl
      obtain ⟨cc, hcc⟩ : ∃ cc, cc = cmpP (a1, a2) (h1, h2) := ⟨_, rfl⟩
      rw [← hcc] at HCM HSE
      clear HG S64 hcc HC HA HK HNT HNF
      cases ev with
      | true =>
        have HE : Hid (R = some ⟨(a1, a2), (h1, h2), li, hi', true⟩) := Lib.hid (by rw [HE.out, HSE.out]; rfl)
        have KR := Lib.hid (KRS.out _ KS.out.below)
        obtain ⟨⟨c0, c1, c2, c3, c4, c5, c6⟩, f0, f1, f2, f3, f4, f5, f6⟩ := cells7_at KR.out 0 rfl
        obtain ⟨⟨k0, k1, k2, k3, k4, k5, k6⟩, _⟩ := cells7_at (a0 := .int .i64 a1) (a1 := .int .i64 a2) (a2 := .int .i64 h1) (a3 := .int .i64 h2) (a4 := .bool li) (a5 := .bool hi') (a6 := .bool true) KS.out 0 rfl
        replace KR := Lib.hid (cells7_store KR.out 0 rfl (.int .i64 a1) (.int .i64 a2) (.int .i64 h1) (.int .i64 h2) (.bool li) (.bool hi') (.bool true))
        simp only [List.set_cons_zero] at KR
        go_wp2
        generalize World.setCell _ _ _ = wz at *
        refine bodyPost_ret (results_row_tmp (fn := Try.f11) rfl _ _ w.heap.size _ _ _ _ rfl (KR.out.l _ (List.mem_singleton.2 rfl)) Try.underlying40 rfl (by kernel_rfl)) rfl ?_
        exact ⟨by rw [HE.out]; rfl, KR.out.below⟩
      | false =>
        obtain ⟨⟨k0, k1, k2, k3, k4, k5, k6⟩, _⟩ := cells7_at (a0 := .int .i64 a1) (a1 := .int .i64 a2) (a2 := .int .i64 h1) (a3 := .int .i64 h2) (a4 := .bool li) (a5 := .bool hi') (a6 := .bool false) KS.out 0 rfl
        go_wp2_with fail
        refine (HCM.out _).mono ?_
        rintro e wc ⟨rfl, hb⟩
        replace KS := Lib.hid (KS.out.step hb)
        clear hb HCM k0 k1 k2 k3 k4 k5 k6
        have KR := Lib.hid (KRS.out _ KS.out.below)
        obtain ⟨⟨c0, c1, c2, c3, c4, c5, c6⟩, f0, f1, f2, f3, f4, f5, f6⟩ := cells7_at KR.out 0 rfl
        obtain ⟨⟨k0, k1, k2, k3, k4, k5, k6⟩, _⟩ := cells7_at (a0 := .int .i64 a1) (a1 := .int .i64 a2) (a2 := .int .i64 h1) (a3 := .int .i64 h2) (a4 := .bool li) (a5 := .bool hi') (a6 := .bool false) KS.out 0 rfl
        by_cases q1 : 0 < cc
        · have t1 : decide (0 < cc) = true := decide_eq_true q1
          have HE : Hid (R = none) := Lib.hid (by rw [HE.out, HSE.out, t1]; rfl)
          clear q1 HSE
          replace KR := Lib.hid (cells7_store KR.out 0 rfl (.int .i64 0) (.int .i64 0) (.int .i64 0) (.int .i64 0) (.bool false) (.bool false) (.bool false))
          simp only [List.set_cons_zero] at KR
          go_wp2
          generalize World.setCell _ _ _ = wz at *
          refine bodyPost_ret (results_row_tmp (fn := Try.f11) rfl _ _ w.heap.size _ _ _ _ rfl (KR.out.l _ (List.mem_singleton.2 rfl)) Try.underlying40 rfl (by kernel_rfl)) rfl ?_
          exact ⟨by rw [HE.out]; rfl, KR.out.below⟩
        · have t1 : decide (0 < cc) = false := decide_eq_false q1
          by_cases q2 : cc = 0
          · subst q2
            clear q1
            cases li with
            | false =>
              have HE : Hid (R = none) := Lib.hid (by rw [HE.out, HSE.out]; rfl)
              clear HSE
              replace KR := Lib.hid (cells7_store KR.out 0 rfl (.int .i64 0) (.int .i64 0) (.int .i64 0) (.int .i64 0) (.bool false) (.bool false) (.bool false))
              simp only [List.set_cons_zero] at KR
              go_wp2
              generalize World.setCell _ _ _ = wz at *
              refine bodyPost_ret (results_row_tmp (fn := Try.f11) rfl _ _ w.heap.size _ _ _ _ rfl (KR.out.l _ (List.mem_singleton.2 rfl)) Try.underlying40 rfl (by kernel_rfl)) rfl ?_
              exact ⟨by rw [HE.out]; rfl, KR.out.below⟩
            | true =>
              cases hi' with
              | false =>
                have HE : Hid (R = none) := Lib.hid (by rw [HE.out, HSE.out]; rfl)
                clear HSE
                replace KR := Lib.hid (cells7_store KR.out 0 rfl (.int .i64 0) (.int .i64 0) (.int .i64 0) (.int .i64 0) (.bool false) (.bool false) (.bool false))
                simp only [List.set_cons_zero] at KR
                go_wp2
                generalize World.setCell _ _ _ = wz at *
                refine bodyPost_ret (results_row_tmp (fn := Try.f11) rfl _ _ w.heap.size _ _ _ _ rfl (KR.out.l _ (List.mem_singleton.2 rfl)) Try.underlying40 rfl (by kernel_rfl)) rfl ?_
                exact ⟨by rw [HE.out]; rfl, KR.out.below⟩
              | true =>
                have HE : Hid (R = some ⟨(a1, a2), (h1, h2), true, true, false⟩) := Lib.hid (by rw [HE.out, HSE.out]; rfl)
                clear HSE
                replace KR := Lib.hid (cells7_store KR.out 0 rfl (.int .i64 a1) (.int .i64 a2) (.int .i64 h1) (.int .i64 h2) (.bool true) (.bool true) (.bool false))
                simp only [List.set_cons_zero] at KR
                go_wp2
                generalize World.setCell _ _ _ = wz at *
                refine bodyPost_ret (results_row_tmp (fn := Try.f11) rfl _ _ w.heap.size _ _ _ _ rfl (KR.out.l _ (List.mem_singleton.2 rfl)) Try.underlying40 rfl (by kernel_rfl)) rfl ?_
                exact ⟨by rw [HE.out]; rfl, KR.out.below⟩
          · have t2 : (cc == 0) = false := by simp [q2]
            have HE : Hid (R = some ⟨(a1, a2), (h1, h2), li, hi', false⟩) := Lib.hid (by rw [HE.out, HSE.out, t1, decide_eq_false q2]; rfl)
            clear q1 q2 HSE
            replace KR := Lib.hid (cells7_store KR.out 0 rfl (.int .i64 a1) (.int .i64 a2) (.int .i64 h1) (.int .i64 h2) (.bool li) (.bool hi') (.bool false))
            simp only [List.set_cons_zero] at KR
            go_wp2
            generalize World.setCell _ _ _ = wz at *
            refine bodyPost_ret (results_row_tmp (fn := Try.f11) rfl _ _ w.heap.size _ _ _ _ rfl (KR.out.l _ (List.mem_singleton.2 rfl)) Try.underlying40 rfl (by kernel_rfl)) rfl ?_
            exact ⟨by rw [HE.out]; rfl, KR.out.below⟩
/-- Delays of a zone that is there, of a valuation that may be one. -/
theorem delays_any (v : Value) (n : Nat) (m : Mat) (A : Option Addr) (c : Nat) (l : List (Int × Int)) (w : World) (hz : ZoneV 109 w v (some (n, m))) (hk : m = (fun _ _ => 0) ∨ ClosedZ n m) (hI : RatsA w A l) (h64 : All64v l) (hv : rightV l = true) (hl : l.length = n) :
    Calls Try.prog 11 #[v, .slice A l.length c] w (DelEnds w (delaysP n m l)) := by
  obtain ⟨b, e, hn, hr, hm⟩ := hz
  subst e
  rcases hk with rfl | hc
  · have he : emptyP (some (n, fun _ _ => 0)) = true := by show decide ((0 : Int) < 1) = true; decide
    have hd : delaysP n (fun _ _ => 0) l = none := by
      unfold delaysP
      rw [if_neg (by intro h; exact absurd h.2.2 (by decide))]
    rw [hd]
    exact delays_empty b n _ A c l w hn hm he hI h64 hv hl
  · exact delays_zone b n m A c l w hn hm hr hc.full.notEmpty hI h64 hv hl

end Go.Proofs.Ytmelblnflalanaa

/- What live tells of points, whatever is asked. -/
namespace Go.Proofs.Ytmelblnflalanaa
open Go Go.RowKit
set_option linter.unusedVariables false
set_option linter.unusedSimpArgs false

theorem some_of6 {r : Option Mat × Int} (h1 : r.1.isSome = true) (h2 : r.2 = 0) : r = (some (r.1.getD fun _ _ => 0), 0) := by
  obtain ⟨a, b⟩ := r
  cases a
  · cases h1
  · simp only at h2; subst h2; rfl
def lp0 : Mat := (limP 1 [(1, 0, 16), (0, 1, -14)]).1.getD fun _ _ => 0
theorem lp0_is : limP 1 [(1, 0, 16), (0, 1, -14)] = (some lp0, 0) := some_of6 (by decide +kernel) (by decide +kernel)
theorem lp0_closed : ClosedZ 1 lp0 := by
  have h1 : ∀ i, i < 2 → ∀ j, j < 2 → rightB (lp0 i j) = true := by decide +kernel
  have h2 : ∀ i, i < 2 → lp0 i i = 1 := by decide +kernel
  have h3 : ∀ j, j < 2 → lp0 0 j ≤ 1 := by decide +kernel
  have h4 : ∀ q, q < 2 → ∀ i, i < 2 → ∀ j, j < 2 → widW lp0 i j ≤ wsum (widW lp0 i q) (widW lp0 q j) := by decide +kernel
  exact ⟨⟨fun i j hi hj => h1 i (by omega) j (by omega), fun i hi => h2 i (by omega), fun j hj => h3 j (by omega)⟩, fun q hq i j hi hj => h4 q hq i (by omega) j (by omega)⟩
theorem lp0_least : leastA (some (1, lp0)) = ([(15, 2)], 0) := by decide +kernel
theorem lp0_in : inZ (some (1, lp0)) [(15, 2)] = true := by decide +kernel
theorem some_span {o : Option SpanP} {s : SpanP} (h : (o.map fun t => (t.lo, t.hi, t.loIn, t.hiIn, t.ever)) = some (s.lo, s.hi, s.loIn, s.hiIn, s.ever)) : o = some s := by
  cases o with
  | none => cases h
  | some t =>
    obtain ⟨a, b, c, d, e⟩ := t
    obtain ⟨a', b', c', d', e'⟩ := s
    simp only [Option.map_some, Option.some.injEq, Prod.mk.injEq] at h
    obtain ⟨rfl, rfl, rfl, rfl, rfl⟩ := h
    rfl
theorem lp0_delays : delaysP 1 lp0 [(7, 1)] = some ⟨(0, 1), (1, 1), false, false, false⟩ := some_span (by decide +kernel)
theorem lims_two (w : World) (e : TypeId) (a b c a' b' c' : Int) : Lims (w.alloc (.cells #[.int .i64 a, .int .i64 b, .int .i32 c, .int .i64 a', .int .i64 b', .int .i32 c'] e (0, 0))) (some ⟨w.heap.size, 0, none⟩) [(a, b, c), (a', b', c')] := by
  have h1 := heap_alloc_new w (.cells #[.int .i64 a, .int .i64 b, .int .i32 c, .int .i64 a', .int .i64 b', .int .i32 c'] e (0, 0))
  intro j hj
  have e0 : j = 0 ∨ j = 1 := by simp at hj; omega
  rcases e0 with rfl | rfl <;> refine ⟨w.heap.size, 0, rfl, ?_, ?_, ?_⟩ <;> (unfold World.cell?; rw [h1]; rfl)
theorem rats_one (w : World) (e : TypeId) (x y : Int) : RatsA (w.alloc (.cells #[.int .i64 x, .int .i64 y] e (0, 0))) (some ⟨w.heap.size, 0, none⟩) [(x, y)] := fun j hj => by
  have h0 : j = 0 := by simpa using hj
  subst h0
  have h1 := heap_alloc_new w (.cells #[.int .i64 x, .int .i64 y] e (0, 0))
  refine ⟨w.heap.size, 0, rfl, ?_, ?_⟩ <;> (unfold World.cell?; rw [h1]; rfl)
theorem one64 {x y : Int} (hx : I64 x) (hy : I64 y) : All64v [(x, y)] := fun j hj => by
  have h0 : j = 0 := by simpa using hj
  subst h0
  exact ⟨hx, hy⟩

set_option maxRecDepth 100000 in
set_option maxHeartbeats 4000000 in
theorem live06_any (w : World) : Calls Try.prog 4 #[] w fun e w' => e = .returned (.bool true) ∧ Below w.heap.size w w' := by
  have HL := Lib.hid (fun A c w hI => limits_any 1 A c [(1, 0, 16), (0, 1, -14)] w hI (by simp) (fun q hq => by
    have : q = 0 ∨ q = 1 := by simp at hq; omega
    rcases this with rfl | rfl <;> decide))
  rw [lp0_is] at HL
  have HLE := Lib.hid (fun v w h => least_any v (some (1, lp0)) w h (fun n m e => by cases e; exact .inr lp0_closed))
  rw [lp0_least] at HLE
  have HDE := Lib.hid (fun v A c w h hI => delays_any v 1 lp0 A c [(7, 1)] w h (.inr lp0_closed) hI (one64 ⟨by decide, by decide⟩ ⟨by decide, by decide⟩) (by decide) rfl)
  rw [lp0_delays] at HDE
  have HIN := Lib.hid (fun v A c w h hI => in_any v (some (1, lp0)) A c [(15, 2)] w h hI (by decide) (one64 ⟨by decide, by decide⟩ ⟨by decide, by decide⟩))
  rw [lp0_in] at HIN
  go_enter Try.func4, Try.ntmps4
  go_wp2_with fail
  have HB0 := Lib.hid ((Below.refl w.heap.size w).alloc (Nat.le_refl _) (.cells #[.int .i64 1, .int .i64 0, .int .i32 16, .int .i64 0, .int .i64 1, .int .i32 (-14)] 54))
  have HL0 := Lib.hid (lims_two w 54 1 0 16 0 1 (-14))
  generalize w.alloc (.cells #[.int .i64 1, .int .i64 0, .int .i32 16, .int .i64 0, .int .i64 1, .int .i32 (-14)] 54) = w0 at *
  refine (HL.out _ _ _ HL0.out).mono ?_
  rintro e w1 ⟨hb, v, rfl, hv⟩
  have HB1 := Lib.hid (HB0.out.trans (hb.mono HB0.out.size))
  have HV1 := Lib.hid (show ZoneV 109 w1 v (some (1, lp0)) from hv)
  obtain ⟨b1, e1, _⟩ := hv
  subst e1
  clear hb HB0 HL0 HL
  go_wp2_with fail
  refine (HLE.out _ _ HV1.out).mono ?_
  rintro e w2 ⟨v2, rfl, hq⟩
  replace HV1 := Lib.hid (HV1.out.below hq.1)
  replace HB1 := Lib.hid (HB1.out.trans (hq.1.mono HB1.out.size))
  obtain ⟨A2, c2, rfl, hr2⟩ := hq.rats
  have HR2 := Lib.hid hr2
  clear hq hr2 HLE
  go_wp2_with fail
  have HR3 := Lib.hid (rats_one w2 25 7 1)
  have HB3 := Lib.hid (below_one w2 (.cells #[.int .i64 7, .int .i64 1] 25))
  replace HV1 := Lib.hid (HV1.out.below HB3.out)
  replace HR2 := Lib.hid (HR2.out.below HB3.out)
  replace HB1 := Lib.hid (HB1.out.trans (HB3.out.mono HB1.out.size))
  generalize w2.alloc (.cells #[.int .i64 7, .int .i64 1] 25) = w3 at *
  refine (HDE.out _ _ _ _ HV1.out HR3.out).mono ?_
  rintro e w4 ⟨he, hb⟩
  simp only [spanCs, Option.getD_some, Option.isSome_some] at he
  subst he
  replace HV1 := Lib.hid (HV1.out.below hb)
  replace HR2 := Lib.hid (HR2.out.below hb)
  replace HB1 := Lib.hid (HB1.out.trans (hb.mono HB1.out.size))
  clear hb HB3 HR3 HDE
  go_upto_region 6 with fail
  have HB5 := Lib.hid (below_one w4 (.cells #[.int .i64 0, .int .i64 1, .int .i64 1, .int .i64 1, .bool false, .bool false, .bool false] 40))
  have K := Lib.hid ((Blx.start w4).new #[.int .i64 0, .int .i64 1, .int .i64 1, .int .i64 1, .bool false, .bool false, .bool false] 40)
  replace HV1 := Lib.hid (HV1.out.below HB5.out)
  replace HR2 := Lib.hid (HR2.out.below HB5.out)
  replace HB1 := Lib.hid (HB1.out.trans (HB5.out.mono HB1.out.size))
  generalize w4.alloc (.cells #[.int .i64 0, .int .i64 1, .int .i64 1, .int .i64 1, .bool false, .bool false, .bool false] 40) = w5 at *
  simp only [List.nil_append] at K
  generalize w4.heap.size = g5 at *
  obtain ⟨b2, off, rfl, k1, k2⟩ := HR2.out 0 (by decide)
  rw [show off + 0 * 2 = off by omega] at k1 k2
  go_wp2_with fail
  refine (HIN.out _ _ _ _ HV1.out HR2.out).mono ?_
  rintro e w6 ⟨rfl, hb⟩
  replace K := Lib.hid (K.out.step hb)
  replace HB1 := Lib.hid (HB1.out.trans (hb.mono HB1.out.size))
  clear hb HIN k1 k2
  obtain ⟨⟨c0, c1, c2, c3, c4, c5, c6⟩, _⟩ := cells7_at K.out 0 rfl
  go_wp2
  go_ret
  exact ⟨rfl, HB1.out⟩

end Go.Proofs.Ytmelblnflalanaa

/- A valuation when time has passed, as point has it. -/
namespace Go.Proofs.Ytmelblnflalanaa
open Go Go.RowKit
set_option linter.unusedVariables false
set_option linter.unusedSimpArgs false

set_option maxRecDepth 100000 in
set_option maxHeartbeats 4000000 in
theorem wait_bad (A : Option Addr) (c : Nat) (l : List (Int × Int)) (d1 d2 : Int) (w : World) (hI : RatsA w A l) (hmax : l.length ≤ 8796093022000) (h64 : All64v l) (hd1 : I64 d1) (hd2 : I64 d2) (hbad : ¬ (rightV l = true ∧ rightR (d1, d2) = true ∧ 0 ≤ d1)) :
    Calls Try.prog 9 #[.slice A l.length c, .agg #[.int .i64 d1, .int .i64 d2]] w (LstEnds w [] 7) := by
  have HR := Lib.hid (fun W (hb : Below w.heap.size w W) => right_val A c l W (hI.below hb) hmax h64)
  have HRD := Lib.hid (fun W => rightq_any d1 d2 hd1 hd2 W)
  have K := Lib.hid ((Blx.start w).new #[.int .i64 d1, .int .i64 d2] 25)
  have HO := Lib.hid ((OwnQ.start w).step (below_one w (.cells #[.int .i64 d1, .int .i64 d2] 25)))
  obtain ⟨rv, hrv⟩ : ∃ q, q = rightV l := ⟨_, rfl⟩
  obtain ⟨rd, hrd⟩ : ∃ q, q = rightR (d1, d2) := ⟨_, rfl⟩
  rw [← hrv] at HR hbad
  rw [← hrd] at HRD hbad
  clear hI h64 hd1 hd2 hmax hrv hrd
  go_enter Try.func9, Try.ntmps9
  go_upto_region 1 with fail
  generalize w.alloc (.cells #[.int .i64 d1, .int .i64 d2] 25) = w1 at *
  simp only [List.nil_append] at K
  go_wp2_with fail
  refine (HR.out _ K.out.below).mono ?_
  rintro e w2 ⟨rfl, hb⟩
  replace K := Lib.hid (K.out.step hb)
  replace HO := Lib.hid (HO.out.step hb)
  clear hb
  cases rv with
  | false =>
    go_wp2
    go_ret2
    exact ⟨_, rfl, HO.out⟩
  | true =>
    obtain ⟨k1, k2, _, _⟩ := K.out.cells2 0 rfl
    go_wp2_with fail
    refine (HRD.out _).mono ?_
    rintro e w3 ⟨rfl, hb⟩
    replace K := Lib.hid (K.out.step hb)
    replace HO := Lib.hid (HO.out.step hb)
    clear hb k1 k2
    cases rd with
    | false =>
      go_wp2
      go_ret2
      exact ⟨_, rfl, HO.out⟩
    | true =>
      have hneg : d1 < 0 := by
        have : ¬ 0 ≤ d1 := fun h => hbad ⟨by simp, by simp, h⟩
        omega
      obtain ⟨k1, k2, _, _⟩ := K.out.cells2 0 rfl
      clear hbad
      go_wp2
      go_ret2
      exact ⟨_, rfl, HO.out⟩

set_option maxRecDepth 100000 in
set_option maxHeartbeats 4000000 in
theorem wait_goods (A : Option Addr) (c : Nat) (l : List (Int × Int)) (d1 d2 : Int) (w : World) (hI : RatsA w A l) (hmax : l.length ≤ 8796093022000) (h64 : All64v l) (hd1 : I64 d1) (hd2 : I64 d2) (hrv : rightV l = true) (hrd : rightR (d1, d2) = true) (hd0 : 0 ≤ d1) :
    Calls Try.prog 9 #[.slice A l.length c, .agg #[.int .i64 d1, .int .i64 d2]] w (LstEnds w (waitA l (d1, d2)).1 (waitA l (d1, d2)).2) := by
  have HR := Lib.hid (fun W (hb : Below w.heap.size w W) => right_val A c l W (hI.below hb) hmax h64)
  have HRD := Lib.hid (fun W => rightq_any d1 d2 hd1 hd2 W)
  have K := Lib.hid ((Blx.start w).new #[.int .i64 d1, .int .i64 d2] 25)
  have HI := Lib.hid hI
  have H64 := Lib.hid h64
  have HAD := Lib.hid (fun (x1 x2 : Int) (h1 : I64 x1) (h2 : I64 x2) W => addq_any x1 x2 d1 d2 h1 h2 hd1 hd2 W)
  have hl8 : l.length ≤ 8 := by
    unfold rightV at hrv
    exact of_decide_eq_true (Bool.and_eq_true_iff.1 hrv).1
  obtain ⟨R, hR⟩ : ∃ q, q = waitEF l (d1, d2) l.length 0 := ⟨_, rfl⟩
  have HA : Hid (waitA l (d1, d2) = if R = 0 then (waitV l (d1, d2), 0) else ([], R)) := Lib.hid (by unfold waitA; rw [if_pos ⟨hrv, hrd, hd0⟩, ← hR])
  have HR0 := Lib.hid hR
  obtain ⟨res, hres⟩ : ∃ q, q = waitA l (d1, d2) := ⟨_, rfl⟩
  rw [← hres] at HA ⊢
  rw [hrv] at HR
  rw [hrd] at HRD
  have n0 : ¬ d1 < 0 := by omega
  clear hI h64 hd1 hd2 hmax hrv hrd hres hR
  go_enter Try.func9, Try.ntmps9
  go_upto_region 1 with fail
  generalize w.alloc (.cells #[.int .i64 d1, .int .i64 d2] 25) = w1 at *
  simp only [List.nil_append] at K
  go_wp2_with fail
  refine (HR.out _ K.out.below).mono ?_
  rintro e w2 ⟨rfl, hb⟩
  replace K := Lib.hid (K.out.step hb)
  clear hb HR
  obtain ⟨k1, k2, _, _⟩ := K.out.cells2 0 rfl
  go_wp2_with fail
  refine (HRD.out _).mono ?_
  rintro e w3 ⟨rfl, hb⟩
  replace K := Lib.hid (K.out.step hb)
  clear hb k1 k2 HRD
  obtain ⟨k1, k2, _, _⟩ := K.out.cells2 0 rfl
  have HO := Lib.hid (OwnQ.start w3)
  go_wp2
  clear k1 k2
  go_loopg [6, 26] l.length (fun g v x wr => ∃ p : Nat, x = .int .i64 p ∧ Hid (OwnQ w3 ((waitV l (d1, d2)).take p) v wr) ∧ Hid (p ≤ l.length ∧ g + p = l.length ∧ R = waitEF l (d1, d2) g p))
  case atStart => exact ⟨0, by simp, Lib.hid HO.out, Lib.hid ⟨by omega, by omega, HR0.out⟩⟩
  case round =>
    clear HO HR0
    obtain ⟨p, rfl, HO, HG⟩ := hrel
    have q5 : IntKind.i64.wrap ((p : Int) + 1) = ((p + 1 : Nat) : Int) := by rw [IntWalk.i64_in _ (by have := HG.out.1; omega)]; omega
    by_cases hp : p < l.length
    · have hpi : (p : Int) < (l.length : Int) := by omega
      obtain ⟨ba, oa, rfl, e1, e2⟩ := HI.out.below (K.out.below.trans (HO.out.1.mono K.out.below.size)) p hp
      have x64 := H64.out p hp
      have HST : Hid (R = if (addP (l.getD p (0, 0)) (d1, d2)).2 = 0 then waitEF l (d1, d2) (l.length - (p + 1)) (p + 1) else (addP (l.getD p (0, 0)) (d1, d2)).2) := Lib.hid (by
        have h := HG.out.2.2
        rw [show gk = (l.length - (p + 1)) + 1 by have := HG.out.2.1; omega] at h
        exact h)
      have HTK := Lib.hid (waitV_take (v := l) (d := (d1, d2)) hp)
      have HLN : Hid (((waitV l (d1, d2)).take p).length ≤ 8) := Lib.hid (by rw [List.length_take, waitV_length]; omega)
      obtain ⟨x, hx⟩ : ∃ x, x = l.getD p (0, 0) := ⟨_, rfl⟩
      rw [← hx] at e1 e2 x64 HST HTK
      obtain ⟨x1, x2⟩ := x
      have HAX := Lib.hid (fun W => HAD.out x1 x2 x64.1 x64.2 W)
      obtain ⟨y, hy⟩ : ∃ y, y = addP (x1, x2) (d1, d2) := ⟨_, rfl⟩
      rw [← hy] at HST HTK HAX
      obtain ⟨⟨y1, y2⟩, ye⟩ := y
      unfold rtV at HAX
      clear hx hy x64
      go_upto_region 7 with fail
      have KD := Lib.hid ((K.out.step HO.out.1).new #[.int .i64 x1, .int .i64 x2] 25)
      replace HO := Lib.hid (HO.out.step (below_one wr (.cells #[.int .i64 x1, .int .i64 x2] 25)))
      generalize wr.alloc (.cells #[.int .i64 x1, .int .i64 x2] 25) = w4 at *
      generalize wr.heap.size = g4 at *
      simp only [List.cons_append, List.nil_append] at KD
      obtain ⟨k1, k2, _, _⟩ := KD.out.cells2 0 rfl
      obtain ⟨k3, k4, _, _⟩ := KD.out.cells2 1 rfl
      clear e1 e2 KD
      go_wp2_with fail
      refine (HAX.out _).mono ?_
      rintro e w5 ⟨rfl, hb⟩
      replace HO := Lib.hid (HO.out.step hb)
      clear hb k1 k2 k3 k4 HAX
      go_upto_region 8 with fail
      have K5 := Lib.hid ((Blx.start w5).new #[.int .i64 y1, .int .i64 y2] 25)
      replace HO := Lib.hid (HO.out.step (below_one w5 (.cells #[.int .i64 y1, .int .i64 y2] 25)))
      generalize w5.alloc (.cells #[.int .i64 y1, .int .i64 y2] 25) = w6 at *
      generalize w5.heap.size = g6 at *
      obtain ⟨k1, k2, _, _⟩ := K5.out.cells2 0 rfl
      by_cases hye : ye = 0
      · subst hye
        have HE := Lib.hid (HST.out.trans (if_pos rfl))
        go_upto_region 10 with fail
        have K2 := Lib.hid ((Blx.start w6).new #[.int .i64 y1, .int .i64 y2] 25)
        replace HO := Lib.hid (HO.out.step (below_one w6 (.cells #[.int .i64 y1, .int .i64 y2] 25)))
        obtain ⟨k3, k4, _, _⟩ := K2.out.cells2 0 rfl
        obtain ⟨v', w', hrun, hnext⟩ := HO.out.next w6.heap.size 1 y1 y2 ⟨k3, k4⟩ (by have := HLN.out; omega)
        have HO := Lib.hid hnext
        rw [← HTK.out] at HO
        clear hnext k3 k4
        go_wp2_with (at_builtin; refine wpList_append_run rfl _ _ 23 rfl _ _ v' w' rfl rfl hrun ?_)
        clear hrun
        go_wp2
        go_roundg (gk - 1)
        case measure => have h := HG.out.2.1; omega
        case rel => exact ⟨p + 1, by go_num, HO, Lib.hid ⟨by omega, by have h := HG.out.2.1; omega, by rw [show gk - 1 = l.length - (p + 1) by have h := HG.out.2.1; omega]; exact HE.out⟩⟩
      · have t1 : (ye != 0) = true := by simp [hye]
        have HE : Hid (res = ([], ye)) := Lib.hid (by
          have e := HST.out.trans (if_neg hye)
          rw [HA.out, e, if_neg hye])
        have HF := Lib.hid (((OwnQ.start w).step K.out.below).step HO.out.1)
        clear hye
        go_wp2
        go_ret2
        rw [HE.out]
        exact ⟨_, rfl, HF.out⟩
    · have hpi : ¬ (p : Int) < (l.length : Int) := by omega
      have HE : Hid (res = (waitV l (d1, d2), 0)) := Lib.hid (by
        have e := HG.out.2.2
        rw [show gk = 0 by have := HG.out.2.1; omega] at e
        have e : R = 0 := e
        rw [HA.out, if_pos e])
      have hfull : (waitV l (d1, d2)).take p = waitV l (d1, d2) := List.take_of_length_le (by rw [waitV_length]; have := HG.out.1; omega)
      rw [hfull] at HO
      have HF := Lib.hid (HO.out.from K.out.below)
      clear hfull HO
      go_wp2
      go_ret2
      rw [HE.out]
      exact ⟨_, rfl, HF.out⟩
theorem wait_any (A : Option Addr) (c : Nat) (l : List (Int × Int)) (d1 d2 : Int) (w : World) (hI : RatsA w A l) (hmax : l.length ≤ 8796093022000) (h64 : All64v l) (hd1 : I64 d1) (hd2 : I64 d2) :
    Calls Try.prog 9 #[.slice A l.length c, .agg #[.int .i64 d1, .int .i64 d2]] w (LstEnds w (waitA l (d1, d2)).1 (waitA l (d1, d2)).2) := by
  by_cases h : rightV l = true ∧ rightR (d1, d2) = true ∧ 0 ≤ d1
  · exact wait_goods A c l d1 d2 w hI hmax h64 hd1 hd2 h.1 h.2.1 h.2.2
  · have e : waitA l (d1, d2) = ([], 7) := by unfold waitA; exact if_neg h
    rw [e]
    exact wait_bad A c l d1 d2 w hI hmax h64 hd1 hd2 h
theorem waitV64 {l : List (Int × Int)} {d : Int × Int} : All64v (waitV l d) := fun j hj => by
  rw [waitV_length] at hj
  rw [waitV_getD hj]
  unfold addP
  split
  · exact frac64 _ _
  · exact ⟨⟨by decide, by decide⟩, ⟨by decide, by decide⟩⟩
theorem waitA64 {l : List (Int × Int)} {d : Int × Int} : All64v (waitA l d).1 := by
  unfold waitA
  split
  · split
    · exact waitV64
    · exact fun j hj => absurd hj (by simp)
  · exact fun j hj => absurd hj (by simp)

end Go.Proofs.Ytmelblnflalanaa

/- A valuation with a clock set, and whether guards hold of it, as point tells it. -/
namespace Go.Proofs.Ytmelblnflalanaa
open Go Go.RowKit
set_option linter.unusedVariables false
set_option linter.unusedSimpArgs false

section
variable {P : Program} {ops : Array Oper} {Q : Exit → Act → World → Prop}
/-- THE RULE of a region that draws, with it: what has come up, all that it waits for has come up. -/
theorem wp_region_tabC {id : Nat} {a0 : Act} {w0 : World} (hm : P.follows .mixedOrders = true) (slots : List Nat) (needs : List (List Nat)) (J : (Nat → Bool) → (Nat → Value) → World → Prop)
    (hB : depsB .any ops needs = true) (hsl : slots.all (fun d => decide (d < a0.tmps.size)) = true) (h0 : J (fun _ => false) (fun d => a0.tmps.getD d undef) w0.drew)
    (hstep : ∀ i, i < ops.size → ∀ (a : Act) L vals w, (∀ d, d ∈ slots → a.eval (.tmp d) = vals d) → J L vals w → L i = false → (∀ j ∈ needs.getD i [], L j = true) → (∀ j k, k ∈ needs.getD j [] → L j = true → L k = true) → ∀ K : Act → World → Prop,
      (∀ d x w', d ∈ slots → J (fun k => k == i || L k) (fun k => if k = d then x else vals k) w' → K (a.put (some d) x) w') → (∀ w', J (fun k => k == i || L k) vals w' → K a w') → wpOp P ops Q i K a w)
    (hend : ∀ L vals w, J L vals w → (∀ i, i < ops.size → L i = true) → Q .normal (overA a0 slots vals) w) :
    (Code.region id ops true).wp P Q a0 w0 := by
  refine wp_region_tab hm slots needs (fun L vals w => J L vals w ∧ ∀ j k, k ∈ needs.getD j [] → L j = true → L k = true) hB hsl ⟨h0, fun _ _ _ h => Bool.noConfusion h⟩ ?_ (fun L vals w h hall => hend L vals w h.1 hall)
  intro i hi a L vals w E hJ hLi hn K hK hK0
  have hC : ∀ j k, k ∈ needs.getD j [] → (j == i || L j) = true → (k == i || L k) = true := fun j k hk h => by
    by_cases e : j = i
    · subst e; rw [hn k hk]; simp
    · have h : L j = true := by simpa [e] using h
      rw [hJ.2 j k hk h]; simp
  exact hstep i hi a L vals w E hJ.1 hLi hn hJ.2 K (fun d x w' hd h => hK d x w' hd ⟨h, hC⟩) (fun w' h => hK0 w' ⟨h, hC⟩)
/-- A guarded operation is left out: its guard was left out. -/
theorem want_undef {o : Oper} {a : Act} {j d : Nat} {b : Bool} (hg : o.guard = some (j, b)) (hj : (ops[j]?).bind (·.dst) = some d) (hv : a.eval (.tmp d) = undef) : Region.wanted o (yielded ops a.tmps) = false := by
  have hv' : a.tmps.getD d undef = undef := hv
  unfold Region.wanted
  rw [hg]
  show (yielded ops a.tmps j == some b) = false
  unfold yielded
  rw [hj]
  show ((match (a.tmps[d]? : Option Value) with | some (.bool b) => some b | _ => none) == some b) = false
  rw [Array.getD_eq_getD_getElem?] at hv'
  cases h : a.tmps[d]? with
  | none => rfl
  | some x =>
    rw [h] at hv'
    have hx : x = undef := hv'
    subst hx
    rfl
end

/-! ### Set -/
/-- What Set answers. -/
def setA (l : List (Int × Int)) (c k : Int) : List (Int × Int) × Int :=
  if rightV l = true then (if c < 1 ∨ (l.length : Int) < c then ([], 12) else if k < 0 ∨ 1048576 < k then ([], 13) else (setV l c.toNat k, 0)) else ([], 7)
theorem rcells_get {l : List (Int × Int)} {q : Nat} {u : Value} (h : (rcells l)[q]? = some u) : q / 2 < l.length ∧ ((q % 2 = 0 ∧ u = .int .i64 (l.getD (q / 2) (0, 0)).1) ∨ (q % 2 = 1 ∧ u = .int .i64 (l.getD (q / 2) (0, 0)).2)) := by
  have hq : q < l.length * 2 := by rw [← rcells_length]; exact (List.getElem?_eq_some_iff.1 h).1
  have hl : q / 2 < l.length := by omega
  obtain ⟨a, b⟩ := rcells_at l (q / 2) hl
  refine ⟨hl, ?_⟩
  rcases (show q % 2 = 0 ∨ q % 2 = 1 by omega) with e | e
  · rw [show q / 2 * 2 = q by omega, h] at a
    exact .inl ⟨e, by simpa using a⟩
  · rw [show q / 2 * 2 + 1 = q by omega, h] at b
    exact .inr ⟨e, by simpa using b⟩
/-- A row of one's own, out of another row. -/
theorem OwnQ.whole {w0 w2 : World} {v : Value} (h : OwnQ w0 [] v w2) (g off c : Nat) (l : List (Int × Int)) (hl : RatsA w2 (some ⟨g, off, none⟩) l) (hmax : l.length ≤ 1000) :
    ∃ v' w', (Builtin.append_ #[23, 23] 23 #[v, .slice (some ⟨g, off, none⟩) l.length c]).run Try.prog w2 = .ok v' w' ∧ OwnQ w0 l v' w' := by
  obtain ⟨i0, hi, hz0, hz1, hz2⟩ := info_partsQ infoQ
  have ea : ∀ k, (⟨g, off, none⟩ : Addr).add k = ⟨g, off + k, none⟩ := fun k => by unfold Addr.add; split <;> simp_all
  obtain ⟨v', w', h2, h3, h4, _⟩ := run_append_own (P := Try.prog) w2 w0.heap.size 23 23 25 i0 (.agg #[.int .i64 0, .int .i64 0]) 2 16 Try.underlying23 hi hz0 hz1 hz2 rfl (by decide) v 0 (rcells []) h.2 ⟨g, off, none⟩ l.length c (rcells l) (rcells_length _) (fun j u hu => by
    rw [ea]
    obtain ⟨hj, hu⟩ := rcells_get hu
    obtain ⟨b', o', e, c0, c1⟩ := hl (j / 2) hj
    simp only [Option.some.injEq, Addr.mk.injEq, and_true] at e
    obtain ⟨rfl, rfl⟩ := e
    rcases hu with ⟨e, rfl⟩ | ⟨e, rfl⟩
    · rw [← c0, show off + j = off + j / 2 * 2 by omega]
    · rw [← c1, show off + j = off + j / 2 * 2 + 1 by omega]) (rcells_one _) (by simp only [maxLen]; omega) (by omega) h.1.size
  refine ⟨v', w', h2, h.1.grown h4 h.1.size (fun k hk => (World.ownsRow.lt h.2 k hk).1), ?_⟩
  rw [Nat.zero_add] at h3
  exact h3
theorem rcells_set (l : List (Int × Int)) : ∀ (j : Nat) (x y : Int), j < l.length → rcells (l.set j (x, y)) = ((rcells l).set (j * 2) (.int .i64 x)).set (j * 2 + 1) (.int .i64 y) := by
  induction l with
  | nil => intro j x y h; simp at h
  | cons a l ih =>
    intro j x y h
    cases j with
    | zero => simp [rcells]
    | succ j =>
      have e := ih j x y (by simpa using h)
      have e1 : ∀ (z : Int × Int) (r : List (Int × Int)), rcells (z :: r) = .int .i64 z.1 :: .int .i64 z.2 :: rcells r := fun z r => rfl
      rw [List.set_cons_succ, e1, e1, e, show (j + 1) * 2 = j * 2 + 1 + 1 by omega, List.set_cons_succ, List.set_cons_succ, List.set_cons_succ, List.set_cons_succ]
/-- One fraction of a row of one's own is written. -/
theorem OwnQ.put {w0 wr : World} {l : List (Int × Int)} {g cap : Nat} (h : OwnQ w0 l (.slice (some ⟨g, 0, none⟩) l.length cap) wr) (j : Nat) (hj : j < l.length) (x y : Int) :
    OwnQ w0 (l.set j (x, y)) (.slice (some ⟨g, 0, none⟩) l.length cap) ((wr.setCell ⟨g, j * 2, none⟩ (.int .i64 x)).setCell ⟨g, j * 2 + 1, none⟩ (.int .i64 y)) := by
  obtain ⟨hb, hl, h⟩ := h
  rcases h with ⟨h, _⟩ | ⟨g', cap', cur, e1, e2, h1, h2, h3, h4, h5⟩
  · cases h
  · simp only [Value.slice.injEq, Option.some.injEq, Addr.mk.injEq, and_true, true_and] at e1
    obtain ⟨rfl, rfl⟩ := e1
    refine ⟨(hb.setCell (p := ⟨g, j * 2, none⟩) e2 _).setCell (p := ⟨g, j * 2 + 1, none⟩) e2 _, by rw [rcells_length, List.length_set], .inr ⟨g, cap, (cur.setIfInBounds (j * 2) (.int .i64 x)).setIfInBounds (j * 2 + 1) (.int .i64 y), by rw [List.length_set], e2, ?_, by rw [List.length_set]; exact h2, h3, by simpa using h4, ?_⟩⟩
    · simp [World.setCell, Array.getElem?_modify, h1]
    · rw [rcells_set l j x y hj, List.length_set, ← h5]
      simp only [Array.toList_setIfInBounds, List.take_set]
theorem OwnQ.at2 {w0 wr : World} {l : List (Int × Int)} {g cap : Nat} (h : OwnQ w0 l (.slice (some ⟨g, 0, none⟩) l.length cap) wr) (j : Nat) (hj : j < l.length) :
    (wr.cell? ⟨g, j * 2, none⟩ = some (.int .i64 (l.getD j (0, 0)).1) ∧ wr.cell? ⟨g, j * 2 + 1, none⟩ = some (.int .i64 (l.getD j (0, 0)).2)) ∧ wr.frozen? ⟨g, j * 2, none⟩ = false ∧ wr.frozen? ⟨g, j * 2 + 1, none⟩ = false := by
  obtain ⟨A, cap', e, hR⟩ := h.rats
  obtain ⟨b, off, rfl, c0, c1⟩ := hR j hj
  simp only [Value.slice.injEq, Option.some.injEq, Addr.mk.injEq, and_true, true_and] at e
  obtain ⟨⟨rfl, rfl⟩, rfl⟩ := e
  rw [Nat.zero_add] at c0 c1
  refine ⟨⟨c0, c1⟩, ?_⟩
  obtain ⟨_, _, h⟩ := h
  rcases h with ⟨h, _⟩ | ⟨g', cap', cur, e1, e2, h1, _⟩
  · cases h
  · simp only [Value.slice.injEq, Option.some.injEq, Addr.mk.injEq, and_true, true_and] at e1
    obtain ⟨rfl, rfl⟩ := e1
    constructor <;> (unfold World.frozen?; rw [h1]; simp)

set_option maxRecDepth 100000 in
set_option maxHeartbeats 1000000 in
theorem clone_some (g off c : Nat) (l : List (Int × Int)) (w : World) (hI : RatsA w (some ⟨g, off, none⟩) l) (h0 : 0 < l.length) (hmax : l.length ≤ 1000) :
    Calls Try.prog 45 #[.slice (some ⟨g, off, none⟩) l.length c] w fun e w' => ∃ v, e = .returned v ∧ OwnQ w l v w' := by
  have HI := Lib.hid hI
  have HM := Lib.hid hmax
  have hne : l ≠ [] := fun e => by rw [e] at h0; exact absurd h0 (by decide)
  have hnil := fun (W : World) => Lib.run_eql_slice_nil (P := Try.prog) W 23 25 (some ⟨g, off, none⟩) l.length c 0 0 Try.underlying23
  have hb1 := below_one w (.cells #[] 25)
  have HO : OwnQ w [] (.slice (some ⟨w.heap.size, 0, none⟩) 0 0) (w.alloc (.cells #[] 25)) := ⟨hb1, rfl, .inr ⟨w.heap.size, 0, #[], rfl, Nat.le_refl _, heap_alloc_new _ _, Nat.le_refl _, Nat.zero_le _, rfl, rfl⟩⟩
  obtain ⟨v', w', hrun, hown⟩ := HO.whole g off c l (hI.below hb1) hmax
  have HW := Lib.hid hown
  clear hI hmax h0 hb1 HO hown
  go_enter Try.func45, Try.ntmps45
  go_wp2_with (at_builtin; refine wpList_append_run rfl _ _ 23 rfl _ _ v' w' rfl rfl hrun ?_)
  clear hrun
  go_wp2
  go_ret
  exact ⟨_, rfl, HW.out⟩

def SetEnds (w : World) (r : List (Int × Int) × Int) (e : Ending) (w' : World) : Prop := LstEnds w r.1 r.2 e w'
theorem setA_bad {l : List (Int × Int)} {c k : Int} (h : rightV l = false) : setA l c k = ([], 7) := by unfold setA; rw [if_neg (by rw [h]; decide)]
theorem rightV_short {l : List (Int × Int)} (h : rightV l = true) : l.length ≤ 8 := by
  unfold rightV at h
  exact of_decide_eq_true (Bool.and_eq_true_iff.1 h).1

set_option maxRecDepth 100000 in
set_option maxHeartbeats 4000000 in
theorem set_any (A : Option Addr) (cp : Nat) (l : List (Int × Int)) (c k : Int) (w : World) (hI : RatsA w A l) (hmax : l.length ≤ 8796093022000) (h64 : All64v l) (hc : I64 c) :
    Calls Try.prog 14 #[.slice A l.length cp, .int .i64 c, .int .i64 k] w (SetEnds w (setA l c k)) := by
  have HR := Lib.hid (right_val A cp l w hI hmax h64)
  have HI := Lib.hid hI
  have HS := Lib.hid (OwnQ.start w)
  by_cases hrv : rightV l = true
  · have h8 := rightV_short hrv
    have HA : Hid (setA l c k = if c < 1 ∨ (l.length : Int) < c then ([], 12) else if k < 0 ∨ 1048576 < k then ([], 13) else (setV l c.toNat k, 0)) := Lib.hid (by unfold setA; rw [if_pos hrv])
    rw [hrv] at HR
    obtain ⟨r, hr⟩ : ∃ r, r = setA l c k := ⟨_, rfl⟩
    rw [← hr] at HA ⊢
    have HC := Lib.hid hc
    clear hI h64 hrv hr hc hmax
    go_enter Try.func14, Try.ntmps14
    go_wp2_with fail
    refine HR.out.mono ?_
    rintro e w1 ⟨rfl, hb⟩
    have HB := Lib.hid hb
    clear hb HR
    by_cases c1 : c < 1
    · have hd : decide (c < 1) = true := decide_eq_true c1
      have HF := Lib.hid (HA.out.trans (if_pos (.inl c1)))
      clear c1 HA
      go_wp2
      go_ret2
      rw [HF.out]
      exact ⟨_, rfl, HS.out.step HB.out⟩
    · have hd : decide (c < 1) = false := decide_eq_false c1
      by_cases c2 : (l.length : Int) < c
      · have hd2 : decide ((l.length : Int) < c) = true := decide_eq_true c2
        have HF := Lib.hid (HA.out.trans (if_pos (.inr c2)))
        clear c1 c2 HA
        go_wp2
        go_ret2
        rw [HF.out]
        exact ⟨_, rfl, HS.out.step HB.out⟩
      · have hd2 : decide ((l.length : Int) < c) = false := decide_eq_false c2
        have HA := Lib.hid (HA.out.trans (if_neg (by omega)))
        by_cases k1 : k < 0
        · have hd3 : decide (k < 0) = true := decide_eq_true k1
          have HF := Lib.hid (HA.out.trans (if_pos (.inl k1)))
          clear c1 c2 k1 HA
          go_wp2
          go_ret2
          rw [HF.out]
          exact ⟨_, rfl, HS.out.step HB.out⟩
        · have hd3 : decide (k < 0) = false := decide_eq_false k1
          by_cases k2 : 1048576 < k
          · have hd4 : decide (1048576 < k) = true := decide_eq_true k2
            have HF := Lib.hid (HA.out.trans (if_pos (.inr k2)))
            clear c1 c2 k1 k2 HA
            go_wp2
            go_ret2
            rw [HF.out]
            exact ⟨_, rfl, HS.out.step HB.out⟩
          · have hd4 : decide (1048576 < k) = false := decide_eq_false k2
            have HF := Lib.hid (HA.out.trans (if_neg (by omega)))
            obtain ⟨j, rfl⟩ : ∃ j : Nat, c = (j : Int) + 1 := ⟨(c - 1).toNat, by omega⟩
            have hj : j < l.length := by omega
            obtain ⟨g0, off0, rfl, _⟩ := HI.out j hj
            have HCL := Lib.hid (fun W hI => clone_some g0 off0 cp l W hI (by omega) (by omega))
            have HRO := Lib.hid (fun W => rof2_any k W)
            have e1 : IntKind.i64.wrap ((j : Int) + 1 - 1) = (j : Int) := by rw [IntWalk.i64_in _ (by omega)]; omega
            have e2 : IntKind.i64.wrap (j : Int) = (j : Int) := IntWalk.i64_in _ (by omega)
            have e3 : (j : Int) < (l.length : Int) := by omega
            have HJ := Lib.hid hj
            clear c1 c2 k1 k2 HA h8 hj
            go_wp2_with fail
            refine (HCL.out _ (HI.out.below HB.out)).mono ?_
            rintro e w2 ⟨v2, rfl, hown⟩
            obtain ⟨g, cap, rfl⟩ : ∃ g cap, v2 = .slice (some ⟨g, 0, none⟩) l.length cap := by
              obtain ⟨_, _, h⟩ := hown
              rcases h with ⟨_, h⟩ | ⟨g', cap', cur, e1, _⟩
              · have := HJ.out; omega
              · exact ⟨_, _, e1⟩
            have HO := Lib.hid (hown.from HB.out)
            clear hown HCL
            go_wp2_with fail
            refine (HRO.out _).mono ?_
            rintro e w3 ⟨rfl, hb⟩
            replace HO := Lib.hid (HO.out.step hb)
            clear hb HRO
            obtain ⟨⟨m0, m1⟩, f0, f1⟩ := HO.out.at2 j HJ.out
            have HP := Lib.hid (HO.out.put j HJ.out k 1)
            go_wp2
            go_ret2
            rw [HF.out]
            refine ⟨_, rfl, ?_⟩
            have e4 : setV l ((j : Int) + 1).toNat k = l.set j (k, 1) := by unfold setV; rw [show ((j : Int) + 1).toNat - 1 = j by omega]
            rw [e4]
            exact HP.out
  · have hrv : rightV l = false := by simpa using hrv
    rw [setA_bad hrv]
    rw [hrv] at HR
    clear hI h64 hrv hc hmax
    go_enter Try.func14, Try.ntmps14
    go_wp2_with fail
    refine HR.out.mono ?_
    rintro e w1 ⟨rfl, hb⟩
    have HB := Lib.hid hb
    clear hb HR
    go_wp2
    go_ret2
    exact ⟨_, rfl, HS.out.step HB.out⟩

/-! ### Holds -/
theorem guard_mem {g : Int × Int × Int × Int} (h : (guardP g).2 = 0) : ∀ x ∈ (guardP g).1, rightB x.2.2 = true ∧ 0 ≤ g.1 ∧ 0 ≤ g.2.1 ∧ ((x.1 = g.1 ∧ x.2.1 = g.2.1) ∨ (x.1 = g.2.1 ∧ x.2.1 = g.1)) := by
  unfold guardP at h ⊢
  by_cases h1 : ¬ (0 ≤ g.1 ∧ g.1 ≤ 8 ∧ 0 ≤ g.2.1 ∧ g.2.1 ≤ 8)
  · rw [if_pos h1] at h; exact absurd h (by decide)
  rw [if_neg h1] at h ⊢
  by_cases h2 : ¬ (1 ≤ g.2.2.1 ∧ g.2.2.1 ≤ 5)
  · rw [if_pos h2] at h; exact absurd h (by decide)
  rw [if_neg h2] at h ⊢
  by_cases h3 : ¬ (-1048576 ≤ g.2.2.2 ∧ g.2.2.2 ≤ 1048576)
  · rw [if_pos h3] at h; exact absurd h (by decide)
  rw [if_neg h3] at h ⊢
  have hr : ∀ b : Int, -2097153 ≤ b → b ≤ 2097153 → rightB b = true := fun b q1 q2 => decide_eq_true (.inr (by omega))
  intro x hx
  split at hx
  · obtain rfl := List.mem_singleton.1 hx
    exact ⟨hr _ (by simp only; omega) (by simp only; omega), by omega, by omega, .inl ⟨rfl, rfl⟩⟩
  · split at hx
    · obtain rfl := List.mem_singleton.1 hx
      exact ⟨hr _ (by simp only; omega) (by simp only; omega), by omega, by omega, .inl ⟨rfl, rfl⟩⟩
    · split at hx
      · obtain rfl := List.mem_singleton.1 hx
        exact ⟨hr _ (by simp only; omega) (by simp only; omega), by omega, by omega, .inr ⟨rfl, rfl⟩⟩
      · split at hx
        · obtain rfl := List.mem_singleton.1 hx
          exact ⟨hr _ (by simp only; omega) (by simp only; omega), by omega, by omega, .inr ⟨rfl, rfl⟩⟩
        · simp only [List.mem_cons, List.mem_nil_iff, or_false] at hx
          rcases hx with rfl | rfl
          · exact ⟨hr _ (by simp only; omega) (by simp only; omega), by omega, by omega, .inl ⟨rfl, rfl⟩⟩
          · exact ⟨hr _ (by simp only; omega) (by simp only; omega), by omega, by omega, .inr ⟨rfl, rfl⟩⟩
def HoldEnds (w : World) (r : Bool × Int) (e : Ending) (w' : World) : Prop := e = .returned (.tuple #[.bool r.1, .int .i64 r.2]) ∧ Below w.heap.size w w'
theorem all_take {α : Type} (l : List α) (f : α → Bool) (d : α) (q : Nat) (hq : q < l.length) : (l.take (q + 1)).all f = ((l.take q).all f && f (l.getD q d)) := by
  rw [List.take_add_one, List.all_append, List.getD_eq_getElem?_getD, List.getElem?_eq_getElem hq]
  simp

def tbHd (A : Option Addr) (len c g4 : Nat) (ia ja bd x1 x2 y1 y2 : Int) (rr : Bool) : List (Nat × Nat × Value) :=
  [(0, 48, .bool true), (1, 49, .bool true), (2, 50, .slice A len c), (3, 51, .pointer (some ⟨g4, 0, none⟩)), (4, 52, .int .i64 ia), (5, 53, .agg #[.int .i64 x1, .int .i64 x2]), (6, 54, .slice A len c), (7, 55, .pointer (some ⟨g4, 1, none⟩)), (8, 56, .int .i64 ja), (9, 57, .agg #[.int .i64 y1, .int .i64 y2]), (10, 58, .pointer (some ⟨g4, 2, none⟩)), (11, 59, .int .i32 bd), (12, 60, .bool rr), (13, 61, .bool rr), (14, 6, .bool rr)]
def bsHd (A : Option Addr) (len c g4 : Nat) (ia ja bd x1 x2 y1 y2 : Int) (rr : Bool) : List (Nat × Value) := [(0, .slice A len c), (12, .pointer (some ⟨g4, 0, none⟩))]

set_option maxRecDepth 100000 in
set_option maxHeartbeats 16000000 in
theorem pholds_any (A : Option Addr) (c : Nat) (l : List (Int × Int)) (G : Option Addr) (gc : Nat) (gs : List (Int × Int × Int × Int)) (w : World) (hI : RatsA w A l) (hmax : l.length ≤ 8796093022000) (h64 : All64v l)
    (hG : Gds w G gs) (hgm : gs.length ≤ 4398046510976) (hk : ∀ p, p < gs.length → 0 ≤ (gs.getD p (0, 0, 0, 0)).2.2.1 ∧ (gs.getD p (0, 0, 0, 0)).2.2.1 ≤ 255) :
    Calls Try.prog 18 #[.slice A l.length c, .slice G gs.length gc] w (HoldEnds w (holdsA l gs)) := by
  have HR := Lib.hid (right_val A c l w hI hmax h64)
  have HG := Lib.hid hG
  have HK := Lib.hid hk
  have HM := Lib.hid hgm
  have HB0 := Lib.hid (Below.refl w.heap.size w)
  by_cases hrv : rightV l = true
  · have h8 := rightV_short hrv
    have HAT := Lib.hid (fun W (hb : Below w.heap.size w W) (i : Nat) (hi : i ≤ l.length) => at_val A c l i hi (by omega) W (hI.below hb))
    have HKK := Lib.hid (fun W (i j : Nat) (b : Int) (hi : i ≤ l.length) (hj : j ≤ l.length) (hb : rightB b = true) => keepsq_any (clockV l i).1 (clockV l i).2 (clockV l j).1 (clockV l j).2 b (clock64 h64 hi).1 (clock64 h64 hi).2 (clock64 h64 hj).1 (clock64 h64 hj).2 (clock_right hrv hi).1 (clock_right hrv hj).1 (clock_right hrv hi).2 (clock_right hrv hj).2 hb W)
    obtain ⟨R, hR⟩ : ∃ R, R = holdsFrom l gs gs.length 0 true := ⟨_, rfl⟩
    rw [show holdsA l gs = R by rw [hR]; unfold holdsA; rw [if_pos hrv]]
    have HE := Lib.hid hR
    have H8 := Lib.hid h8
    rw [hrv] at HR
    clear hI h64 hrv hR hG hk hgm hmax h8
    go_enter Try.func18, Try.ntmps18
    go_wp2_with fail
    refine HR.out.mono ?_
    rintro e w1 ⟨rfl, hb⟩
    have HB := Lib.hid hb
    clear hb HR
    go_wp2
    go_loopg [6, 18] gs.length (fun g s6 s18 wr => ∃ (p : Nat) (b : Bool), s18 = .int .i64 p ∧ s6 = .bool b ∧ Hid (Below w.heap.size w wr) ∧ Hid (p ≤ gs.length ∧ g + p = gs.length ∧ R = holdsFrom l gs g p b))
    case atStart => exact ⟨0, true, by simp, rfl, HB, Lib.hid ⟨by omega, by omega, HE.out⟩⟩
    case round =>
      clear HB HE
      obtain ⟨p, b, rfl, rfl, HB, HREL⟩ := hrel
      have q5 : IntKind.i64.wrap ((p : Int) + 1) = ((p + 1 : Nat) : Int) := by rw [IntWalk.i64_in _ (by have := HREL.out.1; have := HM.out; omega)]; omega
      by_cases hp : p < gs.length
      · have hpi : (p : Int) < (gs.length : Int) := by omega
        obtain ⟨bg, off, x, y, z, t, rfl, hx, c1, c2, c3, c4⟩ := gds_at (HG.out.below HB.out) hp
        have hz := HK.out p hp
        rw [hx] at hz
        have hz : 0 ≤ z ∧ z ≤ 255 := hz
        have HST : Hid (R = if (guardP (x, y, z, t)).2 ≠ 0 then (false, (guardP (x, y, z, t)).2) else if (l.length : Int) < x ∨ (l.length : Int) < y then (false, 12) else holdsFrom l gs (gs.length - (p + 1)) (p + 1) (b && (guardP (x, y, z, t)).1.all (lkV l))) := Lib.hid (by
          have h := HREL.out.2.2
          rw [show gk = (gs.length - (p + 1)) + 1 by have := HREL.out.2.1; omega] at h
          unfold holdsFrom at h
          rw [hx] at h
          exact h)
        have HL := Lib.hid (fun W => glim_any x y z t W hz)
        have HLN := Lib.hid (guardP_len (x, y, z, t)).1
        have HMM := Lib.hid (guard_mem (g := (x, y, z, t)))
        obtain ⟨r, hr⟩ : ∃ r, r = guardP (x, y, z, t) := ⟨_, rfl⟩
        rw [← hr] at HL HLN HST HMM
        obtain ⟨rl, re⟩ := r
        clear hx hz hr
        go_upto_region 7 with fail
        have K := Lib.hid ((Blx.start wr).new #[.int .i64 x, .int .i64 y, .int .u8 z, .int .i64 t] 90)
        replace HB := Lib.hid (HB.out.trans (K.out.below.mono HB.out.size))
        generalize wr.alloc (.cells #[.int .i64 x, .int .i64 y, .int .u8 z, .int .i64 t] 90) = w2 at *
        generalize wr.heap.size = g2 at *
        simp only [List.nil_append] at K
        have k1 := (K.out.cell 0 rfl 0 (v := .int .i64 x) rfl).1
        have k2 := (K.out.cell 0 rfl 1 (v := .int .i64 y) rfl).1
        have k3 := (K.out.cell 0 rfl 2 (v := .int .u8 z) rfl).1
        have k4 := (K.out.cell 0 rfl 3 (v := .int .i64 t) rfl).1
        clear c1 c2 c3 c4
        go_wp2_with fail
        refine (HL.out _).mono ?_
        rintro e w3 ⟨hb, B, cap, rfl, hlims⟩
        have HLM := Lib.hid hlims
        replace K := Lib.hid (K.out.step hb)
        replace HB := Lib.hid (HB.out.trans (hb.mono HB.out.size))
        clear hb hlims k1 k2 k3 k4 HL
        have k1 := (K.out.cell 0 rfl 0 (v := .int .i64 x) rfl).1
        have k2 := (K.out.cell 0 rfl 1 (v := .int .i64 y) rfl).1
        by_cases he : re = 0
        · subst he
          have HST := Lib.hid (HST.out.trans (if_neg (by simp)))
          by_cases d1 : (l.length : Int) < x
          · have e1 : decide ((l.length : Int) < x) = true := decide_eq_true d1
            have HF := Lib.hid (HST.out.trans (if_pos (.inl d1)))
            clear d1 HST
            go_wp2
            go_ret2
            rw [HF.out]
            exact ⟨rfl, HB.out⟩
          · have e1 : decide ((l.length : Int) < x) = false := decide_eq_false d1
            by_cases d2 : (l.length : Int) < y
            · have e2 : decide ((l.length : Int) < y) = true := decide_eq_true d2
              have HF := Lib.hid (HST.out.trans (if_pos (.inr d2)))
              clear d1 d2 HST
              go_wp2
              go_ret2
              rw [HF.out]
              exact ⟨rfl, HB.out⟩
            · have e2 : decide ((l.length : Int) < y) = false := decide_eq_false d2
              have HST := Lib.hid (HST.out.trans (if_neg (by omega)))
              have HMX := Lib.hid (fun q (hq : q < rl.length) => show ∃ (i j : Nat) (bd : Int), rl.getD q (0, 0, 0) = ((i : Int), (j : Int), bd) ∧ i ≤ l.length ∧ j ≤ l.length ∧ rightB bd = true from by
                obtain ⟨a1, a2, a3, a4⟩ := HMM.out rfl (rl.getD q (0, 0, 0)) (by rw [List.getD_eq_getElem?_getD, List.getElem?_eq_getElem hq]; exact List.getElem_mem hq)
                refine ⟨(rl.getD q (0, 0, 0)).1.toNat, (rl.getD q (0, 0, 0)).2.1.toNat, (rl.getD q (0, 0, 0)).2.2, ?_, ?_, ?_, a1⟩
                · rw [show ((rl.getD q (0, 0, 0)).1.toNat : Int) = (rl.getD q (0, 0, 0)).1 by omega, show ((rl.getD q (0, 0, 0)).2.1.toNat : Int) = (rl.getD q (0, 0, 0)).2.1 by omega]
                · omega
                · omega)
              clear d1 d2 HMM
              go_wp2
              clear k1 k2
              go_loopg [6, 44] rl.length (fun g s6 s44 wr => ∃ (q : Nat) (b' : Bool), s44 = .int .i64 q ∧ s6 = .bool b' ∧ Hid (Below w.heap.size w wr ∧ Lims wr B rl) ∧ Hid (q ≤ rl.length ∧ g + q = rl.length ∧ b' = (b && (rl.take q).all (lkV l))))
              case atStart => exact ⟨0, b, by simp, rfl, Lib.hid ⟨HB.out, HLM.out⟩, Lib.hid ⟨by omega, by omega, by simp⟩⟩
              case round =>
                clear HB HLM K
                obtain ⟨q, b', rfl, rfl, HBL, HQ⟩ := hrel
                have q6 : IntKind.i64.wrap ((q : Int) + 1) = ((q + 1 : Nat) : Int) := by rw [IntWalk.i64_in _ (by have := HQ.out.1; have := HLN.out; omega)]; omega
                by_cases hq : q < rl.length
                · have hqi : (q : Int) < (rl.length : Int) := by omega
                  obtain ⟨bl, ol, rfl, n1, n2, n3⟩ := HBL.out.2 q hq
                  obtain ⟨ia, ja, bd, hx, hi, hj, hbd⟩ := HMX.out q hq
                  have HTK := Lib.hid (all_take rl (lkV l) (0, 0, 0) q hq)
                  rw [hx] at n1 n2 n3 HTK
                  have HTK : Hid ((rl.take (q + 1)).all (lkV l) = ((rl.take q).all (lkV l) && keepsQ (clockV l ia) (clockV l ja) bd)) := HTK
                  simp only at n1 n2 n3
                  have HAI := Lib.hid (fun W hb => HAT.out W hb ia hi)
                  have HAJ := Lib.hid (fun W hb => HAT.out W hb ja hj)
                  have HKK := Lib.hid (fun W => HKK.out W ia ja bd hi hj hbd)
                  obtain ⟨x', hx'⟩ : ∃ x, x = clockV l ia := ⟨_, rfl⟩
                  obtain ⟨y', hy'⟩ : ∃ y, y = clockV l ja := ⟨_, rfl⟩
                  rw [← hx'] at HAI HKK HTK
                  rw [← hy'] at HAJ HKK HTK
                  obtain ⟨x1, x2⟩ := x'
                  obtain ⟨y1, y2⟩ := y'
                  simp only at HAI HAJ HKK
                  obtain ⟨rr, hrr⟩ : ∃ r, r = keepsQ (x1, x2) (y1, y2) bd := ⟨_, rfl⟩
                  rw [← hrr] at HKK HTK
                  clear hx hx' hy' hrr hi hj hbd
                  go_upto_region 15 with fail
                  have K := Lib.hid ((Blx.start wr).new #[.int .i64 ia, .int .i64 ja, .int .i32 bd] 54)
                  have hb5 := below_one wr (.cells #[.int .i64 ia, .int .i64 ja, .int .i32 bd] 54)
                  have HBR := HBL
                  replace HBL := Lib.hid (And.intro (HBL.out.1.trans (hb5.mono HBL.out.1.size)) (HBL.out.2.below hb5))
                  generalize wr.alloc (.cells #[.int .i64 ia, .int .i64 ja, .int .i32 bd] 54) = w5 at *
                  generalize wr.heap.size = g4 at *
                  simp only [List.nil_append] at K
                  clear hb5 n1 n2 n3
                  cases b' with
                  | false =>
                    have HN : Hid (false = (b && (rl.take (q + 1)).all (lkV l))) := Lib.hid (by
                      rw [HTK.out, ← Bool.and_assoc, ← HQ.out.2.2]; rfl)
                    go_quiet (fail)
                    generalize nq = nq at *
                    replace HBL := Lib.hid (And.intro (belowN HBL.out.1 nq) (HBL.out.2.below (belowN (Below.refl _ _) nq)))
                    generalize w5.drewN nq = wq at *
                    go_wp2
                    go_roundg (gk - 1)
                    case measure => have h := HQ.out.2.1; omega
                    case rel => exact ⟨q + 1, false, by go_num, rfl, HBL, Lib.hid ⟨by omega, by have h := HQ.out.2.1; omega, HN.out⟩⟩
                  | true =>
                    have HN : Hid (rr = (b && (rl.take (q + 1)).all (lkV l))) := Lib.hid (by
                      rw [HTK.out, ← Bool.and_assoc, ← HQ.out.2.2]; rfl)
                    refine wp_region_tabC (by kernel_rfl) [0, 12, 48, 49, 50, 51, 52, 53, 54, 55, 56, 57, 58, 59, 60, 61, 6] [[], [0], [1], [1], [1, 3], [1, 2, 4], [1], [1], [1, 7], [1, 5, 6, 8], [1], [1, 10], [1, 5, 9, 11], [1, 12], [0, 1, 2, 3, 4, 5, 6, 7, 8, 9, 10, 11, 12, 13]]
                      (fun L vals wx => Blx wr [(g4, #[.int .i64 ia, .int .i64 ja, .int .i32 bd], 54)] wx ∧ TabR (tbHd A l.length c g4 ia ja bd x1 x2 y1 y2 rr) (bsHd A l.length c g4 ia ja bd x1 x2 y1 y2 rr) L vals ∧ (L 14 = false → vals 6 = .bool true)) (by kernel_rfl) rfl ?_ ?_ ?_
                    · exact ⟨K.out.drew, TabR.start (by simp [bsHd]), fun _ => by simp⟩
                    · intro i hi a L vals wx E hJ hLi hn hC K hK hK0
                      obtain ⟨hI, hT, hA⟩ := hJ
                      match i, hi with
                      | 0, _ => exact op_moveG rfl rfl rfl rfl ((E 6 (by decide)).trans (hA (by cases h : L 14 with | false => rfl | true => exact absurd (hC 14 0 (by decide) h) (by rw [hLi]; decide)))) (hK 48 _ _ (by decide) ⟨hI, hT.set 0 rfl (by kernel_rfl) (by kernel_rfl), fun h => by simpa using hA (by simpa using h)⟩)
                      | 1, _ => exact op_moveG rfl rfl rfl rfl ((E 48 (by decide)).trans (hT.val 0 rfl (hn 0 (by decide)))) (hK 49 _ _ (by decide) ⟨hI, hT.set 1 rfl (by kernel_rfl) (by kernel_rfl), fun h => by simpa using hA (by simpa using h)⟩)
                      | 2, _ => exact op_moveG rfl (want_on (d := 49) (b := true) rfl rfl ((E 49 (by decide)).trans (hT.val 1 rfl (hn 1 (by decide))))) rfl rfl ((E 0 (by decide)).trans (hT.rd 0 rfl)) (hK 50 _ _ (by decide) ⟨hI, hT.set 2 rfl (by kernel_rfl) (by kernel_rfl), fun h => by simpa using hA (by simpa using h)⟩)
                      | 3, _ =>
                        have e1 := (E 12 (by decide)).trans (hT.rd 1 rfl)
                        refine op_valueG (w' := wx) (v := .pointer (some ⟨g4, 0, none⟩)) rfl (want_on (d := 49) (b := true) rfl rfl ((E 49 (by decide)).trans (hT.val 1 rfl (hn 1 (by decide))))) rfl ?_ (hK 51 _ _ (by decide) ⟨hI, hT.set 3 rfl (by kernel_rfl) (by kernel_rfl), fun h => by simpa using hA (by simpa using h)⟩)
                        clear hK hK0 hT E hA
                        revert e1
                        generalize a.eval = ρ
                        intro e1
                        go_simp
                      | 4, _ =>
                        have e1 := (E 51 (by decide)).trans (hT.val 3 rfl (hn 3 (by decide)))
                        have m0 := (hI.cell 0 rfl 0 (v := .int .i64 ia) rfl).1
                        refine op_valueG (w' := wx) (v := .int .i64 ia) rfl (want_on (d := 49) (b := true) rfl rfl ((E 49 (by decide)).trans (hT.val 1 rfl (hn 1 (by decide))))) rfl ?_ (hK 52 _ _ (by decide) ⟨hI, hT.set 4 rfl (by kernel_rfl) (by kernel_rfl), fun h => by simpa using hA (by simpa using h)⟩)
                        clear hK hK0 hT E hA
                        revert e1
                        generalize a.eval = ρ
                        intro e1
                        go_simp
                      | 5, _ =>
                        have e1 := (E 50 (by decide)).trans (hT.val 2 rfl (hn 2 (by decide)))
                        have e2 := (E 52 (by decide)).trans (hT.val 4 rfl (hn 4 (by decide)))
                        exact op_goG rfl (want_on (d := 49) (b := true) rfl rfl ((E 49 (by decide)).trans (hT.val 1 rfl (hn 1 (by decide))))) rfl rfl Try.func39 (by kernel_rfl) rfl (by simp only [List.map_toArray, List.map_cons, List.map_nil, e1, e2]) (HAI.out _ (HBR.out.1.trans (hI.below.mono HBR.out.1.size))) (fun w' hb => hK 53 _ _ (by decide) ⟨hI.step hb, hT.set 5 rfl (by kernel_rfl) (by kernel_rfl), fun h => by simpa using hA (by simpa using h)⟩)
                      | 6, _ => exact op_moveG rfl (want_on (d := 49) (b := true) rfl rfl ((E 49 (by decide)).trans (hT.val 1 rfl (hn 1 (by decide))))) rfl rfl ((E 0 (by decide)).trans (hT.rd 0 rfl)) (hK 54 _ _ (by decide) ⟨hI, hT.set 6 rfl (by kernel_rfl) (by kernel_rfl), fun h => by simpa using hA (by simpa using h)⟩)
                      | 7, _ =>
                        have e1 := (E 12 (by decide)).trans (hT.rd 1 rfl)
                        refine op_valueG (w' := wx) (v := .pointer (some ⟨g4, 1, none⟩)) rfl (want_on (d := 49) (b := true) rfl rfl ((E 49 (by decide)).trans (hT.val 1 rfl (hn 1 (by decide))))) rfl ?_ (hK 55 _ _ (by decide) ⟨hI, hT.set 7 rfl (by kernel_rfl) (by kernel_rfl), fun h => by simpa using hA (by simpa using h)⟩)
                        clear hK hK0 hT E hA
                        revert e1
                        generalize a.eval = ρ
                        intro e1
                        go_simp
                      | 8, _ =>
                        have e1 := (E 55 (by decide)).trans (hT.val 7 rfl (hn 7 (by decide)))
                        have m0 := (hI.cell 0 rfl 1 (v := .int .i64 ja) rfl).1
                        refine op_valueG (w' := wx) (v := .int .i64 ja) rfl (want_on (d := 49) (b := true) rfl rfl ((E 49 (by decide)).trans (hT.val 1 rfl (hn 1 (by decide))))) rfl ?_ (hK 56 _ _ (by decide) ⟨hI, hT.set 8 rfl (by kernel_rfl) (by kernel_rfl), fun h => by simpa using hA (by simpa using h)⟩)
                        clear hK hK0 hT E hA
                        revert e1
                        generalize a.eval = ρ
                        intro e1
                        go_simp
                      | 9, _ =>
                        have e1 := (E 54 (by decide)).trans (hT.val 6 rfl (hn 6 (by decide)))
                        have e2 := (E 56 (by decide)).trans (hT.val 8 rfl (hn 8 (by decide)))
                        exact op_goG rfl (want_on (d := 49) (b := true) rfl rfl ((E 49 (by decide)).trans (hT.val 1 rfl (hn 1 (by decide))))) rfl rfl Try.func39 (by kernel_rfl) rfl (by simp only [List.map_toArray, List.map_cons, List.map_nil, e1, e2]) (HAJ.out _ (HBR.out.1.trans (hI.below.mono HBR.out.1.size))) (fun w' hb => hK 57 _ _ (by decide) ⟨hI.step hb, hT.set 9 rfl (by kernel_rfl) (by kernel_rfl), fun h => by simpa using hA (by simpa using h)⟩)
                      | 10, _ =>
                        have e1 := (E 12 (by decide)).trans (hT.rd 1 rfl)
                        refine op_valueG (w' := wx) (v := .pointer (some ⟨g4, 2, none⟩)) rfl (want_on (d := 49) (b := true) rfl rfl ((E 49 (by decide)).trans (hT.val 1 rfl (hn 1 (by decide))))) rfl ?_ (hK 58 _ _ (by decide) ⟨hI, hT.set 10 rfl (by kernel_rfl) (by kernel_rfl), fun h => by simpa using hA (by simpa using h)⟩)
                        clear hK hK0 hT E hA
                        revert e1
                        generalize a.eval = ρ
                        intro e1
                        go_simp
                      | 11, _ =>
                        have e1 := (E 58 (by decide)).trans (hT.val 10 rfl (hn 10 (by decide)))
                        have m0 := (hI.cell 0 rfl 2 (v := .int .i32 bd) rfl).1
                        refine op_valueG (w' := wx) (v := .int .i32 bd) rfl (want_on (d := 49) (b := true) rfl rfl ((E 49 (by decide)).trans (hT.val 1 rfl (hn 1 (by decide))))) rfl ?_ (hK 59 _ _ (by decide) ⟨hI, hT.set 11 rfl (by kernel_rfl) (by kernel_rfl), fun h => by simpa using hA (by simpa using h)⟩)
                        clear hK hK0 hT E hA
                        revert e1
                        generalize a.eval = ρ
                        intro e1
                        go_simp
                      | 12, _ =>
                        have e1 := (E 53 (by decide)).trans (hT.val 5 rfl (hn 5 (by decide)))
                        have e2 := (E 57 (by decide)).trans (hT.val 9 rfl (hn 9 (by decide)))
                        have e3 := (E 59 (by decide)).trans (hT.val 11 rfl (hn 11 (by decide)))
                        exact op_goG rfl (want_on (d := 49) (b := true) rfl rfl ((E 49 (by decide)).trans (hT.val 1 rfl (hn 1 (by decide))))) rfl rfl Try.func38 (by kernel_rfl) rfl (by simp only [List.map_toArray, List.map_cons, List.map_nil, e1, e2, e3]) (HKK.out _) (fun w' hb => hK 60 _ _ (by decide) ⟨hI.step hb, hT.set 12 rfl (by kernel_rfl) (by kernel_rfl), fun h => by simpa using hA (by simpa using h)⟩)
                      | 13, _ =>
                        have e1 := (E 49 (by decide)).trans (hT.val 1 rfl (hn 1 (by decide)))
                        have e2 := (E 60 (by decide)).trans (hT.val 12 rfl (hn 12 (by decide)))
                        have c1 : a.eval (.const (Value.bool false)) = Value.bool false := rfl
                        refine op_valueG (w' := wx) (v := .bool rr) rfl rfl rfl ?_ (hK 61 _ _ (by decide) ⟨hI, hT.set 13 rfl (by kernel_rfl) (by kernel_rfl), fun h => by simpa using hA (by simpa using h)⟩)
                        clear hK hK0 hT E hA
                        revert e1 e2 c1
                        generalize a.eval = ρ
                        intro e1 e2 c1
                        go_simp
                      | 14, _ => exact op_assignG rfl rfl rfl rfl ((E 61 (by decide)).trans (hT.val 13 rfl (hn 13 (by decide)))) (hK 6 _ _ (by decide) ⟨hI, hT.set 14 rfl (by kernel_rfl) (by kernel_rfl), fun h => by simp at h⟩)
                      | k + 15, h => exact absurd (show k + 15 < 15 from h) (by omega)
                    · intro L vals wx hJ hall
                      obtain ⟨hI, hT, hA⟩ := hJ
                      have HIN := Lib.hid hI
                      have v0 : vals 0 = .slice A l.length c := hT.rd 0 rfl
                      have v12 : vals 12 = .pointer (some ⟨g4, 0, none⟩) := hT.rd 1 rfl
                      have v6 : vals 6 = .bool rr := hT.val 14 rfl (hall 14 (by decide))
                      simp only [overA, Act.put, List.setIfInBounds_toArray, List.set_cons_zero, List.set_cons_succ]
                      rw [v0, v12, v6]
                      clear hI hT hall v0 v12 v6 hA
                      replace HBL := Lib.hid (And.intro (HBR.out.1.trans (HIN.out.below.mono HBR.out.1.size)) (HBR.out.2.below HIN.out.below))
                      clear HIN K
                      go_wp2
                      go_roundg (gk - 1)
                      case measure => have h := HQ.out.2.1; omega
                      case rel => exact ⟨q + 1, rr, by go_num, rfl, HBL, Lib.hid ⟨by omega, by have h := HQ.out.2.1; omega, HN.out⟩⟩
                · have hqi : ¬ (q : Int) < (rl.length : Int) := by omega
                  have HE2 : Hid (b' = (b && rl.all (lkV l))) := Lib.hid (by
                    have h := HQ.out.2.2
                    rw [List.take_of_length_le (by have := HQ.out.1; omega)] at h
                    exact h)
                  rw [← HE2.out] at HST
                  go_wp2
                  go_roundg (gs.length - (p + 1))
                  case measure => have h := HREL.out.2.1; omega
                  case rel => exact ⟨p + 1, b', by go_num, rfl, Lib.hid HBL.out.1, Lib.hid ⟨by omega, by have h := HREL.out.2.1; omega, HST.out⟩⟩
        · have t1 : (re != 0) = true := by simp [he]
          have HF := Lib.hid (HST.out.trans (if_pos he))
          clear he HST
          go_wp2
          go_ret2
          rw [HF.out]
          exact ⟨rfl, HB.out⟩
      · have hpi : ¬ (p : Int) < (gs.length : Int) := by omega
        have HF : Hid (R = (b, 0)) := Lib.hid (by
          have h := HREL.out.2.2
          rw [show gk = 0 by have := HREL.out.2.1; omega] at h
          exact h)
        go_wp2
        go_ret2
        rw [HF.out]
        exact ⟨rfl, HB.out⟩
  · rw [show holdsA l gs = (false, 7) by unfold holdsA; rw [if_neg hrv]]
    have hrv : rightV l = false := by simpa using hrv
    rw [hrv] at HR
    clear hI h64 hrv hmax hG hk hgm
    go_enter Try.func18, Try.ntmps18
    go_wp2_with fail
    refine HR.out.mono ?_
    rintro e w1 ⟨rfl, hb⟩
    have HB := Lib.hid hb
    clear hb HR
    go_wp2
    go_ret2
    exact ⟨rfl, HB.out⟩

end Go.Proofs.Ytmelblnflalanaa
