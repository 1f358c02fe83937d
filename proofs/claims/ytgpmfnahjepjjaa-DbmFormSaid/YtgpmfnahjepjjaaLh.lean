/- What DbmMakes tells. -/
import Derived.Test.YtgpmfnahjepjjaaLd
import Derived.Test.YtgpmfnahjepjjaaRz
import Derived.Test.YtgpmfnahjepjjaaBag
namespace Go.Proofs.Ytgpmfnahjepjjaa
open Go Go.RowKit
set_option linter.unusedVariables false
set_option linter.unusedSimpArgs false

theorem below_grown {w w' : World} (h : w.grownBy w' none) : Below w.heap.size w w' := (Below.refl w.heap.size w).grown h (Nat.le_refl _) (fun k hk => by cases hk)
theorem same_two {w : World} {b : Nat} {e : TypeId} {v : Value} {A : Option Addr} {c : Nat} {xs : List Int} (h : OwnI w b e .i32 v xs) (h' : Ints w .i32 A xs) (hx : xs.length ≤ 4611686018427387904) :
    Calls Try.prog 12 #[v, .slice A xs.length c] w fun e w' => e = .returned (.bool true) ∧ ∃ q, w' = w.drewN q := by
  obtain ⟨A', c', rfl, hi⟩ := h.slice
  exact (same_any A' c' xs A c xs w hi h' hx hx).mono fun _ _ k => ⟨by rw [k.1, sameL_self], k.2⟩
theorem limP_short (n : Int) (l : List (Int × Int × Int)) {T : TypeId} {w : World} {v : Value} (h : ZoneV T w v ((limP n l).1.map fun m => (n.toNat, m))) : (cellsP ((limP n l).1.map fun m => (n.toNat, m))).length ≤ 81 := by
  refine cellsP_short _ fun k m e => ?_
  rw [e] at h
  obtain ⟨_, _, hn, _⟩ := h
  exact hn
theorem zerP_short (n : Int) {T : TypeId} {w : World} {v : Value} (h : ZoneV T w v ((zerP n).1.map fun m => (n.toNat, m))) : (cellsP ((zerP n).1.map fun m => (n.toNat, m))).length ≤ 81 := by
  refine cellsP_short _ fun k m e => ?_
  rw [e] at h
  obtain ⟨_, _, hn, _⟩ := h
  exact hn

theorem zdim_any (v : Value) (z : Option (Nat × Mat)) (w : World) (h : ZoneV 76 w v z) : Calls Try.prog 19 #[v] w fun e w' => e = .returned (.int .i64 (dimP z)) ∧ w = w' := by
  match z, h with
  | none, h =>
    have h : v = .pointer none := h
    subst h
    exact dim_nil w
  | some (n, m), ⟨b, e, _, _, hm⟩ =>
    subst e
    exact dim_zone b n m w hm
theorem zempty_any (v : Value) (z : Option (Nat × Mat)) (w : World) (h : ZoneV 76 w v z) : Calls Try.prog 21 #[v] w fun e w' => e = .returned (.bool (emptyP z)) ∧ w = w' := by
  match z, h with
  | none, h =>
    have h : v = .pointer none := h
    subst h
    exact empty_nil w
  | some (n, m), ⟨b, e, _, _, hm⟩ =>
    subst e
    exact empty_zone b n m w hm
theorem empty_law {z : Option (Nat × Mat)} (hz : ShapeZ z) : emptyP z = emptyR z := by
  match z, hz with
  | none, _ => rfl
  | some (n, m), hz => exact (shape_empty hz.1).symm
theorem stable_ref (v : Value) (z : Option (Nat × Mat)) : Stable fun w => RefZ w v z := fun _ _ h hb => h.below hb

set_option maxRecDepth 100000 in
set_option maxHeartbeats 4000000 in
theorem makes_law (n : Int) (A : Option Addr) (c : Nat) (cells : List Int) (B : Option Addr) (d : Nat) (l : List (Int × Int × Int)) (w : World) (hI : Ints w .i32 A cells) (hmax : cells.length * 4 ≤ 140737488351232)
    (hk : ∀ q, q < cells.length → -2147483648 ≤ cells.getD q 0 ∧ cells.getD q 0 ≤ 2147483647) (hI' : Lims w B l) (hmax' : l.length * 24 ≤ 140737488351232)
    (hk' : ∀ q, q < l.length → -2147483648 ≤ (l.getD q (0, 0, 0)).2.2 ∧ (l.getD q (0, 0, 0)).2.2 ≤ 2147483647) :
    Calls Try.prog 3 #[.int .i64 n, .slice A cells.length c, .slice B l.length d] w fun e w' => e = .returned (.bool true) ∧ Below w.heap.size w w' := by
  have HI := Lib.hid hI
  have HK := Lib.hid hk
  have HL := Lib.hid hI'
  have HK' := Lib.hid hk'
  obtain ⟨i0, hi1, hz0, hz1, hz2⟩ := info_parts infoRB
  obtain ⟨v1, w1, hrun1, hown1, hgr1⟩ := run_append_fresh (P := Try.prog) w 22 22 37 i0 (.int .i32 0) 1 4 Try.underlying22 hi1 hz0 hz1 hz2 rfl (by decide) A cells.length c (vals .i32 cells) (by simp [vals])
    (fun e => by
      rcases Nat.eq_zero_or_pos cells.length with h0 | h0
      · exact h0
      · obtain ⟨b, off, e', _⟩ := hI 0 h0
        rw [e] at e'; cases e') (ints_news hI) (by intro u hu; obtain ⟨x, _, rfl⟩ := List.mem_map.1 hu; rfl) (by unfold maxLen; omega) (by omega)
  have hb1 := below_grown hgr1
  have hl1 := hI'.below hb1
  obtain ⟨j0, hj1, hy0, hy1, hy2⟩ := info_parts infoLim
  obtain ⟨v2, w2, hrun2, hown2, hgr2⟩ := run_append_fresh (P := Try.prog) w1 23 23 39 j0 (.agg #[.int .i64 0, .int .i64 0, .int .i32 0]) 3 24 Try.underlying23 hj1 hy0 hy1 hy2 rfl (by decide) B l.length d (lcells l) (lcells_length l)
    (fun e => by
      rcases Nat.eq_zero_or_pos l.length with h0 | h0
      · exact h0
      · obtain ⟨b, off, e', _⟩ := hI' 0 h0
        rw [e] at e'; cases e') (lims_news hl1) (lcells_one l) (by unfold maxLen; omega) (by omega)
  have hb2 := below_grown hgr2
  have hown1' : OwnI w2 w.heap.size 37 .i32 v1 cells := OwnI.later (show OwnI w1 w.heap.size 37 .i32 v1 cells from hown1) hb2
  obtain ⟨A1, c1, rfl, hi1'⟩ := hown1'.slice
  obtain ⟨A2, c2, rfl, hl2'⟩ := OwnL.lims (show OwnL w2 w1.heap.size 39 v2 l from hown2)
  have hb12 := hb1.trans (hb2.mono hb1.size)
  have HG := Lib.hid ((((((Bag.start hb12).add (hI.below hb12) (stable_ints .i32 A cells)).add (hI'.below hb12) (stable_lims B l)).add hl2' (stable_lims A2 l)).add hown1' (stable_own _ _ _ _ _)).add hi1' (stable_ints .i32 A1 cells))
  clear hI hk hI' hk' hi1 hz0 hz1 hz2 hown1 hgr1 hb1 hl1 hj1 hy0 hy1 hy2 hown2 hgr2 hb2 hb12 hown1' hi1' hl2' HI HL
  have HR1 := Lib.hid hrun1
  have HR2 := Lib.hid hrun2
  clear hrun1 hrun2
  go_enter Try.func3, Try.ntmps3
  go_wp2_with (first | (at_builtin; refine wpList_append_run rfl _ _ 22 rfl _ _ _ w1 rfl rfl HR1.out ?_) | (at_builtin; refine wpList_append_run rfl _ _ 23 rfl _ _ _ w2 rfl rfl HR2.out ?_))
  have hmx : cells.length ≤ 4611686018427387904 := by omega
  have hml : l.length ≤ 4611686018427387904 := by omega
  refine (both_any n A1 c1 cells _ (HG.out.at 0 rfl) hmx HK.out).mono ?_
  rintro e w3 ⟨hb, z, r, rfl, hz, hr⟩
  have HZ := Lib.hid (zOf_shape hz)
  have HG3 := Lib.hid (((HG.out.step hb).add hr (stable_ref r (zOf n cells))).add hz (stable_zone _ z (zOf n cells)))
  clear hb hz hr HG
  go_wp2_with fail
  refine (live_any _).mono ?_
  rintro e w4 ⟨rfl, hb⟩
  have HG4 := Lib.hid (HG3.out.step hb)
  clear hb HG3
  go_wp2_with fail
  refine (same_two (HG4.out.at 3 rfl) (HG4.out.at 6 rfl) hmx).mono ?_
  rintro e w5 ⟨rfl, q, rfl⟩
  have HG5 := Lib.hid (HG4.out.drewN q)
  clear HG4
  generalize w4.drewN q = w5 at *
  go_wp2_with fail
  refine (limits_any n A2 c2 l _ (HG5.out.at 4 rfl) hml HK'.out).mono ?_
  rintro e w6 ⟨hb, x, rfl, hx⟩
  have HX := Lib.hid (limP_short n l hx)
  have HG6 := Lib.hid ((HG5.out.step hb).add hx (stable_zone _ x _))
  clear hb hx HG5
  obtain ⟨ex, hex⟩ : ∃ ex, ex = (limP n l).2 := ⟨_, rfl⟩
  rw [← hex]
  have HEX := Lib.hid hex
  clear hex
  go_wp2_with fail
  refine (rlimits_any n B d l _ (HG6.out.at 6 rfl) hml HK'.out).mono ?_
  rintro e w7 ⟨hb, y, rfl, hy⟩
  have HG7 := Lib.hid ((HG6.out.step hb).add hy (stable_ref y _))
  clear hb hy HG6
  rw [← HEX.out]
  go_wp2_with fail
  refine (universe_any n _).mono ?_
  rintro e w8 ⟨hb, u, rfl, hu⟩
  have HU := Lib.hid (limP_short n [] hu)
  have HG8 := Lib.hid ((HG7.out.step hb).add hu (stable_zone _ u _))
  clear hb hu HG7
  obtain ⟨eu, heu⟩ : ∃ eu, eu = (limP n []).2 := ⟨_, rfl⟩
  rw [← heu]
  have HEU := Lib.hid heu
  clear heu
  go_wp2_with fail
  refine (runiverse_any n _).mono ?_
  rintro e w9 ⟨hb, v, rfl, hv⟩
  have HG9 := Lib.hid ((HG8.out.step hb).add hv (stable_ref v _))
  clear hb hv HG8
  rw [← HEU.out]
  go_wp2_with fail
  refine (zero_any n _).mono ?_
  rintro e w10 ⟨hb, p, rfl, hp⟩
  have HP := Lib.hid (zerP_short n hp)
  have HG10 := Lib.hid ((HG9.out.step hb).add hp (stable_zone _ p _))
  clear hb hp HG9
  obtain ⟨ep, hep⟩ : ∃ ep, ep = (zerP n).2 := ⟨_, rfl⟩
  rw [← hep]
  have HEP := Lib.hid hep
  clear hep
  go_wp2_with fail
  refine (rzero_any n _).mono ?_
  rintro e w11 ⟨hb, q', rfl, hq⟩
  have HG11 := Lib.hid ((HG10.out.step hb).add hq (stable_ref q' _))
  clear hb hq HG10
  rw [← HEP.out]
  have HLA := Lib.hid (HG11.out.at 10 rfl)
  have HLB := Lib.hid (HG11.out.at 11 rfl)
  go_wp2
  go_loopg [24] l.length (fun g x wr => ∃ p q : Nat, x = .int .i64 p ∧ wr = w11.drewN q ∧ Hid (p ≤ l.length ∧ g + p = l.length))
  case atStart => exact ⟨0, 0, by simp, rfl, by omega, by omega⟩
  case round =>
    obtain ⟨t, q, rfl, rfl, HC⟩ := hrel
    by_cases ht : t < l.length
    · obtain ⟨b2, o2, e2, c20, c21, c22⟩ := HLA.out t ht
      obtain ⟨b1, o1, e1, c10, c11, c12⟩ := HLB.out t ht
      subst e1 e2
      obtain ⟨xx, hxx⟩ : ∃ xx, xx = l.getD t (0, 0, 0) := ⟨_, rfl⟩
      rw [← hxx] at c10 c11 c12 c20 c21 c22
      have htt : (t : Int) < (l.length : Int) := by omega
      clear hxx
      obtain ⟨xi, xj, xb⟩ := xx
      simp only at c10 c11 c12 c20 c21 c22
      go_wp2_with fail
      go_quiet (fail)
      go_wp2
      go_roundg (gk - 1)
      case measure => have h := HC.out; omega
      case rel => exact ⟨t + 1, _, by go_num, rfl, by omega, by have h := HC.out.2; omega⟩
    · have htt : ¬ (t : Int) < (l.length : Int) := by omega
      have HG12 := Lib.hid (HG11.out.drewN q)
      generalize w11.drewN q = w12 at *
      clear HG11 HLA HLB HC
      go_wp2_with fail
      refine (zdim_any _ _ _ (HG12.out.at 6 rfl)).mono ?_
      rintro e w13 ⟨rfl, rfl⟩
      go_wp2_with fail
      refine (rdim_any _ _ _ (HG12.out.at 7 rfl)).mono ?_
      rintro e w13 ⟨rfl, rfl⟩
      obtain ⟨dz, hdz⟩ : ∃ dz, dz = dimP (zOf n cells) := ⟨_, rfl⟩
      rw [← hdz]
      clear hdz
      go_wp2_with fail
      refine (zempty_any _ _ _ (HG12.out.at 6 rfl)).mono ?_
      rw [empty_law HZ.out.1]
      rintro e w13 ⟨rfl, rfl⟩
      go_wp2_with fail
      refine (rempty_any _ _ _ (HG12.out.at 7 rfl)).mono ?_
      rintro e w13 ⟨rfl, rfl⟩
      obtain ⟨ez, hez⟩ : ∃ ez, ez = emptyR (zOf n cells) := ⟨_, rfl⟩
      rw [← hez]
      clear hez
      go_wp2_with fail
      refine (cells_any _ _ _ (HG12.out.at 5 rfl)).mono ?_
      rintro e w13 ⟨s1, rfl, hb, ho⟩
      have HG13 := Lib.hid ((HG12.out.step hb).add ho (stable_own _ _ _ _ _))
      clear hb ho HG12
      go_wp2_with fail
      refine (rcells_any _ _ _ (HG13.out.at 5 rfl)).mono ?_
      rintro e w14 ⟨s2, rfl, hb, ho⟩
      have HG14 := Lib.hid ((HG13.out.step hb).add ho (stable_own _ _ _ _ _))
      clear hb ho HG13
      go_wp2_with fail
      refine (same_own (HG14.out.at 1 rfl) (HG14.out.at 0 rfl) (by have := HX.out; omega)).mono ?_
      rintro e w15 ⟨rfl, q1, rfl⟩
      have HG15 := Lib.hid (HG14.out.drewN q1)
      clear HG14
      generalize w14.drewN q1 = w15 at *
      go_wp2_with fail
      refine (cells_any _ _ _ (HG15.out.at 5 rfl)).mono ?_
      rintro e w16 ⟨s3, rfl, hb, ho⟩
      have HG16 := Lib.hid ((HG15.out.step hb).add ho (stable_own _ _ _ _ _))
      clear hb ho HG15
      go_wp2_with fail
      refine (rcells_any _ _ _ (HG16.out.at 5 rfl)).mono ?_
      rintro e w17 ⟨s4, rfl, hb, ho⟩
      have HG17 := Lib.hid ((HG16.out.step hb).add ho (stable_own _ _ _ _ _))
      clear hb ho HG16
      go_wp2_with fail
      refine (same_own (HG17.out.at 1 rfl) (HG17.out.at 0 rfl) (by have := HU.out; omega)).mono ?_
      rintro e w18 ⟨rfl, q2, rfl⟩
      have HG18 := Lib.hid (HG17.out.drewN q2)
      clear HG17
      generalize w17.drewN q2 = w18 at *
      go_wp2_with fail
      refine (cells_any _ _ _ (HG18.out.at 5 rfl)).mono ?_
      rintro e w19 ⟨s5, rfl, hb, ho⟩
      have HG19 := Lib.hid ((HG18.out.step hb).add ho (stable_own _ _ _ _ _))
      clear hb ho HG18
      go_wp2_with fail
      refine (rcells_any _ _ _ (HG19.out.at 5 rfl)).mono ?_
      rintro e w20 ⟨s6, rfl, hb, ho⟩
      have HG20 := Lib.hid ((HG19.out.step hb).add ho (stable_own _ _ _ _ _))
      clear hb ho HG19
      go_wp2_with fail
      refine (same_own (HG20.out.at 1 rfl) (HG20.out.at 0 rfl) (by have := HP.out; omega)).mono ?_
      rintro e w21 ⟨rfl, q3, rfl⟩
      have HG21 := Lib.hid (HG20.out.drewN q3)
      clear HG20
      generalize w20.drewN q3 = w21 at *
      go_wp2
      go_ret
      exact ⟨rfl, HG21.out.below⟩

end Go.Proofs.Ytgpmfnahjepjjaa
