/- What DbmPoints tells. -/
import Derived.Test.YtgpmfnahjepjjaaLh
import Derived.Test.YtgpmfnahjepjjaaLg
import Derived.Test.YtgpmfnahjepjjaaPp
namespace Go.Proofs.Ytgpmfnahjepjjaa
open Go Go.RowKit
set_option linter.unusedVariables false
set_option linter.unusedSimpArgs false

theorem stable_rowat (g : Nat) (e : TypeId) (k : IntKind) (xs : List Int) : Stable fun w => RowAt w g e k xs := fun _ _ h hb => h.later hb
theorem of_len (n : Int) (A : Option Addr) (c N : Nat) (cells : List Int) (w : World) (hN : cells.length = N) (hI : Ints w .i32 A cells) (hmax : N ≤ 4611686018427387904)
    (hk : ∀ q, q < cells.length → -2147483648 ≤ cells.getD q 0 ∧ cells.getD q 0 ≤ 2147483647) :
    Calls Try.prog 28 #[.int .i64 n, .slice A N c] w (MakesZ w n.toNat (ofP n cells)) := by
  subst hN
  exact of_any n A c cells w hI hmax hk
theorem equal_self {n : Nat} {m : Mat} : equalP (some (n, m)) (some (n, m)) = true := by
  show (decide (n = n) && eqM m m) = true
  rw [decide_eq_true rfl, Bool.true_and]
  exact (eqM_iff m m).2 fun _ _ _ _ => rfl

set_option maxRecDepth 100000 in
set_option maxHeartbeats 1000000 in
theorem points_law (n : Int) (A : Option Addr) (c : Nat) (cells : List Int) (B : Option Addr) (d : Nat) (l : List Int) (w : World) (hI : Ints w .i32 A cells) (hmax : cells.length ≤ 4611686018427387904)
    (hk : ∀ q, q < cells.length → -2147483648 ≤ cells.getD q 0 ∧ cells.getD q 0 ≤ 2147483647) (hI' : Ints w .u32 B l) (hmax' : l.length ≤ 4611686018427387904)
    (hk' : ∀ q, q < l.length → 0 ≤ l.getD q 0 ∧ l.getD q 0 ≤ 4294967295) :
    Calls Try.prog 7 #[.int .i64 n, .slice A cells.length c, .slice B l.length d] w fun e w' => e = .returned (.bool true) ∧ Below w.heap.size w w' := by
  have HK := Lib.hid hk
  have HK' := Lib.hid hk'
  have HG := Lib.hid (((Bag.start (Below.refl w.heap.size w)).add hI (stable_ints .i32 A cells)).add hI' (stable_ints .u32 B l))
  clear hI hk hI' hk'
  go_enter Try.func7, Try.ntmps7
  go_wp2_with fail
  refine (of_any n A c cells _ (HG.out.at 1 rfl) hmax HK.out).mono ?_
  rintro e w1 ⟨hb, v, rfl, hv⟩
  have HG1 := Lib.hid ((HG.out.step hb).add (show ZoneV 76 w1 v (zOf n cells) from hv) (stable_zone _ v (zOf n cells)))
  clear hb hv HG
  obtain ⟨ea, hea⟩ : ∃ ea, ea = (ofP n cells).2 := ⟨_, rfl⟩
  rw [← hea]
  have HEA := Lib.hid hea
  clear hea
  by_cases h1 : ea = 0
  · have HZ := Lib.hid (zOf_shape (HG1.out.at 0 rfl))
    have hok : ∃ m, (ofP n cells).1 = some m := by
      rcases ofP_ok (n := n) (cells := cells) with ⟨_, z, hz⟩ | ⟨h2, _⟩
      · exact ⟨z, hz⟩
      · exact absurd (HEA.out.symm.trans h1) h2
    obtain ⟨m, hm⟩ := hok
    obtain ⟨hn0, hn8, hlen, hr, hzp⟩ := ofP_good hm
    have hzo : zOf n cells = some (n.toNat, m) := by unfold zOf; rw [hm]; rfl
    subst h1
    rw [hzo] at HZ HG1
    obtain ⟨k, rfl⟩ : ∃ k : Nat, n = k := ⟨n.toNat, by omega⟩
    rw [Int.toNat_natCast] at HZ HG1 hlen hr hzp
    have hk8 : k ≤ 8 := by omega
    have hrm : RightM k m := HZ.out.1.2
    obtain ⟨N, hN⟩ : ∃ N, N = (k + 1) * (k + 1) := ⟨_, rfl⟩
    have hN81 : N ≤ 81 := by rw [hN]; have := Nat.mul_le_mul (show k + 1 ≤ 9 by omega) (show k + 1 ≤ 9 by omega); omega
    have HN := Lib.hid hN
    have HLN := Lib.hid (show cells.length = N by rw [hlen, hN])
    have HAG := Lib.hid (zone_again hk8 hr hzp)
    have HPP := Lib.hid (fun (v : List Int) (g : Int) (hg : 1 ≤ g) (hv0 : v.getD 0 0 = 0) (hv : ∀ q, q ≤ k → 0 ≤ v.getD q 0) => points_pure (v := v) hk8 hg hr hzp hrm hv0 hv)
    have HR := Lib.hid hr
    have HRM := Lib.hid (flat_rights hrm)
    have HLF := Lib.hid (flat_length k m)
    clear hm hlen hr hzp hzo hrm hN HEA
    rw [HLN.out]
    go_wp2_with fail
    refine (cells_any _ _ _ (HG1.out.at 0 rfl)).mono ?_
    rintro e w2 ⟨l1, rfl, hb, ho⟩
    have ho : OwnI w2 w1.heap.size 37 .i32 l1 (flat k m) := ho
    obtain ⟨A1, c1, rfl, hi1⟩ := ho.slice
    have HG2 := Lib.hid ((HG1.out.step hb).add hi1 (stable_ints .i32 A1 (flat k m)))
    rw [HLF.out, ← HN.out]
    clear hb ho hi1 HG1
    have HG3 := Lib.hid ((HG2.out.alloc (.cells #[.int .i64 1, .int .i64 2, .int .i64 ((k : Int) + 1)] 55)).add (P := fun wx => RowAt wx w2.heap.size 55 .i64 [1, 2, (k : Int) + 1]) ⟨_, heap_alloc_new _ _, by simp [vals]⟩ (stable_rowat _ _ _ _))
    go_wp2
    generalize w2.alloc (.cells #[.int .i64 1, .int .i64 2, .int .i64 ((k : Int) + 1)] 55) = w3 at *
    go_loopg [13] 3 (fun q x wr => ∃ p : Nat, x = .int .i64 p ∧ Bag w [fun wx => RowAt wx w2.heap.size 55 .i64 [1, 2, (k : Int) + 1], fun wx => Ints wx .i32 A1 (flat k m), fun wx => ZoneV 76 wx v (some (k, m)), fun wx => Ints wx .u32 B l, fun wx => Ints wx .i32 A cells] wr ∧ Hid (p ≤ 3 ∧ q + p = 3))
    case atStart => exact ⟨0, by simp, HG3.out, by omega, by omega⟩
    case round =>
      clear HG2 HG3
      obtain ⟨p, rfl, H, HC⟩ := hrel
      have HG4 := Lib.hid H
      clear H
      by_cases hp : p < 3
      · have hpi : (p : Int) < 3 := by omega
        go_wp2_with fail
        refine (valuation_any k B d l _ hk8 (HG4.out.at 3 rfl) hmax' HK'.out).mono ?_
        rintro e w5 ⟨cap, rfl, hb, hrow⟩
        have HG5 := Lib.hid ((HG4.out.step hb).add hrow.ints (stable_ints _ _ _))
        clear hb hrow HG4
        obtain ⟨gv, hgv⟩ : ∃ gv, gv = ([1, 2, (k : Int) + 1] : List Int).getD p 0 := ⟨_, rfl⟩
        have hg1 : 1 ≤ gv ∧ gv ≤ 1048576 := by
          rw [hgv]
          rcases (show p = 0 ∨ p = 1 ∨ p = 2 by omega) with rfl | rfl | rfl <;> simp <;> omega
        have hc := (HG5.out.at 1 rfl).cell p hp
        rw [← hgv] at hc
        obtain ⟨vl, hvl⟩ : ∃ vl, vl = valL k l k := ⟨_, rfl⟩
        have hv0 : vl.getD 0 0 = 0 := by rw [hvl, valL_getD _ _ _ _ (by omega), if_neg (by omega)]
        have hvb := valL_bd k l k HK'.out
        rw [← hvl] at hvb HG5
        have hvlen : vl.length = k + 1 := by rw [hvl, valL_length]
        have HK1 := Lib.hid (fun q => keeps_any k A c cells (some ⟨wr.heap.size, 0, none⟩) cap vl gv (w5.drewN q) hk8 (HG5.out.at 5 rfl) (HG5.out.at 0 rfl) (by rw [HLN.out, HN.out]) hvlen HR.out hvb hg1.1 hg1.2)
        have HK2 := Lib.hid (fun q => keeps_any k A1 c1 (flat k m) (some ⟨wr.heap.size, 0, none⟩) cap vl gv (w5.drewN q) hk8 (HG5.out.at 2 rfl) (HG5.out.at 0 rfl) HLF.out hvlen HRM.out hvb hg1.1 hg1.2)
        have HEM := Lib.hid (fun q => backC (zempty_any v (some (k, m)) (w5.drewN q) (HG5.out.at 3 rfl)))
        have hpp := HPP.out vl gv hg1.1 hv0 (fun q hq => (hvb q (by omega)).1)
        rw [show emptyP (some (k, m)) = decide (m 0 0 < 1) from rfl] at HEM
        rw [← HN.out] at HK1 HK2
        obtain ⟨b1, hb1⟩ : ∃ b, b = keepsB k cells vl gv := ⟨_, rfl⟩
        obtain ⟨b2, hb2⟩ : ∃ b, b = keepsB k (flat k m) vl gv := ⟨_, rfl⟩
        obtain ⟨b3, hb3⟩ : ∃ b, b = decide (m 0 0 < 1) := ⟨_, rfl⟩
        rw [← hb1] at HK1 hpp
        rw [← hb2] at HK2 hpp
        rw [← hb3] at HEM hpp
        clear hb1 hb2 hb3 hgv hvl hv0 hvb hvlen hg1
        subst hpp
        cases b2 <;> cases b3
        all_goals
          go_wp2_with fail
          go_quiet (first | (go_at_call_of 32 A; exact Calls.quiet_of (HK1.out _)) | (go_at_call_of 32 A1; exact Calls.quiet_of (HK2.out _)) | (go_at_call 21; exact Calls.quiet_of_same (HEM.out _)))
          have HG6 := Lib.hid (HG5.out.tail.drewN nq)
          go_wp2
          go_roundg (gk - 1)
          case measure => have h := HC.out; omega
          case rel => exact ⟨p + 1, by go_num, HG6.out, by omega, by have h := HC.out.2; omega⟩
      · have hpi : ¬ (p : Int) < 3 := by omega
        have hcall := of_len k A1 c1 N (flat k m) wr (by rw [HLF.out, HN.out]) (HG4.out.at 1 rfl) (by omega) (fun q hq => right_bd32 (HRM.out q (by rw [HLF.out] at hq; exact hq)))
        rw [HAG.out, Int.toNat_natCast] at hcall
        have HCL := Lib.hid hcall
        clear hcall
        go_wp2_with fail
        refine HCL.out.mono ?_
        rintro e w6 ⟨hb, y, rfl, hy⟩
        have HG6 := Lib.hid ((HG4.out.step hb).add (show ZoneV 76 w6 y (some (k, m)) from hy) (stable_zone _ y (some (k, m))))
        clear hb hy HG4 HCL
        go_wp2_with fail
        refine (live_any _).mono ?_
        rintro e w7 ⟨rfl, hb⟩
        have HG7 := Lib.hid (HG6.out.step hb)
        clear hb HG6
        go_wp2_with fail
        refine (equal_any _ _ _ _ _ (HG7.out.at 0 rfl) (HG7.out.at 3 rfl)).mono ?_
        rw [equal_self]
        rintro e w8 ⟨rfl, hb⟩
        have HG8 := Lib.hid (HG7.out.step hb)
        clear hb HG7
        go_wp2
        go_ret
        exact ⟨rfl, HG8.out.below⟩
  · have t1 : (ea != 0) = true := by simp [h1]
    clear h1
    go_wp2_with fail
    refine (rof_any n A c cells _ (HG1.out.at 2 rfl) hmax HK.out).mono ?_
    rintro e w2 ⟨hb, v2, rfl, hv2⟩
    have HG2 := Lib.hid (HG1.out.step hb)
    rw [← HEA.out]
    clear hb hv2 HG1
    go_wp2_with fail
    refine (live_any _).mono ?_
    rintro e w4 ⟨rfl, hb⟩
    have HG4 := Lib.hid (HG2.out.step hb)
    clear hb
    go_wp2
    go_ret
    exact ⟨rfl, HG4.out.below⟩

end Go.Proofs.Ytgpmfnahjepjjaa
