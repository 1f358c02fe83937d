/- Texts of ours, laid together: Jt. -/
import Derived.Test.YtfegongaflekiaaMg11
/- What PointLeastIn tells. -/
namespace Go.Proofs.Ytfegongaflekiaa
open Go Go.RowKit
set_option linter.unusedVariables false
set_option linter.unusedSimpArgs false

/-- The places of the other valuation. -/
def otherX (l : List Int) (a : Nat) : Int := if a = 0 then 0 else l.getD (a - 1) 0
theorem gridV64 {n : Nat} {u : Nat → Int} : All64v (gridV n u) := fun j hj => by
  rw [gridV_length] at hj
  rw [gridV_getD hj]
  unfold newP
  split
  · exact ⟨⟨by decide, by decide⟩, ⟨by decide, by decide⟩⟩
  · exact frac64 _ _
theorem grid_take {n : Nat} {u : Nat → Int} {p : Nat} (hp : p < n) : (gridV n u).take (p + 1) = (gridV n u).take p ++ [(newP (u (p + 1)) ((n : Int) + 1)).1] := by
  rw [List.take_add_one, show (gridV n u)[p]? = some ((gridV n u).getD p (0, 0)) by
    rw [List.getD_eq_getElem?_getD, List.getElem?_eq_getElem (by rw [gridV_length]; exact hp)]; rfl, gridV_getD hp]; rfl
theorem rats_block {w : World} {A : Option Addr} {l : List (Int × Int)} (h : RatsA w A l) (h0 : 0 < l.length) : ∃ b off, A = some ⟨b, off, none⟩ := by
  obtain ⟨b, off, e, _⟩ := h 0 h0
  exact ⟨b, off, e⟩


def tbLiT (b bw ow c5 bv ov c3 k q : Nat) (x1 x2 y1 y2 cc : Int) : List (Nat × Nat × Value) :=
  [(0, 110, .pointer (some ⟨b, 0, none⟩)), (1, 111, .slice (some ⟨bw, ow, none⟩) k c5), (2, 112, .bool true), (3, 113, .bool true), (4, 114, .slice (some ⟨bw, ow, none⟩) k c5), (5, 115, .int .i64 q), (6, 116, .pointer (some ⟨bw, ow + q * 2, none⟩)), (7, 117, .agg #[.int .i64 x1, .int .i64 x2]), (8, 118, .slice (some ⟨bv, ov, none⟩) k c3), (9, 119, .int .i64 q), (10, 120, .pointer (some ⟨bv, ov + q * 2, none⟩)), (11, 121, .agg #[.int .i64 y1, .int .i64 y2]), (12, 122, .int .i64 cc), (13, 123, .bool false), (14, 124, .bool false)]
def bsLiT (b bw ow c5 bv ov c3 k q : Nat) (x1 x2 y1 y2 cc : Int) : List (Nat × Value) := [(7, .pointer (some ⟨b, 0, none⟩)), (11, .slice (some ⟨bv, ov, none⟩) k c3), (13, .slice (some ⟨bw, ow, none⟩) k c5), (18, .int .i64 q)]

def tbLiF (b bw ow c5 bv ov c3 k q : Nat) : List (Nat × Nat × Value) :=
  [(0, 110, .pointer (some ⟨b, 0, none⟩)), (1, 111, .slice (some ⟨bw, ow, none⟩) k c5), (2, 112, .bool false), (3, 113, .bool false), (4, 114, undef), (5, 115, undef), (6, 116, undef), (7, 117, undef), (8, 118, undef), (9, 119, undef), (10, 120, undef), (11, 121, undef), (12, 122, undef), (13, 123, undef), (14, 124, .bool false)]
def bsLiF (b bw ow c5 bv ov c3 k q : Nat) : List (Nat × Value) := [(7, .pointer (some ⟨b, 0, none⟩)), (11, .slice (some ⟨bv, ov, none⟩) k c3), (13, .slice (some ⟨bw, ow, none⟩) k c5), (18, .int .i64 q)]

set_option maxRecDepth 100000 in
set_option maxHeartbeats 8000000 in
theorem leastin_any (n : Int) (A : Option Addr) (c : Nat) (cells : List Int) (B : Option Addr) (d : Nat) (l : List Int) (w : World) (hI : Ints w .i32 A cells) (hmax : cells.length ≤ 4611686018427387904)
    (hk : ∀ q, q < cells.length → -2147483648 ≤ cells.getD q 0 ∧ cells.getD q 0 ≤ 2147483647) (hJ : Ints w .u16 B l) (hmax' : l.length ≤ 4611686018427387904) (hk' : ∀ q, q < l.length → 0 ≤ l.getD q 0 ∧ l.getD q 0 ≤ 65535) :
    Calls Try.prog 5 #[.int .i64 n, .slice A cells.length c, .slice B l.length d] w fun e w' => e = .returned (.bool true) ∧ Below w.heap.size w w' := by
  have HLV := Lib.hid (live06_any w)
  have HOF := Lib.hid (fun W (hb : Below w.heap.size w W) => of_any n A c cells W (hI.below hb) hmax hk)
  have HJ := Lib.hid hJ
  have HK' := Lib.hid hk'
  have HL' := Lib.hid hmax'
  have HKI := Lib.hid (fun k m (h : (ofP n cells).1.map (fun m => (n.toNat, m)) = some (k, m)) => zone_closed (show zOf n cells = some (k, m) from h))
  have HKN := Lib.hid (fun k m (h : (ofP n cells).1.map (fun m => (n.toNat, m)) = some (k, m)) => (zone_kinds (show zOf n cells = some (k, m) from h)).1)
  clear hI hmax hk hJ hmax' hk'
  go_enter Try.func5, Try.ntmps5
  go_wp2_with fail
  refine HLV.out.mono ?_
  rintro e w1 ⟨rfl, hb⟩
  have HB := Lib.hid hb
  clear hb HLV
  go_wp2_with fail
  refine (HOF.out _ HB.out).mono ?_
  rintro e w2 ⟨hb, v, rfl, hv⟩
  replace HB := Lib.hid (HB.out.trans (hb.mono HB.out.size))
  clear hb HOF
  obtain ⟨z, hz⟩ : ∃ z, z = (ofP n cells).1.map (fun m => (n.toNat, m)) := ⟨_, rfl⟩
  rw [← hz] at hv
  simp only [← hz] at HKI HKN
  have HZ := Lib.hid hv
  clear hz hv
  match z, HZ with
  | none, HZ =>
    have HLE := Lib.hid (fun W => least_nil W)
    obtain rfl : v = .pointer none := HZ.out
    go_wp2_with fail
    refine (HLE.out _).mono ?_
    rintro e w3 ⟨v3, rfl, hq⟩
    replace HB := Lib.hid (HB.out.trans (hq.1.mono HB.out.size))
    clear hq
    go_wp2
    go_ret
    exact ⟨rfl, HB.out⟩
  | some (k, m), HZ =>
    obtain ⟨b, rfl, hk8, hr, hm⟩ := HZ.out
    obtain ⟨hn0, hn8, hkn⟩ := HKN.out k m rfl
    have en : n = (k : Int) := by omega
    subst en
    have HEM := Lib.hid (fun W (hb : Below w2.heap.size w2 W) => empty_zone b k m W (hm.later hb))
    have HLE := Lib.hid (fun W (hb : Below w2.heap.size w2 W) => least_any (.pointer (some ⟨b, 0, none⟩)) (some (k, m)) W (HZ.out.below hb) (fun k' m' e => by cases e; exact HKI.out k m rfl))
    rcases HKI.out k m rfl with rfl | hc
    · rw [show leastA (some (k, fun _ _ => 0)) = ([], 14) by unfold leastA; exact if_pos (show decide ((0 : Int) < 1) = true by decide)] at HLE
      clear hr hm hk8 hn0 hn8 hkn HKI HKN
      go_wp2_with fail
      refine (HEM.out _ (Below.refl _ _)).mono ?_
      rintro e w3 ⟨rfl, rfl⟩
      go_wp2_with fail
      refine (HLE.out _ (Below.refl _ _)).mono ?_
      rintro e w3 ⟨v3, rfl, hq⟩
      replace HB := Lib.hid (HB.out.trans (hq.1.mono HB.out.size))
      clear hq
      go_wp2
      go_ret
      exact ⟨rfl, HB.out⟩
    · rw [show decide (m 0 0 < 1) = false from hc.full.notEmpty] at HEM
      rw [show leastA (some (k, m)) = (leastV k m, 0) by unfold leastA; exact if_neg (by rw [hc.full.notEmpty]; decide)] at HLE
      have HVL := Lib.hid (leastV_length k m)
      have HPB := Lib.hid (place_bd hk8 hc)
      have HDN := Lib.hid (fun i (hi : i < k) => least_den hk8 hc hi)
      have hx0 : ∀ a, 0 ≤ otherX l a ∧ otherX l a ≤ 65535 := fun a => by
        unfold otherX
        split
        · omega
        · by_cases q : a - 1 < l.length
          · exact HK'.out _ q
          · rw [List.getD_eq_getElem?_getD, List.getElem?_eq_none (by omega)]; exact ⟨by decide, by decide⟩
      have HXB := Lib.hid hx0
      have HLL := Lib.hid (fun (h : inP k m (gridV k (otherX l)) = true) i (hi : i < k) => least_least hk8 hc (x := otherX l) rfl (fun a _ => hx0 a) h hi)
      have HIV := Lib.hid (fun A c W (hb : Below w2.heap.size w2 W) hR => in_any (.pointer (some ⟨b, 0, none⟩)) (some (k, m)) A c (leastV k m) W (HZ.out.below hb) hR (by rw [leastV_length]; omega) (by rw [least_grid]; exact gridV64))
      rw [show inZ (some (k, m)) (leastV k m) = true from least_in hk8 hc] at HIV
      have HIW := Lib.hid (fun A c W (hb : Below w2.heap.size w2 W) hR => in_any (.pointer (some ⟨b, 0, none⟩)) (some (k, m)) A c (gridV k (otherX l)) W (HZ.out.below hb) hR (by rw [gridV_length]; omega) gridV64)
      have HNW := Lib.hid (fun x (h : 0 ≤ x ∧ x ≤ 65535) W => new_any x ((k : Int) + 1) (by unfold I64; omega) (by unfold I64; omega) W)
      have HX64 := Lib.hid (show All64v (leastV k m) by rw [least_grid]; exact gridV64)
      have hlen2 : ((leastV k m).length : Int) = (k : Int) := by rw [HVL.out]
      clear hr hm hn0 hn8 hkn HKI HKN hc hx0
      go_wp2_with fail
      refine (HEM.out _ (Below.refl _ _)).mono ?_
      rintro e w3 ⟨rfl, rfl⟩
      go_wp2_with fail
      refine (HLE.out _ (Below.refl _ _)).mono ?_
      rintro e w3 ⟨v3, rfl, hq⟩
      have HB2 := Lib.hid hq.1
      obtain ⟨A3, c3, rfl, hr3⟩ := hq.rats
      rw [HVL.out]
      have HV := Lib.hid hr3
      clear hq hr3 HEM HLE
      rw [HVL.out] at HIV
      go_wp2_with fail
      refine (HIV.out _ _ _ HB2.out HV.out).mono ?_
      rintro e w4 ⟨rfl, hb⟩
      replace HV := Lib.hid (HV.out.below hb)
      replace HB2 := Lib.hid (HB2.out.trans (hb.mono HB2.out.size))
      clear hb HIV
      have HO := Lib.hid (OwnQ.start w4)
      go_wp2
      go_loopg [13, 14] k (fun g v x wr => ∃ p : Nat, x = .int .i64 p ∧ Hid (OwnQ w4 ((gridV k (otherX l)).take p) v wr) ∧ Hid (p ≤ k ∧ g + p = k))
      case atStart => exact ⟨0, by simp, Lib.hid HO.out, Lib.hid (by omega)⟩
      case round =>
        clear HO
        obtain ⟨p, rfl, HO, HG⟩ := hrel
        by_cases hp : p < k
        · have hpi : (p : Int) < (k : Int) := by omega
          obtain ⟨bv, ov, rfl, _, d2⟩ := HV.out.below HO.out.1 p (by rw [HVL.out]; exact hp)
          have hdn := HDN.out p hp
          obtain ⟨dn, hdne⟩ : ∃ dn, dn = ((leastV k m).getD p (0, 0)).2 := ⟨_, rfl⟩
          rw [← hdne] at d2 hdn
          have t1 : (dn == 0) = false := by simp; omega
          have t3 : ¬ dn = 0 := by omega
          have t4 : dn ≠ 0 := by omega
          have t2 : ((k : Int) + 1).tmod dn = 0 := hdn.2
          have q1 : IntKind.i64.wrap ((k : Int) + 1) = (k : Int) + 1 := IntWalk.i64_in _ (by omega)
          have q5 : IntKind.i64.wrap ((p : Int) + 1) = ((p + 1 : Nat) : Int) := by rw [IntWalk.i64_in _ (by omega)]; omega
          have hxb := HXB.out (p + 1)
          have hoth : otherX l (p + 1) = l.getD p 0 := by unfold otherX; rw [if_neg (by omega)]; rfl
          have HTK := Lib.hid (grid_take (u := otherX l) hp)
          have HNX := Lib.hid (fun W => HNW.out _ hxb W)
          obtain ⟨x, hx⟩ : ∃ x, x = otherX l (p + 1) := ⟨_, rfl⟩
          rw [← hx] at hxb hoth HTK HNX
          have q6 : IntKind.i64.wrap x = x := IntWalk.i64_in _ (by omega)
          obtain ⟨y, hy⟩ : ∃ y, y = newP x ((k : Int) + 1) := ⟨_, rfl⟩
          rw [← hy] at HTK HNX
          obtain ⟨⟨y1, y2⟩, ye⟩ := y
          unfold rtV at HNX
          have HLN : Hid (((gridV k (otherX l)).take p).length ≤ 8) := Lib.hid (by rw [List.length_take, gridV_length]; omega)
          clear hdne hdn hx hy
          by_cases hq : p < l.length
          · have hqi : (p : Int) < (l.length : Int) := by omega
            obtain ⟨bo, oo, rfl, co⟩ := HJ.out.below (HB.out.trans ((HB2.out.trans (HO.out.1.mono HB2.out.size)).mono HB.out.size)) p hq
            rw [← hoth] at co
            clear hoth
            go_wp2_with fail
            refine (HNX.out _).mono ?_
            rintro e w6 ⟨rfl, hb⟩
            replace HO := Lib.hid (HO.out.step hb)
            clear hb
            go_upto_region 20 with fail
            replace HO := Lib.hid (HO.out.step (below_one w6 (.cells #[.int .i64 y1, .int .i64 y2] 59)))
            have K := Lib.hid ((Blx.start w6).new #[.int .i64 y1, .int .i64 y2] 59)
            generalize w6.alloc (.cells #[.int .i64 y1, .int .i64 y2] 59) = w7 at *
            generalize w6.heap.size = g7 at *
            obtain ⟨k1, k2, _, _⟩ := K.out.cells2 0 rfl
            have K2 := Lib.hid ((Blx.start w7).new #[.int .i64 y1, .int .i64 y2] 59)
            replace HO := Lib.hid (HO.out.step (below_one w7 (.cells #[.int .i64 y1, .int .i64 y2] 59)))
            obtain ⟨k3, k4, _, _⟩ := K2.out.cells2 0 rfl
            obtain ⟨v', w', hrun, hnext⟩ := HO.out.next w7.heap.size 1 y1 y2 ⟨k3, k4⟩ (by have := HLN.out; omega)
            have HO := Lib.hid hnext
            rw [← HTK.out] at HO
            clear hnext k3 k4
            go_wp2_with (at_builtin; refine wpList_append_run rfl _ _ 27 rfl _ _ v' w' rfl rfl hrun ?_)
            clear hrun
            go_wp2
            go_roundg (gk - 1)
            case measure => have h := HG.out.2; omega
            case rel => exact ⟨p + 1, by go_num, HO, Lib.hid ⟨by omega, by have h := HG.out.2; omega⟩⟩
          · have hqi : ¬ (p : Int) < (l.length : Int) := by omega
            have hx0 : x = 0 := by rw [hoth, List.getD_eq_getElem?_getD, List.getElem?_eq_none (by omega)]; rfl
            subst hx0
            clear hoth
            go_wp2_with fail
            refine (HNX.out _).mono ?_
            rintro e w6 ⟨rfl, hb⟩
            replace HO := Lib.hid (HO.out.step hb)
            clear hb
            go_upto_region 20 with fail
            replace HO := Lib.hid (HO.out.step (below_one w6 (.cells #[.int .i64 y1, .int .i64 y2] 59)))
            have K := Lib.hid ((Blx.start w6).new #[.int .i64 y1, .int .i64 y2] 59)
            generalize w6.alloc (.cells #[.int .i64 y1, .int .i64 y2] 59) = w7 at *
            generalize w6.heap.size = g7 at *
            obtain ⟨k1, k2, _, _⟩ := K.out.cells2 0 rfl
            have K2 := Lib.hid ((Blx.start w7).new #[.int .i64 y1, .int .i64 y2] 59)
            replace HO := Lib.hid (HO.out.step (below_one w7 (.cells #[.int .i64 y1, .int .i64 y2] 59)))
            obtain ⟨k3, k4, _, _⟩ := K2.out.cells2 0 rfl
            obtain ⟨v', w', hrun, hnext⟩ := HO.out.next w7.heap.size 1 y1 y2 ⟨k3, k4⟩ (by have := HLN.out; omega)
            have HO := Lib.hid hnext
            rw [← HTK.out] at HO
            clear hnext k3 k4
            go_wp2_with (at_builtin; refine wpList_append_run rfl _ _ 27 rfl _ _ v' w' rfl rfl hrun ?_)
            clear hrun
            go_wp2
            go_roundg (gk - 1)
            case measure => have h := HG.out.2; omega
            case rel => exact ⟨p + 1, by go_num, HO, Lib.hid ⟨by omega, by have h := HG.out.2; omega⟩⟩
        · have hpi : ¬ (p : Int) < (k : Int) := by omega
          have hfull : (gridV k (otherX l)).take p = gridV k (otherX l) := List.take_of_length_le (by rw [gridV_length]; have := HG.out.1; omega)
          rw [hfull] at HO
          obtain ⟨A5, c5, ev5, hr5⟩ := HO.out.rats
          have HWL := Lib.hid (gridV_length k (otherX l))
          rw [HWL.out] at ev5
          subst ev5
          have HB := Lib.hid (HB.out.trans ((HB2.out.trans (HO.out.1.mono HB2.out.size)).mono HB.out.size))
          replace HV := Lib.hid (HV.out.below HO.out.1)
          have HB2 := Lib.hid (HB2.out.trans (HO.out.1.mono HB2.out.size))
          have HW := Lib.hid hr5
          clear HO hr5 hfull HNW HDN HG
          generalize wr = w5 at *
          have HBW := Lib.hid HB.out
          have HB := Lib.hid (Below.refl w5.heap.size w5)
          have HIN := Lib.hid (fun W (hb : Below w5.heap.size w5 W) => HIW.out A5 c5 W (HB2.out.trans (hb.mono HB2.out.size)) (HW.out.below hb))
          rw [HWL.out] at HIN
          clear HIW
          go_wp2
          go_loopg [18] k (fun g x wr => ∃ i : Nat, x = .int .i64 i ∧ Hid (Below w5.heap.size w5 wr) ∧ Hid (i ≤ k ∧ g + i = k))
          case atStart => exact ⟨0, by simp, HB, Lib.hid (by omega)⟩
          case round =>
            clear HB
            obtain ⟨q, rfl, HB, HG⟩ := hrel
            have q5 : IntKind.i64.wrap ((q : Int) + 1) = ((q + 1 : Nat) : Int) := by
              rw [IntWalk.i64_in _ (by have := HG.out.1; omega)]; omega
            by_cases hq : q < k
            · have hqi : (q : Int) < (k : Int) := by omega
              obtain ⟨bw, ow, rfl⟩ := rats_block HW.out (by rw [HWL.out]; omega)
              obtain ⟨bv, ov, rfl⟩ := rats_block HV.out (by rw [HVL.out]; omega)
              obtain ⟨inb, hinb⟩ : ∃ t, t = inZ (some (k, m)) (gridV k (otherX l)) := ⟨_, rfl⟩
              rw [← hinb] at HIN
              cases inb with
              | true =>
                have HCC := Lib.hid (HLL.out hinb.symm q hq)
                have x64 := gridV64 (n := k) (u := otherX l) q (by rw [gridV_length]; exact hq)
                have y64 := HX64.out q (by rw [HVL.out]; exact hq)
                obtain ⟨x, hx⟩ : ∃ x, x = (gridV k (otherX l)).getD q (0, 0) := ⟨_, rfl⟩
                obtain ⟨y, hy⟩ : ∃ y, y = (leastV k m).getD q (0, 0) := ⟨_, rfl⟩
                have HX := Lib.hid hx
                have HY := Lib.hid hy
                rw [← hx, ← hy] at HCC
                rw [← hx] at x64
                rw [← hy] at y64
                obtain ⟨x1, x2⟩ := x
                obtain ⟨y1, y2⟩ := y
                have HCM := Lib.hid (fun W => compare_any x1 x2 y1 y2 x64.1 x64.2 y64.1 y64.2 W)
                obtain ⟨cc, hcc⟩ : ∃ q, q = cmpP (x1, x2) (y1, y2) := ⟨_, rfl⟩
                rw [← hcc] at HCM HCC
                clear hx hy hcc x64 y64 hinb HLL
                go_upto_region 24 with fail
                refine wp_region_tab (by kernel_rfl) [7, 11, 13, 18, 110, 111, 112, 113, 114, 115, 116, 117, 118, 119, 120, 121, 122, 123, 124] [[], [], [0, 1], [2], [3], [3], [3, 4, 5], [3, 6], [3], [3], [3, 8, 9], [3, 10], [3, 7, 11], [3, 12], [3, 13]]
                  (fun L vals wx => Below w5.heap.size w5 wx ∧ TabR (tbLiT b bw ow c5 bv ov c3 k q x1 x2 y1 y2 cc) (bsLiT b bw ow c5 bv ov c3 k q x1 x2 y1 y2 cc) L vals) (by kernel_rfl) rfl ?_ ?_ ?_
                · exact ⟨Below.drew HB.out, TabR.start (by simp [bsLiT])⟩
                · intro i hi a L vals wx E hJ hLi hn K hK hK0
                  obtain ⟨hI, hT⟩ := hJ
                  match i, hi with
                  | 0, _ => exact op_moveG rfl rfl rfl rfl ((E 7 (by decide)).trans (hT.rd 0 rfl)) (hK 110 _ _ (by decide) ⟨hI, hT.set 0 rfl (by kernel_rfl) (by kernel_rfl)⟩)
                  | 1, _ => exact op_moveG rfl rfl rfl rfl ((E 13 (by decide)).trans (hT.rd 2 rfl)) (hK 111 _ _ (by decide) ⟨hI, hT.set 1 rfl (by kernel_rfl) (by kernel_rfl)⟩)
                  | 2, _ =>
                    have e1 := (E 110 (by decide)).trans (hT.val 0 rfl (hn 0 (by decide)))
                    have e2 := (E 111 (by decide)).trans (hT.val 1 rfl (hn 1 (by decide)))
                    exact op_goG rfl rfl rfl rfl Try.func19 (by kernel_rfl) rfl (by simp only [List.map_toArray, List.map_cons, List.map_nil, e1, e2]) (HIN.out _ hI) (fun w' hb => hK 112 _ _ (by decide) ⟨hI.trans (hb.mono hI.size), hT.set 2 rfl (by kernel_rfl) (by kernel_rfl)⟩)
                  | 3, _ => exact op_moveG rfl rfl rfl rfl ((E 112 (by decide)).trans (hT.val 2 rfl (hn 2 (by decide)))) (hK 113 _ _ (by decide) ⟨hI, hT.set 3 rfl (by kernel_rfl) (by kernel_rfl)⟩)
                  | 4, _ => exact op_moveG rfl (want_on (d := 113) (b := true) rfl rfl ((E 113 (by decide)).trans (hT.val 3 rfl (hn 3 (by decide))))) rfl rfl ((E 13 (by decide)).trans (hT.rd 2 rfl)) (hK 114 _ _ (by decide) ⟨hI, hT.set 4 rfl (by kernel_rfl) (by kernel_rfl)⟩)
                  | 5, _ => exact op_moveG rfl (want_on (d := 113) (b := true) rfl rfl ((E 113 (by decide)).trans (hT.val 3 rfl (hn 3 (by decide))))) rfl rfl ((E 18 (by decide)).trans (hT.rd 3 rfl)) (hK 115 _ _ (by decide) ⟨hI, hT.set 5 rfl (by kernel_rfl) (by kernel_rfl)⟩)
                  | 6, _ =>
                    have e1 := (E 114 (by decide)).trans (hT.val 4 rfl (hn 4 (by decide)))
                    have e2 := (E 115 (by decide)).trans (hT.val 5 rfl (hn 5 (by decide)))
                    refine op_valueG (w' := wx) (v := .pointer (some ⟨bw, ow + q * 2, none⟩)) rfl (want_on (d := 113) (b := true) rfl rfl ((E 113 (by decide)).trans (hT.val 3 rfl (hn 3 (by decide))))) rfl ?_ (hK 116 _ _ (by decide) ⟨hI, hT.set 6 rfl (by kernel_rfl) (by kernel_rfl)⟩)
                    clear hK hK0 hT E
                    revert e1 e2
                    generalize a.eval = ρ
                    intro e1 e2
                    go_simp
                  | 7, _ =>
                    have e1 := (E 116 (by decide)).trans (hT.val 6 rfl (hn 6 (by decide)))
                    obtain ⟨bw', ow', ew', d1, d2⟩ := HW.out.below hI q (by rw [HWL.out]; exact hq)
                    simp only [Option.some.injEq, Addr.mk.injEq, and_true] at ew'
                    obtain ⟨rfl, rfl⟩ := ew'
                    rw [← HX.out] at d1 d2
                    refine op_valueG (w' := wx) (v := .agg #[.int .i64 x1, .int .i64 x2]) rfl (want_on (d := 113) (b := true) rfl rfl ((E 113 (by decide)).trans (hT.val 3 rfl (hn 3 (by decide))))) rfl ?_ (hK 117 _ _ (by decide) ⟨hI, hT.set 7 rfl (by kernel_rfl) (by kernel_rfl)⟩)
                    clear hK hK0 hT E
                    revert e1
                    generalize a.eval = ρ
                    intro e1
                    go_simp
                  | 8, _ => exact op_moveG rfl (want_on (d := 113) (b := true) rfl rfl ((E 113 (by decide)).trans (hT.val 3 rfl (hn 3 (by decide))))) rfl rfl ((E 11 (by decide)).trans (hT.rd 1 rfl)) (hK 118 _ _ (by decide) ⟨hI, hT.set 8 rfl (by kernel_rfl) (by kernel_rfl)⟩)
                  | 9, _ => exact op_moveG rfl (want_on (d := 113) (b := true) rfl rfl ((E 113 (by decide)).trans (hT.val 3 rfl (hn 3 (by decide))))) rfl rfl ((E 18 (by decide)).trans (hT.rd 3 rfl)) (hK 119 _ _ (by decide) ⟨hI, hT.set 9 rfl (by kernel_rfl) (by kernel_rfl)⟩)
                  | 10, _ =>
                    have e1 := (E 118 (by decide)).trans (hT.val 8 rfl (hn 8 (by decide)))
                    have e2 := (E 119 (by decide)).trans (hT.val 9 rfl (hn 9 (by decide)))
                    refine op_valueG (w' := wx) (v := .pointer (some ⟨bv, ov + q * 2, none⟩)) rfl (want_on (d := 113) (b := true) rfl rfl ((E 113 (by decide)).trans (hT.val 3 rfl (hn 3 (by decide))))) rfl ?_ (hK 120 _ _ (by decide) ⟨hI, hT.set 10 rfl (by kernel_rfl) (by kernel_rfl)⟩)
                    clear hK hK0 hT E
                    revert e1 e2
                    generalize a.eval = ρ
                    intro e1 e2
                    go_simp
                  | 11, _ =>
                    have e1 := (E 120 (by decide)).trans (hT.val 10 rfl (hn 10 (by decide)))
                    obtain ⟨bv', ov', ev', d1, d2⟩ := HV.out.below hI q (by rw [HVL.out]; exact hq)
                    simp only [Option.some.injEq, Addr.mk.injEq, and_true] at ev'
                    obtain ⟨rfl, rfl⟩ := ev'
                    rw [← HY.out] at d1 d2
                    refine op_valueG (w' := wx) (v := .agg #[.int .i64 y1, .int .i64 y2]) rfl (want_on (d := 113) (b := true) rfl rfl ((E 113 (by decide)).trans (hT.val 3 rfl (hn 3 (by decide))))) rfl ?_ (hK 121 _ _ (by decide) ⟨hI, hT.set 11 rfl (by kernel_rfl) (by kernel_rfl)⟩)
                    clear hK hK0 hT E
                    revert e1
                    generalize a.eval = ρ
                    intro e1
                    go_simp
                  | 12, _ =>
                    have e1 := (E 117 (by decide)).trans (hT.val 7 rfl (hn 7 (by decide)))
                    have e2 := (E 121 (by decide)).trans (hT.val 11 rfl (hn 11 (by decide)))
                    exact op_goG rfl (want_on (d := 113) (b := true) rfl rfl ((E 113 (by decide)).trans (hT.val 3 rfl (hn 3 (by decide))))) rfl rfl Try.func21 (by kernel_rfl) rfl (by simp only [List.map_toArray, List.map_cons, List.map_nil, e1, e2]) (HCM.out _) (fun w' hb => hK 122 _ _ (by decide) ⟨hI.trans (hb.mono hI.size), hT.set 12 rfl (by kernel_rfl) (by kernel_rfl)⟩)
                  | 13, _ =>
                    have e1 := (E 122 (by decide)).trans (hT.val 12 rfl (hn 12 (by decide)))
                    have c1 : a.eval (.const (Value.int IntKind.i64 0)) = Value.int IntKind.i64 0 := rfl
                    have hcc := HCC.out
                    refine op_valueG (w' := wx) (v := .bool false) rfl (want_on (d := 113) (b := true) rfl rfl ((E 113 (by decide)).trans (hT.val 3 rfl (hn 3 (by decide))))) rfl ?_ (hK 123 _ _ (by decide) ⟨hI, hT.set 13 rfl (by kernel_rfl) (by kernel_rfl)⟩)
                    clear hK hK0 hT E
                    revert e1 c1
                    generalize a.eval = ρ
                    intro e1 c1
                    go_simp
                  | 14, _ =>
                    have e1 := (E 113 (by decide)).trans (hT.val 3 rfl (hn 3 (by decide)))
                    have e2 := (E 123 (by decide)).trans (hT.val 13 rfl (hn 13 (by decide)))
                    have c1 : a.eval (.const (Value.bool false)) = Value.bool false := rfl
                    refine op_valueG (w' := wx) (v := .bool false) rfl rfl rfl ?_ (hK 124 _ _ (by decide) ⟨hI, hT.set 14 rfl (by kernel_rfl) (by kernel_rfl)⟩)
                    clear hK hK0 hT E
                    revert e1 e2 c1
                    generalize a.eval = ρ
                    intro e1 e2 c1
                    go_simp
                  | k + 15, h => exact absurd (show k + 15 < 15 from h) (by omega)
                · intro L vals wx hJ hall
                  obtain ⟨hI, hT⟩ := hJ
                  have HI := Lib.hid hI
                  have v7 : vals 7 = .pointer (some ⟨b, 0, none⟩) := hT.rd 0 rfl
                  have v11 : vals 11 = .slice (some ⟨bv, ov, none⟩) k c3 := hT.rd 1 rfl
                  have v13 : vals 13 = .slice (some ⟨bw, ow, none⟩) k c5 := hT.rd 2 rfl
                  have v18 : vals 18 = .int .i64 q := hT.rd 3 rfl
                  have v124 : vals 124 = .bool false := hT.val 14 rfl (hall 14 (by decide))
                  simp only [overA, Act.put, List.setIfInBounds_toArray, List.set_cons_zero, List.set_cons_succ]
                  rw [v7, v11, v13, v18, v124]
                  clear hI hT hall v7 v11 v13 v18 v124
                  go_wp2
                  go_roundg (gk - 1)
                  case measure => have h := HG.out.2; omega
                  case rel => exact ⟨q + 1, by go_num, HI, Lib.hid ⟨by omega, by have h := HG.out.2; omega⟩⟩
              | false =>
                clear hinb HLL
                go_upto_region 24 with fail
                refine wp_region_tab (by kernel_rfl) [7, 11, 13, 18, 110, 111, 112, 113, 114, 115, 116, 117, 118, 119, 120, 121, 122, 123, 124] [[], [], [0, 1], [2], [3], [3], [3, 4, 5], [3, 6], [3], [3], [3, 8, 9], [3, 10], [3, 7, 11], [3, 12], [3, 13]]
                  (fun L vals wx => Below w5.heap.size w5 wx ∧ TabR (tbLiF b bw ow c5 bv ov c3 k q) (bsLiF b bw ow c5 bv ov c3 k q) L vals) (by kernel_rfl) rfl ?_ ?_ ?_
                · exact ⟨Below.drew HB.out, TabR.start (by simp [bsLiF])⟩
                · intro i hi a L vals wx E hJ hLi hn K hK hK0
                  obtain ⟨hI, hT⟩ := hJ
                  match i, hi with
                  | 0, _ => exact op_moveG rfl rfl rfl rfl ((E 7 (by decide)).trans (hT.rd 0 rfl)) (hK 110 _ _ (by decide) ⟨hI, hT.set 0 rfl (by kernel_rfl) (by kernel_rfl)⟩)
                  | 1, _ => exact op_moveG rfl rfl rfl rfl ((E 13 (by decide)).trans (hT.rd 2 rfl)) (hK 111 _ _ (by decide) ⟨hI, hT.set 1 rfl (by kernel_rfl) (by kernel_rfl)⟩)
                  | 2, _ =>
                    have e1 := (E 110 (by decide)).trans (hT.val 0 rfl (hn 0 (by decide)))
                    have e2 := (E 111 (by decide)).trans (hT.val 1 rfl (hn 1 (by decide)))
                    exact op_goG rfl rfl rfl rfl Try.func19 (by kernel_rfl) rfl (by simp only [List.map_toArray, List.map_cons, List.map_nil, e1, e2]) (HIN.out _ hI) (fun w' hb => hK 112 _ _ (by decide) ⟨hI.trans (hb.mono hI.size), hT.set 2 rfl (by kernel_rfl) (by kernel_rfl)⟩)
                  | 3, _ => exact op_moveG rfl rfl rfl rfl ((E 112 (by decide)).trans (hT.val 2 rfl (hn 2 (by decide)))) (hK 113 _ _ (by decide) ⟨hI, hT.set 3 rfl (by kernel_rfl) (by kernel_rfl)⟩)
                  | 4, _ => exact op_skip rfl (want_off (d := 113) (b := true) rfl rfl ((E 113 (by decide)).trans (hT.val 3 rfl (hn 3 (by decide))))) rfl (hK 114 _ _ (by decide) ⟨hI, hT.set 4 rfl (by kernel_rfl) (by kernel_rfl)⟩)
                  | 5, _ => exact op_skip rfl (want_off (d := 113) (b := true) rfl rfl ((E 113 (by decide)).trans (hT.val 3 rfl (hn 3 (by decide))))) rfl (hK 115 _ _ (by decide) ⟨hI, hT.set 5 rfl (by kernel_rfl) (by kernel_rfl)⟩)
                  | 6, _ => exact op_skip rfl (want_off (d := 113) (b := true) rfl rfl ((E 113 (by decide)).trans (hT.val 3 rfl (hn 3 (by decide))))) rfl (hK 116 _ _ (by decide) ⟨hI, hT.set 6 rfl (by kernel_rfl) (by kernel_rfl)⟩)
                  | 7, _ => exact op_skip rfl (want_off (d := 113) (b := true) rfl rfl ((E 113 (by decide)).trans (hT.val 3 rfl (hn 3 (by decide))))) rfl (hK 117 _ _ (by decide) ⟨hI, hT.set 7 rfl (by kernel_rfl) (by kernel_rfl)⟩)
                  | 8, _ => exact op_skip rfl (want_off (d := 113) (b := true) rfl rfl ((E 113 (by decide)).trans (hT.val 3 rfl (hn 3 (by decide))))) rfl (hK 118 _ _ (by decide) ⟨hI, hT.set 8 rfl (by kernel_rfl) (by kernel_rfl)⟩)
                  | 9, _ => exact op_skip rfl (want_off (d := 113) (b := true) rfl rfl ((E 113 (by decide)).trans (hT.val 3 rfl (hn 3 (by decide))))) rfl (hK 119 _ _ (by decide) ⟨hI, hT.set 9 rfl (by kernel_rfl) (by kernel_rfl)⟩)
                  | 10, _ => exact op_skip rfl (want_off (d := 113) (b := true) rfl rfl ((E 113 (by decide)).trans (hT.val 3 rfl (hn 3 (by decide))))) rfl (hK 120 _ _ (by decide) ⟨hI, hT.set 10 rfl (by kernel_rfl) (by kernel_rfl)⟩)
                  | 11, _ => exact op_skip rfl (want_off (d := 113) (b := true) rfl rfl ((E 113 (by decide)).trans (hT.val 3 rfl (hn 3 (by decide))))) rfl (hK 121 _ _ (by decide) ⟨hI, hT.set 11 rfl (by kernel_rfl) (by kernel_rfl)⟩)
                  | 12, _ => exact op_skip rfl (want_off (d := 113) (b := true) rfl rfl ((E 113 (by decide)).trans (hT.val 3 rfl (hn 3 (by decide))))) rfl (hK 122 _ _ (by decide) ⟨hI, hT.set 12 rfl (by kernel_rfl) (by kernel_rfl)⟩)
                  | 13, _ => exact op_skip rfl (want_off (d := 113) (b := true) rfl rfl ((E 113 (by decide)).trans (hT.val 3 rfl (hn 3 (by decide))))) rfl (hK 123 _ _ (by decide) ⟨hI, hT.set 13 rfl (by kernel_rfl) (by kernel_rfl)⟩)
                  | 14, _ =>
                    have e1 := (E 113 (by decide)).trans (hT.val 3 rfl (hn 3 (by decide)))
                    have e2 := (E 123 (by decide)).trans (hT.val 13 rfl (hn 13 (by decide)))
                    have c1 : a.eval (.const (Value.bool false)) = Value.bool false := rfl
                    refine op_valueG (w' := wx) (v := .bool false) rfl rfl rfl ?_ (hK 124 _ _ (by decide) ⟨hI, hT.set 14 rfl (by kernel_rfl) (by kernel_rfl)⟩)
                    clear hK hK0 hT E
                    revert e1 e2 c1
                    generalize a.eval = ρ
                    intro e1 e2 c1
                    go_simp
                  | k + 15, h => exact absurd (show k + 15 < 15 from h) (by omega)
                · intro L vals wx hJ hall
                  obtain ⟨hI, hT⟩ := hJ
                  have HI := Lib.hid hI
                  have v7 : vals 7 = .pointer (some ⟨b, 0, none⟩) := hT.rd 0 rfl
                  have v11 : vals 11 = .slice (some ⟨bv, ov, none⟩) k c3 := hT.rd 1 rfl
                  have v13 : vals 13 = .slice (some ⟨bw, ow, none⟩) k c5 := hT.rd 2 rfl
                  have v18 : vals 18 = .int .i64 q := hT.rd 3 rfl
                  have v124 : vals 124 = .bool false := hT.val 14 rfl (hall 14 (by decide))
                  simp only [overA, Act.put, List.setIfInBounds_toArray, List.set_cons_zero, List.set_cons_succ]
                  rw [v7, v11, v13, v18, v124]
                  clear hI hT hall v7 v11 v13 v18 v124
                  go_wp2
                  go_roundg (gk - 1)
                  case measure => have h := HG.out.2; omega
                  case rel => exact ⟨q + 1, by go_num, HI, Lib.hid ⟨by omega, by have h := HG.out.2; omega⟩⟩
            · have hqi : ¬ (q : Int) < (k : Int) := by omega
              go_wp2
              go_ret
              exact ⟨rfl, HBW.out.trans (HB.out.mono HBW.out.size)⟩


end Go.Proofs.Ytfegongaflekiaa
