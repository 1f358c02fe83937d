/- Texts of ours, laid together: Qw, Row8. -/
import Derived.OpenShut
import Derived.Lib.SmallJoins
import Derived.SizedLaws
import Derived.Test.YtidcnlecgcobmaaDoorMg13
/- What OpsTwice tells. -/
namespace Go.Proofs.YtidcnlecgcobmaaDoor
open Go Go.RowKit
set_option linter.unusedVariables false
set_option linter.unusedSimpArgs false

/-- What sets a clock, in a block of its own. -/
def SetsAt (b : Nat) (s1 s2 s3 : Int) (w : World) : Prop := w.cell? ⟨b, 0, none⟩ = some (.int .i64 s1) ∧ w.cell? ⟨b, 1, none⟩ = some (.int .i64 s2) ∧ w.cell? ⟨b, 2, none⟩ = some (.int .i64 s3)
theorem stable_sets (b : Nat) (s1 s2 s3 : Int) : Stable fun w => SetsAt b s1 s2 s3 w := fun w w' h hb =>
  ⟨(hb.cell (p := ⟨b, 0, none⟩) (World.block_lt_of_cell? w _ h.1)).trans h.1, (hb.cell (p := ⟨b, 1, none⟩) (World.block_lt_of_cell? w _ h.2.1)).trans h.2.1, (hb.cell (p := ⟨b, 2, none⟩) (World.block_lt_of_cell? w _ h.2.2)).trans h.2.2⟩
theorem sets_new (w : World) (s1 s2 s3 : Int) (v : Value) (e : TypeId) : SetsAt w.heap.size s1 s2 s3 (w.alloc (.cells #[.int .i64 s1, .int .i64 s2, .int .i64 s3, v] e (0, 0))) := by
  have h1 := heap_alloc_new w (.cells #[.int .i64 s1, .int .i64 s2, .int .i64 s3, v] e (0, 0))
  refine ⟨?_, ?_, ?_⟩ <;> (unfold World.cell?; rw [h1]; rfl)

set_option maxRecDepth 100000 in
set_option maxHeartbeats 4000000 in
theorem opstwice_any (n : Int) (A : Option Addr) (c : Nat) (cells : List Int) (s1 s2 s3 : Int) (S : Option Addr) (sl sc : Nat) (w : World) (hI : Ints w .i32 A cells) (hmax : cells.length ≤ 4611686018427387904)
    (hk : ∀ q, q < cells.length → -2147483648 ≤ cells.getD q 0 ∧ cells.getD q 0 ≤ 2147483647) (ht : Tab w) :
    Calls Tryd.prog 9 #[.int .i64 n, .slice A cells.length c, .agg #[.int .i64 s1, .int .i64 s2, .int .i64 s3, .slice S sl sc]] w fun e w' => e = .returned (.bool true) ∧ Below w.heap.size w w' := by
  obtain ⟨wb, hwb⟩ : ∃ wb, wb = w.alloc (.cells #[.int .i64 s1, .int .i64 s2, .int .i64 s3, .slice S sl sc] 72) := ⟨_, rfl⟩
  have hbw : Below w.heap.size w wb := by rw [hwb]; exact (Below.refl _ _).alloc (Nat.le_refl _) _
  have HG0 := Lib.hid ((((Bag.start hbw).add (by rw [hwb]; exact sets_new w s1 s2 s3 _ _ : SetsAt w.heap.size s1 s2 s3 wb) (stable_sets _ _ _ _)).add (hI.below hbw) (stable_ints _ _ _)).add (ht.below hbw) stable_tab)
  have HZ1 := Lib.hid (fun w hI => of_any n A c cells w hI hmax hk)
  obtain ⟨e1, he1⟩ : ∃ e, e = (ofP n cells).2 := ⟨_, rfl⟩
  unfold MakesZ at HZ1
  rw [← he1, show ((ofP n cells).1.map fun m => (n.toNat, m)) = zOf n cells from rfl] at HZ1
  have HKC := Lib.hid (fun k m (h : zOf n cells = some (k, m)) => And.intro (zone_kinds h).1 (zone_closed h))
  have HWB := Lib.hid hwb
  generalize zOf n cells = z at *
  clear he1 hI hk ht hwb hbw
  go_enter Tryd.func9, Tryd.ntmps9
  go_wp2_with fail
  rw [← HWB.out]
  refine (live04_any _ (HG0.out.at 0 rfl)).mono ?_
  rintro e w1 ⟨rfl, hb⟩
  have HG1 := Lib.hid (HG0.out.step hb)
  clear hb HG0
  go_wp2_with fail
  refine (HZ1.out _ (HG1.out.at 1 rfl)).mono ?_
  rintro e w2 ⟨hb, v, rfl, hv⟩
  have HG2 := Lib.hid ((HG1.out.step hb).add hv (stable_zone _ _ _))
  clear hb HG1 HZ1
  cases z with
  | none =>
    have h1 : v = .pointer none := hv
    subst h1
    clear hv
    go_wp2
    go_ret
    exact ⟨rfl, HG2.out.below⟩
  | some q =>
    obtain ⟨k, m⟩ := q
    obtain ⟨⟨hn0, hn8, hkn⟩, hkm⟩ := HKC.out k m rfl
    have hk8 : k ≤ 8 := by omega
    have HK8 := Lib.hid hk8
    have HKM := Lib.hid hkm
    obtain ⟨b1, rfl, _⟩ := hv
    obtain ⟨a, hu1, hu2, hu3⟩ := up_twice hk8 hkm
    obtain ⟨d, hd1, hd2, hd3⟩ := down_twice hk8 hkm
    have HU := Lib.hid (fun v w h => up_zone v k m w h)
    have HUU := Lib.hid (fun v w h => up_zone v k a w h)
    have HD := Lib.hid (fun v w h => down_zone v k m w h)
    have HDD := Lib.hid (fun v w h => down_zone v k d w h)
    rw [hu1] at HU
    rw [hu2] at HUU
    rw [hd1] at HD
    rw [hd2] at HDD
    have HINC := Lib.hid (fun p q => show inclP (some (k, p)) (some (k, q)) = inclM k p q by show (decide (k = k) && _) = _; rw [decide_eq_true rfl, Bool.true_and])
    have HEQ := Lib.hid (fun p => show equalP (some (k, p)) (some (k, p)) = true by show (decide (k = k) && _) = _; rw [decide_eq_true rfl, eqM_self]; rfl)
    have HU3 := Lib.hid hu3
    have HD3 := Lib.hid hd3
    clear hu1 hu2 hd1 hd2 hu3 hd3 hkm hn0 hn8 hkn HKC hk8
    go_wp2_with fail
    refine (HU.out _ _ (HG2.out.at 0 rfl)).mono ?_
    rintro e w3 ⟨hb, va, rfl, ha⟩
    have HG3 := Lib.hid ((HG2.out.step hb).add (show ZoneV 126 w3 va (some (k, a)) from ha) (stable_zone _ _ _))
    clear hb ha HG2 HU
    go_wp2_with fail
    refine (HUU.out _ _ (HG3.out.at 0 rfl)).mono ?_
    rintro e w4 ⟨hb, vb, rfl, ha⟩
    have HG4 := Lib.hid ((HG3.out.step hb).add (show ZoneV 126 w4 vb (some (k, a)) from ha) (stable_zone _ _ _))
    clear hb ha HG3 HUU
    go_wp2_with fail
    refine (HD.out _ _ (HG4.out.at 2 rfl)).mono ?_
    rintro e w5 ⟨hb, vc, rfl, ha⟩
    have HG5 := Lib.hid ((HG4.out.step hb).add (show ZoneV 126 w5 vc (some (k, d)) from ha) (stable_zone _ _ _))
    clear hb ha HG4 HD
    go_wp2_with fail
    refine (HDD.out _ _ (HG5.out.at 0 rfl)).mono ?_
    rintro e w6 ⟨hb, vd, rfl, ha⟩
    have HG6 := Lib.hid ((HG5.out.step hb).add (show ZoneV 126 w6 vd (some (k, d)) from ha) (stable_zone _ _ _))
    clear hb ha HG5 HDD
    go_wp2_with fail
    refine (equal_any _ _ _ _ _ (HG6.out.at 3 rfl) (HG6.out.at 2 rfl)).mono ?_
    rw [HEQ.out]
    rintro e w7 ⟨rfl, hb⟩
    have HG7 := Lib.hid (HG6.out.step hb)
    clear hb HG6
    go_wp2_with fail
    refine (equal_any _ _ _ _ _ (HG7.out.at 1 rfl) (HG7.out.at 0 rfl)).mono ?_
    rw [HEQ.out]
    rintro e w8 ⟨rfl, hb⟩
    have HG8 := Lib.hid (HG7.out.step hb)
    clear hb HG7
    go_wp2_with fail
    refine (includes_any _ _ _ _ _ (HG8.out.at 3 rfl) (HG8.out.at 4 rfl)).mono ?_
    rw [HINC.out, HU3.out]
    rintro e w9 ⟨rfl, hb⟩
    have HG9 := Lib.hid (HG8.out.step hb)
    clear hb HG8
    go_wp2_with fail
    refine (includes_any _ _ _ _ _ (HG9.out.at 1 rfl) (HG9.out.at 4 rfl)).mono ?_
    rw [HINC.out, HD3.out]
    rintro e w10 ⟨rfl, hb⟩
    have HG10 := Lib.hid (HG9.out.step hb)
    have HSA := Lib.hid (show SetsAt w.heap.size s1 s2 s3 w10 from HG10.out.at 7 rfl)
    have c1 := HSA.out.1
    have c2 := HSA.out.2.1
    clear hb HG9 HSA
    by_cases hse : setE (some (k, m)) s1 s2 = 0
    · obtain ⟨hi1, hi2⟩ : isB k s1 = true ∧ (0 ≤ s2 ∧ s2 ≤ 1048576) := by
        have h0 : (if isB k s1 = true then (if 0 ≤ s2 ∧ s2 ≤ 1048576 then (0 : Int) else 13) else 12) = 0 := hse
        by_cases i1 : isB k s1 = true
        · rw [if_pos i1] at h0
          by_cases i2 : 0 ≤ s2 ∧ s2 ≤ 1048576
          · exact ⟨i1, i2⟩
          · rw [if_neg i2] at h0; omega
        · rw [if_neg i1] at h0; omega
      have hcc : 1 ≤ s1 ∧ s1 ≤ k := by unfold isB at hi1; simpa only [decide_eq_true_eq] using hi1
      obtain ⟨x, rfl⟩ : ∃ x : Nat, s1 = x := ⟨s1.toNat, by omega⟩
      have hx : 1 ≤ x ∧ x ≤ k := by omega
      clear hi1 hcc hse
      have HRS := Lib.hid (fun v m w h => reset_right v k m x s2 w h hx hi2)
      have HUN := Lib.hid (fun v m w h => unset_right v k m x s2 w h hx hi2)
      have HFR := Lib.hid (fun v A w h hI => free_zone v k m A 1 [(x : Int)] w h hI (by simp))
      rcases twice_law HK8.out hx hi2 HKM.out with ⟨er, her, hr⟩ | ⟨y, f, hr1, hr2, hr3, hr4, hr5⟩
      · have HR1 := Lib.hid (HRS.out (.pointer (some ⟨b1, 0, none⟩)) m w10 (HG10.out.at 4 rfl))
        rw [hr] at HR1
        have t1 : (er != 0) = true := by simp [her]
        clear hr her
        go_wp2_with fail
        refine HR1.out.mono ?_
        rintro e w11 ⟨hb, vx, rfl, ha⟩
        have HG11 := Lib.hid (HG10.out.step hb)
        clear hb ha HG10 HR1
        go_wp2
        go_ret
        exact ⟨rfl, HG11.out.below⟩
      · have HR1 := Lib.hid (HRS.out (.pointer (some ⟨b1, 0, none⟩)) m w10 (HG10.out.at 4 rfl))
        rw [hr1] at HR1
        have HR2 := Lib.hid (fun v w h => HUN.out v y w h)
        rw [hr2] at HR2
        rw [hr3] at HFR
        have HR4 := Lib.hid hr4
        have HR5 := Lib.hid (fun v w h => HUN.out v m w h)
        have HR6 := Lib.hid (fun u v w h => HRS.out v u w h)
        have HHH := Lib.hid hr5
        clear hr1 hr2 hr3 hr4 hr5 HUN HRS
        go_wp2_with fail
        refine HR1.out.mono ?_
        rintro e w11 ⟨hb, vx, rfl, ha⟩
        have HG11 := Lib.hid ((HG10.out.step hb).add (show ZoneV 126 w11 vx (some (k, y)) from ha) (stable_zone _ _ _))
        have HSA := Lib.hid (show SetsAt w.heap.size x s2 s3 w11 from HG11.out.at 8 rfl)
        have c1 := HSA.out.1
        have c2 := HSA.out.2.1
        clear hb ha HG10 HR1 HSA
        go_wp2_with fail
        refine (HR2.out _ _ (HG11.out.at 0 rfl)).mono ?_
        rintro e w12 ⟨hb, vy, rfl, ha⟩
        have HG12 := Lib.hid ((HG11.out.step hb).add (show ZoneV 126 w12 vy (some (k, f)) from ha) (stable_zone _ _ _))
        have HSA := Lib.hid (show SetsAt w.heap.size x s2 s3 w12 from HG12.out.at 9 rfl)
        have c1 := HSA.out.1
        have HI1 := Lib.hid (ints_one w12 3 (x : Int))
        have HGA := Lib.hid (fun o => HG12.out.step ((Below.refl w12.heap.size w12).alloc (Nat.le_refl _) o))
        clear hb ha HG11 HR2 HSA
        go_wp2_with fail
        refine (HFR.out _ _ _ ((HGA.out _).at 6 rfl) HI1.out).mono ?_
        rintro e w13 ⟨hb, vw, rfl, ha⟩
        have HG13 := Lib.hid (((HGA.out _).step hb).add (show ZoneV 126 w13 vw (some (k, f)) from ha) (stable_zone _ _ _))
        clear hb ha HG12 HFR HGA HI1
        go_wp2_with fail
        refine (equal_any _ _ _ _ _ (HG13.out.at 1 rfl) (HG13.out.at 0 rfl)).mono ?_
        rw [HEQ.out]
        rintro e w14 ⟨rfl, hb⟩
        have HG14 := Lib.hid (HG13.out.step hb)
        clear hb HG13
        go_wp2_with fail
        refine (includes_any _ _ _ _ _ (HG14.out.at 1 rfl) (HG14.out.at 7 rfl)).mono ?_
        rw [HINC.out, HR4.out]
        rintro e w15 ⟨rfl, hb⟩
        have HG15 := Lib.hid (HG14.out.step hb)
        have HSA := Lib.hid (show SetsAt w.heap.size x s2 s3 w15 from HG15.out.at 10 rfl)
        have c1 := HSA.out.1
        have c2 := HSA.out.2.1
        clear hb HG14 HSA
        rcases HHH.out with hu | ⟨u, hu, ht⟩
        · have HR7 := Lib.hid (HR5.out _ w15 (HG15.out.at 7 rfl))
          rw [hu] at HR7
          clear hu
          go_wp2_with fail
          refine HR7.out.mono ?_
          rintro e w16 ⟨hb, vu, rfl, ha⟩
          have HG16 := Lib.hid (HG15.out.step hb)
          clear hb ha HG15 HR7
          go_wp2
          go_ret
          exact ⟨rfl, HG16.out.below⟩
        · have HR7 := Lib.hid (HR5.out _ w15 (HG15.out.at 7 rfl))
          rw [hu] at HR7
          clear hu
          go_wp2_with fail
          refine HR7.out.mono ?_
          rintro e w16 ⟨hb, vu, rfl, ha⟩
          have HG16 := Lib.hid ((HG15.out.step hb).add (show ZoneV 126 w16 vu (some (k, u)) from ha) (stable_zone _ _ _))
          have HSA := Lib.hid (show SetsAt w.heap.size x s2 s3 w16 from HG16.out.at 11 rfl)
          have c1 := HSA.out.1
          have c2 := HSA.out.2.1
          clear hb ha HG15 HR7 HSA
          have HR8 := Lib.hid (HR6.out u _ w16 (HG16.out.at 0 rfl))
          rcases ht with ht | ⟨t, ht, hin⟩
          · rw [ht] at HR8
            clear ht
            go_wp2_with fail
            refine HR8.out.mono ?_
            rintro e w17 ⟨hb, vt, rfl, ha⟩
            have HG17 := Lib.hid (HG16.out.step hb)
            clear hb ha HG16 HR8
            go_wp2
            go_ret
            exact ⟨rfl, HG17.out.below⟩
          · rw [ht] at HR8
            have HIN := Lib.hid hin
            clear ht hin
            go_wp2_with fail
            refine HR8.out.mono ?_
            rintro e w17 ⟨hb, vt, rfl, ha⟩
            have HG17 := Lib.hid ((HG16.out.step hb).add (show ZoneV 126 w17 vt (some (k, t)) from ha) (stable_zone _ _ _))
            clear hb ha HG16 HR8
            go_wp2_with fail
            refine (includes_any _ _ _ _ _ (HG17.out.at 9 rfl) (HG17.out.at 0 rfl)).mono ?_
            rw [HINC.out, HIN.out]
            rintro e w18 ⟨rfl, hb⟩
            have HG18 := Lib.hid (HG17.out.step hb)
            clear hb HG17
            go_wp2
            go_ret
            exact ⟨rfl, HG18.out.below⟩
    · have HRW := Lib.hid (fun v w h => reset_wrong v (some (k, m)) s1 s2 w h hse)
      have t1 : (setE (some (k, m)) s1 s2 != 0) = true := by simp [hse]
      generalize setE (some (k, m)) s1 s2 = r at *
      clear hse
      go_wp2_with fail
      refine (HRW.out _ _ (HG10.out.at 4 rfl)).mono ?_
      rintro e w11 ⟨rfl, hb⟩
      have HG11 := Lib.hid (HG10.out.step hb)
      clear hb HG10
      go_wp2
      go_ret
      exact ⟨rfl, HG11.out.below⟩

end Go.Proofs.YtidcnlecgcobmaaDoor

/- How a struct of three numbers and a row of numbers comes in. -/
namespace Go.Proofs.YtidcnlecgcobmaaDoor
open Go Go.ChangeShapes Go.WideShapes Go.ChangeAt Go.RowKit Go.Deep
set_option linter.unusedVariables false
set_option linter.unusedSimpArgs false

section
variable {H : Type} {enc : TypeId × Value → H} {P : Program} {W W' : World}
theorem came_sets {t e : TypeId} {f0 f1 f2 f3 : Field} {k : IntKind} {v : Value} {d : DataW H} {ps : List MemPlace} {r : Reach} {base : Nat} (ht : P.underlying t = some (.struct #[f0, f1, f2, f3])) (k0 : P.underlying f0.type = some (.int .i64)) (k1 : P.underlying f1.type = some (.int .i64))
    (k2 : P.underlying f2.type = some (.int .i64)) (k3 : P.underlying f3.type = some (.slice e)) (he : P.underlying e = some (.int k)) (hone : Deep.oneCellFields P #[f0, f1, f2, f3] = true) (hc : P.cellsOf t = 4) (hce : P.cellsOf e = 1)
    (hval : Value.okWide P W r base t v) (h : DataW.Trod enc P W 0 (fun _ => true) true t v d ps) :
    ∃ x y z A c xs, v = .agg #[.int .i64 x, .int .i64 y, .int .i64 z, .slice A xs.length c] ∧ Ints W k A xs ∧ (∀ n ∈ xs, (Lit.int k n).wf = true) ∧
      (xs = [] ∨ ∃ d0 d1 d2 el sp, d = .agg [d0, d1, d2, .slice el sp] ∧ el.length = xs.length) := by
  obtain ⟨v0, v1, v2, v3, y0, y1, y2, y3, n, rfl, hd, _, h0, h1, h2, h3⟩ := Go.Joins.open_agg4 ht hone hc hval h
  obtain ⟨x, e0, _, _⟩ := DataW.trod_int k0 h0
  obtain ⟨y, e1, _, _⟩ := DataW.trod_int k1 h1
  obtain ⟨z, e2, _, _⟩ := DataW.trod_int k2 h2
  simp only [List.cons.injEq, and_true] at e0 e1 e2
  subst e0 e1 e2
  rcases open_ints k3 he hce h3 with ⟨hcs, _⟩ | ⟨a, len, cap, zs, hcs, _, hle, hmax, hall, hx, hcell, hwf⟩
  · simp only [List.cons.injEq, and_true] at hcs
    subst hcs
    exact ⟨x, y, z, none, 0, [], rfl, fun j hj => by simp at hj, by simp, .inl rfl⟩
  · simp only [List.cons.injEq, and_true] at hcs
    subst hcs
    have hz : zs.length = cap := by simpa using hall
    have hlen : (zs.take len).length = len := by rw [List.length_take]; omega
    simp only [hx] at hd
    refine ⟨x, y, z, some a, cap, zs.take len, by rw [hlen], ?_, fun n hn => hwf n (List.mem_of_mem_take hn), .inr ⟨_, _, _, _, _, hd, by simp [lits]⟩⟩
    intro j hj
    rw [hlen] at hj
    obtain ⟨b, off, rfl, hcell'⟩ := ints_at hcell (by omega)
    refine ⟨b, off, rfl, ?_⟩
    rw [hcell' j (by omega)]
    congr 2
    simp [List.getD_eq_getElem?_getD, List.getElem?_take, hj]
theorem came_shortS {ts : List TypeId} {ds : List (DataW H)} {j : Nat} {t e : TypeId} {f0 f1 f2 f3 : Field} {d : DataW H} {xs : List Int} {m : Nat} (hsz : (DataW.weightsEach P ts ds).all (· ≤ reachBytes) = true) (ht : ts[j]? = some t) (hd : ds[j]? = some d)
    (hu : P.underlying t = some (.struct #[f0, f1, f2, f3])) (k3 : P.underlying f3.type = some (.slice e)) (hm : P.bytesOf e = m) (h : xs = [] ∨ ∃ d0 d1 d2 el sp, d = .agg [d0, d1, d2, .slice el sp] ∧ el.length = xs.length) : xs.length * m ≤ 140737488351232 := by
  rcases h with rfl | ⟨d0, d1, d2, el, sp, rfl, he⟩
  · simp
  · have h2 := DataW.weights_mem_each (P := P) (ts := [f0.type, f1.type, f2.type, f3.type]) (ds := [d0, d1, d2, .slice el sp]) (j := 3) rfl rfl ((el.length + sp.length) * P.bytesOf e) (by simp [DataW.weights, k3])
    have h1 := List.all_eq_true.1 hsz _ (DataW.weights_mem_each ht hd _ (show _ ∈ DataW.weights P t (.agg [d0, d1, d2, .slice el sp]) by simpa [DataW.weights, hu] using h2))
    rw [hm] at h1
    have h3 : el.length * m ≤ (el.length + sp.length) * m := Nat.mul_le_mul_right _ (by omega)
    rw [← he]
    have h4 : (el.length + sp.length) * m ≤ 140737488351232 := of_decide_eq_true (p := (el.length + sp.length) * m ≤ 140737488351232) h1
    omega
end

end Go.Proofs.YtidcnlecgcobmaaDoor
