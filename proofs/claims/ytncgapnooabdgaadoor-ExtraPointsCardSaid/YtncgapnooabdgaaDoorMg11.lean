/- Texts of ours, laid together: Er, Kpa, Kp. -/
import Derived.Deep.DeepCutAuto
import Derived.Deep.CutBlock
import Derived.Test.YtncgapnooabdgaaDoorMg10
/- What ExtraPoints wants, cell by cell: plain. -/
namespace Go.Proofs.YtncgapnooabdgaaDoor
set_option linter.unusedVariables false
set_option linter.unusedSimpArgs false

/-- The first p cells are kept as the law asks. -/
def wantUp (n : Nat) (lo l vl : List Int) (p : Nat) : Bool := decide (∀ q, q < p → skipB lo (q / (n + 1)) (q % (n + 1)) (l.getD q 0) = false → holdsB (cutB lo (q / (n + 1)) (q % (n + 1)) (l.getD q 0)) (vl.getD (q / (n + 1)) 0 - vl.getD (q % (n + 1)) 0) 2 = true)
theorem wantUp_zero (n : Nat) (lo l vl : List Int) : wantUp n lo l vl 0 = true := decide_eq_true fun q h => by omega
theorem wantUp_skip (n : Nat) (lo l vl : List Int) (i j : Nat) (hj : j ≤ n) (hs : skipB lo i j (l.getD (i * (n + 1) + j) 0) = true) : wantUp n lo l vl (i * (n + 1) + (j + 1)) = wantUp n lo l vl (i * (n + 1) + j) := by
  obtain ⟨e1, e2⟩ := at_row (n := n) (i := i) (j := j) (by omega)
  rw [Bool.eq_iff_iff]
  unfold wantUp
  rw [decide_eq_true_iff, decide_eq_true_iff]
  constructor
  · intro h q hq
    exact h q (by omega)
  · intro h q hq
    by_cases e : q = i * (n + 1) + j
    · subst e; rw [e1, e2, hs]; intro h; cases h
    · exact h q (by omega)
theorem wantUp_next (n : Nat) (lo l vl : List Int) (i j : Nat) (hj : j ≤ n) (hs : skipB lo i j (l.getD (i * (n + 1) + j) 0) = false) :
    wantUp n lo l vl (i * (n + 1) + (j + 1)) = (wantUp n lo l vl (i * (n + 1) + j) && holdsB (cutB lo i j (l.getD (i * (n + 1) + j) 0)) (vl.getD i 0 - vl.getD j 0) 2) := by
  obtain ⟨e1, e2⟩ := at_row (n := n) (i := i) (j := j) (by omega)
  rw [Bool.eq_iff_iff]
  unfold wantUp
  rw [Bool.and_eq_true, decide_eq_true_iff, decide_eq_true_iff]
  constructor
  · intro h
    have := h (i * (n + 1) + j) (by omega)
    rw [e1, e2] at this
    exact ⟨fun q hq => h q (by omega), this hs⟩
  · intro ⟨h1, h2⟩ q hq
    by_cases e : q = i * (n + 1) + j
    · subst e; rw [e1, e2]; exact fun _ => h2
    · exact h1 q (by omega)
theorem wantUp_all (n : Nat) (lo l vl : List Int) : wantUp n lo l vl ((n + 1) * (n + 1)) = wantB n lo l fun i => vl.getD i 0 := by
  rw [Bool.eq_iff_iff]
  unfold wantUp wantB
  rw [decide_eq_true_iff, decide_eq_true_iff]
  constructor
  · intro h i hi j hj
    have := h (i * (n + 1) + j) (at_lt (by omega) (by omega))
    obtain ⟨e1, e2⟩ := at_row (n := n) (i := i) (j := j) (by omega)
    rw [e1, e2] at this
    exact this
  · intro h q hq
    have h1 : q / (n + 1) < n + 1 := Nat.div_lt_of_lt_mul hq
    have h2 := Nat.mod_lt q (show 0 < n + 1 by omega)
    have := h (q / (n + 1)) (by omega) (q % (n + 1)) (by omega)
    rw [show q / (n + 1) * (n + 1) + q % (n + 1) = q by rw [Nat.mul_comm]; exact Nat.div_add_mod q (n + 1)] at this
    exact this

end Go.Proofs.YtncgapnooabdgaaDoor

/- What ExtraPoints tells where nothing is widened. -/
namespace Go.Proofs.YtncgapnooabdgaaDoor
open Go Go.RowKit
set_option linter.unusedVariables false
set_option linter.unusedSimpArgs false

theorem ptsF_infoN : (Tryd.prog.info? 2).map (fun i => (i.zero, i.size, i.bytes)) = some (some (.int .i64 0), 1, 8) := infoI64
/-- The gone clocks' list, by a world that stays. -/
theorem LcR.below {w0 w1 wr : World} {lo up : List Int} {p : Nat} {v : Value} (h : LcR w1 lo up p v wr) (hb : Below w0.heap.size w0 w1) : Below w0.heap.size w0 wr := hb.trans (h.1.mono hb.size)

/-- A valuation in a block of the call's own. -/
structure PvR (w0 : World) (gv : Nat) (vl : List Int) (wr : World) : Prop where
  below : Below w0.heap.size w0 wr
  gv0 : w0.heap.size ≤ gv
  vec : RowAt wr gv 2 .i64 vl
theorem PvR.setV {w0 wr : World} {gv : Nat} {vl : List Int} (h : PvR w0 gv vl wr) (p : Nat) (x : Int) : PvR w0 gv (vl.set p x) (wr.setCell ⟨gv, p, none⟩ (.int .i64 x)) :=
  ⟨h.below.setCell (p := ⟨gv, p, none⟩) h.gv0 _, h.gv0, h.vec.set p x⟩
theorem PvR.made (w : World) (n : Nat) (xs : List Int) : PvR w w.heap.size (vecUp n xs 0) (w.alloc (.cells (madeCells #[.int .i64 0] (n + 1)) 2)) :=
  ⟨(Below.refl _ _).alloc (Nat.le_refl _) _, Nat.le_refl _, vec_made w 2 n xs⟩
/-- A zone that LU widens without a code is right. -/
theorem max_right {z : Option (Nat × Mat)} {lo : List Int} (he : (luA z lo lo).2 = 0) (hem : ¬ emptyP z = true) (hk : ∀ k m, z = some (k, m) → GoneK k m) : ∃ k m, z = some (k, m) ∧ ClosedZ k m ∧ rightE k lo = 0 := by
  match z, he, hem, hk with
  | none, he, _, _ => exact absurd (show (1 : Int) = 0 from he) (by decide)
  | some (k, m), he, hem, hk =>
    refine ⟨k, m, rfl, ?_, ?_⟩
    · rcases hk k m rfl with e | h
      · subst e; exact absurd (show emptyP (some (k, fun _ _ => 0)) = true from rfl) hem
      · exact h
    · by_cases h : rightE k lo = 0
      · exact h
      · have he : (luP k m lo lo).2 = 0 := he
        unfold luP at he
        rw [if_pos h] at he
        exact absurd he h

set_option maxRecDepth 100000 in
set_option maxHeartbeats 16000000 in
theorem points5_err (n : Int) (A : Option Addr) (c : Nat) (cells : List Int) (A0 : Option Addr) (c0 : Nat) (l0 : List Int) (A1 : Option Addr) (c1 : Nat) (l1 : List Int) (w : World) (hI : Ints w .i32 A cells) (hmax : cells.length ≤ 4611686018427387904)
    (hk : ∀ q, q < cells.length → -2147483648 ≤ cells.getD q 0 ∧ cells.getD q 0 ≤ 2147483647) (h0 : Ints w .i64 A0 l0) (h1 : Ints w .u32 A1 l1) (hm0 : l0.length ≤ 17592186043904) (hm1 : l1.length ≤ 4611686018427387904)
    (hk1 : ∀ q, q < l1.length → 0 ≤ l1.getD q 0 ∧ l1.getD q 0 ≤ 4294967295) (ht : Tab w) (he : ¬ (luA (zOf n cells) l0 l0).2 = 0) :
    Calls Tryd.prog 7 #[.int .i64 n, .slice A cells.length c, .agg #[.slice A0 l0.length c0, .slice A1 l1.length c1]] w fun e w' => e = .returned (.bool true) ∧ Below w.heap.size w w' := by
  have HK := Lib.hid hk
  have HK1 := Lib.hid hk1
  obtain ⟨wb, hwb⟩ : ∃ wb, wb = w.alloc (.cells #[.slice A0 l0.length c0, .slice A1 l1.length c1] 57) := ⟨_, rfl⟩
  have hbw : Below w.heap.size w wb := by rw [hwb]; exact (Below.refl _ _).alloc (Nat.le_refl _) _
  have hpc := (show (w.alloc (.cells #[.slice A0 l0.length c0, .slice A1 l1.length c1] 57)).cell? ⟨w.heap.size, 0, none⟩ = some (.slice A0 l0.length c0) ∧ (w.alloc (.cells #[.slice A0 l0.length c0, .slice A1 l1.length c1] 57)).cell? ⟨w.heap.size, 1, none⟩ = some (.slice A1 l1.length c1) by
    have h := heap_alloc_new w (.cells #[.slice A0 l0.length c0, .slice A1 l1.length c1] 57)
    constructor <;> (unfold World.cell?; rw [h]; rfl))
  rw [← hwb] at hpc
  obtain ⟨bx, hbx⟩ : ∃ bx, bx = w.heap.size := ⟨_, rfl⟩
  rw [← hbx] at hpc
  have HG0 := Lib.hid ((((((Bag.start hbw).add (hI.below hbw) (stable_ints _ _ _)).add (ht.below hbw) stable_tab5).add (h0.below hbw) (stable_ints _ _ _)).add (h1.below hbw) (stable_ints _ _ _)).add hpc.1 (stable_cellv _ _) |>.add hpc.2 (stable_cellv _ _))
  have HWB := Lib.hid hwb
  have HBX := Lib.hid hbx
  have HKD := Lib.hid (kind5 n cells)
  have HNK := Lib.hid (fun k m (e : zOf n cells = some (k, m)) => zone_kinds e)
  have HBO := Lib.hid (fun W hI => both05_any n A c cells W hI hmax HK.out)
  unfold Both5Ends at HBO
  obtain ⟨z, hz⟩ : ∃ z, z = zOf n cells := ⟨_, rfl⟩
  rw [← hz] at HBO HKD HNK he
  have HMX := Lib.hid (fun v B d W (h : ZoneV 88 W v z) (hi : Ints W .i64 B l0) => max_any v z B d l0 W h HKD.out hi (by omega))
  have HEM := Lib.hid (fun v W (h : ZoneV 88 W v z) => xempty_any v z W h)
  clear hI hk h0 h1 hk1 ht hbw hpc hz hwb hbx
  have hne : ((luA z l0 l0).2 != 0) = true := by simpa using he
  obtain ⟨er, her⟩ : ∃ er, er = (luA z l0 l0).2 := ⟨_, rfl⟩
  rw [← her] at hne he
  have HER := Lib.hid her
  clear her
  go_enter Tryd.func7, Tryd.ntmps7
  go_wp2_with fail
  rw [← HWB.out, ← HBX.out]
  refine (HBO.out _ (HG0.out.at 5 rfl)).mono ?_
  rintro e w1 ⟨hb, v, v', rfl, hv, hv'⟩
  have HG1 := Lib.hid ((HG0.out.step hb).add hv (stable_zone _ _ _))
  have cx := HG1.out.at 2 rfl
  clear hb hv hv' HG0
  go_wp2_with fail
  refine (HMX.out _ _ _ _ (HG1.out.at 0 rfl) (HG1.out.at 4 rfl)).mono ?_
  rintro e w2 ⟨hb, va, rfl, hva⟩
  rw [← HER.out]
  have HG2 := Lib.hid (HG1.out.step hb)
  clear hb hva cx HG1
  go_wp2_with fail
  refine (live05_any _ (HG2.out.at 5 rfl)).mono ?_
  rintro e w8 ⟨rfl, hb⟩
  have HB5 := Lib.hid (HG2.out.step hb)
  clear hb
  go_wp2
  go_ret
  exact ⟨rfl, HB5.out.below⟩

set_option maxRecDepth 100000 in
set_option maxHeartbeats 16000000 in
theorem points5_emp (n : Int) (A : Option Addr) (c : Nat) (cells : List Int) (A0 : Option Addr) (c0 : Nat) (l0 : List Int) (A1 : Option Addr) (c1 : Nat) (l1 : List Int) (w : World) (hI : Ints w .i32 A cells) (hmax : cells.length ≤ 4611686018427387904)
    (hk : ∀ q, q < cells.length → -2147483648 ≤ cells.getD q 0 ∧ cells.getD q 0 ≤ 2147483647) (h0 : Ints w .i64 A0 l0) (h1 : Ints w .u32 A1 l1) (hm0 : l0.length ≤ 17592186043904) (hm1 : l1.length ≤ 4611686018427387904)
    (hk1 : ∀ q, q < l1.length → 0 ≤ l1.getD q 0 ∧ l1.getD q 0 ≤ 4294967295) (ht : Tab w) (he : (luA (zOf n cells) l0 l0).2 = 0) (hem : emptyP (zOf n cells) = true) :
    Calls Tryd.prog 7 #[.int .i64 n, .slice A cells.length c, .agg #[.slice A0 l0.length c0, .slice A1 l1.length c1]] w fun e w' => e = .returned (.bool true) ∧ Below w.heap.size w w' := by
  have HK := Lib.hid hk
  have HK1 := Lib.hid hk1
  obtain ⟨wb, hwb⟩ : ∃ wb, wb = w.alloc (.cells #[.slice A0 l0.length c0, .slice A1 l1.length c1] 57) := ⟨_, rfl⟩
  have hbw : Below w.heap.size w wb := by rw [hwb]; exact (Below.refl _ _).alloc (Nat.le_refl _) _
  have hpc := (show (w.alloc (.cells #[.slice A0 l0.length c0, .slice A1 l1.length c1] 57)).cell? ⟨w.heap.size, 0, none⟩ = some (.slice A0 l0.length c0) ∧ (w.alloc (.cells #[.slice A0 l0.length c0, .slice A1 l1.length c1] 57)).cell? ⟨w.heap.size, 1, none⟩ = some (.slice A1 l1.length c1) by
    have h := heap_alloc_new w (.cells #[.slice A0 l0.length c0, .slice A1 l1.length c1] 57)
    constructor <;> (unfold World.cell?; rw [h]; rfl))
  rw [← hwb] at hpc
  obtain ⟨bx, hbx⟩ : ∃ bx, bx = w.heap.size := ⟨_, rfl⟩
  rw [← hbx] at hpc
  have HG0 := Lib.hid ((((((Bag.start hbw).add (hI.below hbw) (stable_ints _ _ _)).add (ht.below hbw) stable_tab5).add (h0.below hbw) (stable_ints _ _ _)).add (h1.below hbw) (stable_ints _ _ _)).add hpc.1 (stable_cellv _ _) |>.add hpc.2 (stable_cellv _ _))
  have HWB := Lib.hid hwb
  have HBX := Lib.hid hbx
  have HKD := Lib.hid (kind5 n cells)
  have HNK := Lib.hid (fun k m (e : zOf n cells = some (k, m)) => zone_kinds e)
  have HBO := Lib.hid (fun W hI => both05_any n A c cells W hI hmax HK.out)
  unfold Both5Ends at HBO
  obtain ⟨z, hz⟩ : ∃ z, z = zOf n cells := ⟨_, rfl⟩
  rw [← hz] at HBO HKD HNK he hem
  have HMX := Lib.hid (fun v B d W (h : ZoneV 88 W v z) (hi : Ints W .i64 B l0) => max_any v z B d l0 W h HKD.out hi (by omega))
  have HEM := Lib.hid (fun v W (h : ZoneV 88 W v z) => xempty_any v z W h)
  clear hI hk h0 h1 hk1 ht hbw hpc hz hwb hbx
  have HE0 := Lib.hid he
  have HE1 := Lib.hid hem
  clear he hem
  go_enter Tryd.func7, Tryd.ntmps7
  go_wp2_with fail
  rw [← HWB.out, ← HBX.out]
  refine (HBO.out _ (HG0.out.at 5 rfl)).mono ?_
  rintro e w1 ⟨hb, v, v', rfl, hv, hv'⟩
  have HG1 := Lib.hid ((HG0.out.step hb).add hv (stable_zone _ _ _))
  have cx := HG1.out.at 2 rfl
  clear hb hv hv' HG0
  go_wp2_with fail
  refine (HMX.out _ _ _ _ (HG1.out.at 0 rfl) (HG1.out.at 4 rfl)).mono ?_
  rintro e w2 ⟨hb, va, rfl, hva⟩
  rw [HE0.out]
  have HG2 := Lib.hid (HG1.out.step hb)
  clear hb hva cx HG1
  go_wp2_with fail
  refine (HEM.out _ _ (HG2.out.at 0 rfl)).mono ?_
  rw [HE1.out]
  rintro e w3 ⟨rfl, rfl⟩
  go_wp2_with fail
  refine (live05_any _ (HG2.out.at 5 rfl)).mono ?_
  rintro e w8 ⟨rfl, hb⟩
  have HB5 := Lib.hid (HG2.out.step hb)
  clear hb
  go_wp2
  go_ret
  exact ⟨rfl, HB5.out.below⟩

end Go.Proofs.YtncgapnooabdgaaDoor

/- What ExtraPoints tells. -/
namespace Go.Proofs.YtncgapnooabdgaaDoor
open Go Go.RowKit
set_option linter.unusedVariables false
set_option linter.unusedSimpArgs false

set_option maxRecDepth 100000 in
set_option maxHeartbeats 16000000 in
theorem points5_main (n : Int) (A : Option Addr) (c : Nat) (cells : List Int) (A0 : Option Addr) (c0 : Nat) (l0 : List Int) (A1 : Option Addr) (c1 : Nat) (l1 : List Int) (w : World) (hI : Ints w .i32 A cells) (hmax : cells.length ≤ 4611686018427387904)
    (hk : ∀ q, q < cells.length → -2147483648 ≤ cells.getD q 0 ∧ cells.getD q 0 ≤ 2147483647) (h0 : Ints w .i64 A0 l0) (h1 : Ints w .u32 A1 l1) (hm0 : l0.length ≤ 17592186043904) (hm1 : l1.length ≤ 4611686018427387904)
    (hk1 : ∀ q, q < l1.length → 0 ≤ l1.getD q 0 ∧ l1.getD q 0 ≤ 4294967295) (ht : Tab w) (he : (luA (zOf n cells) l0 l0).2 = 0) (hem : ¬ emptyP (zOf n cells) = true) :
    Calls Tryd.prog 7 #[.int .i64 n, .slice A cells.length c, .agg #[.slice A0 l0.length c0, .slice A1 l1.length c1]] w fun e w' => e = .returned (.bool true) ∧ Below w.heap.size w w' := by
  have HK := Lib.hid hk
  have HK1 := Lib.hid hk1
  obtain ⟨wb, hwb⟩ : ∃ wb, wb = w.alloc (.cells #[.slice A0 l0.length c0, .slice A1 l1.length c1] 57) := ⟨_, rfl⟩
  have hbw : Below w.heap.size w wb := by rw [hwb]; exact (Below.refl _ _).alloc (Nat.le_refl _) _
  have hpc := (show (w.alloc (.cells #[.slice A0 l0.length c0, .slice A1 l1.length c1] 57)).cell? ⟨w.heap.size, 0, none⟩ = some (.slice A0 l0.length c0) ∧ (w.alloc (.cells #[.slice A0 l0.length c0, .slice A1 l1.length c1] 57)).cell? ⟨w.heap.size, 1, none⟩ = some (.slice A1 l1.length c1) by
    have h := heap_alloc_new w (.cells #[.slice A0 l0.length c0, .slice A1 l1.length c1] 57)
    constructor <;> (unfold World.cell?; rw [h]; rfl))
  rw [← hwb] at hpc
  obtain ⟨bx, hbx⟩ : ∃ bx, bx = w.heap.size := ⟨_, rfl⟩
  rw [← hbx] at hpc
  have HG0 := Lib.hid ((((((Bag.start hbw).add (hI.below hbw) (stable_ints _ _ _)).add (ht.below hbw) stable_tab5).add (h0.below hbw) (stable_ints _ _ _)).add (h1.below hbw) (stable_ints _ _ _)).add hpc.1 (stable_cellv _ _) |>.add hpc.2 (stable_cellv _ _))
  have HWB := Lib.hid hwb
  have HBX := Lib.hid hbx
  have HKD := Lib.hid (kind5 n cells)
  have HNK := Lib.hid (fun k m (e : zOf n cells = some (k, m)) => zone_kinds e)
  have HBO := Lib.hid (fun W hI => both05_any n A c cells W hI hmax HK.out)
  unfold Both5Ends at HBO
  obtain ⟨z, hz⟩ : ∃ z, z = zOf n cells := ⟨_, rfl⟩
  rw [← hz] at HBO HKD HNK he hem
  have HMX := Lib.hid (fun v B d W (h : ZoneV 88 W v z) (hi : Ints W .i64 B l0) => max_any v z B d l0 W h HKD.out hi (by omega))
  have HEM := Lib.hid (fun v W (h : ZoneV 88 W v z) => xempty_any v z W h)
  clear hI hk h0 h1 hk1 ht hbw hpc hz hwb hbx
  obtain ⟨k, m, hzk, hc, hr⟩ := max_right he hem HKD.out
  obtain ⟨⟨hn0, hn8, hkn⟩, _⟩ := HNK.out k m hzk
  have hk8 : k ≤ 8 := by omega
  obtain rfl : n = (k : Int) := by omega
  obtain ⟨hll, hcst⟩ := rightE_zero hr
  obtain ⟨a, ha, hac, hin⟩ := points_law5 (v := fun i => (vecUp k l1 k).getD i 0) hk8 hc hr
  have HIN := Lib.hid hin
  have HLA := Lib.hid (show luA z l0 l0 = (some a, 0) by rw [hzk]; exact ha)
  have HEMF := Lib.hid (show emptyP z = false by simpa using hem)
  have hdz : dimN z = k := by rw [hzk]; rfl
  rw [HLA.out, hdz] at HMX
  rw [HEMF.out] at HEM
  have hbz := base_closed (lo := l0) (up := l0) hk8 (by omega) hc
  obtain ⟨bm, hbm⟩ : ∃ bm, bm = baseM k m l0 l0 := ⟨_, rfl⟩
  have HGN := Lib.hid (fun v B c W (h : RefZ W v z) (hi : Ints W .i64 B (freeC l0 l0 l0.length)) => gone5_any v z B c (freeC l0 l0 l0.length) W h HKD.out hi (by have := freeC_short (lo := l0) (up := l0) l0.length; omega))
  rw [show goneA z (freeC l0 l0 l0.length) = (some bm, 0) by rw [hzk, hbm]; exact gone_full hk8 (freeC_clk _ (by omega)) hc, hdz] at HGN
  rw [← hbm] at hin hbz HIN
  have HRA := Lib.hid hac.full.right
  have HRB := Lib.hid hbz.full.right
  have HVB := Lib.hid (vecK_bd k l1 [] 0 HK1.out (fun q hq => by simp at hq))
  unfold vecK at HVB
  rw [if_neg (by omega)] at HVB
  have HCST := Lib.hid hcst
  have HLL := Lib.hid hll
  obtain ⟨N, hN⟩ : ∃ N, N = (k + 1) * (k + 1) := ⟨_, rfl⟩
  have hNi : ((k : Int) + 1) * ((k : Int) + 1) = (N : Int) := by rw [hN]; simp
  have hN81 : N ≤ 81 := by
    have := Nat.mul_le_mul (show k + 1 ≤ 9 by omega) (show k + 1 ≤ 9 by omega)
    omega
  have hN0 : 0 < N := by rw [hN]; exact Nat.mul_pos (by omega) (by omega)
  have HN := Lib.hid hN
  have HLENA := Lib.hid (show (flat k a).length = N by rw [flat_length, hN])
  have HLENB := Lib.hid (show (flat k bm).length = N by rw [flat_length, hN])
  obtain ⟨i0, hi1, hz0, hz1, hz2⟩ := info_parts infoI64
  have hmk := run_make_row' (P := Tryd.prog) 58 2 (.int .i64 0) 8 Tryd.underlying58 infoI64 rfl .i64 .i64 (k + 1) (by omega) (by omega)
  rw [show ((k + 1 : Nat) : Int) = (k : Int) + 1 by omega] at hmk
  obtain ⟨in0, hi1', hz0', hz1', hz2'⟩ := info_parts infoN
  have HInf := Lib.hid (And.intro hi1' (And.intro hz0' (And.intro hz1' hz2')))
  have d8 : decide (8 < (k : Int)) = false := decide_eq_false (by omega)
  have d0 : decide ((k : Int) < 0) = false := decide_eq_false (by omega)
  have HZK := Lib.hid hzk
  clear he hem hzk hc hr hn0 hn8 hkn ha hac hin hcst hll hdz hbz hbm hN hi1 hz0 hz1 hz2 hi1' hz0' hz1' hz2' HNK HKD
  go_enter Tryd.func7, Tryd.ntmps7
  go_wp2_with fail
  rw [← HWB.out, ← HBX.out]
  refine (HBO.out _ (HG0.out.at 5 rfl)).mono ?_
  rintro e w1 ⟨hb, v, v', rfl, hv, hv'⟩
  have HG1 := Lib.hid (((HG0.out.step hb).add hv (stable_zone _ _ _)).add hv' (stable_ref5 _ _))
  rw [HZK.out] at hv'
  obtain ⟨br, _, _, rfl, _, _⟩ := hv'
  have cx := HG1.out.at 3 rfl
  clear hb hv HG0
  go_wp2_with fail
  refine (HMX.out _ _ _ _ (HG1.out.at 1 rfl) (HG1.out.at 5 rfl)).mono ?_
  rintro e w2 ⟨hb, va, rfl, hva⟩
  have HG2 := Lib.hid ((HG1.out.step hb).add (show ZoneV 88 w2 va (some (k, a)) from hva) (stable_zone _ _ _))
  clear hb hva cx HG1
  go_wp2_with fail
  refine (HEM.out _ _ (HG2.out.at 2 rfl)).mono ?_
  rintro e w3 ⟨rfl, rfl⟩
  go_wp2_with fail
  refine (cells_any _ _ _ (HG2.out.at 0 rfl)).mono ?_
  rintro e w4 ⟨lv, rfl, hb, ho⟩
  have ho : OwnI w4 w2.heap.size 44 .i32 lv (flat k a) := ho
  obtain ⟨g1, cp1, hv, _, hrow⟩ := ho.row (by rw [HLENA.out]; exact hN0)
  rw [HLENA.out] at hv
  subst hv
  have HG4 := Lib.hid ((HG2.out.step hb).add hrow (stable_rowat5 _ _ _ _))
  clear hb ho hrow HG2
  have hNi2 : ((N : Int) != ((k : Int) + 1) * ((k : Int) + 1)) = false := by rw [hNi]; simp
  have hNi3 : ((k : Int) + 1) * ((k : Int) + 1) ≤ 81 := by omega
  have hNi4 : 0 ≤ ((k : Int) + 1) * ((k : Int) + 1) := by omega
  have HNI := Lib.hid hNi
  have hl0i : ((l0.length : Int) != (k : Int)) = false := by rw [HLL.out]; simp
  have cx := HG4.out.at 5 rfl
  clear hNi
  go_wp2
  have HS := Lib.hid (show LcR w4 l0 l0 0 (.slice none 0 0) w4 from ⟨Below.refl _ _, World.ownsRow_nil _ _ _ _⟩)
  clear cx
  go_loopg [12, 13] k (fun q cv v wr => ∃ p : Nat, v = .int .i64 p ∧ Hid (LcR w4 l0 l0 p cv wr) ∧ Hid (p ≤ k ∧ q + p = k))
  case atStart => exact ⟨0, by simp, HS.out, by omega, by omega⟩
  case round =>
    clear HS
    obtain ⟨p, rfl, HR, HP⟩ := hrel
    have HG5 := Lib.hid (HG4.out.step HR.out.1)
    have cx := HG5.out.at 5 rfl
    by_cases hp : p < k
    · obtain ⟨b1, o1, rfl, cc1⟩ := (HG5.out.at 7 rfl : Ints _ .i64 A0 l0) p (by rw [HLL.out]; exact hp)
      have hpi : (p : Int) < (k : Int) := by omega
      have hpj : (p : Int) < (l0.length : Int) := by rw [HLL.out]; exact hpi
      have HNY := Lib.hid (fun h v' w1 o hown hgrow => HR.out.next (v' := v') (w1 := w1) (o := o) h hown hgrow)
      have HNN := Lib.hid (fun h => HR.out.same h)
      have hfs := freeC_short (lo := l0) (up := l0) p
      obtain ⟨x, hx⟩ : ∃ x, x = l0.getD p 0 := ⟨_, rfl⟩
      rw [← hx] at cc1 HNY HNN
      clear hx
      by_cases hx : x < 0
      · have d1 : decide (x < 0) = true := decide_eq_true hx
        have HXY := Lib.hid (And.intro hx hx)
        clear hx
        go_wp2_with (at_builtin; refine wpList_append_own _ rfl _ _ 23 rfl w4.heap.size 3 in0 (.int .i64 0) 1 8 Tryd.underlying23 HInf.out.1 HInf.out.2.1 HInf.out.2.2.1 HInf.out.2.2.2 rfl (by decide) _ _ _ rfl (HR.out.2.alloc _) ⟨wr.heap.size, 0, none⟩ 1 1 [.int .i64 ((p : Int) + 1)] rfl rfl (cell_one_new _ _ _) (by intro u hu; simp at hu; subst hu; rfl) ?c3 ?c4 ?c5 ?_)
        case c3 => unfold maxLen; omega
        case c4 => omega
        case c5 => have := HR.out.1.size; simp; omega
        intro v' w1 hown hgrow _
        have HN2 := Lib.hid (HNY.out HXY.out _ _ _ hown hgrow)
        clear hown hgrow
        go_wp2
        go_roundg (gk - 1)
        case measure => have h := HP.out; omega
        case rel => exact ⟨p + 1, by go_num, HN2.out, by omega, by have h := HP.out; omega⟩
      · have d1 : decide (x < 0) = false := decide_eq_false hx
        have HN2 := Lib.hid (HNN.out (by omega))
        clear hx
        go_wp2
        go_roundg (gk - 1)
        case measure => have h := HP.out; omega
        case rel => exact ⟨p + 1, by go_num, HN2.out, by omega, by have h := HP.out; omega⟩
    · have e : p = k := by have := HP.out.1; omega
      subst e
      obtain ⟨A2, cap2, hv, hi2⟩ := HR.out.own.slice
      subst hv
      have hi2 : Ints wr .i64 A2 (freeC l0 l0 l0.length) := by rw [HLL.out]; exact hi2
      have HFL := Lib.hid (show (freeC l0 l0 p).length = (freeC l0 l0 l0.length).length by rw [HLL.out])
      have HI2 := Lib.hid hi2
      clear hi2 HP HR cx
      go_wp2_with fail
      rw [HFL.out]
      refine (HGN.out _ _ _ _ (HG5.out.at 2 rfl) HI2.out).mono ?_
      rintro e w6 ⟨hb, v3, rfl, hv3⟩
      have HG6 := Lib.hid ((HG5.out.step hb).add (show RefZ w6 v3 (some (p, bm)) from hv3) (stable_ref5 _ _))
      clear hb hv3 HG5 HI2
      go_wp2_with fail
      refine (rcells_any _ _ _ (HG6.out.at 0 rfl)).mono ?_
      rintro e w7 ⟨lv2, rfl, hb, ho⟩
      have ho : OwnI w7 w6.heap.size 44 .i32 lv2 (flat p bm) := ho
      obtain ⟨g2, cp2, hv, _, hrow⟩ := ho.row (by rw [HLENB.out]; exact hN0)
      rw [HLENB.out] at hv
      subst hv
      have HG7 := Lib.hid ((HG6.out.step hb).add hrow (stable_rowat5 _ _ _ _))
      clear hb ho hrow HG6
      go_upto_block 2 with fail
      have HS1 := Lib.hid (PvR.made w7 p l1)
      generalize w7.alloc (.cells (madeCells #[.int .i64 0] (p + 1)) 2) = w8 at *
      obtain ⟨gv, hgv⟩ : ∃ gv, gv = w7.heap.size := ⟨_, rfl⟩
      rw [← hgv] at HS1 ⊢
      clear hgv
      go_cut [17] (fun s17 wx => Hid (PvR w7 gv (vecUp p l1 p) wx))
      case first =>
        go_wp2_with fail
        go_loopg [17] (p + 1) (fun q v wr => ∃ t : Nat, v = .int .i64 ((t : Int) + 1) ∧ Hid (PvR w7 gv (vecUp p l1 t) wr) ∧ Hid (t ≤ p ∧ q + t = p + 1))
        case atStart => exact ⟨0, by simp, HS1.out, by omega, by omega⟩
        case round =>
          clear HS1
          obtain ⟨t, rfl, HR, HU⟩ := hrel
          have HG8 := Lib.hid (HG7.out.step HR.out.below)
          have cx := HG8.out.at 6 rfl
          by_cases hpx : t < p ∧ t < l1.length
          · obtain ⟨hp, hx⟩ := hpx
            have hpi : (t : Int) + 1 ≤ (p : Int) := by omega
            have hxi : (t : Int) + 1 ≤ (l1.length : Int) := by omega
            have hxj : (t : Int) < (l1.length : Int) := by omega
            obtain ⟨b1, o1, rfl, cc1⟩ := (HG8.out.at 8 rfl : Ints _ .u32 A1 l1) t hx
            have hxb := HK1.out t hx
            have HN2 := Lib.hid (show PvR w7 gv (vecUp p l1 (t + 1)) (wr.setCell ⟨gv, t + 1, none⟩ (.int .i64 (l1.getD t 0))) by rw [← vecUp_next p l1 t hp hx]; exact HR.out.setV (t + 1) _)
            obtain ⟨x, hxx⟩ : ∃ x, x = l1.getD t 0 := ⟨_, rfl⟩
            rw [← hxx] at cc1 hxb HN2
            obtain ⟨hx0, hx1⟩ := hxb
            have cv := HR.out.vec.cell (t + 1) (by rw [vecUp_length]; omega)
            have fv := HR.out.vec.frozen (t + 1)
            have hlv := HR.out.vec.lt
            have gp : IntKind.i64.wrap ((t : Int) + 1 - 1) = (t : Int) := by rw [show (t : Int) + 1 - 1 = t by omega]; exact IntWalk.i64_in _ (by omega)
            have gx : IntKind.i64.wrap x = x := IntWalk.i64_in _ (by omega)
            have np : ((t : Int) + 1).toNat = t + 1 := by omega
            have lp : (t : Int) + 1 < (p : Int) + 1 := by omega
            clear hxx
            go_wp2
            go_roundg (gk - 1)
            case measure => have h := HU.out; omega
            case rel => exact ⟨t + 1, by go_num, HN2.out, by omega, by have h := HU.out; omega⟩
          · have HV := Lib.hid (show PvR w7 gv (vecUp p l1 p) wr by rw [← vecUp_stop p l1 t hpx]; exact HR.out)
            have hex : (t < p ∧ l1.length ≤ t) ∨ p ≤ t := by omega
            clear hpx HU
            rcases hex with ⟨hp, hx⟩ | hp
            · have hpi : (t : Int) + 1 ≤ (p : Int) := by omega
              have hxi : ¬ ((t : Int) + 1 ≤ (l1.length : Int)) := by omega
              go_wp2
              go_meet
              exact HV
            · have hpi : ¬ ((t : Int) + 1 ≤ (p : Int)) := by omega
              go_wp2
              go_meet
              exact HV
      case rest =>
        clear HS1
        have HV := Lib.hid hcut.out
        clear hcut
        have HG9 := Lib.hid ((HG7.out.step HV.out.below).add HV.out.vec (stable_rowat5 _ _ _ _))
        have HVL := Lib.hid (vecUp_length p l1 p)
        obtain ⟨vl, hvl⟩ : ∃ vl, vl = vecUp p l1 p := ⟨_, rfl⟩
        obtain ⟨L, hL⟩ : ∃ L, L = flat p a := ⟨_, rfl⟩
        obtain ⟨R, hR⟩ : ∃ R, R = flat p bm := ⟨_, rfl⟩
        have HRL := Lib.hid (show ∀ q, q < N → rightB (L.getD q 0) = true from fun q hq => by
          rw [hL, flat_getD _ _ _ (by rw [← HN.out]; exact hq)]
          have h1 : q / (p + 1) < p + 1 := Nat.div_lt_of_lt_mul (by rw [← HN.out]; exact hq)
          have h2 := Nat.mod_lt q (show 0 < p + 1 by omega)
          exact HRA.out _ _ (by omega) (by omega))
        have HRR := Lib.hid (show ∀ q, q < N → rightB (R.getD q 0) = true from fun q hq => by
          rw [hR, flat_getD _ _ _ (by rw [← HN.out]; exact hq)]
          have h1 : q / (p + 1) < p + 1 := Nat.div_lt_of_lt_mul (by rw [← HN.out]; exact hq)
          have h2 := Nat.mod_lt q (show 0 < p + 1 by omega)
          exact HRB.out _ _ (by omega) (by omega))
        rw [← hvl] at HG9 HVL HVB HIN
        rw [← hL] at HG9 HLENA HIN
        rw [← hR] at HG9 HLENB HIN
        clear hvl hL hR HV HRA HRB
        obtain ⟨w9, hw9⟩ : ∃ w9, w9 = wc := ⟨_, rfl⟩
        have HST := Lib.hid (show Below wc.heap.size wc wc from Below.refl _ _)
        rw [← hw9] at HST HG9 ⊢
        clear hw9
        go_wp2
        go_loopg [14, 18] (p + 1) (fun q wv v wr => ∃ i : Nat, v = .int .i64 i ∧ wv = .bool (wantUp p l0 R vl (i * (p + 1) + 0)) ∧ Hid (Below w9.heap.size w9 wr) ∧ Hid (i ≤ p + 1 ∧ q + i = p + 1))
        case atStart => exact ⟨0, by simp, by rw [Nat.zero_mul, Nat.add_zero, wantUp_zero], HST.out, by omega, by omega⟩
        case round =>
          clear HST
          obtain ⟨i, rfl, rfl, HBi, HGi⟩ := hrel
          by_cases hi : i ≤ p
          · as_aux_lemma =>
            have hii : (i : Int) ≤ (p : Int) := by omega
            obtain ⟨P, hP, hP1, hP2, hP3⟩ := prod_facts i p hi hk8
            have hPN : P + p < N := by have := HN.out; omega
            have HP2 := Lib.hid hP2
            clear hP2 hP3
            obtain ⟨W0, hW0⟩ : ∃ W0, W0 = wantUp p l0 R vl (i * (p + 1) + 0) := ⟨_, rfl⟩
            have HW0 := Lib.hid hW0
            rw [← hW0]
            clear hW0
            go_wp2
            go_loopg [14, 19] (p + 1) (fun q wv v wr => ∃ j : Nat, v = .int .i64 j ∧ wv = .bool (wantUp p l0 R vl (i * (p + 1) + j)) ∧ Hid (Below w9.heap.size w9 wr) ∧ Hid (j ≤ p + 1 ∧ q + j = p + 1))
            case atStart => exact ⟨0, by simp, by rw [HW0.out], HBi.out, by omega, by omega⟩
            case round =>
              clear HBi HW0
              obtain ⟨j, rfl, rfl, HBj, HGj⟩ := hrel
              by_cases hj : j ≤ p
              · have hjj : (j : Int) ≤ (p : Int) := by omega
                have HG11 := Lib.hid (HG9.out.step HBj.out)
                have cl := (HG11.out.at 1 rfl : RowAt _ g2 44 .i32 R).cell (P + j) (by rw [HLENB.out]; omega)
                have cx := HG11.out.at 8 rfl
                have hrb := HRR.out (P + j) (by omega)
                obtain ⟨bd, hbd⟩ : ∃ bd, bd = R.getD (P + j) 0 := ⟨_, rfl⟩
                have HSK := Lib.hid (wantUp_skip p l0 R vl i j hj)
                have HNX := Lib.hid (wantUp_next p l0 R vl i j hj)
                rw [← HP2.out, ← hbd] at HSK HNX
                rw [← hbd] at cl hrb
                have g2' : IntKind.i64.wrap (P : Int) = (P : Int) := IntWalk.i64_in _ (by omega)
                have g4 : IntKind.i64.wrap ((P : Int) + (j : Int)) = (P : Int) + (j : Int) := IntWalk.i64_in _ (by omega)
                have q1 : (P : Int) + (j : Int) < (N : Int) := by omega
                have q3 : 0 ≤ (P : Int) + (j : Int) := by omega
                have n1 : ((P : Int) + (j : Int)).toNat = P + j := by omega
                clear hbd
                go_upto_region 28 with fail
                go_cut [183] (fun s183 wx => s183 = .bool (skipB l0 i j bd) ∧ Hid (Below w9.heap.size w9 wx))
                case first =>
                  by_cases hi0 : i = 0
                  · have HS0 := Lib.hid (show skipB l0 i j bd = false from decide_eq_false (by omega))
                    have hi1 : ¬ (0 < (i : Int)) := by omega
                    have hi2 : decide (0 < (i : Int)) = false := decide_eq_false hi1
                    clear hi0
                    go_wp2_with fail
                    go_meet
                    exact ⟨by rw [HS0.out], HBj⟩
                  · by_cases hij : i = j
                    · have HS0 := Lib.hid (show skipB l0 i j bd = false from decide_eq_false (by omega))
                      have hi1 : 0 < (i : Int) := by omega
                      have hi2 : decide (0 < (i : Int)) = true := decide_eq_true hi1
                      have hi3 : ((i : Int) != (j : Int)) = false := by simp [hij]
                      clear hij hi0
                      go_wp2_with fail
                      go_meet
                      exact ⟨by rw [HS0.out], HBj⟩
                    · obtain ⟨b1, o1, rfl, cc1⟩ := (HG11.out.at 10 rfl : Ints _ .i64 A0 l0) (i - 1) (by rw [HLL.out]; omega)
                      have hxr := of_decide_eq_true ((all_getD l0 _ 0).1 HCST.out (i - 1) (by rw [HLL.out]; omega))
                      have HS0 := Lib.hid (show skipB l0 i j bd = decide (0 ≤ l0.getD (i - 1) 0 ∧ 2 * l0.getD (i - 1) 0 + 1 < bd ∨ l0.getD (i - 1) 0 < 0 ∧ 1 < bd) by
                        unfold skipB
                        rw [decide_eq_decide]
                        exact ⟨fun h => h.2.2, fun h => ⟨by omega, hij, h⟩⟩)
                      obtain ⟨x, hx⟩ : ∃ x, x = l0.getD (i - 1) 0 := ⟨_, rfl⟩
                      rw [← hx] at cc1 hxr HS0
                      obtain ⟨hx0, hx1⟩ := hxr
                      have hi1 : 0 < (i : Int) := by omega
                      have hi2 : decide (0 < (i : Int)) = true := decide_eq_true hi1
                      have hi3 : ((i : Int) != (j : Int)) = true := by simp; omega
                      have gi : IntKind.i64.wrap ((i : Int) - 1) = (i : Int) - 1 := IntWalk.i64_in _ (by omega)
                      have gn : ((i : Int) - 1).toNat = i - 1 := by omega
                      have gl : (i : Int) - 1 < (l0.length : Int) := by rw [HLL.out]; omega
                      have gz : 0 ≤ (i : Int) - 1 := by omega
                      have gx : IntKind.i64.wrap (2 * x) = 2 * x := IntWalk.i64_in _ (by omega)
                      have gx1 : IntKind.i64.wrap (2 * x + 1) = 2 * x + 1 := IntWalk.i64_in _ (by omega)
                      have gx2 : IntKind.i32.wrap (2 * x + 1) = 2 * x + 1 := IntWalk.i32_in _ (by omega)
                      clear hx hij hi0
                      by_cases hx0 : 0 ≤ x
                      · have d1 : decide (0 ≤ x) = true := decide_eq_true hx0
                        have d2 : decide (x < 0) = false := decide_eq_false (by omega)
                        have HS1 := Lib.hid (show skipB l0 i j bd = decide (2 * x + 1 < bd) by rw [HS0.out, decide_eq_decide]; omega)
                        clear hx0 HS0
                        by_cases hb : 2 * x + 1 < bd
                        · have d3 : decide (2 * x + 1 < bd) = true := decide_eq_true hb
                          clear hb
                          go_wp2_with fail
                          go_meet
                          exact ⟨by rw [HS1.out, d3], HBj⟩
                        · have d3 : decide (2 * x + 1 < bd) = false := decide_eq_false hb
                          clear hb
                          go_wp2_with fail
                          go_meet
                          exact ⟨by rw [HS1.out, d3], HBj⟩
                      · have d1 : decide (0 ≤ x) = false := decide_eq_false hx0
                        have d2 : decide (x < 0) = true := decide_eq_true (by omega)
                        have HS1 := Lib.hid (show skipB l0 i j bd = decide (1 < bd) by rw [HS0.out, decide_eq_decide]; omega)
                        clear hx0 HS0
                        by_cases hb : 1 < bd
                        · have d3 : decide (1 < bd) = true := decide_eq_true hb
                          clear hb
                          go_wp2_with fail
                          go_meet
                          exact ⟨by rw [HS1.out, d3], HBj⟩
                        · have d3 : decide (1 < bd) = false := decide_eq_false hb
                          clear hb
                          go_wp2_with fail
                          go_meet
                          exact ⟨by rw [HS1.out, d3], HBj⟩
                case rest =>
                  obtain ⟨rfl, hv⟩ := hcut
                  have HBc := Lib.hid hv.out
                  clear hv cx cl HBj HG11
                  have HG12 := Lib.hid (HG9.out.step HBc.out)
                  have cx := HG12.out.at 8 rfl
                  cases hsk : skipB l0 i j bd with
                  | true =>
                    have HN2 := Lib.hid (show wantUp p l0 R vl (i * (p + 1) + (j + 1)) = wantUp p l0 R vl (i * (p + 1) + j) by rw [← HP2.out]; exact HSK.out hsk)
                    clear hsk HSK HNX
                    go_wp2_with fail
                    go_roundg (gk - 1)
                    case measure => have h := HGj.out; omega
                    case rel => exact ⟨j + 1, by go_num, by rw [HN2.out], HBc.out, by omega, by have h := HGj.out; omega⟩
                  | false =>
                    have HN2 := Lib.hid (show wantUp p l0 R vl (i * (p + 1) + (j + 1)) = (wantUp p l0 R vl (i * (p + 1) + j) && holdsB (cutB l0 i j bd) (vl.getD i 0 - vl.getD j 0) 2) by rw [← HP2.out]; exact HNX.out hsk)
                    clear hsk HSK HNX
                    go_upto_region 30 with fail
                    obtain ⟨B1, hB1⟩ : ∃ B1, B1 = decide (0 < j ∧ 0 < l0.getD (j - 1) 0) := ⟨_, rfl⟩
                    have HB1 := Lib.hid hB1
                    clear hB1
                    have am0 : ∀ h : j = 0, atP l0 j = 0 := fun h => by unfold atP; rw [if_pos h]
                    have am1 : ∀ h : ¬ j = 0, atP l0 j = max (l0.getD (j - 1) 0) 0 := fun h => by unfold atP; rw [if_neg h]
                    have HAM := Lib.hid (And.intro am0 am1)
                    clear am0 am1
                    go_cut [194] (fun s194 wx => s194 = .bool B1 ∧ Hid (Below w9.heap.size w9 wx))
                    case first =>
                      by_cases hj0 : j = 0
                      · have HS0 := Lib.hid (show B1 = false by rw [HB1.out]; exact decide_eq_false (by omega))
                        have hi1 : ¬ (0 < (j : Int)) := by omega
                        have hi2 : decide (0 < (j : Int)) = false := decide_eq_false hi1
                        clear hj0
                        go_wp2_with fail
                        go_meet
                        exact ⟨by rw [HS0.out], HBc⟩
                      · obtain ⟨b1, o1, rfl, cc1⟩ := (HG12.out.at 10 rfl : Ints _ .i64 A0 l0) (j - 1) (by rw [HLL.out]; omega)
                        have HS0 := Lib.hid (show B1 = decide (0 < l0.getD (j - 1) 0) by rw [HB1.out, decide_eq_decide]; omega)
                        obtain ⟨x, hx⟩ : ∃ x, x = l0.getD (j - 1) 0 := ⟨_, rfl⟩
                        rw [← hx] at cc1 HS0
                        have hi1 : 0 < (j : Int) := by omega
                        have hi2 : decide (0 < (j : Int)) = true := decide_eq_true hi1
                        have gi : IntKind.i64.wrap ((j : Int) - 1) = (j : Int) - 1 := IntWalk.i64_in _ (by omega)
                        have gn : ((j : Int) - 1).toNat = j - 1 := by omega
                        have gl : (j : Int) - 1 < (l0.length : Int) := by rw [HLL.out]; omega
                        have gz : 0 ≤ (j : Int) - 1 := by omega
                        clear hx hj0 HAM
                        go_wp2_with fail
                        go_meet
                        exact ⟨by rw [HS0.out], HBc⟩
                    case rest =>
                      obtain ⟨rfl, hv⟩ := hcut
                      have HBc2 := Lib.hid hv.out
                      clear hv cx HBc HG12
                      have HG12 := Lib.hid (HG9.out.step HBc2.out)
                      have cx := HG12.out.at 8 rfl
                      go_upto_if 194 with fail
                      go_cut [21] (fun s21 wx => s21 = .int .i64 (atP l0 j) ∧ Hid (Below w9.heap.size w9 wx))
                      case first =>
                        cases hb : B1 with
                        | true =>
                          obtain ⟨hj0, hx0⟩ := of_decide_eq_true (HB1.out.symm.trans hb)
                          have HS0 := Lib.hid (show atP l0 j = l0.getD (j - 1) 0 by rw [HAM.out.2 (by omega)]; omega)
                          obtain ⟨b1, o1, rfl, cc1⟩ := (HG12.out.at 10 rfl : Ints _ .i64 A0 l0) (j - 1) (by rw [HLL.out]; omega)
                          obtain ⟨x, hx⟩ : ∃ x, x = l0.getD (j - 1) 0 := ⟨_, rfl⟩
                          rw [← hx] at cc1 HS0
                          have gi : IntKind.i64.wrap ((j : Int) - 1) = (j : Int) - 1 := IntWalk.i64_in _ (by omega)
                          have gn : ((j : Int) - 1).toNat = j - 1 := by omega
                          have gl : (j : Int) - 1 < (l0.length : Int) := by rw [HLL.out]; omega
                          have gz : 0 ≤ (j : Int) - 1 := by omega
                          subst hb
                          clear hx hj0 HAM hx0 HB1
                          go_wp2_with fail
                          go_meet
                          exact ⟨by rw [HS0.out], HBc2⟩
                        | false =>
                          have hx0 := of_decide_eq_false (HB1.out.symm.trans hb)
                          have HS0 := Lib.hid (show atP l0 j = 0 by
                            by_cases hj0 : j = 0
                            · exact HAM.out.1 hj0
                            · rw [HAM.out.2 hj0]; omega)
                          subst hb
                          clear HAM hx0 HB1
                          go_wp2_with fail
                          go_meet
                          exact ⟨by rw [HS0.out], HBc2⟩
                      case rest =>
                        obtain ⟨rfl, hv⟩ := hcut
                        have HBd := Lib.hid hv.out
                        clear hv cx HBc2 HG12 HAM HB1
                        have ham := atP_rng HCST.out j
                        have HCB := Lib.hid (show cutB l0 i j bd = if i ≠ j ∧ bd < -2 * atP l0 j then -2 * atP l0 j else bd from rfl)
                        obtain ⟨am, ham'⟩ : ∃ am, am = atP l0 j := ⟨_, rfl⟩
                        rw [← ham'] at ham HCB ⊢
                        clear ham'
                        obtain ⟨cb, hcb⟩ : ∃ cb, cb = cutB l0 i j bd := ⟨_, rfl⟩
                        rw [← hcb] at HCB HN2
                        clear hcb
                        have hb32 : -2147483648 ≤ bd ∧ bd ≤ 2147483647 := by
                          have h := hrb
                          unfold rightB at h
                          have := of_decide_eq_true h
                          omega
                        have hcr : rightB cb = true := by
                          rw [HCB.out]
                          split
                          · exact decide_eq_true (by omega)
                          · exact hrb
                        have gm : IntKind.i64.wrap (-2 * am) = -2 * am := IntWalk.i64_in _ (by omega)
                        have gm2 : IntKind.i32.wrap (-2 * am) = -2 * am := IntWalk.i32_in _ (by omega)
                        go_upto_region 32 with fail
                        obtain ⟨B2, hB2⟩ : ∃ B2, B2 = decide (i ≠ j ∧ bd < -2 * am) := ⟨_, rfl⟩
                        have HB2 := Lib.hid hB2
                        clear hB2
                        go_cut [210] (fun s210 wx => s210 = .bool B2 ∧ Hid (Below w9.heap.size w9 wx))
                        case first =>
                          by_cases hij : i = j
                          · have HS0 := Lib.hid (show B2 = false by rw [HB2.out]; exact decide_eq_false (fun h => h.1 hij))
                            have hi3 : ((i : Int) != (j : Int)) = false := by simp [hij]
                            clear hij HCB
                            go_wp2_with fail
                            go_meet
                            exact ⟨by rw [HS0.out], HBd⟩
                          · have hi3 : ((i : Int) != (j : Int)) = true := by simp; omega
                            have HS0 := Lib.hid (show B2 = decide (bd < -2 * am) by rw [HB2.out, decide_eq_decide]; exact ⟨fun h => h.2, fun h => ⟨hij, h⟩⟩)
                            clear hij HCB
                            go_wp2_with fail
                            go_meet
                            exact ⟨by rw [HS0.out], HBd⟩
                        case rest =>
                          obtain ⟨rfl, hv⟩ := hcut
                          have HBd2 := Lib.hid hv.out
                          clear hv HBd
                          go_upto_if 210 with fail
                          go_cut [20] (fun s20 wx => s20 = .int .i32 cb ∧ Hid (Below w9.heap.size w9 wx))
                          case first =>
                            cases hb : B2 with
                            | true =>
                              have HS0 := Lib.hid (show cb = -2 * am by rw [HCB.out, if_pos (of_decide_eq_true (HB2.out.symm.trans hb))])
                              subst hb
                              clear HCB HB2
                              go_wp2_with fail
                              go_meet
                              exact ⟨by rw [HS0.out], HBd2⟩
                            | false =>
                              have HS0 := Lib.hid (show cb = bd by rw [HCB.out, if_neg (of_decide_eq_false (HB2.out.symm.trans hb))])
                              subst hb
                              clear HCB HB2
                              go_wp2_with fail
                              go_meet
                              exact ⟨by rw [HS0.out], HBd2⟩
                          case rest =>
                            obtain ⟨rfl, hv⟩ := hcut
                            have HBe := Lib.hid hv.out
                            clear hv HBd2 HCB HB2 gm gm2 ham hb32
                            have HG13 := Lib.hid (HG9.out.step HBe.out)
                            have cv1 := (HG13.out.at 0 rfl : RowAt _ gv 2 .i64 vl).cell i (by rw [HVL.out]; omega)
                            have cv2 := (HG13.out.at 0 rfl : RowAt _ gv 2 .i64 vl).cell j (by rw [HVL.out]; omega)
                            have hb1 := HVB.out i hi
                            have hb2 := HVB.out j hj
                            obtain ⟨xa, hxa⟩ : ∃ xa, xa = vl.getD i 0 := ⟨_, rfl⟩
                            obtain ⟨xb, hxb⟩ : ∃ xb, xb = vl.getD j 0 := ⟨_, rfl⟩
                            rw [← hxa] at cv1 hb1 HN2
                            rw [← hxb] at cv2 hb2 HN2
                            obtain ⟨hb10, hb11⟩ := hb1
                            obtain ⟨hb20, hb21⟩ := hb2
                            have HH := Lib.hid (fun W => backC (rholds_any cb (xa - xb) 2 W hcr (by omega) (by omega) (by omega) (by omega)))
                            clear hxa hxb hcr hrb
                            obtain ⟨hx, hhx⟩ : ∃ hx, hx = holdsB cb (xa - xb) 2 := ⟨_, rfl⟩
                            rw [← hhx] at HH HN2
                            clear hhx
                            have HD := Lib.hid (fun (n : Nat) => belowN HBe.out n)
                            have g5 : IntKind.i64.wrap (xa - xb) = xa - xb := IntWalk.i64_in _ (by omega)
                            have ik : (i : Int) < (p : Int) + 1 := by omega
                            have jk : (j : Int) < (p : Int) + 1 := by omega
                            have ik2 : i < p + 1 := by omega
                            have jk2 : j < p + 1 := by omega
                            cases hcu : wantUp p l0 R vl (i * (p + 1) + j) with
                            | true =>
                              have HN3 := Lib.hid (show wantUp p l0 R vl (i * (p + 1) + (j + 1)) = hx by rw [HN2.out, hcu]; simp)
                              clear hcu HN2
                              go_wp2_with fail
                              go_quiet ((go_at_call 31; exact Calls.quiet_of_same (HH.out _)))
                              go_wp2
                              go_roundg (gk - 1)
                              case measure => have h := HGj.out; omega
                              case rel => exact ⟨j + 1, by go_num, by rw [HN3.out], HD.out _, by omega, by have h := HGj.out; omega⟩
                            | false =>
                              have HN3 := Lib.hid (show wantUp p l0 R vl (i * (p + 1) + (j + 1)) = false by rw [HN2.out, hcu]; simp)
                              clear hcu HN2
                              go_wp2_with fail
                              go_quiet (fail)
                              go_wp2
                              go_roundg (gk - 1)
                              case measure => have h := HGj.out; omega
                              case rel => exact ⟨j + 1, by go_num, by rw [HN3.out], HD.out _, by omega, by have h := HGj.out; omega⟩
              · have e : j = p + 1 := by have := HGj.out.1; omega
                subst e
                have hjj : ¬ (((p + 1 : Nat) : Int) ≤ (p : Int)) := by omega
                have HN2 := Lib.hid (show i * (p + 1) + (p + 1) = (i + 1) * (p + 1) + 0 from (Nat.succ_mul i (p + 1)).symm)
                rw [HN2.out]
                go_wp2
                go_roundg (p - i)
                case measure => have h := HGi.out; omega
                case rel => exact ⟨i + 1, by go_num, rfl, HBj.out, by omega, by omega⟩
          · as_aux_lemma =>
            have e : i = p + 1 := by have := HGi.out.1; omega
            subst e
            have hii : ¬ (((p + 1 : Nat) : Int) ≤ (p : Int)) := by omega
            obtain ⟨W1, hW1⟩ : ∃ W1, W1 = wantUp p l0 R vl ((p + 1) * (p + 1) + 0) := ⟨_, rfl⟩
            have HW1 := Lib.hid (show inB p L (fun i => vl.getD i 0) = W1 by rw [hW1, Nat.add_zero, wantUp_all]; exact HIN.out)
            rw [← hW1]
            clear hW1
            have HG10 := Lib.hid (HG9.out.step HBi.out)
            obtain ⟨w10, hw10⟩ : ∃ w10, w10 = wr := ⟨_, rfl⟩
            have HST := Lib.hid (show Below wr.heap.size wr wr from Below.refl _ _)
            rw [← hw10] at HST HG10 ⊢
            clear hw10
            go_wp2
            go_loopg [22, 23] (p + 1) (fun q wv v wr => ∃ i : Nat, v = .int .i64 i ∧ wv = .bool (inUp p L vl (i * (p + 1) + 0)) ∧ Hid (Below w10.heap.size w10 wr) ∧ Hid (i ≤ p + 1 ∧ q + i = p + 1))
            case atStart => exact ⟨0, by simp, by rw [Nat.zero_mul, Nat.add_zero, inUp_zero], HST.out, by omega, by omega⟩
            case round =>
              clear HST
              obtain ⟨i, rfl, rfl, HBi, HGi⟩ := hrel
              by_cases hi : i ≤ p
              · have hii : (i : Int) ≤ (p : Int) := by omega
                obtain ⟨P, hP, hP1, hP2, hP3⟩ := prod_facts i p hi hk8
                have hPN : P + p < N := by have := HN.out; omega
                have HP2 := Lib.hid hP2
                clear hP2 hP3
                obtain ⟨W0, hW0⟩ : ∃ W0, W0 = inUp p L vl (i * (p + 1) + 0) := ⟨_, rfl⟩
                have HW0 := Lib.hid hW0
                rw [← hW0]
                clear hW0
                go_wp2
                go_loopg [22, 24] (p + 1) (fun q wv v wr => ∃ j : Nat, v = .int .i64 j ∧ wv = .bool (inUp p L vl (i * (p + 1) + j)) ∧ Hid (Below w10.heap.size w10 wr) ∧ Hid (j ≤ p + 1 ∧ q + j = p + 1))
                case atStart => exact ⟨0, by simp, by rw [HW0.out], HBi.out, by omega, by omega⟩
                case round =>
                  clear HBi HW0
                  obtain ⟨j, rfl, rfl, HBj, HGj⟩ := hrel
                  by_cases hj : j ≤ p
                  · have hjj : (j : Int) ≤ (p : Int) := by omega
                    have HG11 := Lib.hid (HG10.out.step HBj.out)
                    have cl := (HG11.out.at 3 rfl : RowAt _ g1 44 .i32 L).cell (P + j) (by rw [HLENA.out]; omega)
                    have cv1 := (HG11.out.at 0 rfl : RowAt _ gv 2 .i64 vl).cell i (by rw [HVL.out]; omega)
                    have cv2 := (HG11.out.at 0 rfl : RowAt _ gv 2 .i64 vl).cell j (by rw [HVL.out]; omega)
                    have hb1 := HVB.out i hi
                    have hb2 := HVB.out j hj
                    have hrb := HRL.out (P + j) (by omega)
                    have HNX := Lib.hid (inUp_next p L vl i j hj)
                    rw [← HP2.out] at HNX
                    obtain ⟨bd, hbd⟩ : ∃ bd, bd = L.getD (P + j) 0 := ⟨_, rfl⟩
                    obtain ⟨xa, hxa⟩ : ∃ xa, xa = vl.getD i 0 := ⟨_, rfl⟩
                    obtain ⟨xb, hxb⟩ : ∃ xb, xb = vl.getD j 0 := ⟨_, rfl⟩
                    rw [← hbd] at cl hrb HNX
                    rw [← hxa] at cv1 hb1 HNX
                    rw [← hxb] at cv2 hb2 HNX
                    obtain ⟨hb10, hb11⟩ := hb1
                    obtain ⟨hb20, hb21⟩ := hb2
                    have HH := Lib.hid (fun W => backC (rholds_any bd (xa - xb) 2 W hrb (by omega) (by omega) (by omega) (by omega)))
                    clear hbd hxa hxb hrb
                    obtain ⟨hx, hhx⟩ : ∃ hx, hx = holdsB bd (xa - xb) 2 := ⟨_, rfl⟩
                    rw [← hhx] at HH HNX
                    clear hhx
                    have HD := Lib.hid (fun (n : Nat) => belowN HBj.out n)
                    have g2 : IntKind.i64.wrap (P : Int) = (P : Int) := IntWalk.i64_in _ (by omega)
                    have g4 : IntKind.i64.wrap ((P : Int) + (j : Int)) = (P : Int) + (j : Int) := IntWalk.i64_in _ (by omega)
                    have g5 : IntKind.i64.wrap (xa - xb) = xa - xb := IntWalk.i64_in _ (by omega)
                    have q1 : (P : Int) + (j : Int) < (N : Int) := by omega
                    have q3 : 0 ≤ (P : Int) + (j : Int) := by omega
                    have n1 : ((P : Int) + (j : Int)).toNat = P + j := by omega
                    have ik : (i : Int) < (p : Int) + 1 := by omega
                    have jk : (j : Int) < (p : Int) + 1 := by omega
                    have ik2 : i < p + 1 := by omega
                    have jk2 : j < p + 1 := by omega
                    cases hcu : inUp p L vl (i * (p + 1) + j) with
                    | true =>
                      have HN2 := Lib.hid (show inUp p L vl (i * (p + 1) + (j + 1)) = hx by rw [← HP2.out, HNX.out]; rw [← HP2.out] at hcu; rw [hcu]; simp)
                      clear hcu HNX
                      go_wp2_with fail
                      go_quiet ((go_at_call 31; exact Calls.quiet_of_same (HH.out _)))
                      go_wp2
                      go_roundg (gk - 1)
                      case measure => have h := HGj.out; omega
                      case rel => exact ⟨j + 1, by go_num, by rw [HN2.out], HD.out _, by omega, by have h := HGj.out; omega⟩
                    | false =>
                      have HN2 := Lib.hid (show inUp p L vl (i * (p + 1) + (j + 1)) = false by rw [← HP2.out, HNX.out]; rw [← HP2.out] at hcu; rw [hcu]; simp)
                      clear hcu HNX
                      go_wp2_with fail
                      go_quiet (fail)
                      go_wp2
                      go_roundg (gk - 1)
                      case measure => have h := HGj.out; omega
                      case rel => exact ⟨j + 1, by go_num, by rw [HN2.out], HD.out _, by omega, by have h := HGj.out; omega⟩
                  · have e : j = p + 1 := by have := HGj.out.1; omega
                    subst e
                    have hjj : ¬ (((p + 1 : Nat) : Int) ≤ (p : Int)) := by omega
                    have HN2 := Lib.hid (show i * (p + 1) + (p + 1) = (i + 1) * (p + 1) + 0 from (Nat.succ_mul i (p + 1)).symm)
                    rw [HN2.out]
                    go_wp2
                    go_roundg (p - i)
                    case measure => have h := HGi.out; omega
                    case rel => exact ⟨i + 1, by go_num, rfl, HBj.out, by omega, by omega⟩
              · have e : i = p + 1 := by have := HGi.out.1; omega
                subst e
                have hii : ¬ (((p + 1 : Nat) : Int) ≤ (p : Int)) := by omega
                have HW2 := Lib.hid (show inUp p L vl ((p + 1) * (p + 1) + 0) = W1 by rw [Nat.add_zero, inUp_all]; exact HW1.out)
                rw [HW2.out]
                have HG12 := Lib.hid (HG10.out.step HBi.out)
                clear HW2 HBi HGi
                go_wp2_with fail
                refine (live05_any _ (HG12.out.at 11 rfl)).mono ?_
                rintro e w12 ⟨rfl, hb⟩
                have HB5 := Lib.hid (HG12.out.step hb)
                clear hb
                go_wp2
                go_ret
                exact ⟨by simp, HB5.out.below⟩


theorem points5_any (n : Int) (A : Option Addr) (c : Nat) (cells : List Int) (A0 : Option Addr) (c0 : Nat) (l0 : List Int) (A1 : Option Addr) (c1 : Nat) (l1 : List Int) (w : World) (hI : Ints w .i32 A cells) (hmax : cells.length ≤ 4611686018427387904)
    (hk : ∀ q, q < cells.length → -2147483648 ≤ cells.getD q 0 ∧ cells.getD q 0 ≤ 2147483647) (h0 : Ints w .i64 A0 l0) (h1 : Ints w .u32 A1 l1) (hm0 : l0.length ≤ 17592186043904) (hm1 : l1.length ≤ 4611686018427387904)
    (hk1 : ∀ q, q < l1.length → 0 ≤ l1.getD q 0 ∧ l1.getD q 0 ≤ 4294967295) (ht : Tab w) :
    Calls Tryd.prog 7 #[.int .i64 n, .slice A cells.length c, .agg #[.slice A0 l0.length c0, .slice A1 l1.length c1]] w fun e w' => e = .returned (.bool true) ∧ Below w.heap.size w w' := by
  by_cases he : (luA (zOf n cells) l0 l0).2 = 0
  · by_cases hem : emptyP (zOf n cells) = true
    · exact points5_emp n A c cells A0 c0 l0 A1 c1 l1 w hI hmax hk h0 h1 hm0 hm1 hk1 ht he hem
    · exact points5_main n A c cells A0 c0 l0 A1 c1 l1 w hI hmax hk h0 h1 hm0 hm1 hk1 ht he hem
  · exact points5_err n A c cells A0 c0 l0 A1 c1 l1 w hI hmax hk h0 h1 hm0 hm1 hk1 ht he

end Go.Proofs.YtncgapnooabdgaaDoor
