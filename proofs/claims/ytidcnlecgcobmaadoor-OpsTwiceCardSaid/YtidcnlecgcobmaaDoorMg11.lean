/- Texts of ours, laid together: Ou, Ry, Rt, Pj, Qk, Row7. -/
import Derived.Test.YtidcnlecgcobmaaDoorMg10
/- And, Hull of zones of whatever kind. -/
namespace Go.Proofs.YtidcnlecgcobmaaDoor
open Go Go.RowKit
set_option linter.unusedVariables false
set_option linter.unusedSimpArgs false

/-- Zones or nil, one behind the other. -/
def ZsV (w : World) (A : Option Addr) (vs : List Value) (zs : List (Option (Nat × Mat))) : Prop :=
  Ptrs w A vs ∧ vs.length = zs.length ∧ ∀ j, j < zs.length → ZoneV 126 w (vs.getD j (.pointer none)) (zs.getD j none)
theorem ZsV.below {w w' : World} {A : Option Addr} {vs : List Value} {zs : List (Option (Nat × Mat))} (h : ZsV w A vs zs) (hb : Below w.heap.size w w') : ZsV w' A vs zs :=
  ⟨h.1.below hb, h.2.1, fun j hj => (h.2.2 j hj).below hb⟩
/-- The error of zones that are to be of k clocks. -/
def alE (k : Nat) (zs : List (Option (Nat × Mat))) : Int := if ∀ j, j < zs.length → zs.getD j none ≠ none then (if ∀ j, j < zs.length → dimN (zs.getD j none) = k then 0 else 11) else 1
def msOf (zs : List (Option (Nat × Mat))) : List Mat := zs.map fun z => match z with | some (_, m) => m | none => fun _ _ => 0
theorem msOf_length (zs : List (Option (Nat × Mat))) : (msOf zs).length = zs.length := by simp [msOf]
theorem alE_one {k : Nat} {zs : List (Option (Nat × Mat))} {p : Nat} (hp : p < zs.length) (h : zs.getD p none = none) : alE k zs = 1 := by
  unfold alE
  rw [if_neg (fun h' => h' p hp h)]
theorem alE_dim {k : Nat} {zs : List (Option (Nat × Mat))} {p : Nat} (hn : ∀ j, j < zs.length → zs.getD j none ≠ none) (hp : p < zs.length) (h : dimN (zs.getD p none) ≠ k) : alE k zs = 11 := by
  unfold alE
  rw [if_pos hn, if_neg (fun h' => h (h' p hp))]
theorem alE_ok {k : Nat} {zs : List (Option (Nat × Mat))} (hn : ∀ j, j < zs.length → zs.getD j none ≠ none) (hd : ∀ j, j < zs.length → dimN (zs.getD j none) = k) : alE k zs = 0 := by
  unfold alE
  rw [if_pos hn, if_pos hd]
theorem alE_zs {k : Nat} {zs : List (Option (Nat × Mat))} (h : alE k zs = 0) : ∀ j, j < zs.length → zs.getD j none = some (k, (msOf zs).getD j fun _ _ => 0) := by
  unfold alE at h
  by_cases hn : ∀ j, j < zs.length → zs.getD j none ≠ none
  · rw [if_pos hn] at h
    by_cases hd : ∀ j, j < zs.length → dimN (zs.getD j none) = k
    · intro j hj
      have h1 := hn j hj
      have h2 := hd j hj
      have e : (msOf zs).getD j (fun _ _ => 0) = match zs.getD j none with | some (_, m) => m | none => fun _ _ => 0 := by
        unfold msOf
        rw [List.getD_eq_getElem?_getD, List.getElem?_map, List.getD_eq_getElem?_getD, List.getElem?_eq_getElem hj]
        rfl
      rw [e]
      cases hz : zs.getD j none with
      | none => exact absurd hz h1
      | some q =>
        obtain ⟨a, m⟩ := q
        rw [hz] at h2
        have : a = k := h2
        subst this; rfl
    · rw [if_neg hd] at h; omega
  · rw [if_neg hn] at h; omega
theorem ZsV.zones {w : World} {A : Option Addr} {vs : List Value} {zs : List (Option (Nat × Mat))} {k : Nat} (h : ZsV w A vs zs) (he : alE k zs = 0) : ZonesV w A vs k (msOf zs) :=
  ⟨h.1, by rw [msOf_length]; exact h.2.1, fun j hj => by
    rw [msOf_length] at hj
    rw [← alE_zs he j hj]
    exact h.2.2 j hj⟩

set_option maxHeartbeats 1000000 in
set_option maxRecDepth 100000 in
theorem oalike_gen (v : Value) (k : Nat) (m : Mat) (A : Option Addr) (c : Nat) (vs : List Value) (zs : List (Option (Nat × Mat))) (w : World) (hz : ZoneV 126 w v (some (k, m))) (hv : ZsV w A vs zs) (hl : vs.length ≤ 4611686018427387904) :
    Calls Tryd.prog 84 #[v, .slice A vs.length c] w fun e w' => e = .returned (.int .i64 (alE k zs)) ∧ w = w' := by
  have HV := Lib.hid hv
  obtain ⟨bz, rfl, _, _, hmz⟩ := hz
  have HMZ := Lib.hid hmz
  have HLE := Lib.hid hv.2.1
  clear hv hmz
  go_enter Tryd.func84, Tryd.ntmps84
  go_wp2
  go_loopg [13] vs.length (fun g v wr => ∃ p : Nat, v = .int .i64 p ∧ w = wr ∧ Hid (p ≤ vs.length ∧ g + p = vs.length ∧ ∀ q, q < p → zs.getD q none ≠ none))
  case atStart => exact ⟨0, by simp, rfl, by omega, by omega, fun q hq => by omega⟩
  case round =>
    obtain ⟨p, rfl, rfl, HG⟩ := hrel
    by_cases hp : p < vs.length
    · obtain ⟨b', off, rfl, c1⟩ := HV.out.1 p hp
      have hzp := HV.out.2.2 p (by rw [← HLE.out]; exact hp)
      cases hy : zs.getD p none with
      | none =>
        rw [hy] at hzp
        have hzp : vs.getD p (.pointer none) = .pointer none := hzp
        rw [hzp] at c1
        have HE := Lib.hid (alE_one (k := k) (by rw [← HLE.out]; exact hp) hy)
        clear hzp hy
        go_wp2
        go_ret
        rw [HE.out]
        exact ⟨rfl, rfl⟩
      | some q =>
        rw [hy] at hzp
        obtain ⟨ky, my⟩ := q
        obtain ⟨b2, e2, _⟩ := hzp
        rw [e2] at c1
        have HY := Lib.hid (show zs.getD p none ≠ none by rw [hy]; intro h; cases h)
        clear e2 hy
        go_wp2
        go_roundg (gk - 1)
        case measure => have h := HG.out; omega
        case rel =>
          refine ⟨p + 1, by go_num, rfl, by omega, by have h := HG.out.2.1; omega, fun q hq => ?_⟩
          by_cases e : q = p
          · subst e; exact HY.out
          · exact HG.out.2.2 q (by omega)
    · have e : p = vs.length := by have := HG.out.1; omega
      subst e
      have HN := Lib.hid (show ∀ j, j < zs.length → zs.getD j none ≠ none by rw [← HLE.out]; exact HG.out.2.2)
      clear HG
      go_wp2
      go_loopg [22] vs.length (fun g v wr => ∃ p : Nat, v = .int .i64 p ∧ w = wr ∧ Hid (p ≤ vs.length ∧ g + p = vs.length ∧ ∀ q, q < p → dimN (zs.getD q none) = k))
      case atStart => exact ⟨0, by simp, rfl, by omega, by omega, fun q hq => by omega⟩
      case round =>
        obtain ⟨p, rfl, rfl, HG⟩ := hrel
        by_cases hp : p < vs.length
        · obtain ⟨b', off, rfl, c1⟩ := HV.out.1 p hp
          have hzp := HV.out.2.2 p (by rw [← HLE.out]; exact hp)
          have HDM := Lib.hid (odim_any _ _ _ hzp)
          obtain ⟨u, hu⟩ : ∃ u, u = vs.getD p (.pointer none) := ⟨_, rfl⟩
          have hzu : ∃ a, u = .pointer (some a) := by
            rw [hu]
            cases hy : zs.getD p none with
            | none => exact absurd hy (HN.out p (by rw [← HLE.out]; exact hp))
            | some q => rw [hy] at hzp; obtain ⟨ky, my⟩ := q; obtain ⟨b2, e2, _⟩ := hzp; exact ⟨_, e2⟩
          rw [← hu] at c1 HDM
          obtain ⟨a, rfl⟩ := hzu
          obtain ⟨dd, hdd⟩ : ∃ dd, dd = dimN (zs.getD p none) := ⟨_, rfl⟩
          rw [← hdd] at HDM
          have HDD := Lib.hid hdd
          clear hzp hu hdd
          go_wp2_with fail
          refine HDM.out.mono ?_
          rintro e w1 ⟨rfl, rfl⟩
          go_wp2_with fail
          refine (dim_zone bz k m _ HMZ.out).mono ?_
          rintro e w1 ⟨rfl, rfl⟩
          by_cases hk : dd = k
          · have t1 : ((dd : Int) != (k : Int)) = false := by simp [hk]
            have HK := Lib.hid hk
            clear hk
            go_wp2
            go_roundg (gk - 1)
            case measure => have h := HG.out; omega
            case rel =>
              refine ⟨p + 1, by go_num, rfl, by omega, by have h := HG.out.2.1; omega, fun q hq => ?_⟩
              by_cases e : q = p
              · subst e; rw [← HDD.out]; exact HK.out
              · exact HG.out.2.2 q (by omega)
          · have t1 : ((dd : Int) != (k : Int)) = true := by simp; omega
            have HE := Lib.hid (alE_dim (k := k) HN.out (by rw [← HLE.out]; exact hp) (by rw [← HDD.out]; exact hk))
            clear hk
            go_wp2
            go_ret
            rw [HE.out]
            exact ⟨rfl, rfl⟩
        · have e : p = vs.length := by have := HG.out.1; omega
          subst e
          have HE := Lib.hid (alE_ok (k := k) HN.out (by rw [← HLE.out]; exact HG.out.2.2))
          go_wp2
          go_ret
          rw [HE.out]
          exact ⟨rfl, rfl⟩

/-- What And, Hull answer. -/
def andA (z : Option (Nat × Mat)) (zs : List (Option (Nat × Mat))) : Option Mat × Int := match z with
  | none => (none, 1)
  | some (k, m) => if alE k zs = 0 then ofP k (flat k (andUp k (openW (some (k, m))) (msOf zs) (msOf zs).length)) else (none, alE k zs)
def hullZ (z : Option (Nat × Mat)) (zs : List (Option (Nat × Mat))) : Option Mat × Int := match z with
  | none => (none, 1)
  | some (k, m) => if alE k zs = 0 then hullA k m (msOf zs) else (none, alE k zs)

set_option maxHeartbeats 1000000 in
theorem and_err (v : Value) (k : Nat) (m : Mat) (A : Option Addr) (c : Nat) (vs : List Value) (zs : List (Option (Nat × Mat))) (w : World) (hz : ZoneV 126 w v (some (k, m))) (hv : ZsV w A vs zs) (hl : vs.length ≤ 4611686018427387904) (he : alE k zs ≠ 0) :
    Calls Tryd.prog 34 #[v, .slice A vs.length c] w fun e w' => e = .returned (.tuple #[.pointer none, .int .i64 (alE k zs)]) ∧ Below w.heap.size w w' := by
  have HA := Lib.hid (oalike_gen v k m A c vs zs w hz hv hl)
  generalize alE k zs = e0 at *
  have t1 : (e0 != 0) = true := by simp [he]
  clear hz hv he
  go_enter Tryd.func34, Tryd.ntmps34
  go_wp2_with fail
  refine HA.out.mono ?_
  rintro e w1 ⟨rfl, rfl⟩
  go_wp2
  go_ret2
  exact ⟨rfl, Below.refl _ _⟩
set_option maxHeartbeats 1000000 in
theorem hull_err (v : Value) (k : Nat) (m : Mat) (A : Option Addr) (c : Nat) (vs : List Value) (zs : List (Option (Nat × Mat))) (w : World) (hz : ZoneV 126 w v (some (k, m))) (hv : ZsV w A vs zs) (hl : vs.length ≤ 4611686018427387904) (he : alE k zs ≠ 0) :
    Calls Tryd.prog 32 #[v, .slice A vs.length c] w fun e w' => e = .returned (.tuple #[.pointer none, .int .i64 (alE k zs)]) ∧ Below w.heap.size w w' := by
  have HA := Lib.hid (oalike_gen v k m A c vs zs w hz hv hl)
  generalize alE k zs = e0 at *
  have t1 : (e0 != 0) = true := by simp [he]
  clear hz hv he
  go_enter Tryd.func32, Tryd.ntmps32
  go_wp2_with fail
  refine HA.out.mono ?_
  rintro e w1 ⟨rfl, rfl⟩
  go_wp2
  go_ret2
  exact ⟨rfl, Below.refl _ _⟩
theorem and_any (v : Value) (z : Option (Nat × Mat)) (A : Option Addr) (c : Nat) (vs : List Value) (zs : List (Option (Nat × Mat))) (w : World) (hz : ZoneV 126 w v z) (hv : ZsV w A vs zs) (hl : vs.length ≤ 17592186044000) :
    Calls Tryd.prog 34 #[v, .slice A vs.length c] w (MakesZ w (dimN z) (andA z zs)) := by
  cases z with
  | none =>
    have h : v = .pointer none := hz
    subst h
    exact (and_nil _ w).mono fun e w' ⟨he, hw⟩ => ⟨hw, .pointer none, he, rfl⟩
  | some q =>
    obtain ⟨k, m⟩ := q
    show Calls _ _ _ w (MakesZ w k (if alE k zs = 0 then ofP k (flat k (andUp k (openW (some (k, m))) (msOf zs) (msOf zs).length)) else (none, alE k zs)))
    by_cases he : alE k zs = 0
    · rw [if_pos he]
      exact and_zones v k m A c vs (msOf zs) w hz (hv.zones he) (by omega)
    · rw [if_neg he]
      exact (and_err v k m A c vs zs w hz hv (by omega) he).mono fun e w' ⟨h1, h2⟩ => ⟨h2, .pointer none, h1, rfl⟩
theorem hull_any (v : Value) (z : Option (Nat × Mat)) (A : Option Addr) (c : Nat) (vs : List Value) (zs : List (Option (Nat × Mat))) (w : World) (hz : ZoneV 126 w v z) (hv : ZsV w A vs zs) (hl : vs.length ≤ 17592186044000) :
    Calls Tryd.prog 32 #[v, .slice A vs.length c] w (MakesZ w (dimN z) (hullZ z zs)) := by
  cases z with
  | none =>
    have h : v = .pointer none := hz
    subst h
    exact (hull_nil _ w).mono fun e w' ⟨he, hw⟩ => ⟨hw, .pointer none, he, rfl⟩
  | some q =>
    obtain ⟨k, m⟩ := q
    show Calls _ _ _ w (MakesZ w k (if alE k zs = 0 then hullA k m (msOf zs) else (none, alE k zs)))
    by_cases he : alE k zs = 0
    · rw [if_pos he]
      exact hull_zones v k m A c vs (msOf zs) w hz (hv.zones he) hl
    · rw [if_neg he]
      exact (hull_err v k m A c vs zs w hz hv (by omega) he).mono fun e w' ⟨h1, h2⟩ => ⟨h2, .pointer none, h1, rfl⟩

end Go.Proofs.YtidcnlecgcobmaaDoor

/- The document's And. -/
namespace Go.Proofs.YtidcnlecgcobmaaDoor
open Go Go.RowKit
set_option linter.unusedVariables false
set_option linter.unusedSimpArgs false

theorem dimP_N (z : Option (Nat × Mat)) : dimP z = (dimN z : Int) := by
  cases z with
  | none => rfl
  | some q => obtain ⟨k, m⟩ := q; rfl
/-- Zones of the document's, or nil, one behind the other. -/
def RsV (w : World) (A : Option Addr) (vs : List Value) (zs : List (Option (Nat × Mat))) : Prop :=
  Ptrs w A vs ∧ vs.length = zs.length ∧ ∀ j, j < zs.length → RefZ w (vs.getD j (.pointer none)) (zs.getD j none)
theorem RsV.below {w w' : World} {A : Option Addr} {vs : List Value} {zs : List (Option (Nat × Mat))} (h : RsV w A vs zs) (hb : Below w.heap.size w w') : RsV w' A vs zs :=
  ⟨h.1.below hb, h.2.1, fun j hj => (h.2.2 j hj).below hb⟩

set_option maxHeartbeats 1000000 in
set_option maxRecDepth 100000 in
theorem nils4_gen (v : Value) (k : Nat) (m : Mat) (A : Option Addr) (c : Nat) (vs : List Value) (zs : List (Option (Nat × Mat))) (w : World) (hz : RefZ w v (some (k, m))) (hv : RsV w A vs zs) (hl : vs.length ≤ 4611686018427387904) :
    Calls Tryd.prog 87 #[v, .slice A vs.length c] w fun e w' => e = .returned (.int .i64 (alE k zs)) ∧ w = w' := by
  have HV := Lib.hid hv
  have HZ := Lib.hid hz
  obtain ⟨bz, gz, capz, rfl, _⟩ := hz
  have HLE := Lib.hid hv.2.1
  have HDZ := Lib.hid (fun W (h : RefZ W (.pointer (some ⟨bz, 0, none⟩)) (some (k, m))) => show Calls _ _ _ W fun e w' => e = .returned (.int .i64 (k : Int)) ∧ W = w' from rdim_any _ _ W h)
  clear hv
  go_enter Tryd.func87, Tryd.ntmps87
  go_wp2
  go_loopg [5] vs.length (fun g v wr => ∃ p : Nat, v = .int .i64 p ∧ w = wr ∧ Hid (p ≤ vs.length ∧ g + p = vs.length ∧ ∀ q, q < p → zs.getD q none ≠ none))
  case atStart => exact ⟨0, by simp, rfl, by omega, by omega, fun q hq => by omega⟩
  case round =>
    obtain ⟨p, rfl, rfl, HG⟩ := hrel
    by_cases hp : p < vs.length
    · obtain ⟨b', off, rfl, c1⟩ := HV.out.1 p hp
      have hzp := HV.out.2.2 p (by rw [← HLE.out]; exact hp)
      cases hy : zs.getD p none with
      | none =>
        rw [hy] at hzp
        have hzp : vs.getD p (.pointer none) = .pointer none := hzp
        rw [hzp] at c1
        have HE := Lib.hid (alE_one (k := k) (by rw [← HLE.out]; exact hp) hy)
        clear hzp hy
        go_wp2
        go_ret
        rw [HE.out]
        exact ⟨rfl, rfl⟩
      | some q =>
        rw [hy] at hzp
        obtain ⟨ky, my⟩ := q
        obtain ⟨b2, _, _, e2, _⟩ := hzp
        rw [e2] at c1
        have HY := Lib.hid (show zs.getD p none ≠ none by rw [hy]; intro h; cases h)
        clear e2 hy
        go_wp2
        go_roundg (gk - 1)
        case measure => have h := HG.out; omega
        case rel =>
          refine ⟨p + 1, by go_num, rfl, by omega, by have h := HG.out.2.1; omega, fun q hq => ?_⟩
          by_cases e : q = p
          · subst e; exact HY.out
          · exact HG.out.2.2 q (by omega)
    · have e : p = vs.length := by have := HG.out.1; omega
      subst e
      have HN := Lib.hid (show ∀ j, j < zs.length → zs.getD j none ≠ none by rw [← HLE.out]; exact HG.out.2.2)
      clear HG
      go_wp2
      go_loopg [6] vs.length (fun g v wr => ∃ p : Nat, v = .int .i64 p ∧ w = wr ∧ Hid (p ≤ vs.length ∧ g + p = vs.length ∧ ∀ q, q < p → dimN (zs.getD q none) = k))
      case atStart => exact ⟨0, by simp, rfl, by omega, by omega, fun q hq => by omega⟩
      case round =>
        obtain ⟨p, rfl, rfl, HG⟩ := hrel
        by_cases hp : p < vs.length
        · obtain ⟨b', off, rfl, c1⟩ := HV.out.1 p hp
          have hzp := HV.out.2.2 p (by rw [← HLE.out]; exact hp)
          have HDM := Lib.hid (rdim_any _ _ _ hzp)
          rw [dimP_N] at HDM
          obtain ⟨u, hu⟩ : ∃ u, u = vs.getD p (.pointer none) := ⟨_, rfl⟩
          have hzu : ∃ a, u = .pointer (some a) := by
            rw [hu]
            cases hy : zs.getD p none with
            | none => exact absurd hy (HN.out p (by rw [← HLE.out]; exact hp))
            | some q => rw [hy] at hzp; obtain ⟨ky, my⟩ := q; obtain ⟨b2, _, _, e2, _⟩ := hzp; exact ⟨_, e2⟩
          rw [← hu] at c1 HDM
          obtain ⟨a, rfl⟩ := hzu
          obtain ⟨dd, hdd⟩ : ∃ dd, dd = dimN (zs.getD p none) := ⟨_, rfl⟩
          rw [← hdd] at HDM
          have HDD := Lib.hid hdd
          clear hzp hu hdd
          go_wp2_with fail
          refine HDM.out.mono ?_
          rintro e w1 ⟨rfl, rfl⟩
          go_wp2_with fail
          refine (HDZ.out _ HZ.out).mono ?_
          rintro e w1 ⟨rfl, rfl⟩
          by_cases hk : dd = k
          · have t1 : ((dd : Int) != (k : Int)) = false := by simp [hk]
            have HK := Lib.hid hk
            clear hk
            go_wp2
            go_roundg (gk - 1)
            case measure => have h := HG.out; omega
            case rel =>
              refine ⟨p + 1, by go_num, rfl, by omega, by have h := HG.out.2.1; omega, fun q hq => ?_⟩
              by_cases e : q = p
              · subst e; rw [← HDD.out]; exact HK.out
              · exact HG.out.2.2 q (by omega)
          · have t1 : ((dd : Int) != (k : Int)) = true := by simp; omega
            have HE := Lib.hid (alE_dim (k := k) HN.out (by rw [← HLE.out]; exact hp) (by rw [← HDD.out]; exact hk))
            clear hk
            go_wp2
            go_ret
            rw [HE.out]
            exact ⟨rfl, rfl⟩
        · have e : p = vs.length := by have := HG.out.1; omega
          subst e
          have HE := Lib.hid (alE_ok (k := k) HN.out (by rw [← HLE.out]; exact HG.out.2.2))
          go_wp2
          go_ret
          rw [HE.out]
          exact ⟨rfl, rfl⟩


/-- Cells joined, the first q of them. -/
def linF (f : Int → Int → Int) (n : Nat) (X V : Mat) (q : Nat) : Mat := fun i j => if i ≤ n ∧ j ≤ n ∧ i * (n + 1) + j < q then f (X i j) (V i j) else X i j
theorem lin_zero (f : Int → Int → Int) (n : Nat) (X V : Mat) : linF f n X V 0 = X := by
  funext i j
  unfold linF
  rw [if_neg (by omega)]
theorem lin_next (f : Int → Int → Int) (n : Nat) (X V : Mat) (q : Nat) (hq : q < (n + 1) * (n + 1)) : linF f n X V (q + 1) = upd (linF f n X V q) (q / (n + 1)) (q % (n + 1)) (f (X (q / (n + 1)) (q % (n + 1))) (V (q / (n + 1)) (q % (n + 1)))) := by
  have h1 : q / (n + 1) < n + 1 := Nat.div_lt_of_lt_mul hq
  have h2 := Nat.mod_lt q (show 0 < n + 1 by omega)
  have h3 := Nat.div_add_mod q (n + 1)
  rw [Nat.mul_comm] at h3
  funext i j
  unfold linF upd
  by_cases e : i = q / (n + 1) ∧ j = q % (n + 1)
  · obtain ⟨e1, e2⟩ := e
    have e3 : i * (n + 1) + j = q := by rw [e1, e2]; exact h3
    rw [if_pos ⟨by omega, by omega, by omega⟩, if_pos ⟨e1, e2⟩, e1, e2]
  · rw [if_neg e]
    show _ = (if i ≤ n ∧ j ≤ n ∧ i * (n + 1) + j < q then f (X i j) (V i j) else X i j)
    by_cases c : i ≤ n ∧ j ≤ n
    · have hne : i * (n + 1) + j ≠ q := fun e' => e (by
        have hj : j < n + 1 := by omega
        have := at_row (i := i) hj
        rw [e'] at this
        exact ⟨this.1.symm, this.2.symm⟩)
      by_cases d : i * (n + 1) + j < q
      · rw [if_pos ⟨c.1, c.2, by omega⟩, if_pos ⟨c.1, c.2, d⟩]
      · rw [if_neg (by omega), if_neg (by omega)]
    · rw [if_neg (by omega), if_neg (by omega)]
theorem lin_full (f : Int → Int → Int) (n : Nat) (X V : Mat) : Agree n (linF f n X V ((n + 1) * (n + 1))) (fun i j => f (X i j) (V i j)) := fun i j hi hj => by
  unfold linF
  rw [if_pos ⟨hi, hj, at_lt (by omega) (by omega)⟩]
theorem lin_here (f : Int → Int → Int) (n : Nat) (X V : Mat) (q : Nat) (hq : q < (n + 1) * (n + 1)) : (flat n (linF f n X V q)).getD q 0 = X (q / (n + 1)) (q % (n + 1)) := by
  have h3 := Nat.div_add_mod q (n + 1)
  rw [Nat.mul_comm] at h3
  rw [flat_getD _ _ _ hq]
  unfold linF
  rw [if_neg (by omega)]
theorem lin_set (f : Int → Int → Int) (n : Nat) (X V : Mat) (q : Nat) (hq : q < (n + 1) * (n + 1)) : (flat n (linF f n X V q)).set q (f (X (q / (n + 1)) (q % (n + 1))) (V (q / (n + 1)) (q % (n + 1)))) = flat n (linF f n X V (q + 1)) := by
  have h1 : q / (n + 1) < n + 1 := Nat.div_lt_of_lt_mul hq
  have h2 := Nat.mod_lt q (show 0 < n + 1 by omega)
  have h3 := Nat.div_add_mod q (n + 1)
  rw [Nat.mul_comm] at h3
  rw [lin_next f n X V q hq, ← flat_upd _ h1 h2, h3]
theorem lin_same (f : Int → Int → Int) (n : Nat) (X V : Mat) (q : Nat) (hq : q < (n + 1) * (n + 1)) (h : f (X (q / (n + 1)) (q % (n + 1))) (V (q / (n + 1)) (q % (n + 1))) = X (q / (n + 1)) (q % (n + 1))) : linF f n X V (q + 1) = linF f n X V q := by
  have h3 := Nat.div_add_mod q (n + 1)
  rw [Nat.mul_comm] at h3
  rw [lin_next f n X V q hq, h]
  have e : X (q / (n + 1)) (q % (n + 1)) = linF f n X V q (q / (n + 1)) (q % (n + 1)) := by
    unfold linF; rw [if_neg (by omega)]
  rw [e, upd_self]
theorem CellsAt.other {w w' : World} {b g c cap n : Nat} {m : Mat} (h : CellsAt w b g cap n m) (ho : Only c w w') (hb : b ≠ c) (hg : g ≠ c) : CellsAt w' b g cap n m := by
  obtain ⟨h0, h1, h2⟩ := h
  have hlt := World.block_lt_of_cell? w _ h0
  have hbl : w'.heap[b]? = w.heap[b]? := ho.block b hlt (by simpa using hb)
  have hc : ∀ o, w'.cell? ⟨b, o, none⟩ = w.cell? ⟨b, o, none⟩ := fun o => by simp only [World.cell?, hbl]
  exact ⟨(hc 0).trans h0, (hc 1).trans h1, h2.only ho hg⟩
theorem CellsAt.congr {w : World} {b g cap n : Nat} {m o : Mat} (h : CellsAt w b g cap n m) (ha : Agree n m o) : CellsAt w b g cap n o := by
  obtain ⟨h0, h1, h2⟩ := h
  rw [flat_congr ha] at h2
  exact ⟨h0, h1, h2⟩
/-- The strictest cells of the first p. -/
def andM (m : Mat) (ms : List Mat) : Nat → Mat
  | 0 => m
  | p + 1 => minF (andM m ms p) (ms.getD p fun _ _ => 0)
/-- What the document's And answers, of zones of n clocks. -/
def andQ (n : Nat) (m : Mat) (ms : List Mat) : Option Mat × Int :=
  if m 0 0 = 1 ∧ ∀ j, j < ms.length → (ms.getD j fun _ _ => 0) 0 0 = 1 then zoneP n (widW (andM m ms ms.length)) else (some (fun _ _ => 0), 0)
theorem OkM.min {n : Nat} {a b : Mat} (h : OkM n a) (h' : OkM n b) : OkM n (minF a b) := by
  refine ⟨fun i j hi hj => right_min (h.right i j hi hj) (h'.right i j hi hj), fun i hi => ?_, fun j hj => ?_⟩
  · have := h.diag i hi
    unfold minF; omega
  · have := h.top j hj
    unfold minF; omega
theorem OkM.andM {n : Nat} {m : Mat} {ms : List Mat} (h : OkM n m) (hk : ∀ j, j < ms.length → OkM n (ms.getD j fun _ _ => 0)) : ∀ p, p ≤ ms.length → OkM n (andM m ms p)
  | 0, _ => h
  | p + 1, hp => (OkM.andM h hk p (by omega)).min (hk p (by omega))
theorem wid_minF {n : Nat} {a b : Mat} (h : OkM n a) (h' : OkM n b) : Agree n (fun i j => min (widW a i j) (widW b i j)) (widW (minF a b)) := fun i j hi hj => by
  show min (wid (a i j)) (wid (b i j)) = wid (min (a i j) (b i j))
  rw [wid_min (right_hi (h.right i j hi hj)).2 (right_hi (h'.right i j hi hj)).2]

set_option maxRecDepth 100000 in
set_option maxHeartbeats 4000000 in
theorem and4_zones (v : Value) (n : Nat) (m : Mat) (A : Option Addr) (c : Nat) (vs : List Value) (zs : List (Option (Nat × Mat))) (w : World) (hz : RefZ w v (some (n, m))) (hv : RsV w A vs zs) (hl : vs.length ≤ 4611686018427387904) (he : alE n zs = 0)
    (hok : OkM n m) (hoks : ∀ j, j < (msOf zs).length → OkM n ((msOf zs).getD j fun _ _ => 0)) : Calls Tryd.prog 35 #[v, .slice A vs.length c] w (MakesR w n (andQ n m (msOf zs))) := by
  have HA := Lib.hid (nils4_gen v n m A c vs zs w hz hv hl)
  rw [he] at HA
  have HZ := Lib.hid hz
  have HV := Lib.hid hv
  have HOK := Lib.hid hok
  have HOKS := Lib.hid hoks
  have HLE := Lib.hid (show vs.length = (msOf zs).length by rw [msOf_length]; exact hv.2.1)
  have HZJ := Lib.hid (alE_zs he)
  have HLZ := Lib.hid hv.2.1
  obtain ⟨ms, hms⟩ : ∃ ms, ms = msOf zs := ⟨_, rfl⟩
  rw [← hms] at HOKS HLE HZJ
  have HMS := Lib.hid hms
  have HE := Lib.hid (fun W (h : RefZ W v (some (n, m))) => rempty_any v _ W h)
  have HDQ := Lib.hid (fun W (h : RefZ W v (some (n, m))) => show Calls _ _ _ W fun e w' => e = .returned (.int .i64 n) ∧ W = w' from rdim_any v _ W h)
  have HO := Lib.hid (fun W h => open4_any v n m W h)
  obtain ⟨bz, gz, capz, rfl, hn, _⟩ := hz
  have HNO := Lib.hid (fun w' => nothing_any n w' hn)
  have hN81 : (n + 1) * (n + 1) ≤ 81 := by
    have := Nat.mul_le_mul (show n + 1 ≤ 9 by omega) (show n + 1 ≤ 9 by omega)
    omega
  obtain ⟨N, hN⟩ : ∃ N, N = (n + 1) * (n + 1) := ⟨_, rfl⟩
  rw [← hN] at hN81
  have HN := Lib.hid hN
  clear hv he hok hoks hms hN
  go_enter Tryd.func35, Tryd.ntmps35
  go_wp2_with fail
  refine HA.out.mono ?_
  rintro e w1 ⟨rfl, rfl⟩
  go_wp2_with fail
  refine (HE.out _ HZ.out).mono ?_
  by_cases hm1 : m 0 0 = 1
  · rw [show emptyR (some (n, m)) = false from decide_eq_false (fun h => h hm1)]
    have HM1 := Lib.hid hm1
    clear hm1
    rintro e w1 ⟨rfl, rfl⟩
    go_wp2_with fail
    refine (HO.out _ HZ.out).mono ?_
    rintro e w1 ⟨g, cap, rfl, hb, hg, hc⟩
    have HS := Lib.hid (show D4 w g cap n (widW (andM m ms 0)) w1 from ⟨hb, hg, hc⟩)
    clear hb hg hc
    go_wp2
    go_loopg [8] vs.length (fun q v wr => ∃ p : Nat, v = .int .i64 p ∧ Hid (D4 w g cap n (widW (andM m ms p)) wr) ∧ Hid (p ≤ vs.length ∧ q + p = vs.length ∧ ∀ r, r < p → (ms.getD r fun _ _ => 0) 0 0 = 1))
    case atStart => exact ⟨0, by simp, HS.out, by omega, by omega, fun r hr => by omega⟩
    case round =>
      clear HS
      obtain ⟨p, rfl, HR, HG⟩ := hrel
      by_cases hp : p < vs.length
      · have HVW := Lib.hid (HV.out.below HR.out.1)
        obtain ⟨b', off, rfl, c1⟩ := HVW.out.1 p hp
        have hzp := HVW.out.2.2 p (by rw [← HLZ.out]; exact hp)
        rw [HZJ.out p (by rw [← HLZ.out]; exact hp)] at hzp
        obtain ⟨my, hmy⟩ : ∃ my, my = ms.getD p fun _ _ => 0 := ⟨_, rfl⟩
        rw [← hmy] at hzp
        have HMY := Lib.hid hmy
        obtain ⟨u, hu⟩ : ∃ u, u = vs.getD p (.pointer none) := ⟨_, rfl⟩
        rw [← hu] at c1 hzp
        have HZP := Lib.hid hzp
        obtain ⟨by', gy, capy, rfl, _⟩ := hzp
        have hpi : (p : Int) < (vs.length : Int) := by omega
        clear hmy hu
        go_wp2_with fail
        refine (rempty_any _ _ _ HZP.out).mono ?_
        by_cases hy1 : my 0 0 = 1
        · rw [show emptyR (some (n, my)) = false from decide_eq_false (fun h => h hy1)]
          have HY1 := Lib.hid hy1
          clear hy1
          rintro e w2 ⟨rfl, rfl⟩
          go_wp2_with fail
          refine (open4_any _ n my _ HZP.out).mono ?_
          rintro e w2 ⟨g2, cap2, rfl, hb, hg2, hc2⟩
          have hglt := HR.out.2.2.2.2.lt
          have hwlt := HR.out.1.size
          have HNE := Lib.hid (show wr.heap.size ≠ g ∧ g2 ≠ g by omega)
          have HS2 := Lib.hid (show D4 w g cap n (linF min n (widW (andM m ms p)) (widW my) 0) w2 ∧ CellsAt w2 wr.heap.size g2 cap2 n (widW my) from by
            rw [lin_zero]
            exact ⟨⟨HR.out.1.trans (hb.mono HR.out.1.size), HR.out.2.1, HR.out.2.2.below hb⟩, hc2⟩)
          obtain ⟨ob, hob⟩ : ∃ ob, ob = wr.heap.size := ⟨_, rfl⟩
          rw [← hob] at HNE HS2 ⊢
          obtain ⟨X, hX⟩ : ∃ X, X = widW (andM m ms p) := ⟨_, rfl⟩
          obtain ⟨V, hVV⟩ : ∃ V, V = widW my := ⟨_, rfl⟩
          rw [← hX, ← hVV] at HS2
          have HXV := Lib.hid (And.intro hX hVV)
          clear hb hg2 hc2 hglt hwlt hob hX hVV HR c1
          go_wp2
          go_loopg [10] N (fun q v wr => ∃ t : Nat, v = .int .i64 t ∧ Hid (D4 w g cap n (linF min n X V t) wr ∧ CellsAt wr ob g2 cap2 n V) ∧ Hid (t ≤ N ∧ q + t = N))
          case atStart => exact ⟨0, by simp, HS2.out, by omega, by omega⟩
          case round =>
            clear HS2
            obtain ⟨t, rfl, HT, HGT⟩ := hrel
            have k1 := HT.out.1.2.2.2.1
            rw [← HN.out] at k1
            have k2 := HT.out.2.2.1
            rw [← HN.out] at k2
            by_cases ht : t < N
            · have hti : (t : Int) < (N : Int) := by omega
              have d1 := HT.out.1.2.2.2.2.cell t (by rw [flat_length, ← HN.out]; exact ht)
              have d2 := HT.out.2.2.2.cell t (by rw [flat_length, ← HN.out]; exact ht)
              have f1 := HT.out.1.2.2.2.2.frozen t
              rw [lin_here _ _ _ _ _ (by rw [← HN.out]; exact ht)] at d1
              rw [flat_getD _ _ _ (by rw [← HN.out]; exact ht)] at d2
              have HSET := Lib.hid (lin_set min n X V t (by rw [← HN.out]; exact ht))
              have HSAME := Lib.hid (lin_same min n X V t (by rw [← HN.out]; exact ht))
              obtain ⟨x, hx⟩ : ∃ x, x = X (t / (n + 1)) (t % (n + 1)) := ⟨_, rfl⟩
              obtain ⟨y, hy⟩ : ∃ y, y = V (t / (n + 1)) (t % (n + 1)) := ⟨_, rfl⟩
              rw [← hx] at d1
              rw [← hy] at d2
              rw [← hx, ← hy] at HSET HSAME
              have hglt := HT.out.1.2.2.2.2.lt
              clear hx hy
              by_cases hlt : y < x
              · have t1 : decide (y < x) = true := decide_eq_true hlt
                have HLT := Lib.hid hlt
                clear hlt
                go_wp2_with fail
                go_quiet (fail)
                go_wp2_with fail
                go_region
                have HST := Lib.hid (show ∀ wx, Only g wr wx → RowAt wx g 2 .i64 (flat n (linF min n X V (t + 1))) → D4 w g cap n (linF min n X V (t + 1)) wx ∧ CellsAt wx ob g2 cap2 n V from fun wx ho hr => ⟨HT.out.1.only ho (HT.out.1.2.2.only ho HT.out.1.ne hr), HT.out.2.other ho HNE.out.1 HNE.out.2⟩)
                have HRW := Lib.hid (show RowAt (wr.setCell ⟨g, t, none⟩ (.int .i64 y)) g 2 .i64 (flat n (linF min n X V (t + 1))) by
                  have := HT.out.1.2.2.2.2.set t y
                  rw [show y = min x y by have := HLT.out; omega, HSET.out] at this
                  rw [show y = min x y by have := HLT.out; omega]
                  exact this)
                go_wp2
                go_roundg (gk - 1)
                case measure => have h := HGT.out; omega
                case rel => exact ⟨t + 1, by go_num, HST.out _ (by first | exact ((Only.refl _ _).setCell _ _).drew | exact (((Only.refl _ _).drewN _).setCell _ _).drew | exact (((Only.refl _ _).setCell _ _).drewN _)) (by exact HRW.out), by omega, by have h := HGT.out; omega⟩
              · have t1 : decide (y < x) = false := decide_eq_false hlt
                have HLT := Lib.hid hlt
                clear hlt
                go_wp2_with fail
                go_quiet (fail)
                have HN3 := Lib.hid (show D4 w g cap n (linF min n X V (t + 1)) (wr.drewN nq) ∧ CellsAt (wr.drewN nq) ob g2 cap2 n V by
                  rw [HSAME.out (by have := HLT.out; omega)]
                  exact ⟨HT.out.1.drewN _, HT.out.2.drewN _⟩)
                go_wp2
                go_roundg (gk - 1)
                case measure => have h := HGT.out; omega
                case rel => exact ⟨t + 1, by go_num, HN3.out, by omega, by have h := HGT.out; omega⟩
            · have e : t = N := by have := HGT.out.1; omega
              subst e
              have HN4 := Lib.hid (show D4 w g cap n (widW (andM m ms (p + 1))) wr by
                refine ⟨HT.out.1.1, HT.out.1.2.1, HT.out.1.2.2.congr fun i j hi hj => ?_⟩
                have h1 := lin_full min n X V i j hi hj
                rw [HN.out, h1, HXV.out.1, HXV.out.2]
                have := wid_minF (HOK.out.andM HOKS.out p (by rw [← HLE.out]; omega)) (HOKS.out p (by rw [← HLE.out]; exact hp)) i j hi hj
                rw [← HMY.out] at this
                rw [andM, ← HMY.out]
                exact this)
              go_wp2
              go_roundg (vs.length - (p + 1))
              case measure => have h := HG.out; omega
              case rel =>
                refine ⟨p + 1, by go_num, HN4.out, by omega, by omega, fun r hr => ?_⟩
                by_cases e : r = p
                · subst e; rw [← HMY.out]; exact HY1.out
                · exact HG.out.2.2 r (by omega)
        · rw [show emptyR (some (n, my)) = true from decide_eq_true hy1]
          have HQ := Lib.hid (show andQ n m ms = (some (fun _ _ => 0), 0) by unfold andQ; rw [if_neg (fun h => hy1 (by rw [HMY.out]; exact h.2 p (by rw [← HLE.out]; exact hp)))])
          have HB0 := Lib.hid HR.out.1
          have HZW := Lib.hid (HZ.out.below HR.out.1)
          clear hy1
          rintro e w2 ⟨rfl, rfl⟩
          go_wp2_with fail
          refine (HDQ.out _ HZW.out).mono ?_
          rintro e w2 ⟨rfl, rfl⟩
          go_wp2_with fail
          refine (HNO.out _).mono ?_
          rintro e w2 ⟨v, rfl, hb, hv⟩
          have HB := Lib.hid (HB0.out.trans (hb.mono HB0.out.size))
          have HV2 := Lib.hid hv
          clear hb hv
          go_wp2
          go_ret2
          rw [← HMS.out, HQ.out]
          exact ⟨HB.out, v, rfl, HV2.out⟩
      · have e : p = vs.length := by have := HG.out.1; omega
        subst e
        have hokl := HOK.out.andM HOKS.out vs.length (by rw [HLE.out]; exact Nat.le_refl _)
        have HSH := Lib.hid (shut4_D hn HR.out hokl.fit hokl.wtop)
        have HQ := Lib.hid (show andQ n m ms = zoneP n (widW (andM m ms vs.length)) by unfold andQ; rw [if_pos ⟨HM1.out, by rw [← HLE.out]; exact HG.out.2.2⟩, HLE.out])
        clear hokl
        go_wp2_with fail
        refine HSH.out.mono ?_
        rintro e w2 hz
        have HZ2 := Lib.hid hz
        obtain ⟨hb, v, rfl, hv⟩ := hz
        clear hb hv
        go_wp2
        go_ret2
        rw [← HMS.out, HQ.out]
        exact HZ2.out
  · rw [show emptyR (some (n, m)) = true from decide_eq_true hm1]
    have HQ := Lib.hid (show andQ n m ms = (some (fun _ _ => 0), 0) by unfold andQ; rw [if_neg (fun h => hm1 h.1)])
    clear hm1
    rintro e w1 ⟨rfl, rfl⟩
    go_wp2_with fail
    refine (HDQ.out _ HZ.out).mono ?_
    rintro e w2 ⟨rfl, rfl⟩
    go_wp2_with fail
    refine (HNO.out _).mono ?_
    rintro e w2 ⟨v, rfl, hb, hv⟩
    have HB := Lib.hid hb
    have HV2 := Lib.hid hv
    clear hb hv
    go_wp2
    go_ret2
    rw [← HMS.out, HQ.out]
    exact ⟨HB.out, v, rfl, HV2.out⟩

end Go.Proofs.YtidcnlecgcobmaaDoor

/- The document's Hull. -/
namespace Go.Proofs.YtidcnlecgcobmaaDoor
open Go Go.RowKit
set_option linter.unusedVariables false
set_option linter.unusedSimpArgs false

theorem infoPR : (Tryd.prog.info? 25).map (fun i => (i.zero, i.size, i.bytes)) = some (some (.pointer none), 1, 8) := by kernel_rfl
/-- A row of one address, and others behind it. -/
theorem append_refs (w : World) (v : Value) (A : Option Addr) (c : Nat) (vs : List Value) (base : Nat) (w1 : World) (hw : w1 = w.alloc (.cells #[v] 25)) (hbase : base ≤ w.heap.size) (hP : Ptrs w1 A vs) (h1 : ∀ u ∈ vs, u.oneCell' = true) (hl : vs.length ≤ 17592186044000) (hv1 : v.oneCell' = true) :
    ∃ v' w', (Builtin.append_ #[59, 59] 59 #[.slice (some ⟨w.heap.size, 0, none⟩) 1 1, .slice A vs.length c]).run Tryd.prog w1 = .ok v' w' ∧ w'.ownsRow base 25 1 v' (v :: vs).length (v :: vs) ∧ Below w.heap.size w w' := by
  obtain ⟨i0, hi, hz0, hz1, hz2⟩ := info_parts infoPR
  have hblk : w1.heap[w.heap.size]? = some (.cells #[v] 25 (0, 0)) := by rw [hw]; exact heap_alloc_new _ _
  have hsz : w1.heap.size = w.heap.size + 1 := by rw [hw]; simp
  have hB1 : Below w.heap.size w w1 := by rw [hw]; exact (Below.refl _ _).alloc (Nat.le_refl _) _
  have hown : w1.ownsRow base 25 1 (.slice (some ⟨w.heap.size, 0, none⟩) 1 1) 1 [v] := ⟨rfl, .inr ⟨w.heap.size, 1, #[v], rfl, hbase, hblk, Nat.le_refl _, by decide, rfl, rfl⟩⟩
  cases A with
  | some a =>
    have hnews : ∀ j u, vs[j]? = some u → w1.cell? (a.add j) = some u := by
      intro j u hu
      have hj : j < vs.length := (List.getElem?_eq_some_iff.1 hu).1
      obtain ⟨b, off, e, hc⟩ := hP j hj
      simp only [Option.some.injEq] at e
      subst e
      have ea : (⟨b, off, none⟩ : Addr).add j = ⟨b, off + j, none⟩ := by unfold Addr.add; split <;> simp_all
      rw [ea, hc, List.getD_eq_getElem?_getD, hu]; rfl
    obtain ⟨v', w', hr, ho, hg, _⟩ := run_append_own (P := Tryd.prog) w1 base 59 59 25 i0 (.pointer none) 1 8 Tryd.underlying59 hi hz0 hz1 hz2 rfl (by decide) _ 1 [v] hown a vs.length c vs (by simp) hnews h1 (by simp only [maxLen]; omega) (by omega) (by omega)
    refine ⟨v', w', hr, ?_, hB1.grown hg (by omega) (fun k hk => by simp [Value.ownBlock] at hk; omega)⟩
    rw [List.length_cons, Nat.add_comm]; exact ho
  | none =>
    have h0 : vs = [] := by
      cases vs with
      | nil => rfl
      | cons x xs => obtain ⟨b, off, e, _⟩ := hP 0 (by simp); cases e
    subst h0
    have hst := run_storeCells_at Tryd.prog w.heap.size (1 * i0.size) 25 [] 0 #[v] w1 hblk (by rw [hz1]; simp) (by simp)
    refine ⟨.slice (some ⟨w.heap.size, 0, none⟩) 1 1, w1.setRow w.heap.size #[v], ?_, ?_, ?_⟩
    · have hf : (Builtin.firstCells 1 0 (.slice none 0 c)).run Tryd.prog w1 = .ok #[] w1 := by simp [Builtin.firstCells]
      simp [hz1] at hst
      simp [Builtin.append_, run_underlying Tryd.underlying59, sizeOf, typeInfo, hi, Builtin.lenOf, hf, Addr.add_lit, hz1, hst]
    · refine ⟨rfl, .inr ⟨w.heap.size, 1, #[v], rfl, hbase, setRow_heap w1 _ #[v] _ _ _ hblk, Nat.le_refl _, by decide, rfl, rfl⟩⟩
    · exact hB1.trans ⟨rfl, rfl, rfl, by simp, fun k hk => setRow_other w1 _ k _ (by omega)⟩


/-- The hull's cells under way, or nil. -/
def HullD (w1 : World) (n : Nat) (o : Option Mat) (v : Value) (wr : World) : Prop := Below w1.heap.size w1 wr ∧ (match o with
  | none => v = .pointer none
  | some H => ∃ b g cap, v = .pointer (some ⟨b, 0, none⟩) ∧ w1.heap.size ≤ b ∧ b < g ∧ CellsAt wr b g cap n (widW H))
theorem HullD.step {w1 wr w' : World} {n : Nat} {o : Option Mat} {v : Value} (h : HullD w1 n o v wr) (hb : Below wr.heap.size wr w') : HullD w1 n o v w' := by
  refine ⟨h.1.trans (hb.mono h.1.size), ?_⟩
  cases o with
  | none => exact h.2
  | some H => obtain ⟨b, g, cap, e, h1, h2, hm⟩ := h.2; exact ⟨b, g, cap, e, h1, h2, hm.below hb⟩
theorem OkM.max {n : Nat} {a b : Mat} (h : OkM n a) (h' : OkM n b) : OkM n (maxF a b) := by
  refine ⟨fun i j hi hj => ?_, fun i hi => ?_, fun j hj => ?_⟩
  · have h1 := h.right i j hi hj
    have h2 := h'.right i j hi hj
    unfold maxF
    rw [Int.max_def]; split <;> assumption
  · have h1 := h.diag i hi
    have h2 := h'.diag i hi
    unfold maxF; omega
  · have h1 := h.top j hj
    have h2 := h'.top j hj
    unfold maxF; omega
theorem OkM.congr {n : Nat} {a b : Mat} (h : OkM n a) (hab : Agree n a b) : OkM n b := by
  refine ⟨fun i j hi hj => ?_, fun i hi => ?_, fun j hj => ?_⟩
  · rw [← hab i j hi hj]; exact h.right i j hi hj
  · rw [← hab i i hi hi]; exact h.diag i hi
  · rw [← hab 0 j (by omega) hj]; exact h.top j hj
theorem max_agree {n : Nat} {H m : Mat} : Agree n (maxF H m) (maxW n H (openW (some (n, m)))) := fun i j hi hj => by
  rw [maxW_in hi hj, open_agree n m i j hi hj]; rfl
theorem hull_ok {n : Nat} {ms : List Mat} (hk : ∀ j, j < ms.length → OkM n (ms.getD j fun _ _ => 0)) : ∀ p, p ≤ ms.length → ∀ H, hullUp n ms p = some H → OkM n H
  | 0, _, H, h => by cases h
  | p + 1, hp, H, h => by
    have hkp := hk p (by omega)
    unfold hullUp at h
    split at h
    · exact hull_ok hk p (by omega) H h
    · split at h
      · simp only [Option.some.injEq] at h; subst h
        exact hkp.congr fun i j hi hj => (open_agree n _ i j hi hj).symm
      · rename_i H' he
        simp only [Option.some.injEq] at h
        subst h
        exact ((hull_ok hk p (by omega) H' he).max hkp).congr max_agree
theorem wid_maxF {n : Nat} {a b : Mat} (h : OkM n a) (h' : OkM n b) : Agree n (fun i j => max (widW a i j) (widW b i j)) (widW (maxF a b)) := fun i j hi hj => by
  have h1 := (right_hi (h.right i j hi hj)).2
  have h2 := (right_hi (h'.right i j hi hj)).2
  show max (wid (a i j)) (wid (b i j)) = wid (max (a i j) (b i j))
  unfold wid none62
  rw [Int.max_def, Int.max_def]
  split <;> split <;> split <;> (try split) <;> omega
theorem widW_agree {n : Nat} {a b : Mat} (h : Agree n a b) : Agree n (widW a) (widW b) := fun i j hi hj => by
  unfold widW; rw [h i j hi hj]
/-- What the document's Hull answers. -/
def hullQ (n : Nat) (m : Mat) (ms : List Mat) : Option Mat × Int := match hullUp n (m :: ms) (m :: ms).length with
  | none => (some (fun _ _ => 0), 0)
  | some H => zoneP n (widW H)
theorem own_refs {w : World} {base : Nat} {e : TypeId} {v : Value} {vs : List Value} (h : w.ownsRow base e 1 v vs.length vs) : ∃ A cap, v = .slice A vs.length cap ∧ Ptrs w A vs := own_ptrs h

theorem hB3' {w w' wr : World} (h : Below w.heap.size w w') (h' : Below w'.heap.size w' wr) : w.heap.size ≤ wr.heap.size := Nat.le_trans h.size h'.size
set_option maxRecDepth 100000 in
set_option maxHeartbeats 4000000 in
theorem hull4_zones (v : Value) (n : Nat) (m : Mat) (A : Option Addr) (c : Nat) (vs : List Value) (zs : List (Option (Nat × Mat))) (w : World) (hz : RefZ w v (some (n, m))) (hv : RsV w A vs zs) (hl : vs.length ≤ 17592186044000) (he : alE n zs = 0)
    (hok : OkM n m) (hoks : ∀ j, j < (msOf zs).length → OkM n ((msOf zs).getD j fun _ _ => 0)) (hkd : ∀ j, j < (m :: msOf zs).length → ((m :: msOf zs).getD j fun _ _ => 0) 0 0 = 1 ∨ ((m :: msOf zs).getD j fun _ _ => 0) 0 0 < 1) :
    Calls Tryd.prog 36 #[v, .slice A vs.length c] w (MakesR w n (hullQ n m (msOf zs))) := by
  have HA := Lib.hid (nils4_gen v n m A c vs zs w hz hv (by omega))
  rw [he] at HA
  have HZ := Lib.hid hz
  have HLE := Lib.hid (show vs.length = (msOf zs).length by rw [msOf_length]; exact hv.2.1)
  have HZJ := Lib.hid (alE_zs he)
  obtain ⟨ms, hms⟩ : ∃ ms, ms = msOf zs := ⟨_, rfl⟩
  rw [← hms] at hoks HLE HZJ hkd
  have HMS := Lib.hid hms
  have HKD := Lib.hid hkd
  have hoks2 : ∀ j, j < (m :: ms).length → OkM n ((m :: ms).getD j fun _ _ => 0) := fun j hj => by
    cases j with
    | zero => exact hok
    | succ j => exact hoks j (by simpa using hj)
  have HOKS := Lib.hid hoks2
  have HHK := Lib.hid (hull_ok hoks2)
  have HDQ := Lib.hid (fun W (h : RefZ W v (some (n, m))) => show Calls _ _ _ W fun e w' => e = .returned (.int .i64 n) ∧ W = w' from rdim_any v _ W h)
  have hone : ∀ u ∈ vs, u.oneCell' = true := fun u hu => by
    obtain ⟨j, hj, e⟩ := List.getElem_of_mem hu
    have hr := hv.2.2 j (by rw [← hv.2.1]; exact hj)
    rw [List.getD_eq_getElem?_getD, List.getElem?_eq_getElem hj] at hr
    simp only [Option.getD_some] at hr
    rw [e] at hr
    cases hy : zs.getD j none with
    | none => rw [hy] at hr; have hr : u = .pointer none := hr; rw [hr]; rfl
    | some q => rw [hy] at hr; obtain ⟨a, b⟩ := q; obtain ⟨_, _, _, e2, _⟩ := hr; rw [e2]; rfl
  obtain ⟨b, gz, capz, rfl, hn, _⟩ := hz
  have HNO := Lib.hid (fun w' => nothing_any n w' hn)
  have hN81 : (n + 1) * (n + 1) ≤ 81 := by
    have := Nat.mul_le_mul (show n + 1 ≤ 9 by omega) (show n + 1 ≤ 9 by omega)
    omega
  obtain ⟨N, hN⟩ : ∃ N, N = (n + 1) * (n + 1) := ⟨_, rfl⟩
  rw [← hN] at hN81
  have HN := Lib.hid hN
  obtain ⟨wa, hwa⟩ : ∃ wa, wa = w.alloc (.cells #[.pointer (some ⟨b, 0, none⟩)] 25) := ⟨_, rfl⟩
  have hBa : Below w.heap.size w wa := by rw [hwa]; exact (Below.refl _ _).alloc (Nat.le_refl _) _
  obtain ⟨v', w', hrun, hown, hB'⟩ := append_refs w (.pointer (some ⟨b, 0, none⟩)) A c vs w.heap.size wa hwa (Nat.le_refl _) (hv.1.below hBa) hone hl rfl
  obtain ⟨A', cap', rfl, hP'⟩ := own_refs hown
  have HP := Lib.hid hP'
  have HB1 := Lib.hid hB'
  rw [hwa] at hrun
  have HZS := Lib.hid (show ∀ j, j < vs.length + 1 → RefZ w' ((.pointer (some ⟨b, 0, none⟩) :: vs : List Value).getD j (.pointer none)) (some (n, (m :: ms).getD j fun _ _ => 0)) from fun j hj => by
    cases j with
    | zero => exact HZ.out.below hB'
    | succ j =>
      have h1 := (hv.2.2 j (by rw [← hv.2.1]; omega)).below hB'
      rw [HZJ.out j (by rw [← hv.2.1]; omega)] at h1
      exact h1)
  rw [show (.pointer (some ⟨b, 0, none⟩) :: vs : List Value).length = vs.length + 1 from rfl] at hrun
  have HS := Lib.hid (show HullD w' n (hullUp n (m :: ms) 0) (.pointer none) w' from ⟨Below.refl _ _, rfl⟩)
  clear hv hone hwa hBa hown hP' hB' hN hoks hoks2 hkd hms he hok
  go_enter Tryd.func36, Tryd.ntmps36
  go_wp2_with fail
  refine HA.out.mono ?_
  rintro e w1 ⟨rfl, rfl⟩
  go_wp2_with (at_builtin; refine wpList_append_run rfl _ _ 59 rfl _ _ _ w' rfl rfl hrun ?_)
  clear hrun
  go_wp2
  go_loopg [8, 9] (vs.length + 1) (fun g v x wr => ∃ p : Nat, x = .int .i64 p ∧ Hid (HullD w' n (hullUp n (m :: ms) p) v wr) ∧ Hid (p ≤ vs.length + 1 ∧ g + p = vs.length + 1))
  case atStart => exact ⟨0, by simp, HS.out, by omega, by omega⟩
  case round =>
    clear HS
    obtain ⟨p, rfl, HR, HG⟩ := hrel
    by_cases hp : p < vs.length + 1
    · have hpi : (p : Int) < (vs.length : Int) + 1 := by omega
      obtain ⟨b', off, rfl, c1⟩ := (HP.out.below HR.out.1) p (by simpa using hp)
      have hzp := (HZS.out p hp).below HR.out.1
      obtain ⟨my, hmy⟩ : ∃ my, my = (m :: ms).getD p fun _ _ => 0 := ⟨_, rfl⟩
      rw [← hmy] at hzp
      obtain ⟨u, hu⟩ : ∃ u, u = (.pointer (some ⟨b, 0, none⟩) :: vs : List Value).getD p (.pointer none) := ⟨_, rfl⟩
      rw [← hu] at c1 hzp
      have HZP := Lib.hid hzp
      have hplt : p < (m :: ms).length := by rw [List.length_cons, ← HLE.out]; exact hp
      have hkp := HKD.out p hplt
      rw [← hmy] at hkp
      have HMY := Lib.hid hmy.symm
      have HPL := Lib.hid hplt
      obtain ⟨by', gy, capy, rfl, _⟩ := hzp
      clear hmy hu hplt
      go_wp2_with fail
      refine (rempty_any _ _ _ HZP.out).mono ?_
      by_cases hem : my 0 0 < 1
      · rw [show emptyR (some (n, my)) = true from decide_eq_true (by omega)]
        have HUP := Lib.hid (hullUp_skip (n := n) HMY.out hem)
        clear hem hkp
        rintro e w3 ⟨rfl, rfl⟩
        go_wp2
        go_roundg (gk - 1)
        case measure => have h := HG.out; omega
        case rel => exact ⟨p + 1, by go_num, by rw [HUP.out]; exact HR.out, by omega, by have h := HG.out; omega⟩
      · rw [show emptyR (some (n, my)) = false from decide_eq_false (fun h => by rcases hkp with e | e; exact h e; exact hem e)]
        have HEM := Lib.hid hem
        clear hem hkp
        rintro e w3 ⟨rfl, rfl⟩
        go_wp2_with fail
        refine (open4_any _ n my _ HZP.out).mono ?_
        rintro e w2 ⟨g2, cap2, rfl, hb, hg2, hc2⟩
        have HR2 := Lib.hid (HR.out.step hb)
        have HC2 := Lib.hid (show CellsAt w2 wr.heap.size g2 cap2 n (widW my) from hc2)
        have h1 := HR.out.2
        have h2 := HR2.out.2
        have HOB := Lib.hid (And.intro HR.out.1.size hg2)
        cases hu : hullUp n (m :: ms) p with
        | none =>
          rw [hu] at h2
          have hvv : _ = Value.pointer none := h2
          subst hvv
          have HUP := Lib.hid (hullUp_first (n := n) HMY.out (by have := HEM.out; omega) hu)
          have HN2 := Lib.hid (show HullD w' n (hullUp n (m :: ms) (p + 1)) (.pointer (some ⟨wr.heap.size, 0, none⟩)) w2 from ⟨HR2.out.1, by
            rw [HUP.out]
            exact ⟨wr.heap.size, g2, cap2, rfl, HOB.out.1, HOB.out.2, HC2.out.congr (widW_agree fun i j hi hj => (open_agree n my i j hi hj).symm)⟩⟩)
          clear hu h1 h2 hb hg2 hc2 HR2 HR
          go_wp2
          go_roundg (gk - 1)
          case measure => have h := HG.out; omega
          case rel => exact ⟨p + 1, by go_num, HN2.out, by omega, by have h := HG.out; omega⟩
        | some H =>
          rw [hu] at h1 h2
          obtain ⟨bc, g, cap, rfl, hbc, hbg, hcc⟩ := h2
          have hglt : g < wr.heap.size := by
            obtain ⟨bc', g', cap'', e', _, _, hc'⟩ := h1
            simp only [Value.pointer.injEq, Option.some.injEq, Addr.mk.injEq] at e'
            obtain ⟨rfl, _⟩ := e'
            have k1 := hc'.below hb
            have e2 := k1.2.1
            rw [hcc.2.1] at e2
            simp only [Option.some.injEq, Value.slice.injEq, Addr.mk.injEq] at e2
            obtain ⟨⟨rfl, _⟩, _⟩ := e2
            exact hc'.2.2.lt
          have HUP := Lib.hid (hullUp_more (n := n) HMY.out (by have := HEM.out; omega) hu)
          have HHO := Lib.hid (HHK.out p (by have := HPL.out; omega) H hu)
          have HNE := Lib.hid (show wr.heap.size ≠ g ∧ g2 ≠ g ∧ bc ≠ g by omega)
          have HBC := Lib.hid (And.intro hbc hbg)
          obtain ⟨ob, hob⟩ : ∃ ob, ob = wr.heap.size := ⟨_, rfl⟩
          obtain ⟨X, hX⟩ : ∃ X, X = widW H := ⟨_, rfl⟩
          obtain ⟨V, hVV⟩ : ∃ V, V = widW my := ⟨_, rfl⟩
          rw [← hX] at hcc
          rw [← hob, ← hVV] at HC2
          have HS2 := Lib.hid (show (Below w'.heap.size w' w2 ∧ CellsAt w2 bc g cap n (linF max n X V 0)) ∧ CellsAt w2 ob g2 cap2 n V by rw [lin_zero]; exact ⟨⟨HR2.out.1, hcc⟩, HC2.out⟩)
          rw [← hob] at HNE ⊢
          have HXV := Lib.hid (And.intro hX hVV)
          clear hu h1 hb hg2 hc2 hglt hob hX hVV HR HR2 HC2 hcc hbc hbg c1
          go_wp2
          go_loopg [11] N (fun q v wr => ∃ t : Nat, v = .int .i64 t ∧ Hid ((Below w'.heap.size w' wr ∧ CellsAt wr bc g cap n (linF max n X V t)) ∧ CellsAt wr ob g2 cap2 n V) ∧ Hid (t ≤ N ∧ q + t = N))
          case atStart => exact ⟨0, by simp, HS2.out, by omega, by omega⟩
          case round =>
            clear HS2
            obtain ⟨t, rfl, HT, HGT⟩ := hrel
            have k1 := HT.out.1.2.2.1
            rw [← HN.out] at k1
            have k2 := HT.out.2.2.1
            rw [← HN.out] at k2
            by_cases ht : t < N
            · have hti : (t : Int) < (N : Int) := by omega
              have d1 := HT.out.1.2.2.2.cell t (by rw [flat_length, ← HN.out]; exact ht)
              have d2 := HT.out.2.2.2.cell t (by rw [flat_length, ← HN.out]; exact ht)
              have f1 := HT.out.1.2.2.2.frozen t
              rw [lin_here _ _ _ _ _ (by rw [← HN.out]; exact ht)] at d1
              rw [flat_getD _ _ _ (by rw [← HN.out]; exact ht)] at d2
              have HSET := Lib.hid (lin_set max n X V t (by rw [← HN.out]; exact ht))
              have HSAME := Lib.hid (lin_same max n X V t (by rw [← HN.out]; exact ht))
              obtain ⟨x, hx⟩ : ∃ x, x = X (t / (n + 1)) (t % (n + 1)) := ⟨_, rfl⟩
              obtain ⟨y, hy⟩ : ∃ y, y = V (t / (n + 1)) (t % (n + 1)) := ⟨_, rfl⟩
              rw [← hx] at d1
              rw [← hy] at d2
              rw [← hx, ← hy] at HSET HSAME
              have hglt := HT.out.1.2.2.2.lt
              clear hx hy
              by_cases hlt : x < y
              · have t1 : decide (x < y) = true := decide_eq_true hlt
                have HLT := Lib.hid hlt
                clear hlt
                go_wp2_with fail
                go_quiet (fail)
                go_wp2_with fail
                go_region
                have HST := Lib.hid (show ∀ wx, Only g wr wx → RowAt wx g 2 .i64 (flat n (linF max n X V (t + 1))) → (Below w'.heap.size w' wx ∧ CellsAt wx bc g cap n (linF max n X V (t + 1))) ∧ CellsAt wx ob g2 cap2 n V from fun wx ho hr =>
                  ⟨⟨HT.out.1.1.trans (ho.below (by have := HBC.out; omega) HT.out.1.1.size), HT.out.1.2.only ho HNE.out.2.2 hr⟩, HT.out.2.other ho HNE.out.1 HNE.out.2.1⟩)
                have HRW := Lib.hid (show RowAt (wr.setCell ⟨g, t, none⟩ (.int .i64 y)) g 2 .i64 (flat n (linF max n X V (t + 1))) by
                  have := HT.out.1.2.2.2.set t y
                  rw [show y = max x y by have := HLT.out; omega, HSET.out] at this
                  rw [show y = max x y by have := HLT.out; omega]
                  exact this)
                go_wp2
                go_roundg (gk - 1)
                case measure => have h := HGT.out; omega
                case rel => exact ⟨t + 1, by go_num, HST.out _ (by first | exact ((Only.refl _ _).setCell _ _).drew | exact (((Only.refl _ _).drewN _).setCell _ _).drew | exact (((Only.refl _ _).setCell _ _).drewN _)) (by exact HRW.out), by omega, by have h := HGT.out; omega⟩
              · have t1 : decide (x < y) = false := decide_eq_false hlt
                have HLT := Lib.hid hlt
                clear hlt
                go_wp2_with fail
                go_quiet (fail)
                have HN3 := Lib.hid (show (Below w'.heap.size w' (wr.drewN nq) ∧ CellsAt (wr.drewN nq) bc g cap n (linF max n X V (t + 1))) ∧ CellsAt (wr.drewN nq) ob g2 cap2 n V by
                  rw [HSAME.out (by have := HLT.out; omega)]
                  exact ⟨⟨belowN HT.out.1.1 _, HT.out.1.2.drewN _⟩, HT.out.2.drewN _⟩)
                go_wp2
                go_roundg (gk - 1)
                case measure => have h := HGT.out; omega
                case rel => exact ⟨t + 1, by go_num, HN3.out, by omega, by have h := HGT.out; omega⟩
            · have e : t = N := by have := HGT.out.1; omega
              subst e
              have HN4 := Lib.hid (show HullD w' n (hullUp n (m :: ms) (p + 1)) (.pointer (some ⟨bc, 0, none⟩)) wr from ⟨HT.out.1.1, by
                rw [HUP.out]
                refine ⟨bc, g, cap, rfl, HBC.out.1, HBC.out.2, HT.out.1.2.congr fun i j hi hj => ?_⟩
                have h1 := lin_full max n X V i j hi hj
                rw [HN.out, h1, HXV.out.1, HXV.out.2]
                have hoky := HOKS.out p HPL.out
                rw [HMY.out] at hoky
                have := wid_maxF HHO.out hoky i j hi hj
                rw [← widW_agree (max_agree (H := H) (m := my)) i j hi hj]
                exact this⟩)
              go_wp2
              go_roundg (vs.length - p)
              case measure => have h := HG.out; omega
              case rel => exact ⟨p + 1, by go_num, HN4.out, by omega, by omega⟩
    · have e : p = vs.length + 1 := by have := HG.out.1; omega
      subst e
      have hpi : ¬ (((vs.length + 1 : Nat) : Int) < (vs.length : Int) + 1) := by omega
      have HBW := Lib.hid (HB1.out.trans (HR.out.1.mono HB1.out.size))
      have hlen : (m :: ms).length = vs.length + 1 := by rw [List.length_cons, HLE.out]
      have h2 := HR.out.2
      cases hu : hullUp n (m :: ms) (vs.length + 1) with
      | none =>
        rw [hu] at h2
        have hvv : _ = Value.pointer none := h2
        subst hvv
        have HE := Lib.hid (show hullQ n m ms = (some (fun _ _ => 0), 0) by unfold hullQ; rw [hlen, hu])
        have HZW := Lib.hid (HZ.out.below HBW.out)
        clear hu h2 hlen
        go_wp2_with fail
        refine (HDQ.out _ HZW.out).mono ?_
        rintro e w2 ⟨rfl, rfl⟩
        go_wp2_with fail
        refine (HNO.out _).mono ?_
        rintro e w2 ⟨v, rfl, hb, hv⟩
        have HB := Lib.hid (HBW.out.trans (hb.mono HBW.out.size))
        have HV2 := Lib.hid hv
        clear hb hv
        go_wp2
        go_ret2
        rw [← HMS.out, HE.out]
        exact ⟨HB.out, v, rfl, HV2.out⟩
      | some H =>
        rw [hu] at h2
        obtain ⟨bc, g, cap, rfl, hbc, hbg, hcc⟩ := h2
        have hokH := HHK.out (vs.length + 1) (by rw [hlen]; exact Nat.le_refl _) H hu
        have HE := Lib.hid (show hullQ n m ms = zoneP n (widW H) by unfold hullQ; rw [hlen, hu])
        have hB2 := hB3' HB1.out HR.out.1
        have HSH := Lib.hid (shut4_any bc g cap n (widW H) wr hn (by omega) hcc hokH.fit hokH.wtop w.heap.size (by have := HB1.out.size; omega) hB2)
        clear hu hlen hcc hbc hbg hokH hB2
        go_wp2_with fail
        refine HSH.out.mono ?_
        rintro e w2 ⟨hb, v, rfl, hv⟩
        have HB3 := Lib.hid (HBW.out.trans hb)
        have HV2 := Lib.hid hv
        clear hb hv
        go_wp2
        go_ret2
        rw [← HMS.out, HE.out]
        exact ⟨HB3.out, v, rfl, HV2.out⟩

end Go.Proofs.YtidcnlecgcobmaaDoor

/- And, Hull: the program's answers are the document's: plain. -/
namespace Go.Proofs.YtidcnlecgcobmaaDoor
set_option linter.unusedVariables false
set_option linter.unusedSimpArgs false

/-- Zones that Of made, or nil. -/
def KindZs (zs : List (Option (Nat × Mat))) : Prop := ∀ j, j < zs.length → ∀ k m, zs.getD j none = some (k, m) → k ≤ 8 ∧ (m = (fun _ _ => 0) ∨ FullZ k m)
theorem kinds_ok {n : Nat} {m : Mat} (h : m = (fun _ _ => 0) ∨ FullZ n m) : OkM n m := by
  rcases h with rfl | h
  · exact zero_ok n
  · exact h.ok
theorem kinds_ms {n : Nat} {zs : List (Option (Nat × Mat))} (h : KindZs zs) (he : alE n zs = 0) : ∀ j, j < (msOf zs).length → ((msOf zs).getD j fun _ _ => 0) = (fun _ _ => 0) ∨ FullZ n ((msOf zs).getD j fun _ _ => 0) := fun j hj => by
  rw [msOf_length] at hj
  exact (h j hj n _ (alE_zs he j hj)).2
theorem and_agree {n : Nat} {m : Mat} {ms : List Mat} : ∀ p, Agree n (andUp n (openW (some (n, m))) ms p) (andM m ms p)
  | 0 => open_agree n m
  | p + 1 => fun i j hi hj => by
    rw [andUp, minW_in hi hj, and_agree p i j hi hj, open_agree n _ i j hi hj]
    rfl
theorem andM_le (m : Mat) (ms : List Mat) (i j : Nat) : ∀ p, andM m ms p i j ≤ m i j ∧ ∀ q, q < p → andM m ms p i j ≤ (ms.getD q fun _ _ => 0) i j
  | 0 => ⟨Int.le_refl _, fun q hq => by omega⟩
  | p + 1 => by
    obtain ⟨h1, h2⟩ := andM_le m ms i j p
    unfold andM minF
    refine ⟨by omega, fun q hq => ?_⟩
    by_cases e : q = p
    · subst e; omega
    · have := h2 q (by omega); omega
theorem and_same {n : Nat} {m : Mat} {ms : List Mat} (hn : n ≤ 8) (hm : m = (fun _ _ => 0) ∨ FullZ n m) (hk : ∀ j, j < ms.length → (ms.getD j fun _ _ => 0) = (fun _ _ => 0) ∨ FullZ n (ms.getD j fun _ _ => 0)) :
    ofP n (flat n (andUp n (openW (some (n, m))) ms ms.length)) = andQ n m ms := by
  have hok := (kinds_ok hm).andM (fun j hj => kinds_ok (hk j hj)) ms.length (Nat.le_refl _)
  rw [flat_congr (and_agree ms.length), ofP_wid hn hok]
  unfold andQ
  split
  · rfl
  · rename_i h
    refine zoneP_low ?_
    obtain ⟨h1, h2⟩ := andM_le m ms 0 0 ms.length
    have hlow : andM m ms ms.length 0 0 < 1 := by
      rcases hm with rfl | hm
      · have h1' : andM (fun _ _ => 0) ms ms.length 0 0 ≤ (0 : Int) := h1
        omega
      · have hm1 := hm.one 0 (by omega)
        by_cases hall : ∀ j, j < ms.length → (ms.getD j fun _ _ => 0) 0 0 = 1
        · exact absurd ⟨hm1, hall⟩ h
        · obtain ⟨j, hj⟩ := Classical.not_forall.1 hall
          obtain ⟨hj1, hj2⟩ := Classical.not_imp.1 hj
          rcases hk j hj1 with e | e
          · have := h2 j hj1
            rw [e] at this
            have this2 : andM m ms ms.length 0 0 ≤ (0 : Int) := this
            omega
          · exact absurd (e.one 0 (by omega)) hj2
    unfold widW wid
    rw [if_neg (by omega)]; exact hlow
theorem hull_same {n : Nat} {m : Mat} {ms : List Mat} (hn : n ≤ 8) (hm : m = (fun _ _ => 0) ∨ FullZ n m) (hk : ∀ j, j < ms.length → (ms.getD j fun _ _ => 0) = (fun _ _ => 0) ∨ FullZ n (ms.getD j fun _ _ => 0)) : hullA n m ms = hullQ n m ms := by
  have hoks : ∀ j, j < (m :: ms).length → OkM n ((m :: ms).getD j fun _ _ => 0) := fun j hj => by
    cases j with
    | zero => exact kinds_ok hm
    | succ j => exact kinds_ok (hk j (by simpa using hj))
  unfold hullA hullQ
  cases hu : hullUp n (m :: ms) (m :: ms).length with
  | none =>
    simp only
    have hlow : ∀ p, hullUp n (m :: ms) p = none → ∀ q, q < p → ((m :: ms).getD q fun _ _ => 0) 0 0 < 1 := by
      intro p
      induction p with
      | zero => intro _ q hq; omega
      | succ p ih =>
        intro h q hq
        unfold hullUp at h
        split at h
        · rename_i h0
          by_cases e : q = p
          · subst e; exact h0
          · exact ih h q (by omega)
        · split at h <;> cases h
    have h0 := hlow _ hu 0 (by simp)
    have hm0 : m = (fun _ _ => 0) := by
      rcases hm with h | h
      · exact h
      · have := h.one 0 (by omega)
        have h0 : m 0 0 < 1 := h0
        omega
    subst hm0
    exact ofP_zero n hn
  | some H =>
    simp only
    rw [ofP_wid hn (hull_ok hoks _ (Nat.le_refl _) H hu)]
theorem kinds_dia {n : Nat} {m : Mat} {ms : List Mat} (hm : m = (fun _ _ => 0) ∨ FullZ n m) (hk : ∀ j, j < ms.length → (ms.getD j fun _ _ => 0) = (fun _ _ => 0) ∨ FullZ n (ms.getD j fun _ _ => 0)) :
    ∀ j, j < (m :: ms).length → ((m :: ms).getD j fun _ _ => 0) 0 0 = 1 ∨ ((m :: ms).getD j fun _ _ => 0) 0 0 < 1 := fun j hj => by
  have h : ((m :: ms).getD j fun _ _ => 0) = (fun _ _ => 0) ∨ FullZ n ((m :: ms).getD j fun _ _ => 0) := by
    cases j with
    | zero => exact hm
    | succ j => exact hk j (by simpa using hj)
  rcases h with h | h
  · right; rw [h]; decide
  · left; exact h.one 0 (by omega)

end Go.Proofs.YtidcnlecgcobmaaDoor

/- And, Hull of the program and of the document, of zones of whatever kind. -/
namespace Go.Proofs.YtidcnlecgcobmaaDoor
open Go Go.RowKit
set_option linter.unusedVariables false
set_option linter.unusedSimpArgs false

theorem and4_nil (l : Value) (w : World) : Calls Tryd.prog 35 #[.pointer none, l] w fun e w' => e = .returned (.tuple #[.pointer none, .int .i64 1]) ∧ Below w.heap.size w w' := by
  have HA := Lib.hid (show Calls Tryd.prog 87 #[.pointer none, l] w fun e w' => e = .returned (.int .i64 1) ∧ w = w' by
    go_enter Tryd.func87, Tryd.ntmps87
    go_wp2
    go_ret
    exact ⟨rfl, rfl⟩)
  go_enter Tryd.func35, Tryd.ntmps35
  go_wp2_with fail
  refine HA.out.mono ?_
  rintro e w1 ⟨rfl, rfl⟩
  go_wp2
  go_ret2
  exact ⟨rfl, Below.refl _ _⟩
theorem hull4_nil (l : Value) (w : World) : Calls Tryd.prog 36 #[.pointer none, l] w fun e w' => e = .returned (.tuple #[.pointer none, .int .i64 1]) ∧ Below w.heap.size w w' := by
  have HA := Lib.hid (show Calls Tryd.prog 87 #[.pointer none, l] w fun e w' => e = .returned (.int .i64 1) ∧ w = w' by
    go_enter Tryd.func87, Tryd.ntmps87
    go_wp2
    go_ret
    exact ⟨rfl, rfl⟩)
  go_enter Tryd.func36, Tryd.ntmps36
  go_wp2_with fail
  refine HA.out.mono ?_
  rintro e w1 ⟨rfl, rfl⟩
  go_wp2
  go_ret2
  exact ⟨rfl, Below.refl _ _⟩
set_option maxHeartbeats 1000000 in
theorem and4_err (v : Value) (k : Nat) (m : Mat) (A : Option Addr) (c : Nat) (vs : List Value) (zs : List (Option (Nat × Mat))) (w : World) (hz : RefZ w v (some (k, m))) (hv : RsV w A vs zs) (hl : vs.length ≤ 4611686018427387904) (he : alE k zs ≠ 0) :
    Calls Tryd.prog 35 #[v, .slice A vs.length c] w fun e w' => e = .returned (.tuple #[.pointer none, .int .i64 (alE k zs)]) ∧ Below w.heap.size w w' := by
  have HA := Lib.hid (nils4_gen v k m A c vs zs w hz hv hl)
  generalize alE k zs = e0 at *
  have t1 : (e0 != 0) = true := by simp [he]
  clear hz hv he
  go_enter Tryd.func35, Tryd.ntmps35
  go_wp2_with fail
  refine HA.out.mono ?_
  rintro e w1 ⟨rfl, rfl⟩
  go_wp2
  go_ret2
  exact ⟨rfl, Below.refl _ _⟩
set_option maxHeartbeats 1000000 in
theorem hull4_err (v : Value) (k : Nat) (m : Mat) (A : Option Addr) (c : Nat) (vs : List Value) (zs : List (Option (Nat × Mat))) (w : World) (hz : RefZ w v (some (k, m))) (hv : RsV w A vs zs) (hl : vs.length ≤ 4611686018427387904) (he : alE k zs ≠ 0) :
    Calls Tryd.prog 36 #[v, .slice A vs.length c] w fun e w' => e = .returned (.tuple #[.pointer none, .int .i64 (alE k zs)]) ∧ Below w.heap.size w w' := by
  have HA := Lib.hid (nils4_gen v k m A c vs zs w hz hv hl)
  generalize alE k zs = e0 at *
  have t1 : (e0 != 0) = true := by simp [he]
  clear hz hv he
  go_enter Tryd.func36, Tryd.ntmps36
  go_wp2_with fail
  refine HA.out.mono ?_
  rintro e w1 ⟨rfl, rfl⟩
  go_wp2
  go_ret2
  exact ⟨rfl, Below.refl _ _⟩
theorem and4_any (v : Value) (z : Option (Nat × Mat)) (A : Option Addr) (c : Nat) (vs : List Value) (zs : List (Option (Nat × Mat))) (w : World) (hz : RefZ w v z) (hv : RsV w A vs zs) (hl : vs.length ≤ 17592186044000) (hk : KindZ z) (hks : KindZs zs) :
    Calls Tryd.prog 35 #[v, .slice A vs.length c] w (MakesR w (dimN z) (andA z zs)) := by
  cases z with
  | none =>
    have h : v = .pointer none := hz
    subst h
    exact (and4_nil _ w).mono fun e w' ⟨he, hw⟩ => ⟨hw, .pointer none, he, rfl⟩
  | some q =>
    obtain ⟨k, m⟩ := q
    obtain ⟨hn, hm⟩ := hk k m rfl
    show Calls _ _ _ w (MakesR w k (if alE k zs = 0 then ofP k (flat k (andUp k (openW (some (k, m))) (msOf zs) (msOf zs).length)) else (none, alE k zs)))
    by_cases he : alE k zs = 0
    · rw [if_pos he, and_same hn hm (kinds_ms hks he)]
      exact and4_zones v k m A c vs zs w hz hv (by omega) he (kinds_ok hm) (fun j hj => kinds_ok (kinds_ms hks he j hj))
    · rw [if_neg he]
      exact (and4_err v k m A c vs zs w hz hv (by omega) he).mono fun e w' ⟨h1, h2⟩ => ⟨h2, .pointer none, h1, rfl⟩
theorem hull4_any (v : Value) (z : Option (Nat × Mat)) (A : Option Addr) (c : Nat) (vs : List Value) (zs : List (Option (Nat × Mat))) (w : World) (hz : RefZ w v z) (hv : RsV w A vs zs) (hl : vs.length ≤ 17592186044000) (hk : KindZ z) (hks : KindZs zs) :
    Calls Tryd.prog 36 #[v, .slice A vs.length c] w (MakesR w (dimN z) (hullZ z zs)) := by
  cases z with
  | none =>
    have h : v = .pointer none := hz
    subst h
    exact (hull4_nil _ w).mono fun e w' ⟨he, hw⟩ => ⟨hw, .pointer none, he, rfl⟩
  | some q =>
    obtain ⟨k, m⟩ := q
    obtain ⟨hn, hm⟩ := hk k m rfl
    show Calls _ _ _ w (MakesR w k (if alE k zs = 0 then hullA k m (msOf zs) else (none, alE k zs)))
    by_cases he : alE k zs = 0
    · rw [if_pos he, hull_same hn hm (kinds_ms hks he)]
      exact hull4_zones v k m A c vs zs w hz hv hl he (kinds_ok hm) (fun j hj => kinds_ok (kinds_ms hks he j hj)) (kinds_dia hm (kinds_ms hks he))
    · rw [if_neg he]
      exact (hull4_err v k m A c vs zs w hz hv (by omega) he).mono fun e w' ⟨h1, h2⟩ => ⟨h2, .pointer none, h1, rfl⟩

end Go.Proofs.YtidcnlecgcobmaaDoor

/- A slice of matrices that came in: a number, and a row of numbers. -/
namespace Go.Proofs.YtidcnlecgcobmaaDoor
open Go Go.ChangeShapes Go.WideShapes Go.ChangeAt Go.RowKit
set_option linter.unusedVariables false
set_option linter.unusedSimpArgs false

/-- A slice of matrices that can be read: two cells each. -/
def ZnsI (w : World) (A : Option Addr) (ls : List (Int × List Int)) : Prop :=
  ∀ j, j < ls.length → ∃ b off A' c', A = some ⟨b, off, none⟩ ∧ w.cell? ⟨b, off + j * 2, none⟩ = some (.int .i64 (ls.getD j (0, [])).1) ∧ w.cell? ⟨b, off + j * 2 + 1, none⟩ = some (.slice A' (ls.getD j (0, [])).2.length c') ∧ Ints w .i32 A' (ls.getD j (0, [])).2
theorem ZnsI.below {w w' : World} {A : Option Addr} {ls : List (Int × List Int)} (h : ZnsI w A ls) (hb : Below w.heap.size w w') : ZnsI w' A ls := fun j hj => by
  obtain ⟨b, off, A', c', e, hc, hd, hi⟩ := h j hj
  exact ⟨b, off, A', c', e, (hb.cell (p := ⟨b, _, none⟩) (World.block_lt_of_cell? w _ hc)).trans hc, (hb.cell (p := ⟨b, _, none⟩) (World.block_lt_of_cell? w _ hd)).trans hd, hi.below hb⟩
section
variable {H : Type} {enc : TypeId × Value → H} {P : Program} {W W' : World}
theorem came_zones {t e f : TypeId} {f0 f1 : Field} {v : Value} {d : DataW H} {ps : List MemPlace} {r : Reach} {base : Nat} (ht : P.underlying t = some (.slice e)) (he : P.underlying e = some (.struct #[f0, f1])) (k0 : P.underlying f0.type = some (.int .i64)) (k1 : P.underlying f1.type = some (.slice f))
    (hf : P.underlying f = some (.int .i32)) (hone : Deep.oneCellFields P #[f0, f1] = true) (hce : P.cellsOf e = 2) (hcf : P.cellsOf f = 1)
    (hval : Value.okWide P W r base t v) (h : DataW.Trod enc P W 0 (fun _ => true) true t v d ps) :
    ∃ A c ls, v = .slice A ls.length c ∧ ZnsI W A ls ∧ (∀ j, j < ls.length → (∀ n ∈ (ls.getD j (0, [])).2, (Lit.int .i32 n).wf = true) ∧ (ls.getD j (0, [])).2.length ≤ 9223372036854775807) ∧ (ls = [] ∨ ∃ el sp, d = .slice el sp ∧ el.length = ls.length) := by
  obtain ⟨a0, len, cap, rfl⟩ := okWide_slice ht hval
  obtain ⟨fuel, hfu⟩ := h
  rcases Deep.open_slice ht hfu with ⟨hcs, hx⟩ | ⟨a, len', cap', m, n, D, Pl, hcs, _, hle, _, hmm, hx, hi⟩
  · simp [Value.cells] at hcs
    obtain ⟨rfl, rfl, rfl⟩ := hcs
    exact ⟨none, 0, [], rfl, fun j hj => by simp at hj, by simp, .inl rfl⟩
  · simp [Value.cells] at hcs
    obtain ⟨rfl, rfl, rfl⟩ := hcs
    have hlm : len ≤ m := by rw [hmm]; split <;> omega
    have each : ∀ i, i < m → ∃ q : Int × List Int, ∃ A' c', W.cell? (a.add (i * 2)) = some (.int .i64 q.1) ∧ W.cell? (a.add (i * 2 + 1)) = some (.slice A' q.2.length c') ∧ Ints W .i32 A' q.2 ∧ (∀ n ∈ q.2, (Lit.int .i32 n).wf = true) ∧ q.2.length ≤ 9223372036854775807 := by
      intro i him
      obtain ⟨cs', h1, h2⟩ := hi i him
      rw [hce] at h1
      obtain ⟨_, hlen, hcell⟩ := World.cells?_some h1
      obtain ⟨xs, k, _, hxy, _, hxl, hfd⟩ := DataW.trod_struct he h2
      obtain ⟨o0, c0⟩ := Deep.hone_of hone 0 f0 rfl
      obtain ⟨o1, c1⟩ := Deep.hone_of hone 1 f1 rfl
      match xs, hxl, cs', hlen with
      | [y0, y1], _, [v0, v1], _ =>
        have g0 := hfd 0 f0 rfl
        have g1 := hfd 1 f1 rfl
        simp [o0, o1, c0, c1] at g0 g1
        have e0 := hcell 0 (by omega)
        have e1 := hcell 1 (by omega)
        rw [Deep.add_add] at e0 e1
        obtain ⟨z0, q0, _, w0⟩ := DataW.trod_int k0 g0
        simp at q0
        subst q0
        rcases open_ints k1 hf hcf g1 with ⟨hc2, _⟩ | ⟨a2, len2, cap2, zs, hc2, _, hle2, hmax2, hall2, _, hcell2, hwf2⟩
        · simp only [List.cons.injEq, and_true] at hc2
          subst hc2
          exact ⟨(z0, []), none, 0, by simpa using e0, by simpa using e1, fun j hj => by simp at hj, by simp, by simp⟩
        · simp only [List.cons.injEq, and_true] at hc2
          subst hc2
          have hz : zs.length = cap2 := by simpa using hall2
          refine ⟨(z0, zs.take len2), some a2, cap2, by simpa using e0, ?_, ?_, fun n hn => hwf2 n (List.mem_of_mem_take hn), by simp only [List.length_take]; simp only [maxLen] at hmax2; omega⟩
          · have e1' : W.cell? (a.add (i * 2 + 1)) = some (.slice (some a2) len2 cap2) := by simpa using e1
            rw [e1']
            congr 2
            simp only [List.length_take]
            omega
          · intro j hj
            simp only [List.length_take] at hj
            obtain ⟨b, off, rfl, hcell'⟩ := ints_at hcell2 (by omega)
            refine ⟨b, off, rfl, ?_⟩
            rw [hcell' j (by omega)]
            congr 2
            simp [List.getD_eq_getElem?_getD, List.getElem?_take, show j < len2 by omega]
    obtain ⟨X, hX⟩ := Deep.choose_lt each
    simp only [Prod.mk.injEq] at hx
    have eg : ∀ j, j < len → ((List.range len).map X).getD j (0, []) = X j := fun j hj => by simp [List.getD_eq_getElem?_getD, hj]
    refine ⟨some a, cap, (List.range len).map X, by simp, ?_, ?_, .inr ⟨_, _, hx.1, by simp⟩⟩
    · intro j hj
      simp only [List.length_map, List.length_range] at hj
      obtain ⟨A', c', h0, h1, hI, _⟩ := hX j (by omega)
      have hsp : a.spot = none := by
        obtain ⟨_, _, h00, _⟩ := hX 0 (by omega)
        have := World.cell?_spot h00
        simpa [Addr.add] using this
      obtain ⟨b, off, spot⟩ := a
      simp only at hsp
      subst hsp
      have ea : ∀ k, (⟨b, off, none⟩ : Addr).add k = ⟨b, off + k, none⟩ := fun k => by unfold Addr.add; split <;> simp_all
      rw [ea] at h0 h1
      rw [eg j hj]
      exact ⟨b, off, A', c', rfl, h0, by rw [Nat.add_assoc]; exact h1, hI⟩
    · intro j hj
      simp only [List.length_map, List.length_range] at hj
      obtain ⟨A', c', _, _, _, h1, h2⟩ := hX j (by omega)
      rw [eg j hj]
      exact ⟨h1, h2⟩
theorem came_shortZ {ts : List TypeId} {ds : List (DataW H)} {j : Nat} {t e : TypeId} {d : DataW H} {ls : List (Int × List Int)} {m : Nat} (hsz : (DataW.weightsEach P ts ds).all (· ≤ reachBytes) = true) (ht : ts[j]? = some t) (hd : ds[j]? = some d)
    (hu : P.underlying t = some (.slice e)) (hm : P.bytesOf e = m) (h : ls = [] ∨ ∃ el sp, d = .slice el sp ∧ el.length = ls.length) : ls.length * m ≤ 140737488351232 := by
  rcases h with rfl | ⟨el, sp, rfl, he⟩
  · simp
  · have h1 := sized_slice hsz ht hd hu
    rw [hm] at h1
    have h2 : el.length * m ≤ (el.length + sp.length) * m := Nat.mul_le_mul_right _ (by omega)
    rw [← he]
    exact Nat.le_trans h2 h1
theorem came_zones32 {ls : List (Int × List Int)} (h : ∀ j, j < ls.length → (∀ n ∈ (ls.getD j (0, [])).2, (Lit.int .i32 n).wf = true) ∧ (ls.getD j (0, [])).2.length ≤ 9223372036854775807) :
    ∀ j, j < ls.length → (∀ q, q < (ls.getD j (0, [])).2.length → -2147483648 ≤ (ls.getD j (0, [])).2.getD q 0 ∧ (ls.getD j (0, [])).2.getD q 0 ≤ 2147483647) ∧ (ls.getD j (0, [])).2.length ≤ 9223372036854775807 := fun j hj => ⟨came_i32 (h j hj).1, (h j hj).2⟩
end

end Go.Proofs.YtidcnlecgcobmaaDoor
