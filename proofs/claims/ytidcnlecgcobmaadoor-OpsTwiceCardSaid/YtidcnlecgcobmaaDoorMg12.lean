/- Texts of ours, laid together: Qj. -/
import Derived.Deep.RegionHeld3
import Derived.Test.YtidcnlecgcobmaaDoorMg11
/- What OpsJoins tells. -/
namespace Go.Proofs.YtidcnlecgcobmaaDoor
open Go Go.RowKit
set_option linter.unusedVariables false
set_option linter.unusedSimpArgs false

set_option maxRecDepth 100000 in
set_option maxHeartbeats 1000000 in
theorem rof_longL (n : Nat) (A : Option Addr) (c : Nat) (cells : List Int) (w : World) (hn : n ≤ 8) (hlen : ¬ (cells.length : Int) = ((n : Int) + 1) * ((n : Int) + 1)) (hmax : cells.length ≤ 9223372036854775807) :
    Calls Tryd.prog 58 #[.int .i64 n, .slice A cells.length c] w (MakesR w n (ofP n cells)) := by
  have hz : ofP n cells = (none, 6) := by unfold ofP; rw [if_pos (by omega), if_neg hlen]
  rw [hz]
  clear hz
  have hm : ((n : Int) + 1) * ((n : Int) + 1) ≤ 9 * 9 := Int.mul_le_mul (by omega) (by omega) (by omega) (by omega)
  have hm0 : 0 ≤ ((n : Int) + 1) * ((n : Int) + 1) := Int.mul_nonneg (by omega) (by omega)
  have t1 : ((cells.length : Int) != ((n : Int) + 1) * ((n : Int) + 1)) = true := by simpa using hlen
  have d0 : decide ((n : Int) < 0) = false := decide_eq_false (by omega)
  clear hlen
  go_enter Tryd.func58, Tryd.ntmps58
  go_wp2
  go_ret2
  exact ⟨Below.refl _ _, .pointer none, rfl, rfl⟩
theorem rof_anyL (n : Int) (A : Option Addr) (c : Nat) (cells : List Int) (w : World) (hI : Ints w .i32 A cells) (hmax : cells.length ≤ 9223372036854775807)
    (hk : ∀ q, q < cells.length → -2147483648 ≤ cells.getD q 0 ∧ cells.getD q 0 ≤ 2147483647) :
    Calls Tryd.prog 58 #[.int .i64 n, .slice A cells.length c] w (MakesR w n.toNat (ofP n cells)) := by
  by_cases hs : cells.length ≤ 4611686018427387904
  · exact rof_any n A c cells w hI hs hk
  · by_cases hn : 0 ≤ n ∧ n ≤ 8
    · obtain ⟨k, rfl⟩ : ∃ k : Nat, n = k := ⟨n.toNat, by omega⟩
      have hm : ((k : Int) + 1) * ((k : Int) + 1) ≤ 9 * 9 := Int.mul_le_mul (by omega) (by omega) (by omega) (by omega)
      exact rof_longL k A c cells w (by omega) (by omega) hmax
    · exact rof_clock n A c cells w hn

set_option maxRecDepth 100000 in
set_option maxHeartbeats 1000000 in
theorem both04L (n : Int) (A : Option Addr) (c : Nat) (cells : List Int) (w : World) (hI : Ints w .i32 A cells) (hmax : cells.length ≤ 9223372036854775807)
    (hk : ∀ q, q < cells.length → -2147483648 ≤ cells.getD q 0 ∧ cells.getD q 0 ≤ 2147483647) :
    Calls Tryd.prog 13 #[.int .i64 n, .slice A cells.length c] w (Both4Ends w n cells) := by
  have HI := Lib.hid hI
  have HK := Lib.hid hk
  clear hI hk
  have HO := Lib.hid (of_anyL n A c cells w HI.out hmax HK.out)
  have HR := Lib.hid (fun w hI => rof_anyL n A c cells w hI hmax HK.out)
  clear hmax
  go_enter Tryd.func13, Tryd.ntmps13
  go_wp2_with fail
  refine HO.out.mono ?_
  rintro e w1 ⟨hb, v, rfl, hv⟩
  have HB1 := Lib.hid hb
  have HV1 := Lib.hid (show ZoneV 126 w1 v (zOf n cells) from hv)
  clear hb hv
  obtain ⟨ec, hec⟩ : ∃ ec, ec = (ofP n cells).2 := ⟨_, rfl⟩
  rw [← hec]
  go_wp2_with fail
  refine (HR.out _ (HI.out.below HB1.out)).mono ?_
  rintro e w2 ⟨hb, v', rfl, hv⟩
  have HV2 := Lib.hid (show RefZ w2 v' (zOf n cells) from hv)
  have HVZ := Lib.hid (HV1.out.below hb)
  have HBB := Lib.hid (HB1.out.trans (hb.mono HB1.out.size))
  rw [← hec]
  clear hb hv hec
  go_wp2
  go_ret2
  exact ⟨HBB.out, _, _, rfl, HVZ.out, HV2.out⟩

/-- What lies in a block of another type stays when a row of the call's own grows. -/
theorem blk_grown {w w1 : World} {b base n : Nat} {E E' : TypeId} {cur : Array Value} {v : Value} {xs : List Value} (hb : w.heap[b]? = some (.cells cur E' (0, 0))) (hown : w.ownsRow base E 1 v n xs) (hg : w.grownBy w1 v.ownBlock) (hne : E ≠ E') : w1.heap[b]? = some (.cells cur E' (0, 0)) := by
  refine (hg.block b (Array.getElem?_eq_some_iff.1 hb).1 fun he => ?_).trans hb
  obtain ⟨_, hf⟩ := hown
  rcases hf with ⟨rfl, _⟩ | ⟨g, cap, cur', rfl, _, h1, _⟩
  · simp [Value.ownBlock] at he
  · simp only [Value.ownBlock, Option.some.injEq] at he
    subst he
    rw [h1] at hb
    simp only [Option.some.injEq, Obj.cells.injEq] at hb
    exact hne hb.2.1
theorem zoneG {w w1 : World} {u v : Value} {base n : Nat} {E : TypeId} {z : Option (Nat × Mat)} {xs : List Value} (h : ZoneV 126 w u z) (hown : w.ownsRow base E 1 v n xs) (hg : w.grownBy w1 v.ownBlock) (hne : E ≠ 126) : ZoneV 126 w1 u z := by
  cases z with
  | none => exact h
  | some q =>
    obtain ⟨k, m⟩ := q
    obtain ⟨b, e, hn, hr, hm⟩ := h
    exact ⟨b, e, hn, hr, blk_grown hm hown hg hne⟩
theorem refG {w w1 : World} {u v : Value} {base n : Nat} {E : TypeId} {z : Option (Nat × Mat)} {xs : List Value} (h : RefZ w u z) (hown : w.ownsRow base E 1 v n xs) (hg : w.grownBy w1 v.ownBlock) (hne : E ≠ 140) (hne2 : E ≠ 64) : RefZ w1 u z := by
  cases z with
  | none => exact h
  | some q =>
    obtain ⟨k, m⟩ := q
    obtain ⟨b, g, cap, e, hn, hr, hb, cur, hc, ht⟩ := h
    exact ⟨b, g, cap, e, hn, hr, blk_grown hb hown hg hne, cur, blk_grown hc hown hg hne2, ht⟩
theorem ownG {w w1 : World} {v v' : Value} {base n n' : Nat} {E E' : TypeId} {xs xs' : List Value} (h : w.ownsRow base E' 1 v' n' xs') (hown : w.ownsRow base E 1 v n xs) (hg : w.grownBy w1 v.ownBlock) (hne : E ≠ E') : w1.ownsRow base E' 1 v' n' xs' := by
  obtain ⟨hl, hf⟩ := h
  refine ⟨hl, ?_⟩
  rcases hf with h | ⟨g, cap, cur, e1, e2, h1, h2⟩
  · exact .inl h
  · exact .inr ⟨g, cap, cur, e1, e2, blk_grown h1 hown hg hne, h2⟩

/-- Zones of the program's and of the document's, in two rows of the call's own. -/
structure P2R (w0 : World) (v : Value) (vs : List Value) (zs : List (Option (Nat × Mat))) (v' : Value) (us : List Value) (ys : List (Option (Nat × Mat))) (wr : World) : Prop where
  below : Below w0.heap.size w0 wr
  own : wr.ownsRow w0.heap.size 24 1 v vs.length vs
  own' : wr.ownsRow w0.heap.size 25 1 v' us.length us
  len : vs.length = zs.length
  len' : us.length = ys.length
  zones : ∀ j, j < zs.length → ZoneV 126 wr (vs.getD j (.pointer none)) (zs.getD j none)
  refs : ∀ j, j < ys.length → RefZ wr (us.getD j (.pointer none)) (ys.getD j none)
section
variable {w0 wr w1 : World} {v v' v1 u : Value} {vs us : List Value} {zs ys : List (Option (Nat × Mat))} {z : Option (Nat × Mat)} {o : Obj}
theorem P2R.step (h : P2R w0 v vs zs v' us ys wr) (hb : Below wr.heap.size wr w1) : P2R w0 v vs zs v' us ys w1 :=
  ⟨h.below.trans (hb.mono h.below.size), own_later h.own hb, own_later h.own' hb, h.len, h.len', fun j hj => (h.zones j hj).below hb, fun j hj => (h.refs j hj).below hb⟩
theorem getD_left {α : Type} {l : List α} {x d : α} {j : Nat} (h : j < l.length) : (l ++ [x]).getD j d = l.getD j d := by rw [List.getD_eq_getElem?_getD, List.getElem?_append_left h, ← List.getD_eq_getElem?_getD]
theorem getD_last {α : Type} {l : List α} {x d : α} : (l ++ [x]).getD l.length d = x := by simp [List.getD_eq_getElem?_getD]
theorem P2R.next1 (h : P2R w0 v vs zs v' us ys wr) (hu : ZoneV 126 wr u z) (hown : w1.ownsRow w0.heap.size 24 1 v1 (vs.length + 1) (vs ++ [u])) (hg : (wr.alloc o).grownBy w1 v.ownBlock) : P2R w0 v1 (vs ++ [u]) (zs ++ [z]) v' us ys w1 := by
  have hal : Below wr.heap.size wr (wr.alloc o) := (Below.refl _ _).alloc (Nat.le_refl _) o
  have hs := h.step hal
  refine ⟨hs.below.grown hg hs.below.size (fun c hc => (World.ownsRow.lt hs.own c hc).1), by rw [List.length_append]; exact hown, ownG hs.own' hs.own hg (by decide), by rw [List.length_append, List.length_append, h.len]; rfl, h.len', fun j hj => ?_, fun j hj => refG (hs.refs j hj) hs.own hg (by decide) (by decide)⟩
  rw [List.length_append] at hj
  by_cases e : j < zs.length
  · rw [getD_left e, getD_left (by rw [h.len]; exact e)]
    exact zoneG (hs.zones j e) hs.own hg (by decide)
  · have ej : j = zs.length := by simp at hj; omega
    subst ej
    rw [getD_last, show (vs ++ [u]).getD zs.length (.pointer none) = u by rw [← h.len]; exact getD_last]
    exact zoneG (hu.below hal) hs.own hg (by decide)
theorem P2R.next2 (h : P2R w0 v vs zs v' us ys wr) (hu : RefZ wr u z) (hown : w1.ownsRow w0.heap.size 25 1 v1 (us.length + 1) (us ++ [u])) (hg : (wr.alloc o).grownBy w1 v'.ownBlock) : P2R w0 v vs zs v1 (us ++ [u]) (ys ++ [z]) w1 := by
  have hal : Below wr.heap.size wr (wr.alloc o) := (Below.refl _ _).alloc (Nat.le_refl _) o
  have hs := h.step hal
  refine ⟨hs.below.grown hg hs.below.size (fun c hc => (World.ownsRow.lt hs.own' c hc).1), ownG hs.own hs.own' hg (by decide), by rw [List.length_append]; exact hown, h.len, by rw [List.length_append, List.length_append, h.len']; rfl, fun j hj => zoneG (hs.zones j hj) hs.own' hg (by decide), fun j hj => ?_⟩
  rw [List.length_append] at hj
  by_cases e : j < ys.length
  · rw [getD_left e, getD_left (by rw [h.len']; exact e)]
    exact refG (hs.refs j e) hs.own' hg (by decide) (by decide)
  · have ej : j = ys.length := by simp at hj; omega
    subst ej
    rw [getD_last, show (us ++ [u]).getD ys.length (.pointer none) = u by rw [← h.len']; exact getD_last]
    exact refG (hu.below hal) hs.own' hg (by decide) (by decide)
end
theorem kinds_add {zs : List (Option (Nat × Mat))} {z : Option (Nat × Mat)} (h : KindZs zs) (hz : KindZ z) : KindZs (zs ++ [z]) := fun j hj k m e => by
  rw [List.length_append] at hj
  by_cases c : j < zs.length
  · rw [getD_left c] at e
    exact h j c k m e
  · have ej : j = zs.length := by simp at hj; omega
    subst ej
    rw [getD_last] at e
    exact hz k m e
theorem zonev_ptr {w : World} {u : Value} {z : Option (Nat × Mat)} (h : ZoneV 126 w u z) : ∃ a, u = .pointer a := by
  cases z with
  | none => exact ⟨_, h⟩
  | some q => obtain ⟨a, b⟩ := q; obtain ⟨_, e, _⟩ := h; exact ⟨_, e⟩
theorem refz_ptr {w : World} {u : Value} {z : Option (Nat × Mat)} (h : RefZ w u z) : ∃ a, u = .pointer a := by
  cases z with
  | none => exact ⟨_, h⟩
  | some q => obtain ⟨a, b⟩ := q; obtain ⟨_, _, _, e, _⟩ := h; exact ⟨_, e⟩
theorem stable_zns (A : Option Addr) (ls : List (Int × List Int)) : Stable fun w => ZnsI w A ls := fun _ _ h hb => h.below hb
theorem stable_zsv (A : Option Addr) (vs : List Value) (zs : List (Option (Nat × Mat))) : Stable fun w => ZsV w A vs zs := fun _ _ h hb => h.below hb
theorem stable_rsv (A : Option Addr) (vs : List Value) (zs : List (Option (Nat × Mat))) : Stable fun w => RsV w A vs zs := fun _ _ h hb => h.below hb
theorem zns_at {w : World} {A : Option Addr} {ls : List (Int × List Int)} {p : Nat} (h : ZnsI w A ls) (hp : p < ls.length) : ∃ b off A' c' n xs, A = some ⟨b, off, none⟩ ∧ ls.getD p (0, []) = (n, xs) ∧ w.cell? ⟨b, off + p * 2, none⟩ = some (.int .i64 n) ∧ w.cell? ⟨b, off + p * 2 + 1, none⟩ = some (.slice A' xs.length c') ∧ Ints w .i32 A' xs := by
  obtain ⟨b, off, A', c', e, hc, hd, hi⟩ := h p hp
  exact ⟨b, off, A', c', _, _, e, rfl, hc, hd, hi⟩
/-- What the region that asks both reads, and what it carries. -/
def JR (w0 : World) (v : Value) (vs : List Value) (zs : List (Option (Nat × Mat))) (v' : Value) (us : List Value) (ys : List (Option (Nat × Mat))) (b o : Nat) (n : Int) (A' : Option Addr) (c' : Nat) (xs : List Int) (wr : World) : Prop :=
  wr.cell? ⟨b, o, none⟩ = some (.int .i64 n) ∧ wr.cell? ⟨b, o + 1, none⟩ = some (.slice A' xs.length c') ∧ Ints wr .i32 A' xs ∧ P2R w0 v vs zs v' us ys wr
theorem JR.step {w0 : World} {v v' : Value} {vs us : List Value} {zs ys : List (Option (Nat × Mat))} {b o : Nat} {n : Int} {A' : Option Addr} {c' : Nat} {xs : List Int} {w w' : World} (h : JR w0 v vs zs v' us ys b o n A' c' xs w) (hb : Below w.heap.size w w') : JR w0 v vs zs v' us ys b o n A' c' xs w' := by
  obtain ⟨h1, h2, h3, h4⟩ := h
  exact ⟨(hb.cell (p := ⟨b, o, none⟩) (World.block_lt_of_cell? w _ h1)).trans h1, (hb.cell (p := ⟨b, o + 1, none⟩) (World.block_lt_of_cell? w _ h2)).trans h2, h3.below hb, h4.step hb⟩

set_option maxRecDepth 100000 in
set_option maxHeartbeats 4000000 in
theorem opsjoins_any (n : Int) (A : Option Addr) (c : Nat) (cells : List Int) (B : Option Addr) (d : Nat) (ls : List (Int × List Int)) (w : World) (hI : Ints w .i32 A cells) (hmax : cells.length ≤ 4611686018427387904)
    (hk : ∀ q, q < cells.length → -2147483648 ≤ cells.getD q 0 ∧ cells.getD q 0 ≤ 2147483647) (hL : ZnsI w B ls) (hlmax : ls.length ≤ 4398046510976)
    (hlk : ∀ j, j < ls.length → (∀ q, q < (ls.getD j (0, [])).2.length → -2147483648 ≤ (ls.getD j (0, [])).2.getD q 0 ∧ (ls.getD j (0, [])).2.getD q 0 ≤ 2147483647) ∧ (ls.getD j (0, [])).2.length ≤ 9223372036854775807) (ht : Tab w) :
    Calls Tryd.prog 7 #[.int .i64 n, .slice A cells.length c, .slice B ls.length d] w fun e w' => e = .returned (.bool true) ∧ Below w.heap.size w w' := by
  have HBO := Lib.hid (both04_any n A c cells w hI hmax hk)
  have HK := Lib.hid (kind_of n cells)
  have HT := Lib.hid ht
  have HL := Lib.hid hL
  have HLK := Lib.hid hlk
  unfold Both4Ends at HBO
  generalize zOf n cells = z at *
  have HCA := Lib.hid (fun v A c vs zs w h hv hl => and_any v z A c vs zs w h hv hl)
  have HCA4 := Lib.hid (fun v A c vs zs w h hv hl hks => and4_any v z A c vs zs w h hv hl HK.out hks)
  have HCH := Lib.hid (fun v A c vs zs w h hv hl => hull_any v z A c vs zs w h hv hl)
  have HCH4 := Lib.hid (fun v A c vs zs w h hv hl hks => hull4_any v z A c vs zs w h hv hl HK.out hks)
  obtain ⟨i0, hi1, hz0, hz1, hz2⟩ := info_parts infoPZ
  have HInf := Lib.hid (And.intro hi1 (And.intro hz0 (And.intro hz1 hz2)))
  obtain ⟨i1, ki1, kz0, kz1, kz2⟩ := info_parts infoPR
  have HInf' := Lib.hid (And.intro ki1 (And.intro kz0 (And.intro kz1 kz2)))
  clear hI hk ht hL hlk hi1 hz0 hz1 hz2 ki1 kz0 kz1 kz2
  go_enter Tryd.func7, Tryd.ntmps7
  go_wp2_with fail
  refine HBO.out.mono ?_
  rintro e w1 ⟨hb, vz, vz', rfl, hv, hv'⟩
  have HG1 := Lib.hid (((((Bag.start hb).add (HL.out.below hb) (stable_zns _ _)).add (HT.out.below hb) stable_tab).add hv' (stable_ref _ _)).add hv (stable_zone _ _ _))
  have HS := Lib.hid (show P2R w1 (.slice none 0 0) [] [] (.slice none 0 0) [] [] w1 from ⟨Below.refl _ _, World.ownsRow_nil _ _ _ _, World.ownsRow_nil _ _ _ _, rfl, rfl, fun j hj => by simp at hj, fun j hj => by simp at hj⟩)
  clear hb hv hv' HBO HT HL
  go_wp2
  go_loopg [9, 10, 11] ls.length (fun g v v' x wr => ∃ p : Nat, ∃ vs us zs, x = .int .i64 p ∧ Hid (P2R w1 v vs zs v' us zs wr ∧ KindZs zs) ∧ Hid (zs.length = p ∧ p ≤ ls.length ∧ g + p = ls.length))
  case atStart => exact ⟨0, [], [], [], by simp, ⟨HS.out, fun j hj => by simp at hj⟩, by simp, by omega, by omega⟩
  case round =>
    clear HS
    obtain ⟨p, vs, us, zs, rfl, HR, HG⟩ := hrel
    obtain ⟨PA, pc, rfl, hptr⟩ := own_ptrs HR.out.1.own
    obtain ⟨UA, uc, rfl, hptr'⟩ := own_refs HR.out.1.own'
    have HGW := Lib.hid (HG1.out.step HR.out.1.below)
    have HVL := Lib.hid (show vs.length = p ∧ us.length = p by have h1 := HR.out.1.len; have h2 := HR.out.1.len'; have h3 := HG.out.1; omega)
    have hpb : p ≤ 4398046510976 := by have h2 := HG.out.2.1; omega
    by_cases hp : p < ls.length
    · obtain ⟨b', off, A', c', nn, xs, rfl, hx, c1, c2, hxi⟩ := zns_at (HGW.out.at 3 rfl) hp
      have hlkp := HLK.out p hp
      rw [hx] at hlkp
      have HBL := Lib.hid (fun W hI => both04L nn A' c' xs W hI hlkp.2 hlkp.1)
      have HKN := Lib.hid (kind_of nn xs)
      unfold Both4Ends at HBL
      generalize zOf nn xs = zn at *
      have hpi : (p : Int) < (ls.length : Int) := by omega
      have k : JR w1 (.slice PA vs.length pc) vs zs (.slice UA us.length uc) us zs b' (off + p * 2) nn A' c' xs wr.drew := ⟨c1, c2, hxi, HR.out.1.step (Below.drew (Below.refl _ _))⟩
      have HKZ := Lib.hid HR.out.2
      clear hx hlkp hxi hptr hptr' HR HGW
      go_wp2_with fail
      go_region_held3 (fun w' => w'.cell? ⟨b', off + p * 2, none⟩ = some (.int .i64 nn) ∧ w'.cell? ⟨b', off + p * 2 + 1, none⟩ = some (.slice A' xs.length c') ∧ Ints w' .i32 A' xs ∧ P2R w1 (.slice PA vs.length pc) vs zs (.slice UA us.length uc) us zs w') (first | exact k | go_keep)
        (first | (go_at_call 13; refine (HBL.out _ (by exact (JR.step k (Below.refl _ _)).2.2.1)).mono ?_; rintro e w3 ⟨hb, x, y, rfl, hzx, hry⟩; have k := JR.step k hb; have HZX := Lib.hid hzx; have HRY := Lib.hid hry; clear hb hzx hry))
      have HP := Lib.hid k.2.2.2
      obtain ⟨xa, rfl⟩ := zonev_ptr HZX.out
      obtain ⟨ya, rfl⟩ := refz_ptr HRY.out
      clear k c1 c2
      go_wp2_with (at_builtin; refine wpList_append_own _ rfl _ _ 54 rfl w1.heap.size 24 i0 (.pointer none) 1 8 Tryd.underlying54 HInf.out.1 HInf.out.2.1 HInf.out.2.2.1 HInf.out.2.2.2 rfl (by decide) _ _ _ rfl (HP.out.own.alloc _) ⟨w3.heap.size, 0, none⟩ 1 1 [.pointer xa] rfl rfl (cells_one1 _ _ _) (by intro u hu; simp at hu; subst hu; rfl) ?c3 ?c4 ?c5 ?_)
      case c3 => unfold maxLen; have := HVL.out; omega
      case c4 => have := HVL.out; omega
      case c5 => have := HP.out.below.size; simp; omega
      intro v4 w4 hown hgrow _
      have HP4 := Lib.hid (HP.out.next1 HZX.out hown hgrow)
      have HRY4 := Lib.hid (refG (HRY.out.below ((Below.refl _ _).alloc (Nat.le_refl _) _)) (HP.out.own.alloc _) hgrow (by decide) (by decide))
      clear hown hgrow
      go_wp2_with (at_builtin; refine wpList_append_own _ rfl _ _ 59 rfl w1.heap.size 25 i1 (.pointer none) 1 8 Tryd.underlying59 HInf'.out.1 HInf'.out.2.1 HInf'.out.2.2.1 HInf'.out.2.2.2 rfl (by decide) _ _ _ rfl (HP4.out.own'.alloc _) ⟨w4.heap.size, 0, none⟩ 1 1 [.pointer ya] rfl rfl (cells_one1 _ _ _) (by intro u hu; simp at hu; subst hu; rfl) ?c3 ?c4 ?c5 ?_)
      case c3 => unfold maxLen; have := HVL.out; omega
      case c4 => have := HVL.out; omega
      case c5 => have := HP4.out.below.size; simp; omega
      intro v5 w5 hown hgrow _
      have HP5 := Lib.hid (HP4.out.next2 HRY4.out hown hgrow)
      clear hown hgrow
      go_wp2
      go_roundg (gk - 1)
      case measure => have h := HG.out; omega
      case rel => exact ⟨p + 1, _, _, _, by go_num, ⟨HP5.out, kinds_add HKZ.out HKN.out⟩, by have h := HG.out.1; simp; omega, by omega, by have h := HG.out; omega⟩
    · have e : p = ls.length := by have := HG.out.2.1; omega
      subst e
      have hpi : ¬ ((ls.length : Int) < (ls.length : Int)) := by omega
      have hvs : ZsV wr PA vs zs := ⟨hptr, HR.out.1.len, HR.out.1.zones⟩
      have hus : RsV wr UA us zs := ⟨hptr', HR.out.1.len', HR.out.1.refs⟩
      have HG2 := Lib.hid ((HGW.out.add hvs (stable_zsv _ _ _)).add hus (stable_rsv _ _ _))
      have HKZ := Lib.hid HR.out.2
      have hvl : vs.length ≤ 4398046510976 := by have := HVL.out.1; omega
      have hul : us.length ≤ 4398046510976 := by have := HVL.out.2; omega
      have HA1 := Lib.hid (fun w h hv => HCA.out vz PA pc vs zs w h hv (by omega))
      have HA2 := Lib.hid (fun w h hv => HCA4.out vz' UA uc us zs w h hv (by omega) HKZ.out)
      have HA3 := Lib.hid (fun w h hv => HCH.out vz PA pc vs zs w h hv (by omega))
      have HA4 := Lib.hid (fun w h hv => HCH4.out vz' UA uc us zs w h hv (by omega) HKZ.out)
      generalize andA z zs = U at *
      generalize hullZ z zs = D at *
      obtain ⟨Um, Ue⟩ := U
      obtain ⟨Dm, De⟩ := D
      clear hptr hptr' hvs hus HR HG HGW HKZ HCA HCA4 HCH HCH4
      go_wp2_with fail
      refine (HA1.out _ (HG2.out.at 2 rfl) (HG2.out.at 1 rfl)).mono ?_
      rintro e w2 ⟨hb, a, rfl, ha⟩
      have HG3 := Lib.hid ((HG2.out.step hb).add ha (stable_zone _ _ _))
      clear hb ha HG2 HA1
      go_wp2_with fail
      refine (HA2.out _ (HG3.out.at 4 rfl) (HG3.out.at 1 rfl)).mono ?_
      rintro e w3 ⟨hb, b, rfl, ha⟩
      have HG4 := Lib.hid ((HG3.out.step hb).add ha (stable_ref _ _))
      clear hb ha HG3 HA2
      go_wp2_with fail
      refine (HA3.out _ (HG4.out.at 4 rfl) (HG4.out.at 3 rfl)).mono ?_
      rintro e w4 ⟨hb, c3, rfl, ha⟩
      have HG5 := Lib.hid ((HG4.out.step hb).add ha (stable_zone _ _ _))
      clear hb ha HG4 HA3
      go_wp2_with fail
      refine (HA4.out _ (HG5.out.at 6 rfl) (HG5.out.at 3 rfl)).mono ?_
      rintro e w5 ⟨hb, d4, rfl, ha⟩
      have HG6 := Lib.hid ((HG5.out.step hb).add ha (stable_ref _ _))
      clear hb ha HG5 HA4
      go_wp2_with fail
      refine (live04_any _ (HG6.out.at 8 rfl)).mono ?_
      rintro e w6 ⟨rfl, hb⟩
      have HG7 := Lib.hid (HG6.out.step hb)
      clear hb HG6
      go_wp2_with fail
      refine (same04_any _ _ _ _ (HG7.out.at 3 rfl) (HG7.out.at 2 rfl)).mono ?_
      rintro e w7 ⟨rfl, hb⟩
      have HG8 := Lib.hid (HG7.out.step hb)
      clear hb HG7
      go_wp2_with fail
      refine (same04_any _ _ _ _ (HG8.out.at 1 rfl) (HG8.out.at 0 rfl)).mono ?_
      rintro e w8 ⟨rfl, hb⟩
      have HG9 := Lib.hid (HG8.out.step hb)
      clear hb HG8
      go_wp2_with fail
      refine (same04_any _ _ _ _ (HG9.out.at 6 rfl) (HG9.out.at 7 rfl)).mono ?_
      rintro e w9 ⟨rfl, hb⟩
      have HG10 := Lib.hid (HG9.out.step hb)
      clear hb HG9
      go_wp2
      go_ret
      exact ⟨by simp, HG10.out.below⟩

end Go.Proofs.YtidcnlecgcobmaaDoor
