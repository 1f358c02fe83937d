/- Key: the number of clocks and four bytes of each cell. -/
import Derived.Test.YtgpmfnahjepjjaaDoorDe
import Derived.Test.YtgpmfnahjepjjaaDoorDy
import Derived.Laws.BitsAllLaws
namespace Go.Proofs.YtgpmfnahjepjjaaDoor
open Go Go.RowKit
set_option linter.unusedVariables false
set_option linter.unusedSimpArgs false

theorem nat_top (a : Nat) (h : a < 2147483648) : a ^^^ 2147483648 = a + 2147483648 := by
  have e : a + 2147483648 = 2147483648 ||| a := by
    have := Nat.two_pow_add_eq_or_of_lt (i := 31) (b := a) (by simpa using h) 1
    rw [Nat.mul_one, show (2 : Nat) ^ 31 = 2147483648 from rfl] at this
    rw [← this, Nat.add_comm]
  rw [e]
  apply Nat.eq_of_testBit_eq
  intro i
  rw [Nat.testBit_xor, Nat.testBit_or, show (2147483648 : Nat) = 2 ^ 31 from rfl, Nat.testBit_two_pow]
  by_cases hi : 31 = i
  · subst hi
    have : a.testBit 31 = false := Nat.testBit_lt_two_pow h
    simp [this]
  · simp [hi]
theorem top_bit (c : Int) (h0 : -2147483648 ≤ c) (h1 : c ≤ 2147483647) : bits .xor .u32 (c % 4294967296) 2147483648 = c + 2147483648 := by
  rw [u32_xor _ _ (by omega) (by omega) (by omega) (by omega)]
  by_cases hc : 0 ≤ c
  · have e : (c % 4294967296).toNat = c.toNat := by omega
    rw [e, show (2147483648 : Int).toNat = 2147483648 from rfl, nat_top _ (by omega)]
    omega
  · have e : (c % 4294967296).toNat = (c + 2147483648).toNat + 2147483648 := by omega
    rw [e, show (2147483648 : Int).toNat = 2147483648 from rfl, ← nat_top _ (by omega), Nat.xor_assoc, Nat.xor_self, Nat.xor_zero]
    omega

/-- The four bytes of a cell. -/
def fourL (c : Int) : List Int := [(c + 2147483648) / 16777216 % 256, (c + 2147483648) / 65536 % 256, (c + 2147483648) / 256 % 256, (c + 2147483648) % 256]
/-- The key of so many cells. -/
def keyL (n : Nat) (xs : List Int) : Nat → List Int
  | 0 => [(n : Int)]
  | p + 1 => keyL n xs p ++ fourL (xs.getD p 0)
theorem keyL_length (n : Nat) (xs : List Int) : ∀ p, (keyL n xs p).length = 1 + 4 * p
  | 0 => rfl
  | p + 1 => by rw [show keyL n xs (p + 1) = keyL n xs p ++ fourL (xs.getD p 0) from rfl, List.length_append, keyL_length n xs p]; simp [fourL]; omega

theorem infoU8 : (Tryd.prog.info? 5).map (fun i => (i.zero, i.size, i.bytes)) = some (some (.int .u8 0), 1, 1) := by kernel_rfl
/-- The bytes so far. -/
def KeyR (w0 : World) (gl : Nat) (n : Nat) (xs : List Int) (p : Nat) (v : Value) (wr : World) : Prop :=
  Below w0.heap.size w0 wr ∧ wr.ownsRow w0.heap.size 5 1 v (1 + 4 * p) (vals .u8 (keyL n xs p)) ∧ p ≤ xs.length ∧ RowAt wr gl 26 .i32 xs
def KeyEnds (w : World) (n : Nat) (xs : List Int) (e : Ending) (w' : World) : Prop := ∃ v gl, e = .returned v ∧ KeyR w gl n xs xs.length v w'
/-- A block of bytes is no block of bounds. -/
theorem bytes_apart {w : World} {base g n k : Nat} {v : Value} {ys : List Value} {xs : List Int} (h : w.ownsRow base 5 1 v n ys) (hr : RowAt w g 26 .i32 xs) : v.ownBlock ≠ some g := by
  intro e
  obtain ⟨_, h⟩ := h
  rcases h with ⟨rfl, _⟩ | ⟨g', cap, cur, rfl, _, h1, _⟩
  · simp [Value.ownBlock] at e
  · simp [Value.ownBlock] at e
    subst e
    obtain ⟨cur', h2, _⟩ := hr
    rw [h1] at h2
    simp at h2
theorem KeyR.next {w0 wr w2 : World} {gl n : Nat} {xs : List Int} {p : Nat} {v v' : Value} {o : Obj} (h : KeyR w0 gl n xs p v wr) (q : Nat) (x : Int) (hx : x = xs.getD p 0) (hp : p < xs.length)
    (hown : w2.ownsRow w0.heap.size 5 1 v' (1 + 4 * p + 4) (vals .u8 (keyL n xs p) ++ vals .u8 (fourL x))) (hg : ((wr.alloc o).drewN q).grownBy w2 v.ownBlock) : KeyR w0 gl n xs (p + 1) v' w2 := by
  subst hx
  have hl := h.2.2.2.lt
  have hne := bytes_apart (k := 0) h.2.1 h.2.2.2
  have hb0 : Below w0.heap.size w0 ((wr.alloc o).drewN q) := belowN (h.1.alloc h.1.size o) q
  refine ⟨hb0.grown hg hb0.size (fun k hk => (h.2.1.lt k hk).1), ?_, by omega, ?_⟩
  · have e : vals .u8 (keyL n xs (p + 1)) = vals .u8 (keyL n xs p) ++ vals .u8 (fourL (xs.getD p 0)) := by simp [vals, keyL]
    rw [e, show 1 + 4 * (p + 1) = 1 + 4 * p + 4 by omega]; exact hown
  · obtain ⟨cur, h1, h2⟩ := h.2.2.2
    refine ⟨cur, ?_, h2⟩
    rw [hg.block gl (by simp; omega) hne.symm]
    exact (heap_alloc_old wr o hl).trans h1

set_option maxRecDepth 100000 in
set_option maxHeartbeats 1000000 in
theorem key_zone (b n : Nat) (m : Mat) (w : World) (hn : n ≤ 8) (hr : RightM n m) (h : MatAt w b 44 .i32 n m) :
    Calls Tryd.prog 13 #[.pointer (some ⟨b, 0, none⟩)] w (KeyEnds w n (flat n m)) := by
  have h0 := h.head
  have H := Lib.hid h
  have HR := Lib.hid hr
  clear h hr
  have n8 : (n : Int) ≤ 8 := by omega
  go_enter Tryd.func13, Tryd.ntmps13
  go_wp2_with fail
  have HB0 := Lib.hid ((Below.refl w.heap.size w).alloc (Nat.le_refl _) (.cells #[.int .u8 n] 5))
  refine (cells_zone b n m _ hn (by exact H.out.alloc _)).mono ?_
  rintro e w1 ⟨l, rfl, hb, ho⟩
  have HB1 := Lib.hid (HB0.out.trans (hb.mono HB0.out.size))
  obtain ⟨gl, cp, rfl, hgl, hlrow⟩ := ho.row (by rw [flat_length]; exact Nat.mul_pos (by omega) (by omega))
  have HS := Lib.hid (show KeyR w gl n (flat n m) 0 (.slice (some ⟨w.heap.size, 0, none⟩) 1 1) w1 from
    ⟨HB1.out, ⟨rfl, .inr ⟨w.heap.size, 1, #[.int .u8 n], rfl, Nat.le_refl _, (hb.block _ (by simp)).trans (heap_alloc_new w _), Nat.le_refl _, by decide, rfl, rfl⟩⟩, by omega, hlrow⟩)
  clear hb ho hlrow HB1
  obtain ⟨xs, hxs⟩ : ∃ xs, xs = flat n m := ⟨_, rfl⟩
  have hbd : ∀ q, q < xs.length → -2147483648 ≤ xs.getD q 0 ∧ xs.getD q 0 ≤ 2147483647 := fun q hq => by
    rw [hxs] at hq ⊢
    rw [flat_length] at hq
    rw [flat_getD _ _ _ hq]
    have a1 : q / (n + 1) < n + 1 := Nat.div_lt_of_lt_mul hq
    have a2 := Nat.mod_lt q (show 0 < n + 1 by omega)
    have := HR.out (q / (n + 1)) (q % (n + 1)) (by omega) (by omega)
    unfold rightB at this
    have := of_decide_eq_true this
    omega
  have hlen : xs.length ≤ 81 := by
    rw [hxs, flat_length]
    have := Nat.mul_le_mul (show n + 1 ≤ 9 by omega) (show n + 1 ≤ 9 by omega)
    omega
  rw [← hxs] at HS ⊢
  have HXS := Lib.hid hxs
  have HL := Lib.hid hlen
  have HBD := Lib.hid hbd
  obtain ⟨i0, hi1, hz0, hz1, hz2⟩ := info_parts infoU8
  have HInf := Lib.hid (And.intro hi1 (And.intro hz0 (And.intro hz1 hz2)))
  clear hxs hlen hbd hi1 hz0 hz1 hz2 h0 n8
  go_wp2
  go_loopg [3, 19] xs.length (fun g v x wr => ∃ p : Nat, x = .int .i64 p ∧ KeyR w gl n xs p v wr ∧ Hid (g + p = xs.length))
  case atStart => exact ⟨0, by simp, HS.out, by show _ = _; omega⟩
  case round =>
    clear HS
    obtain ⟨p, rfl, HA, HG⟩ := hrel
    have HR2 := Lib.hid HA
    clear HA
    by_cases hp : p < xs.length
    · have hpi : (p : Int) < (xs.length : Int) := by omega
      have hp81 : p < 81 := by have := HL.out; omega
      have hc := HR2.out.2.2.2.cell p hp
      have hb := HBD.out p hp
      obtain ⟨x, hx⟩ : ∃ x, x = xs.getD p 0 := ⟨_, rfl⟩
      rw [← hx] at hc hb
      have ht := top_bit x hb.1 hb.2
      have HX := Lib.hid hx
      clear hx hb
      have hfour : ∀ j u, (vals .u8 (fourL x))[j]? = some u → (wr.alloc (.cells #[.int .u8 ((x + 2147483648) / 16777216 % 256), .int .u8 ((x + 2147483648) / 65536 % 256), .int .u8 ((x + 2147483648) / 256 % 256), .int .u8 ((x + 2147483648) % 256)] 5)).cell? ((⟨wr.heap.size, 0, none⟩ : Addr).add j) = some u :=
        row_vals (e := 5) (k := .u8) ⟨_, heap_alloc_new _ _, by simp [vals, fourL]⟩
      have HF := Lib.hid hfour
      clear hfour
      go_wp2_with (at_builtin; refine wpList_append_own _ rfl _ _ 34 rfl w.heap.size 5 i0 (.int .u8 0) 1 1 Tryd.underlying34 HInf.out.1 HInf.out.2.1 HInf.out.2.2.1 HInf.out.2.2.2 rfl (by decide) _ _ _ rfl (HR2.out.2.1.alloc _) ⟨wr.heap.size, 0, none⟩ 4 4 (vals .u8 (fourL x)) rfl rfl HF.out (by intro u hu; simp [vals, fourL] at hu; rcases hu with rfl | rfl | rfl | rfl <;> rfl) ?c3 ?c4 ?c5 ?_)
      case c3 => have := HL.out; unfold maxLen; omega
      case c4 => have := HL.out; omega
      case c5 => have := HR2.out.1.size; simp; omega
      intro v' w3 hown hgrow _
      have HN := Lib.hid (HR2.out.next 0 x HX.out hp hown hgrow)
      clear hown hgrow hc
      go_wp2
      go_roundg (gk - 1)
      case measure => have h := HG.out; omega
      case rel => exact ⟨p + 1, by go_num, HN.out, by have h := HG.out; show _ = _; omega⟩
    · have hpi : ¬ (p : Int) < (xs.length : Int) := by omega
      have e : p = xs.length := by have := HR2.out.2.2.1; omega
      subst e
      go_wp2
      go_ret
      exact ⟨_, gl, rfl, by rw [← HXS.out]; exact HR2.out⟩

theorem key_nil (w : World) : Calls Tryd.prog 13 #[.pointer none] w fun e w' => e = .returned (.slice none 0 0) ∧ w = w' := by
  go_enter Tryd.func13, Tryd.ntmps13
  go_wp2
  go_ret
  exact ⟨rfl, rfl⟩
/-- The key of a zone, or of nil. -/
def keyZ (z : Option (Nat × Mat)) : List Int := match z with | some (n, m) => keyL n (flat n m) (flat n m).length | none => []
theorem keyZ_length {z : Option (Nat × Mat)} (h : (cellsP z).length ≤ 81) : (keyZ z).length ≤ 325 := by
  match z, h with
  | none, _ => simp [keyZ]
  | some (n, m), h =>
    have h : (flat n m).length ≤ 81 := h
    show (keyL n (flat n m) (flat n m).length).length ≤ 325
    rw [keyL_length]; omega
theorem key_any (v : Value) (z : Option (Nat × Mat)) (w : World) (h : ZoneV 44 w v z) :
    Calls Tryd.prog 13 #[v] w fun e w' => ∃ l, e = .returned l ∧ Below w.heap.size w w' ∧ OwnI w' w.heap.size 5 .u8 l (keyZ z) := by
  match z, h with
  | none, h =>
    have h : v = .pointer none := h
    subst h
    exact (key_nil w).mono fun e w' ⟨h1, h2⟩ => ⟨_, h1, by rw [← h2]; exact Below.refl _ _, by rw [← h2]; exact World.ownsRow_nil w _ _ _⟩
  | some (n, m), ⟨b, e, hn, hr, hm⟩ =>
    subst e
    exact (key_zone b n m w hn hr hm).mono fun e w' ⟨l, _, h1, h2, h3, _⟩ => ⟨l, h1, h2, by show w'.ownsRow _ _ 1 l (keyL n (flat n m) (flat n m).length).length _; rw [keyL_length]; exact h3⟩

end Go.Proofs.YtgpmfnahjepjjaaDoor
