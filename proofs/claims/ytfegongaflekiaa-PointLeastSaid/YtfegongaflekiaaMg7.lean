/- Texts of ours, laid together: Jd, Oa, Db, Dc, Dd, Do, Ob, Oc, Od, Oe. -/
import Derived.Deep.RegionWith
import Derived.Test.YtfegongaflekiaaMg6
/- Fractions as rational numbers: order, sums, what keeps a bound; what is in a zone. -/
namespace Go.Proofs.Ytfegongaflekiaa
set_option linter.unusedVariables false
set_option linter.unusedSimpArgs false

def qv (x : Int × Int) : Rat := (x.1 : Rat) / (x.2 : Rat)
theorem cast_pos {d : Int} (h : 0 < d) : (0 : Rat) < (d : Rat) := by exact_mod_cast h
theorem qv_mul {x : Int × Int} (hx : 0 < x.2) : qv x * (x.2 : Rat) = (x.1 : Rat) := by
  have h1 := cast_pos hx
  exact Rat.div_mul_cancel (by grind)
theorem lt_iff_mul {a b c : Rat} (hc : 0 < c) : a < b ↔ a * c < b * c := (Rat.mul_lt_mul_right hc).symm
theorem eq_of_mul {a b c : Rat} (hc : 0 < c) (h : a * c = b * c) : a = b := by
  have hn : c ≠ 0 := by grind
  rw [← Rat.mul_div_cancel (a := a) hn, h, Rat.mul_div_cancel hn]
/-- comparing -/
theorem qv_lt {x y : Int × Int} (hx : 0 < x.2) (hy : 0 < y.2) : qv x < qv y ↔ x.1 * y.2 - y.1 * x.2 < 0 := by
  have h1 := cast_pos hx
  have h2 := cast_pos hy
  have e1 := qv_mul hx
  have e2 := qv_mul hy
  rw [lt_iff_mul (Rat.mul_pos h1 h2)]
  have e3 : qv x * ((x.2 : Rat) * (y.2 : Rat)) = (x.1 : Rat) * (y.2 : Rat) := by grind
  have e4 : qv y * ((x.2 : Rat) * (y.2 : Rat)) = (y.1 : Rat) * (x.2 : Rat) := by grind
  rw [e3, e4]
  have : ((x.1 : Rat) * (y.2 : Rat) < (y.1 : Rat) * (x.2 : Rat)) ↔ x.1 * y.2 < y.1 * x.2 := by exact_mod_cast Iff.rfl
  rw [this]; omega
theorem qv_eq {x y : Int × Int} (hx : 0 < x.2) (hy : 0 < y.2) : qv x = qv y ↔ x.1 * y.2 - y.1 * x.2 = 0 := by
  have h1 := qv_lt hx hy
  have h2 := qv_lt hy hx
  constructor
  · intro h; rw [h] at h1 h2
    have a : ¬ qv y < qv y := by grind
    have a1 : ¬ x.1 * y.2 - y.1 * x.2 < 0 := fun hh => a (h1.2 hh)
    have a2 : ¬ y.1 * x.2 - x.1 * y.2 < 0 := fun hh => a (h2.2 hh)
    omega
  · intro h
    have a : ¬ qv x < qv y := fun hh => by have := h1.1 hh; omega
    have b : ¬ qv y < qv x := fun hh => by have := h2.1 hh; omega
    grind
/-- A fraction's value by its place on a grid. -/
theorem qv_grid {x : Int × Int} {G u : Int} (hx : 0 < x.2) (hG : 0 < G) (e : u * x.2 = x.1 * G) : qv x = (u : Rat) / (G : Rat) := by
  have := (qv_eq (x := x) (y := (u, G)) hx hG).2 (by simp only; omega)
  exact this
theorem qv_of {x : Int × Int} {X D : Int} (hx : 0 < x.2) (hD : 0 < D) (e : x.1 * D = X * x.2) : qv x * (D : Rat) = (X : Rat) := by
  rw [qv_grid hx hD e.symm]
  exact Rat.div_mul_cancel (by have := cast_pos hD; grind)
def kq (b : Int) (q : Rat) : Prop := b = 2147483647 ∨ q < ((b / 2 : Int) : Rat) ∨ (b % 2 = 1 ∧ q = ((b / 2 : Int) : Rat))
theorem keeps_kq {x y : Int × Int} (hx : 0 < x.2) (hy : 0 < y.2) (b : Int) : keepsQ x y b = true ↔ kq b (qv x - qv y) := by
  have h1 := cast_pos hx
  have h2 := cast_pos hy
  have e1 := qv_mul hx
  have e2 := qv_mul hy
  have hp := Rat.mul_pos h1 h2
  obtain ⟨n, hn⟩ : ∃ n, n = b / 2 := ⟨_, rfl⟩
  have e3 : (qv x - qv y) * ((x.2 : Rat) * (y.2 : Rat)) = ((x.1 * y.2 - y.1 * x.2 : Int) : Rat) := by
    rw [Rat.intCast_sub, Rat.intCast_mul, Rat.intCast_mul]; grind
  have e4 : (n : Rat) * ((x.2 : Rat) * (y.2 : Rat)) = ((n * (x.2 * y.2) : Int) : Rat) := by
    rw [Rat.intCast_mul, Rat.intCast_mul]
  have l1 : qv x - qv y < (n : Rat) ↔ x.1 * y.2 - y.1 * x.2 < n * (x.2 * y.2) := by
    rw [lt_iff_mul hp, e3, e4]; exact_mod_cast Iff.rfl
  have l2 : qv x - qv y = (n : Rat) ↔ x.1 * y.2 - y.1 * x.2 = n * (x.2 * y.2) := by
    constructor
    · intro h; rw [h, e4] at e3; exact_mod_cast e3.symm
    · intro h
      rw [h, ← e4] at e3
      exact eq_of_mul hp e3
  unfold keepsQ kq
  rw [← hn, decide_eq_true_iff, l1, l2]
  have : b % 2 = 0 ∨ b % 2 = 1 := by omega
  omega

theorem rq_pos {x : Int × Int} (h : rightR x = true) : 0 < x.2 := (of_decide_eq_true h).1
theorem cmp_qv {x y : Int × Int} (hx : rightR x = true) (hy : rightR y = true) : (cmpP x y < 0 ↔ qv x < qv y) ∧ (cmpP x y = 0 ↔ qv x = qv y) ∧ (0 < cmpP x y ↔ qv y < qv x) := by
  have a := qv_lt (rq_pos hx) (rq_pos hy)
  have b := qv_eq (rq_pos hx) (rq_pos hy)
  have c := qv_lt (rq_pos hy) (rq_pos hx)
  have e : cmpP x y = cmpQI (x.1 * y.2 - y.1 * x.2) := by unfold cmpP; rw [if_pos (by rw [hx, hy]; rfl)]
  rw [e, a, b, c]
  rcases cmp_cases (x.1 * y.2 - y.1 * x.2) with ⟨h1, h2⟩ | ⟨h1, h2⟩ | ⟨h1, h2⟩ <;> rw [h2] <;> omega
theorem frac_qv {X D : Int} (hD : 0 < D) (h : (fracP X D).2 = 0) : rightR (fracP X D).1 = true ∧ qv (fracP X D).1 * (D : Rat) = (X : Rat) :=
  have hr := (frac_right (by omega) h).1
  ⟨hr, qv_of (rq_pos hr) hD (frac_value (by omega) h)⟩
theorem sub_qv {x y : Int × Int} (hx : rightR x = true) (hy : rightR y = true) (h : (subP x y).2 = 0) : rightR (subP x y).1 = true ∧ qv (subP x y).1 = qv x - qv y := by
  have px := rq_pos hx
  have py := rq_pos hy
  have e : subP x y = fracP (x.1 * y.2 - y.1 * x.2) (x.2 * y.2) := by unfold subP; rw [if_pos (by rw [hx, hy]; rfl)]
  rw [e] at h ⊢
  obtain ⟨h1, h2⟩ := frac_qv (Int.mul_pos px py) h
  refine ⟨h1, eq_of_mul (cast_pos (Int.mul_pos px py)) (h2.trans ?_)⟩
  have e1 := qv_mul px
  have e2 := qv_mul py
  rw [Rat.intCast_sub, Rat.intCast_mul, Rat.intCast_mul, Rat.intCast_mul]; grind
theorem add_qv {x y : Int × Int} (hx : rightR x = true) (hy : rightR y = true) (h : (addP x y).2 = 0) : rightR (addP x y).1 = true ∧ qv (addP x y).1 = qv x + qv y := by
  have px := rq_pos hx
  have py := rq_pos hy
  have e : addP x y = fracP (x.1 * y.2 + y.1 * x.2) (x.2 * y.2) := by unfold addP; rw [if_pos (by rw [hx, hy]; rfl)]
  rw [e] at h ⊢
  obtain ⟨h1, h2⟩ := frac_qv (Int.mul_pos px py) h
  refine ⟨h1, eq_of_mul (cast_pos (Int.mul_pos px py)) (h2.trans ?_)⟩
  have e1 := qv_mul px
  have e2 := qv_mul py
  rw [Rat.intCast_add, Rat.intCast_mul, Rat.intCast_mul, Rat.intCast_mul]; grind
theorem qv_int (n : Int) : qv (n, 1) = (n : Rat) := by
  have := qv_mul (x := (n, 1)) (show (0 : Int) < 1 by omega)
  simpa using this
theorem qv_pos {x : Int × Int} (hx : 0 < x.2) : 0 ≤ qv x ↔ 0 ≤ x.1 := by
  have h := qv_lt (x := x) (y := (0, 1)) hx (by decide)
  rw [qv_int] at h
  have e : x.1 * 1 - 0 * x.2 = x.1 := by omega
  simp only at h
  rw [e] at h
  constructor
  · intro a; apply Classical.byContradiction; intro b
    have := h.2 (by omega)
    have z : ((0 : Int) : Rat) = 0 := rfl
    rw [z] at this; grind
  · intro a; apply Classical.byContradiction; intro b
    have z : ((0 : Int) : Rat) = 0 := rfl
    have := h.1 (by rw [z]; grind)
    omega

/-! ### what is in a zone -/
/-- A clock's value as a rational number. -/
def cq (v : List (Int × Int)) (i : Nat) : Rat := qv (clockV v i)
theorem cq_zero (v : List (Int × Int)) : cq v 0 = 0 := by
  unfold cq clockV
  rw [if_pos rfl, qv_int]; rfl
theorem break_none {n : Nat} {m : Mat} {v : List (Int × Int)} : ∀ g k, breakFrom n m v g k = none ↔ ∀ q, k ≤ q → q < k + g → keptAt n m v q = true
  | 0, k => ⟨fun _ q h1 h2 => absurd h2 (by omega), fun _ => rfl⟩
  | g + 1, k => by
    unfold breakFrom
    by_cases h : keptAt n m v k = true
    · rw [if_pos h, break_none g (k + 1)]
      constructor
      · intro a q h1 h2
        by_cases e : q = k
        · rw [e]; exact h
        · exact a q (by omega) (by omega)
      · intro a q h1 h2; exact a q (by omega) (by omega)
    · rw [if_neg h]
      exact ⟨fun a => (by cases a), fun a => absurd (a k (Nat.le_refl _) (by omega)) h⟩
theorem cells_all {n : Nat} {P : Nat → Nat → Prop} : (∀ k, k < (n + 1) * (n + 1) → P (k / (n + 1)) (k % (n + 1))) ↔ ∀ i j, i ≤ n → j ≤ n → P i j := by
  constructor
  · intro h i j hi hj
    have hk : i * (n + 1) + j < (n + 1) * (n + 1) := at_lt (by omega) (by omega)
    have := h _ hk
    rwa [show (i * (n + 1) + j) / (n + 1) = i by rw [Nat.mul_comm, Nat.mul_add_div (by omega), Nat.div_eq_of_lt (by omega)]; omega, show (i * (n + 1) + j) % (n + 1) = j by rw [Nat.mul_comm, Nat.mul_add_mod, Nat.mod_eq_of_lt (by omega)]] at this
  · intro h k hk
    have h1 : k / (n + 1) < n + 1 := Nat.div_lt_of_lt_mul hk
    have h2 := Nat.mod_lt k (show 0 < n + 1 by omega)
    exact h _ _ (by omega) (by omega)
theorem clock_pos {v : List (Int × Int)} (h : rightV v = true) {i : Nat} (hi : i ≤ v.length) : 0 < (clockV v i).2 := rq_pos (clock_right h hi).1
theorem breaks_none {n : Nat} {m : Mat} {v : List (Int × Int)} (hv : rightV v = true) (hl : v.length = n) : breaksP n m v = none ↔ ∀ i j, i ≤ n → j ≤ n → kq (m i j) (cq v i - cq v j) := by
  unfold breaksP
  rw [break_none]
  have := cells_all (n := n) (P := fun i j => kq (m i j) (cq v i - cq v j))
  rw [← this]
  constructor
  · intro h k hk
    have h0 := h k (Nat.zero_le _) (by omega)
    have h1 : k / (n + 1) < n + 1 := Nat.div_lt_of_lt_mul hk
    have h2 := Nat.mod_lt k (show 0 < n + 1 by omega)
    exact (keeps_kq (clock_pos hv (by omega)) (clock_pos hv (by omega)) _).1 h0
  · intro h k _ hk
    have h0 := h k (by omega)
    have h1 : k / (n + 1) < n + 1 := Nat.div_lt_of_lt_mul (by omega)
    have h2 := Nat.mod_lt k (show 0 < n + 1 by omega)
    exact (keeps_kq (clock_pos hv (by omega)) (clock_pos hv (by omega)) _).2 h0
theorem in_iff {n : Nat} {m : Mat} {v : List (Int × Int)} : inP n m v = true ↔ rightV v = true ∧ v.length = n ∧ ∀ i j, i ≤ n → j ≤ n → kq (m i j) (cq v i - cq v j) := by
  unfold inP
  rw [Bool.and_eq_true_iff, Bool.and_eq_true_iff, decide_eq_true_iff, Option.isNone_iff_eq_none]
  constructor
  · rintro ⟨⟨a, b⟩, c⟩; exact ⟨a, b, (breaks_none a b).1 c⟩
  · rintro ⟨a, b, c⟩; exact ⟨⟨a, b⟩, (breaks_none a b).2 c⟩

end Go.Proofs.Ytfegongaflekiaa

/- Cells of a zone under way: less, forget; is it a clock? -/
namespace Go.Proofs.Ytfegongaflekiaa
open Go Go.RowKit
set_option linter.unusedVariables false
set_option linter.unusedSimpArgs false
attribute [local go_sem] min_ints max_ints

/-- A cell made stricter. -/
def lessM (m : Mat) (i j : Nat) (x : Int) : Mat := upd m i j (min (m i j) x)

set_option maxHeartbeats 400000 in
set_option maxRecDepth 100000 in
theorem less_any (b i j n : Nat) (m : Mat) (x : Int) (w : World) (hi : i < 9) (hj : j < 9) (h : MatAt w b 138 .i32 n m) :
    Calls Try.prog 88 #[.pointer (some ⟨b, 0, none⟩), .int .i64 i, .int .i64 j, .int .i32 x] w fun e w' => e = .returned (.tuple #[]) ∧ Only b w w' ∧ MatAt w' b 138 .i32 n (lessM m i j x) := by
  have hc := h.cell i j hi hj
  have hf := h.frozen (1 + i * 9 + j)
  have HM := Lib.hid h
  clear h
  go_enter Try.func88, Try.ntmps88
  go_wp2
  go_region
  go_wp2
  go_end0
  exact ⟨rfl, ((Only.refl _ _).setCell _ _).drew, HM.out.set i j hi hj _⟩

/-- A clock that nothing is said of, behind the first p cells. -/
def forgetUp (x : Nat) (m : Mat) : Nat → Mat
  | 0 => m
  | p + 1 => if p = x then forgetUp x m p else upd (upd (forgetUp x m p) x p 2147483647) p x (upd (forgetUp x m p) x p 2147483647 p 0)
def ForgetR (w0 : World) (b n x : Nat) (m : Mat) (p : Nat) (wr : World) : Prop := Only b w0 wr ∧ MatAt wr b 138 .i32 n (forgetUp x m p)
theorem ForgetR.skip {w0 wr : World} {b n x : Nat} {m : Mat} (h : ForgetR w0 b n x m x wr) : ForgetR w0 b n x m (x + 1) wr :=
  ⟨h.1, by have := h.2; unfold forgetUp; rw [if_pos rfl]; exact this⟩

set_option maxHeartbeats 1000000 in
set_option maxRecDepth 100000 in
theorem forget_any (b n x : Nat) (m : Mat) (w : World) (hn : n ≤ 8) (hx : x ≤ n) (h : MatAt w b 138 .i32 n m) :
    Calls Try.prog 90 #[.pointer (some ⟨b, 0, none⟩), .int .i64 x] w fun e w' => e = .returned (.tuple #[]) ∧ Only b w w' ∧ MatAt w' b 138 .i32 n (forgetUp x m (n + 1)) := by
  have h0 := h.head
  have H0 := Lib.hid (show ForgetR w b n x m 0 w from ⟨Only.refl _ _, h⟩)
  have g1 : IntKind.i64.wrap ((n : Int) + 1) = (n : Int) + 1 := IntWalk.i64_in _ (by omega)
  clear h
  go_enter Try.func90, Try.ntmps90
  go_wp2
  go_loopg [11] (n + 1) (fun g v wr => ∃ p : Nat, v = .int .i64 p ∧ ForgetR w b n x m p wr ∧ Hid (p ≤ n + 1 ∧ g + p = n + 1))
  case atStart => exact ⟨0, by simp, H0.out, by omega, by omega⟩
  case round =>
    clear H0
    obtain ⟨p, rfl, H, HG⟩ := hrel
    have HR := Lib.hid H
    clear H
    by_cases hp : p < n + 1
    · have hpi : (p : Int) < (n : Int) + 1 := by omega
      by_cases e : p = x
      · subst e
        have t1 : ((p : Int) != (p : Int)) = false := by simp
        go_wp2
        go_roundg (gk - 1)
        case measure => have h := HG.out; omega
        case rel => exact ⟨p + 1, by go_num, HR.out.skip, by omega, by have h := HG.out; omega⟩
      · have t1 : ((p : Int) != (x : Int)) = true := by simp; omega
        have E := Lib.hid e
        clear e
        have c1 := HR.out.2.cell x p (by omega) (by omega)
        have f1 := HR.out.2.frozen (1 + x * 9 + p)
        have hlt := HR.out.2.lt
        go_wp2_with fail
        have HM2 := Lib.hid (HR.out.2.set x p (by omega) (by omega) 2147483647)
        have HO2 := Lib.hid (HR.out.1.setCell (1 + x * 9 + p) (.int .i32 2147483647))
        generalize wr.setCell ⟨b, 1 + x * 9 + p, none⟩ (.int .i32 2147483647) = w2 at *
        obtain ⟨m1, hm1⟩ : ∃ m1, m1 = upd (forgetUp x m p) x p 2147483647 := ⟨_, rfl⟩
        rw [← hm1] at HM2
        have HM1 := Lib.hid hm1
        have c2 := HM2.out.cell p 0 (by omega) (by omega)
        have f2 := HM2.out.frozen (1 + p * 9 + x)
        have c3 := HM2.out.cell p x (by omega) (by omega)
        have hp9 : (p : Int) < 9 := by omega
        have hx9 : (x : Int) < 9 := by omega
        simp only [Nat.add_zero] at c2
        clear c1 f1 hm1
        go_region
        go_wp2
        go_roundg (gk - 1)
        case measure => have h := HG.out; omega
        case rel =>
          refine ⟨p + 1, by go_num, ⟨(HO2.out.setCell _ _).drew, ?_⟩, by omega, by have h := HG.out; omega⟩
          have e : forgetUp x m (p + 1) = upd m1 p x (m1 p 0) := by rw [HM1.out, forgetUp, if_neg E.out]
          rw [e]
          exact HM2.out.set p x (by omega) (by omega) _
    · have e : p = n + 1 := by have := HG.out.1; omega
      subst e
      have hpi : ¬ (((n + 1 : Nat) : Int) < (n : Int) + 1) := by omega
      go_wp2
      go_end0
      exact ⟨rfl, HR.out.1, HR.out.2⟩

end Go.Proofs.Ytfegongaflekiaa

/- How the program adds wide bounds and closes a wide matrix. -/
namespace Go.Proofs.Ytfegongaflekiaa
open Go.RowKit
set_option linter.unusedVariables false
set_option linter.unusedSimpArgs false
attribute [local go_sem] min_ints max_ints

theorem mul_bits (a b : Int) : 0 ≤ (a % 2) * (b % 2) ∧ (a % 2) * (b % 2) ≤ 1 := by
  rcases two_cases a b with ⟨h, _⟩ | ⟨h, _⟩ <;> rw [h] <;> omega

set_option maxRecDepth 100000 in
set_option maxHeartbeats 1000000 in
theorem sum_fin (a b : Int) (w : World) (ha1 : -1152921504606846976 ≤ a) (ha2 : a ≤ 1152921504606846976) (hb1 : -1152921504606846976 ≤ b) (hb2 : b ≤ 1152921504606846976) :
    Calls Try.prog 124 #[.int .i64 a, .int .i64 b] w fun e w' => e = .returned (.int .i64 (wsum a b)) ∧ w = w' := by
  have t1 : (a == 4611686018427387904) = false := by simp; omega
  have t2 : (b == 4611686018427387904) = false := by simp; omega
  obtain ⟨p, hp, hp0, hp1, hp2⟩ : ∃ p, Go.bits .and .i64 (Go.bits .and .i64 a b) 1 = p ∧ 0 ≤ p ∧ p ≤ 1 ∧ p = (a % 2) * (b % 2) := ⟨_, i64_and_and1 a b, (mul_bits a b).1, (mul_bits a b).2, rfl⟩
  have HP := Lib.hid hp2
  clear hp2
  obtain ⟨x, hx, hx0, hx1, hx2⟩ : ∃ x, Go.bits .andNot .i64 a 1 = x ∧ a - 1 ≤ x ∧ x ≤ a ∧ x = a - a % 2 := ⟨_, i64_andNot1 a (by omega) (by omega), by omega, by omega, rfl⟩
  have HX := Lib.hid hx2
  clear hx2
  obtain ⟨y, hy, hy0, hy1, hy2⟩ : ∃ y, Go.bits .andNot .i64 b 1 = y ∧ b - 1 ≤ y ∧ y ≤ b ∧ y = b - b % 2 := ⟨_, i64_andNot1 b (by omega) (by omega), by omega, by omega, rfl⟩
  have HY := Lib.hid hy2
  clear hy2
  have HR : wsum a b = x + y + p := by
    unfold wsum none62
    rw [if_neg (by omega), HP.out, HX.out, HY.out]
  rw [HR]
  clear HR
  go_enter Try.func124, Try.ntmps124
  go_wp2
  go_ret
  exact ⟨rfl, rfl⟩

set_option maxRecDepth 100000 in
set_option maxHeartbeats 1000000 in
theorem sum_none_left (b : Int) (w : World) :
    Calls Try.prog 124 #[.int .i64 4611686018427387904, .int .i64 b] w fun e w' => e = .returned (.int .i64 4611686018427387904) ∧ w = w' := by
  go_enter Try.func124, Try.ntmps124
  go_wp2
  go_ret
  exact ⟨rfl, rfl⟩

set_option maxRecDepth 100000 in
set_option maxHeartbeats 1000000 in
theorem sum_none_right (a : Int) (w : World) :
    Calls Try.prog 124 #[.int .i64 a, .int .i64 4611686018427387904] w fun e w' => e = .returned (.int .i64 4611686018427387904) ∧ w = w' := by
  by_cases h : a = 4611686018427387904
  · subst h; exact sum_none_left _ _
  · have t1 : (a == 4611686018427387904) = false := by simp; omega
    clear h
    go_enter Try.func124, Try.ntmps124
    go_wp2
    go_ret
    exact ⟨rfl, rfl⟩

theorem dsum_any (a b : Int) (w : World) (ha : Bd 1152921504606846976 a) (hb : Bd 1152921504606846976 b) :
    Calls Try.prog 124 #[.int .i64 a, .int .i64 b] w fun e w' => e = .returned (.int .i64 (wsum a b)) ∧ w = w' := by
  rcases ha with rfl | ha
  · have : wsum none62 b = 4611686018427387904 := by simp [wsum, none62]
    rw [this]; exact sum_none_left _ _
  · rcases hb with rfl | hb
    · have : wsum a none62 = 4611686018427387904 := by simp [wsum, none62]
      rw [this]; exact sum_none_right _ _
    · exact sum_fin a b w ha.1 ha.2 hb.1 hb.2

theorem sum_still (a b : Int) (w : World) (ha : Bd 1152921504606846976 a) (hb : Bd 1152921504606846976 b) :
    Calls Try.prog 124 #[.int .i64 a, .int .i64 b] w fun e w' => e = .returned (.int .i64 (wsum a b)) ∧ w' = w :=
  (dsum_any a b w ha hb).mono fun _ _ h => ⟨h.1, h.2.symm⟩

/-- The machine's matrix is cur; nothing else was touched. -/
def CloseAt (w0 : World) (b n : Nat) (cur : Mat) (wr : World) : Prop := Only b w0 wr ∧ MatAt wr b 182 .i64 n cur

def OuterR (w0 : World) (b n : Nat) (m0 : Mat) (g k : Nat) (m : Mat) (wr : World) : Prop := CloseAt w0 b n m wr ∧ RoundOk n m0 k m ∧ g + k = n + 1
def MidR (w0 : World) (b n : Nat) (m : Mat) (k g i : Nat) (cur : Mat) (wr : World) : Prop :=
  CloseAt w0 b n cur wr ∧ InnerOk n (1073741824 * 4 ^ k) m k i 0 cur ∧ (∀ a, a < i → 1 ≤ fw k n m a a) ∧ i ≤ n + 1 ∧ g + i = n + 1
def InnR (w0 : World) (b n : Nat) (m : Mat) (k i g j : Nat) (cur : Mat) (wr : World) : Prop :=
  CloseAt w0 b n cur wr ∧ InnerOk n (1073741824 * 4 ^ k) m k i j cur ∧ j ≤ n + 1 ∧ g + j = n + 1

theorem CloseAt.step {w0 wr : World} {b n : Nat} {cur : Mat} (h : CloseAt w0 b n cur wr) {i j : Nat} (hi : i < 9) (hj : j < 9) (v : Int) :
    CloseAt w0 b n (upd cur i j v) (wr.setCell ⟨b, 1 + i * 9 + j, none⟩ (.int .i64 v)).drew :=
  ⟨(h.1.setCell _ _).drew, h.2.set i j hi hj v⟩

theorem InnR.bounds {w0 wr : World} {b n : Nat} {m m0 cur : Mat} {k i g j : Nat} (h : InnR w0 b n m k i g j cur wr) (hr : RoundOk n m0 k m) (hn : n ≤ 8) (hk : k ≤ n) (hi : i ≤ n) (hj : j ≤ n) :
    Bd 1152921504606846976 (cur i j) ∧ Bd 1152921504606846976 (cur i k) ∧ Bd 1152921504606846976 (cur k j) := by
  have h4 := pow2_le (show k ≤ 9 by omega)
  have h1 := one_le_pow2 k
  have := h.2.1.bounds hr.fit (by omega) hk hi hj
  exact ⟨this.1.mono (by omega), this.2.1.mono (by omega), this.2.2.mono (by omega)⟩

theorem InnR.step {w0 wr : World} {b n : Nat} {m m0 cur : Mat} {k i g j : Nat} (h : InnR w0 b n m k i g j cur wr) (hr : RoundOk n m0 k m) (hn : n ≤ 8) (hk : k ≤ n) (hi : i ≤ n) (hj : j ≤ n) :
    InnR w0 b n m k i (g - 1) (j + 1) (upd cur i j (min (cur i j) (wsum (cur i k) (cur k j)))) (wr.setCell ⟨b, 1 + i * 9 + j, none⟩ (.int .i64 (min (cur i j) (wsum (cur i k) (cur k j))))).drew := by
  have h1 := one_le_pow2 k
  have := h.2.2.2
  exact ⟨h.1.step (by omega) (by omega) _, h.2.1.step hr.fit (by omega) hk hi hj, by omega, by omega⟩

theorem InnR.next {w0 wr : World} {b n : Nat} {m cur : Mat} {k i g j : Nat} (h : InnR w0 b n m k i g j cur wr) (hj : ¬ j < n + 1) (hd : 1 ≤ cur i i) (hi : i ≤ n) (hall : ∀ a, a < i → 1 ≤ fw k n m a a) :
    MidR w0 b n m k (n - i) (i + 1) cur wr := by
  have e : j = n + 1 := by have := h.2.2.1; omega
  subst e
  obtain ⟨h1, h2, h3⟩ := (h.2.1.row hi).2 hd
  refine ⟨h.1, h3, fun a ha => ?_, by omega, by omega⟩
  by_cases e : a = i
  · subst e; exact h2
  · exact hall a (by omega)

theorem InnR.fail {w0 wr : World} {b n : Nat} {m m0 cur : Mat} {k i g j : Nat} (h : InnR w0 b n m k i g j cur wr) (hr : RoundOk n m0 k m) (hj : ¬ j < n + 1) (hd : cur i i < 1) (hk : k ≤ n) (hi : i ≤ n) : closed n m0 = none := by
  have e : j = n + 1 := by have := h.2.2.1; omega
  subst e
  exact hr.fail hk hi ((h.2.1.row hi).1 hd)

theorem MidR.next {w0 wr : World} {b n : Nat} {m m0 cur : Mat} {k i g : Nat} (h : MidR w0 b n m k g i cur wr) (hr : RoundOk n m0 k m) (hi : ¬ i < n + 1) (hk : k ≤ n) :
    OuterR w0 b n m0 (n - k) (k + 1) cur wr := by
  have e : i = n + 1 := by have := h.2.2.2.1; omega
  subst e
  exact ⟨h.1, hr.next hk h.2.1 (fun a ha => h.2.2.1 a (by omega)), by omega⟩

/-- What close answers. -/
def CloseEnds (w0 : World) (b n : Nat) (m0 : Mat) (e : Ending) (w' : World) : Prop :=
  Only b w0 w' ∧ ((closed n m0 = none ∧ e = .returned (.bool false)) ∨ ∃ m', closed n m0 = some m' ∧ e = .returned (.bool true) ∧ MatAt w' b 182 .i64 n m')

set_option maxRecDepth 100000 in
set_option maxHeartbeats 2000000 in
theorem close_any (b n : Nat) (m0 : Mat) (w : World) (hn : n ≤ 8) (h : MatAt w b 182 .i64 n m0) (hf : Fit n 1073741824 m0) :
    Calls Try.prog 105 #[.pointer (some ⟨b, 0, none⟩)] w (CloseEnds w b n m0) := by
  have H0 := Lib.hid (show OuterR w b n m0 (n + 1) 0 m0 w from ⟨⟨Only.refl _ _, h⟩, RoundOk.start hf, by omega⟩)
  have h0 := h.head
  clear h hf
  go_enter Try.func105, Try.ntmps105
  go_wp2
  go_loopg [11] (n + 1) (fun g v wr => ∃ k : Nat, ∃ m, v = .int .i64 k ∧ OuterR w b n m0 g k m wr)
  case atStart => exact ⟨0, m0, by simp, H0.out⟩
  case round =>
    clear H0 h0
    obtain ⟨k, m, rfl, H⟩ := hrel
    have HK := Lib.hid H
    have h0 := H.1.2.head
    clear H
    by_cases hk : k < n + 1
    · have hkk : (k : Int) < (n : Int) + 1 := by omega
      have H1 := Lib.hid (show MidR w b n m k (n + 1) 0 m wr from ⟨HK.out.1, HK.out.2.1.inner (by omega), fun a ha => by omega, by omega, by omega⟩)
      go_wp2
      go_loopg [19] (n + 1) (fun g v wr => ∃ i : Nat, ∃ cur, v = .int .i64 i ∧ MidR w b n m k g i cur wr)
      case atStart => exact ⟨0, m, by simp, H1.out⟩
      case round =>
        clear H1 h0
        obtain ⟨i, cur, rfl, H⟩ := hrel
        have HI := Lib.hid H
        have h0 := H.1.2.head
        clear H
        by_cases hi : i < n + 1
        · have hii : (i : Int) < (n : Int) + 1 := by omega
          have H1 := Lib.hid (show InnR w b n m k i (n + 1) 0 cur wr from ⟨HI.out.1, HI.out.2.1, by omega, by omega⟩)
          go_wp2
          go_loopg [27] (n + 1) (fun g v wr => ∃ j : Nat, ∃ cur, v = .int .i64 j ∧ InnR w b n m k i g j cur wr)
          case atStart => exact ⟨0, cur, by simp, H1.out⟩
          case round =>
            clear H1 h0
            obtain ⟨j, cur, rfl, H⟩ := hrel
            have HJ := Lib.hid H
            by_cases hj : j < n + 1
            · have hjj : (j : Int) < (n : Int) + 1 := by omega
              have c1 := H.1.2.cell i j (by omega) (by omega)
              have c2 := H.1.2.cell i k (by omega) (by omega)
              have c3 := H.1.2.cell k j (by omega) (by omega)
              have f1 := H.1.2.frozen (1 + i * 9 + j)
              clear H
              have HB := Lib.hid (HJ.out.bounds HK.out.2.1 hn (by omega) (by omega) (by omega))
              have HS := Lib.hid (HJ.out.step HK.out.2.1 hn (by omega) (by omega) (by omega))
              have i9 : (i : Int) < 9 := by omega
              have j9 : (j : Int) < 9 := by omega
              have k9 : (k : Int) < 9 := by omega
              have C1 := Lib.hid (show wr.drew.cell? _ = _ from c1)
              have C2 := Lib.hid (show wr.drew.cell? _ = _ from c2)
              have C3 := Lib.hid (show wr.drew.cell? _ = _ from c3)
              go_wp2
              refine wp_region_still_tail 33 (by kernel_rfl) (by kernel_rfl) ?_
              simp only [List.take_succ_cons, List.take_zero, List.drop_succ_cons, List.drop_zero]
              change wpStill _ _ wr.drew _ _ _
              generalize wr.drew = w2 at *
              have d1 := C1.out
              have d2 := C2.out
              have d3 := C3.out
              clear C1 C2 C3
              repeat still_step
              still_call (sum_still _ _ _ HB.out.2.1 HB.out.2.2)
              repeat still_step
              refine wpStill_nil ?_
              go_wp2
              go_roundg (gk - 1)
              case measure => have := HJ.out.2.2.2; omega
              case rel => exact ⟨j + 1, _, by go_num, HS.out⟩
            · have hjj : ¬ (j : Int) < (n : Int) + 1 := by omega
              have c1 := H.1.2.cell i i (by omega) (by omega)
              have h0 := H.1.2.head
              clear H
              by_cases hd : cur i i < 1
              · go_wp2
                go_ret
                exact ⟨HJ.out.1.1, .inl ⟨HJ.out.fail HK.out.2.1 hj hd (by omega) (by omega), rfl⟩⟩
              · go_wp2
                go_roundg (n - i)
                case measure => have := HI.out.2.2.2.2; omega
                case rel =>
                  exact ⟨i + 1, _, by go_num, HJ.out.next hj (by omega) (by omega) HI.out.2.2.1⟩
        · have hii : ¬ (i : Int) < (n : Int) + 1 := by omega
          go_wp2
          go_roundg (n - k)
          case measure => have := HK.out.2.2; omega
          case rel =>
            exact ⟨k + 1, _, by go_num, HI.out.next HK.out.2.1 hi (by omega)⟩
    · have hkk : ¬ (k : Int) < (n : Int) + 1 := by omega
      go_wp2
      go_ret
      have e : k = n + 1 := by have := HK.out.2.1.le; omega
      subst e
      exact ⟨HK.out.1.1, .inr ⟨m, HK.out.2.1.done, rfl, HK.out.1.2⟩⟩

end Go.Proofs.Ytfegongaflekiaa

/- What zone makes of a wide matrix: the zone, or the error. -/
namespace Go.Proofs.Ytfegongaflekiaa
open Go.RowKit
set_option linter.unusedVariables false
set_option linter.unusedSimpArgs false
attribute [local go_sem] min_ints max_ints


theorem zero_matrix (n : Nat) : (Try.zeroCells106).setIfInBounds 0 (Value.int .i64 n) = matCells .i32 n (fun _ _ => 0) := rfl

theorem size_matrix : (Try.prog.info? 106).map (·.size) = some 82 := by kernel_rfl

theorem zone_lay (n : Nat) (m : Mat) : Array.foldl (fun (cs : Array Value) (x : Value × Nat) => cs.setIfInBounds x.snd x.fst) Try.zeroCells108 (matCells .i32 n m).zipIdx 0 82 = matCells .i32 n m := by
  have h := lay_whole (matCells .i32 n m) Try.zeroCells108 (by rw [matCells_size]; rfl)
  rw [matCells_size] at h
  exact h

/-- The narrow matrix while it is filled. -/
def FillR (w1 : World) (b b2 n : Nat) (m : Mat) (g i j : Nat) (wr : World) : Prop :=
  Only b2 w1 wr ∧ MatAt wr b 182 .i64 n m ∧ MatAt wr b2 106 .i32 n (filled (narM n m) i j) ∧ (∀ a c, a < i ∨ (a = i ∧ c < j) → c ≤ n → inR (m a c)) ∧ i ≤ n + 1 ∧ j ≤ n + 1

theorem FillR.step {w1 wr : World} {b b2 n : Nat} {m : Mat} {g g' i j : Nat} (h : FillR w1 b b2 n m g i j wr) (hn : n ≤ 8) (hb : b ≠ b2) (hi : i < n + 1) (hj : j < n + 1) (hr : inR (m i j)) (v : Int) (hv : v = nar (m i j)) :
    FillR w1 b b2 n m g' i (j + 1) (wr.setCell ⟨b2, 1 + i * 9 + j, none⟩ (.int .i32 v)) := by
  have e : nar (m i j) = narM n m i j := by unfold narM; rw [if_pos (by omega)]
  have h3 := h.2.2.1.set i j (by omega) (by omega) v
  rw [hv, e, upd_filled] at h3
  rw [hv, e]
  refine ⟨h.1.setCell _ _, h.2.1.only ((Only.refl _ _).setCell _ _) hb, h3, fun a c hac hc => ?_, h.2.2.2.2.1, by omega⟩
  by_cases e : a = i ∧ c = j
  · obtain ⟨rfl, rfl⟩ := e; exact hr
  · exact h.2.2.2.1 a c (by omega) hc
theorem FillR.row {w1 wr : World} {b b2 n : Nat} {m : Mat} {g g' i j : Nat} (h : FillR w1 b b2 n m g i j wr) (hi : i < n + 1) (hj : ¬ j < n + 1) : FillR w1 b b2 n m g' (i + 1) 0 wr := by
  have e : j = n + 1 := by have := h.2.2.2.2.2; omega
  subst e
  refine ⟨h.1, h.2.1, by rw [filled_row (narM_inside n m)]; exact h.2.2.1, fun a c hac hc => h.2.2.2.1 a c (by omega) hc, by omega, by omega⟩
theorem FillR.done {w1 wr : World} {b b2 n : Nat} {m : Mat} {g i : Nat} (h : FillR w1 b b2 n m g i 0 wr) (hi : ¬ i < n + 1) :
    Only b2 w1 wr ∧ MatAt wr b2 106 .i32 n (narM n m) ∧ allR n m := by
  have e : i = n + 1 := by have := h.2.2.2.2.1; omega
  subst e
  refine ⟨h.1, ?_, fun a ha c hc => h.2.2.2.1 a c (by omega) hc⟩
  have := h.2.2.1
  rw [filled_done (narM_inside n m)] at this
  exact this

/-- What zone answers: v and the number of the error. -/
def ZoneEnds (w0 : World) (b n : Nat) (m0 : Mat) (e : Ending) (w' : World) : Prop :=
  Only b w0 w' ∧ ∃ v, e = .returned (.tuple #[v, .int .i64 (zoneP n m0).2]) ∧ ZoneV 108 w' v ((zoneP n m0).1.map fun m => (n, m))

theorem zone_made {w1 : World} {c n : Nat} {m : Mat} (h : MatAt w1 c 106 .i32 n m) : MatAt (w1.alloc (.cells (matCells .i32 n m) 108)) w1.heap.size 108 .i32 n m := by
  unfold MatAt; exact heap_alloc_new _ _

set_option maxRecDepth 100000 in
set_option maxHeartbeats 2000000 in
theorem zone_any (b n : Nat) (m0 : Mat) (w : World) (hn : n ≤ 8) (h : MatAt w b 182 .i64 n m0) (hf : Fit n 1073741824 m0) :
    Calls Try.prog 65 #[.pointer (some ⟨b, 0, none⟩)] w (ZoneEnds w b n m0) := by
  have h0 := h.head
  have hlt := h.lt
  have HF := Lib.hid hf
  have HM := Lib.hid (show MatAt (w.alloc (.cells (matCells .i32 n (fun _ _ => 0)) 106)) w.heap.size 106 .i32 n (fun _ _ => 0) from by unfold MatAt; exact heap_alloc_new _ _)
  have HB := Lib.hid (h.alloc (.cells (matCells .i32 n (fun _ _ => 0)) 106))
  clear h hf
  have hz0 := zero_matrix n
  go_enter Try.func65, Try.ntmps65
  go_wp2_with fail
  refine (close_any b n m0 _ hn HB.out HF.out).mono ?_
  rintro e w1 ⟨ho, hcl⟩
  have HO := Lib.hid ho
  have hsz : w.heap.size < w1.heap.size := by have := ho.size; simp at this; omega
  have hM1 : MatAt w1 w.heap.size 106 .i32 n (fun _ _ => 0) := HM.out.only ho (by omega)
  have HM1 := Lib.hid hM1
  clear ho hz0
  rcases hcl with ⟨hc, rfl⟩ | ⟨m', hc, rfl, hm⟩
  · have HC := Lib.hid hc
    have hb := zone_lay n (fun _ _ => 0)
    have hs := matCells_size .i32 n (fun _ _ => 0)
    clear hc hM1
    go_wp2_with (refine wpList_load_row rfl 106 _ rfl w.heap.size rfl 106 _ (0, 0) _ HM1.out Try.underlying106 rfl (by rw [matCells_size]; exact size_matrix) ?_)
    go_ret2
    have hz : zoneP n m0 = (some (fun _ _ => 0), 0) := by unfold zoneP; rw [HC.out]
    exact ⟨(((Only.refl _ _).alloc _).trans HO.out).alloc _, .pointer (some ⟨w1.heap.size, 0, none⟩), by rw [hz]; rfl, by rw [hz]; exact ⟨_, rfl, hn, right_zero n, zone_made HM1.out⟩⟩
  · have HC := Lib.hid hc
    have h0 := hm.head
    have HS := Lib.hid (show FillR w1 b w.heap.size n m' (n + 1) 0 0 w1 from ⟨Only.refl _ _, hm, by rw [filled_zero]; exact HM1.out, fun a c h => by omega, by omega, by omega⟩)
    clear hc hm hM1
    go_wp2
    go_loopg [27] (n + 1) (fun g v wr => ∃ i : Nat, v = .int .i64 i ∧ FillR w1 b w.heap.size n m' g i 0 wr ∧ g + i = n + 1)
    case atStart => exact ⟨0, by simp, HS.out, by omega⟩
    case round =>
      clear HS h0
      obtain ⟨i, rfl, H, hg⟩ := hrel
      have HG := Lib.hid hg
      have HI := Lib.hid H
      have h0 := H.2.1.head
      clear H hg
      by_cases hi : i < n + 1
      · have hii : (i : Int) < (n : Int) + 1 := by omega
        go_wp2
        go_loopg [35] (n + 1) (fun g v wr => ∃ j : Nat, v = .int .i64 j ∧ FillR w1 b w.heap.size n m' g i j wr ∧ g + j = n + 1)
        case atStart => exact ⟨0, by simp, HI.out, by omega⟩
        case round =>
          clear HI h0
          obtain ⟨j, rfl, H, hg⟩ := hrel
          have HG2 := Lib.hid hg
          have HJ := Lib.hid H
          clear hg
          by_cases hj : j < n + 1
          · have hjj : (j : Int) < (n : Int) + 1 := by omega
            have c1 := H.2.1.cell i j (by omega) (by omega)
            have f1 := H.2.2.1.frozen (1 + i * 9 + j)
            have hb2 : w.heap.size < wr.heap.size := H.2.2.1.lt
            obtain ⟨old, ho⟩ : ∃ old, wr.cell? ⟨w.heap.size, 1 + i * 9 + j, none⟩ = some (.int .i32 old) := ⟨_, H.2.2.1.cell i j (by omega) (by omega)⟩
            clear H
            obtain ⟨x, hx⟩ : ∃ x, x = m' i j := ⟨_, rfl⟩
            rw [← hx] at c1
            have HX := Lib.hid hx
            clear hx
            by_cases h1 : x = none62
            · have hx : x = 4611686018427387904 := h1
              have HX1 := Lib.hid h1
              clear h1
              subst hx
              go_wp2
              go_roundg (gk - 1)
              case measure => have := HG2.out; omega
              case rel => exact ⟨j + 1, by go_num, HJ.out.step hn (by omega) hi hj (.inl (by rw [← HX.out]; rfl)) _ (by rw [← HX.out]; rfl), by have := HG2.out; omega⟩
            · have t1 : (x == 4611686018427387904) = false := by simpa [none62] using h1
              have H1 := Lib.hid h1
              clear h1
              by_cases h2 : x < -536870912
              · have d2 : decide (x < -536870912) = true := decide_eq_true h2
                go_wp2
                go_ret2
                have hall : ¬ allR n m' := fun ha => by have := ha i (by omega) j (by omega); rw [← HX.out] at this; rcases this with h | h; exact H1.out h; omega
                have hz : zoneP n m0 = (none, 10) := by unfold zoneP; rw [HC.out]; simp only; rw [if_neg hall]
                exact ⟨(((Only.refl _ _).alloc _).trans HO.out).andThen HJ.out.1 (Nat.le_refl _), .pointer none, by rw [hz]; rfl, by rw [hz]; rfl⟩
              · have d2 : decide (x < -536870912) = false := decide_eq_false h2
                by_cases h3 : 536870913 < x
                · go_wp2
                  go_ret2
                  have hall : ¬ allR n m' := fun ha => by have := ha i (by omega) j (by omega); rw [← HX.out] at this; rcases this with h | h; exact H1.out h; omega
                  have hz : zoneP n m0 = (none, 10) := by unfold zoneP; rw [HC.out]; simp only; rw [if_neg hall]
                  exact ⟨(((Only.refl _ _).alloc _).trans HO.out).andThen HJ.out.1 (Nat.le_refl _), .pointer none, by rw [hz]; rfl, by rw [hz]; rfl⟩
                · go_wp2
                  go_roundg (gk - 1)
                  case measure => have := HG2.out; omega
                  case rel => exact ⟨j + 1, by go_num, HJ.out.step hn (by omega) hi hj (by rw [← HX.out]; exact .inr (by omega)) _ (by rw [← HX.out]; unfold nar; rw [if_neg H1.out]), by have := HG2.out; omega⟩
          · have hjj : ¬ (j : Int) < (n : Int) + 1 := by omega
            go_wp2
            go_roundg (n - i)
            case measure => have := HG.out; omega
            case rel => exact ⟨i + 1, by go_num, HJ.out.row hi hj, by omega⟩
      · have hii : ¬ (i : Int) < (n : Int) + 1 := by omega
        obtain ⟨hO2, hM2, hall⟩ := HI.out.done hi
        have HO2 := Lib.hid hO2
        have HM2 := Lib.hid hM2
        have HA := Lib.hid hall
        have hb := zone_lay n (narM n m')
        have hs := matCells_size .i32 n (narM n m')
        clear hO2 hM2 hall h0
        go_wp2_with (refine wpList_load_row rfl 106 _ rfl w.heap.size rfl 106 _ (0, 0) _ HM2.out Try.underlying106 rfl (by rw [matCells_size]; exact size_matrix) ?_)
        go_ret2
        have hz : zoneP n m0 = (some (narM n m'), 0) := by unfold zoneP; rw [HC.out]; simp only; rw [if_pos HA.out]
        exact ⟨((((Only.refl _ _).alloc _).trans HO.out).andThen HO2.out (Nat.le_refl _)).alloc _, .pointer (some ⟨wr.heap.size, 0, none⟩), by rw [hz]; rfl, by rw [hz]; exact ⟨_, rfl, hn, narM_right HA.out, zone_made HM2.out⟩⟩

end Go.Proofs.Ytfegongaflekiaa

/- Of, Limits, Universe, Zero: the zone of bounds, or the error. -/
namespace Go.Proofs.Ytfegongaflekiaa
open Go.RowKit
set_option linter.unusedVariables false
set_option linter.unusedSimpArgs false
attribute [local go_sem] min_ints max_ints

theorem few_yes (n : Int) (w : World) (h : 0 ≤ n ∧ n ≤ 8) : Calls Try.prog 61 #[.int .i64 n] w fun e w' => e = .returned (.bool true) ∧ w = w' :=
  (few_any n w).mono fun _ _ k => ⟨by rw [k.1, decide_eq_true h], k.2⟩
theorem few_no (n : Int) (w : World) (h : ¬ (0 ≤ n ∧ n ≤ 8)) : Calls Try.prog 61 #[.int .i64 n] w fun e w' => e = .returned (.bool false) ∧ w = w' :=
  (few_any n w).mono fun _ _ k => ⟨by rw [k.1, decide_eq_false h], k.2⟩

/-- A function that makes a zone ends with this answer. -/
def MakesZ (w0 : World) (n : Nat) (r : Option Mat × Int) (e : Ending) (w' : World) : Prop :=
  Below w0.heap.size w0 w' ∧ ∃ v, e = .returned (.tuple #[v, .int .i64 r.2]) ∧ ZoneV 108 w' v (r.1.map fun m => (n, m))

/-- The wide matrix while it is filled: it lies in the first new block. -/
def KeepR (w0 : World) (n : Nat) (m : Mat) (wr : World) : Prop :=
  Below w0.heap.size w0 wr ∧ MatAt wr w0.heap.size 182 .i64 n m ∧ Fit n 1073741824 m

theorem KeepR.step {w0 wr w' : World} {n : Nat} {m : Mat} (h : KeepR w0 n m wr) {i j : Nat} {b : Int} (ho : Only w0.heap.size wr w') (hm : MatAt w' w0.heap.size 182 .i64 n (keepM m i j b)) (hb : rightB b = true) :
    KeepR w0 n (keepM m i j b) w' :=
  ⟨h.1.trans (ho.below (Nat.le_refl _) h.1.size), hm, keepM_fit h.2.2 _ _ hb⟩
theorem KeepR.alloc {w0 wr : World} {n : Nat} {m : Mat} (h : KeepR w0 n m wr) (o : Obj) : KeepR w0 n m (wr.alloc o) := ⟨h.1.alloc h.1.size o, h.2.1.alloc o, h.2.2⟩

theorem of_makes {w0 wr w1 : World} {n : Nat} {m : Mat} {e : Ending} (h : KeepR w0 n m wr) (hz : ZoneEnds wr w0.heap.size n m e w1) : MakesZ w0 n (zoneP n m) e w1 :=
  ⟨h.1.trans (hz.1.below (Nat.le_refl _) h.1.size), hz.2⟩


theorem limOk_parts {n : Nat} {x : Int × Int × Int} (h : limOk n x = true) : (0 ≤ x.1 ∧ x.1 ≤ n ∧ 0 ≤ x.2.1 ∧ x.2.1 ≤ n) ∧ rightB x.2.2 = true := by
  simpa [limOk] using h

set_option maxRecDepth 100000 in
set_option maxHeartbeats 2000000 in
theorem limits_yes (n : Nat) (A : Option Addr) (c : Nat) (l : List (Int × Int × Int)) (w : World) (hn : n ≤ 8) (hI : Lims w A l) (hmax : l.length ≤ 4611686018427387904)
    (hk : ∀ q, q < l.length → -2147483648 ≤ (l.getD q (0, 0, 0)).2.2 ∧ (l.getD q (0, 0, 0)).2.2 ≤ 2147483647) :
    Calls Try.prog 45 #[.int .i64 n, .slice A l.length c] w (MakesZ w n (limP n l)) := by
  have HI := Lib.hid hI
  have HK := Lib.hid hk
  clear hI hk
  go_enter Try.func45, Try.ntmps45
  go_wp2_with fail
  refine (few_yes _ _ (by omega)).mono ?_
  rintro e w' ⟨rfl, rfl⟩
  go_wp2_with fail
  refine (open_any n _ hn).mono ?_
  rintro e w1 ⟨rfl, hb1, hm1⟩
  have HS := Lib.hid (show KeepR w n (limUp n l 0) w1 from ⟨hb1, hm1, openM_fit n⟩)
  clear hb1 hm1
  go_wp2
  go_loopg [16] l.length (fun g v wr => ∃ p : Nat, v = .int .i64 p ∧ KeepR w n (limUp n l p) wr ∧ Hid (p ≤ l.length ∧ g + p = l.length ∧ ∀ q, q < p → limOk n (l.getD q (0, 0, 0)) = true))
  case atStart => exact ⟨0, by simp, HS.out, by omega, by omega, fun q h => by omega⟩
  case round =>
    clear HS
    obtain ⟨p, rfl, H, HG⟩ := hrel
    have HR := Lib.hid H
    clear H
    by_cases hp : p < l.length
    · obtain ⟨b, off, rfl, c1, c2, c3⟩ := HI.out.below HR.out.1 p hp
      have hb := HK.out p hp
      obtain ⟨x, hx⟩ : ∃ x, x = l.getD p (0, 0, 0) := ⟨_, rfl⟩
      rw [← hx] at c1 c2 c3 hb
      have HX := Lib.hid hx
      clear hx
      obtain ⟨xi, xj, xb⟩ := x
      obtain ⟨hb0, hb1⟩ := hb
      simp only at c1 c2 c3 hb0 hb1
      by_cases hr : limOk n (xi, xj, xb) = true
      · obtain ⟨⟨i0, i1, j0, j1⟩, hrr⟩ := limOk_parts hr
        simp only at i0 i1 j0 j1 hrr
        have HRR := Lib.hid hrr
        have HOK := Lib.hid hr
        clear hr hrr
        go_wp2_with fail
        refine (right_yes _ _ HRR.out).mono ?_
        rintro e w' ⟨rfl, rfl⟩
        go_wp2_with fail
        refine (keep_any _ _ _ xi.toNat xj.toNat n _ _ _ (by omega) (by omega) (by exact HR.out.2.1.alloc _) (by omega) (by omega) hb0 hb1).mono ?_
        rintro e w2 ⟨rfl, ho, hm2⟩
        have HN := Lib.hid (show KeepR w n (limUp n l (p + 1)) w2 from by
          have hx : l.getD p (0, 0, 0) = (xi, xj, xb) := HX.out.symm
          have e : limUp n l (p + 1) = keepM (limUp n l p) xi.toNat xj.toNat xb := by
            show keepM (limUp n l p) (l.getD p (0, 0, 0)).1.toNat (l.getD p (0, 0, 0)).2.1.toNat (l.getD p (0, 0, 0)).2.2 = _
            rw [hx]
          rw [e]
          exact (HR.out.alloc _).step ho hm2 HRR.out)
        clear ho hm2
        go_wp2
        go_roundg (gk - 1)
        case measure => have := HG.out; omega
        case rel =>
          refine ⟨p + 1, by go_num, HN.out, by omega, by have := HG.out.2.1; omega, fun q hq => ?_⟩
          by_cases e : q = p
          · subst e; rw [← HX.out]; exact HOK.out
          · exact HG.out.2.2 q (by omega)
      · have hall : l.all (limOk n) = false := by
          rw [Bool.eq_false_iff]
          intro ha
          have := (all_getD l (limOk n) (0, 0, 0)).1 ha p hp
          rw [← HX.out] at this
          exact hr this
        have hz : limP n l = (none, 7) := by
          unfold limP; rw [if_pos (by omega)]; simp only [Int.toNat_natCast]; rw [hall]; rfl
        have HZ := Lib.hid hz
        have HR2 := Lib.hid hr
        clear hr hz hall
        have hend : ∀ w2, Below wr.heap.size wr w2 → MakesZ w n (limP n l) (.returned (.tuple #[.pointer none, .int .i64 7])) w2 := fun w2 h2 => by
          rw [HZ.out]; exact ⟨HR.out.1.trans (h2.mono HR.out.1.size), .pointer none, rfl, rfl⟩
        have HE := Lib.hid hend
        clear hend
        by_cases a1 : xi < 0
        · have d1 : decide (xi < 0) = true := decide_eq_true a1
          go_wp2
          go_ret2
          exact HE.out _ ((Below.refl _ _).alloc (Nat.le_refl _) _)
        · have d1 : decide (xi < 0) = false := decide_eq_false a1
          by_cases a2 : (n : Int) < xi
          · have d2 : decide ((n : Int) < xi) = true := decide_eq_true a2
            go_wp2
            go_ret2
            exact HE.out _ ((Below.refl _ _).alloc (Nat.le_refl _) _)
          · have d2 : decide ((n : Int) < xi) = false := decide_eq_false a2
            by_cases a3 : xj < 0
            · have d3 : decide (xj < 0) = true := decide_eq_true a3
              go_wp2
              go_ret2
              exact HE.out _ ((Below.refl _ _).alloc (Nat.le_refl _) _)
            · have d3 : decide (xj < 0) = false := decide_eq_false a3
              by_cases a4 : (n : Int) < xj
              · have d4 : decide ((n : Int) < xj) = true := decide_eq_true a4
                go_wp2
                go_ret2
                exact HE.out _ ((Below.refl _ _).alloc (Nat.le_refl _) _)
              · have d4 : decide ((n : Int) < xj) = false := decide_eq_false a4
                have hrf : rightB xb = false := by
                  rw [Bool.eq_false_iff]
                  intro h
                  exact HR2.out (by simp only [limOk, h, Bool.and_true, decide_eq_true_eq]; omega)
                have HRR := Lib.hid hrf
                clear hrf
                go_wp2_with fail
                refine (right_no _ _ HRR.out).mono ?_
                rintro e w' ⟨rfl, rfl⟩
                go_wp2
                go_ret2
                exact HE.out _ ((Below.refl _ _).alloc (Nat.le_refl _) _)
    · have e : p = l.length := by have := HG.out.1; omega
      go_wp2_with fail
      refine (zone_any _ n _ _ hn HR.out.2.1 HR.out.2.2).mono ?_
      rintro e w2 hz
      have HZ := Lib.hid hz
      obtain ⟨ho, v, rfl, hv⟩ := hz
      clear ho hv
      subst e
      go_wp2
      go_ret2
      have hall : l.all (limOk n) = true := (all_getD l (limOk n) (0, 0, 0)).2 HG.out.2.2
      have hz : limP n l = zoneP n (limUp n l l.length) := by
        unfold limP; rw [if_pos (by omega)]; simp only [Int.toNat_natCast]; rw [if_pos hall]
      rw [hz]
      exact of_makes HR.out HZ.out

set_option maxRecDepth 100000 in
set_option maxHeartbeats 1000000 in
theorem limits_clock (n : Int) (v : Value) (l : List (Int × Int × Int)) (w : World) (hn : ¬ (0 ≤ n ∧ n ≤ 8)) :
    Calls Try.prog 45 #[.int .i64 n, v] w (MakesZ w n.toNat (limP n l)) := by
  have hz : limP n l = (none, 12) := by unfold limP; rw [if_neg hn]
  rw [hz]
  clear hz
  have HN := Lib.hid hn
  clear hn
  go_enter Try.func45, Try.ntmps45
  go_wp2_with fail
  refine (few_no _ _ HN.out).mono ?_
  rintro e w' ⟨rfl, rfl⟩
  go_wp2
  go_ret2
  exact ⟨Below.refl _ _, .pointer none, rfl, rfl⟩

/-- Limits, whatever it is given. -/
theorem limits_any (n : Int) (A : Option Addr) (c : Nat) (l : List (Int × Int × Int)) (w : World) (hI : Lims w A l) (hmax : l.length ≤ 4611686018427387904)
    (hk : ∀ q, q < l.length → -2147483648 ≤ (l.getD q (0, 0, 0)).2.2 ∧ (l.getD q (0, 0, 0)).2.2 ≤ 2147483647) :
    Calls Try.prog 45 #[.int .i64 n, .slice A l.length c] w (MakesZ w n.toNat (limP n l)) := by
  by_cases hn : 0 ≤ n ∧ n ≤ 8
  · obtain ⟨k, rfl⟩ : ∃ k : Nat, n = k := ⟨n.toNat, by omega⟩
    exact limits_yes k A c l w (by omega) hI hmax hk
  · exact limits_clock n _ l w hn

/-- The limits of Zero. -/
def zeroUp (n : Nat) : Nat → Mat
  | 0 => openM n
  | p + 1 => keepM (zeroUp n p) p 0 1
theorem zeroUp_fit (n : Nat) : ∀ p, Fit n 1073741824 (zeroUp n p)
  | 0 => openM_fit n
  | p + 1 => keepM_fit (zeroUp_fit n p) _ _ (by decide)
/-- What Zero answers. -/
def zerP (n : Int) : Option Mat × Int := if 0 ≤ n ∧ n ≤ 8 then zoneP n.toNat (zeroUp n.toNat (n.toNat + 1)) else (none, 12)

end Go.Proofs.Ytfegongaflekiaa

/- Of: the zone of bounds, or the error. -/
namespace Go.Proofs.Ytfegongaflekiaa
open Go Go.RowKit
set_option linter.unusedVariables false
set_option linter.unusedSimpArgs false


theorem w64_div (p n : Nat) (hp : p ≤ 1000000) : wrap64 ((p : Int) / ((n : Int) + 1)) = ((p / (n + 1) : Nat) : Int) := by
  rw [idx_div]
  have : p / (n + 1) ≤ p := Nat.div_le_self _ _
  generalize p / (n + 1) = q at this ⊢
  exact IntWalk.wrap64_in _ ⟨by omega, by omega⟩
theorem w64_mod (p n : Nat) (hp : p ≤ 1000000) : wrap64 ((p : Int) % ((n : Int) + 1)) = ((p % (n + 1) : Nat) : Int) := by
  rw [idx_mod]
  have : p % (n + 1) ≤ p := Nat.mod_le _ _
  generalize p % (n + 1) = q at this ⊢
  exact IntWalk.wrap64_in _ ⟨by omega, by omega⟩

set_option maxRecDepth 100000 in
set_option maxHeartbeats 2000000 in
theorem of_yes (n : Nat) (A : Option Addr) (c : Nat) (cells : List Int) (w : World) (hn : n ≤ 8) (hI : Ints w .i32 A cells) (hlen : (cells.length : Int) = ((n : Int) + 1) * ((n : Int) + 1))
    (hk : ∀ q, q < cells.length → -2147483648 ≤ cells.getD q 0 ∧ cells.getD q 0 ≤ 2147483647) :
    Calls Try.prog 17 #[.int .i64 n, .slice A cells.length c] w (MakesZ w n (ofP n cells)) := by
  have hl81 : cells.length ≤ 81 := by
    have : ((n : Int) + 1) * ((n : Int) + 1) ≤ 9 * 9 := Int.mul_le_mul (by omega) (by omega) (by omega) (by omega)
    omega
  have hm : ((n : Int) + 1) * ((n : Int) + 1) ≤ 81 := by omega
  have hm0 : 0 ≤ ((n : Int) + 1) * ((n : Int) + 1) := by omega
  have HL := Lib.hid hlen
  have HI := Lib.hid hI
  have HK := Lib.hid hk
  have t1 : ((cells.length : Int) != ((n : Int) + 1) * ((n : Int) + 1)) = false := by simp [hlen]
  clear hlen hI hk
  go_enter Try.func17, Try.ntmps17
  go_wp2_with fail
  refine (few_yes _ _ (by omega)).mono ?_
  rintro e w' ⟨rfl, rfl⟩
  go_wp2_with fail
  refine (open_any n _ hn).mono ?_
  rintro e w1 ⟨rfl, hb1, hm1⟩
  have HS := Lib.hid (show KeepR w n (keepUp n cells 0) w1 from ⟨hb1, hm1, openM_fit n⟩)
  clear hb1 hm1
  go_wp2
  go_loopg [26] cells.length (fun g v wr => ∃ p : Nat, v = .int .i64 p ∧ KeepR w n (keepUp n cells p) wr ∧ Hid (p ≤ cells.length ∧ g + p = cells.length ∧ ∀ q, q < p → rightB (cells.getD q 0) = true))
  case atStart => exact ⟨0, by simp, HS.out, by omega, by omega, fun q h => by omega⟩
  case round =>
    clear HS
    obtain ⟨p, rfl, H, HG⟩ := hrel
    have HR := Lib.hid H
    clear H
    by_cases hp : p < cells.length
    · obtain ⟨b, off, rfl, hc⟩ := HI.out.below HR.out.1 p hp
      have hb := HK.out p hp
      obtain ⟨x, hx⟩ : ∃ x, x = cells.getD p 0 := ⟨_, rfl⟩
      rw [← hx] at hc hb
      have HX := Lib.hid hx
      clear hx
      obtain ⟨hb0, hb1⟩ := hb
      by_cases hr : rightB x = true
      · have HRR := Lib.hid hr
        clear hr
        go_wp2_with fail
        refine (right_yes _ _ HRR.out).mono ?_
        rintro e w' ⟨rfl, rfl⟩
        have hd := idx_div p n
        have hmo := idx_mod p n
        have hdlt : p / (n + 1) < 9 := by
          have h1 := HL.out
          have h2 : p < (n + 1) * (n + 1) := by
            have : ((p : Nat) : Int) < (((n + 1) * (n + 1) : Nat) : Int) := by push_cast; omega
            omega
          have := Nat.div_lt_of_lt_mul h2
          omega
        have hmlt : p % (n + 1) < 9 := by have := Nat.mod_lt p (show 0 < n + 1 by omega); omega
        have HD := Lib.hid hd
        have HM := Lib.hid hmo
        clear hd hmo
        go_wp2_with fail
        have g1 : IntKind.i64.wrap ((n : Int) + 1) = (n : Int) + 1 := IntWalk.i64_in _ (by omega)
        have g2 := wrap_tdiv p n (by omega)
        have g3 := wrap_tmod p n (by omega)
        have g4 : ((n : Int) + 1 == 0) = false := by simp; omega
        have g5 : ¬ ((n : Int) + 1 = 0) := by omega

        refine wp_region_still_tail 10 (by kernel_rfl) (by kernel_rfl) ?_
        simp only [List.take_succ_cons, List.take_zero, List.drop_succ_cons, List.drop_zero]
        change wpStill _ _ wr.drew _ _ _
        generalize wr.drew = w2
        repeat still_step
        refine wpStill_nil ?_
        go_wp2_with fail
        refine (keep_any _ _ _ (p / (n + 1)) (p % (n + 1)) n _ _ _ hdlt hmlt (by exact HR.out.2.1.drew) (by first | rfl | exact idx_div p n | exact w64_div p n (by omega)) (by first | rfl | exact idx_mod p n | exact w64_mod p n (by omega)) hb0 hb1).mono ?_
        rintro e w2 ⟨rfl, ho, hm2⟩
        have HN := Lib.hid (show KeepR w n (keepUp n cells (p + 1)) w2 from by
          have hx : cells.getD p 0 = x := HX.out.symm
          have e : keepUp n cells (p + 1) = keepM (keepUp n cells p) (p / (n + 1)) (p % (n + 1)) x := by rw [← hx]; rfl
          rw [e]
          exact HR.out.step ((Only.drew (Only.refl _ _)).trans ho) hm2 HRR.out)
        clear ho hm2
        go_wp2
        go_roundg (gk - 1)
        case measure => have := HG.out; omega
        case rel =>
          refine ⟨p + 1, by go_num, HN.out, by omega, by have := HG.out.2.1; omega, fun q hq => ?_⟩
          by_cases e : q = p
          · subst e; rw [← HX.out]; exact HRR.out
          · exact HG.out.2.2 q (by omega)
      · have hrf : rightB x = false := by simpa using hr
        have HRR := Lib.hid hrf
        clear hr hrf
        go_wp2_with fail
        refine (right_no _ _ HRR.out).mono ?_
        rintro e w' ⟨rfl, rfl⟩
        go_wp2
        go_ret2
        have hall : cells.all rightB = false := by
          rw [Bool.eq_false_iff]
          intro ha
          have := (all_getD cells rightB 0).1 ha p hp
          rw [← HX.out, HRR.out] at this
          cases this
        have hz : ofP n cells = (none, 7) := by
          unfold ofP; rw [if_pos (by omega), if_pos HL.out, hall]; rfl
        exact ⟨HR.out.1, .pointer none, by rw [hz]; rfl, by rw [hz]; rfl⟩
    · have e : p = cells.length := by have := HG.out.1; omega
      go_wp2_with fail
      refine (zone_any _ n _ _ hn HR.out.2.1 HR.out.2.2).mono ?_
      rintro e w2 hz
      have HZ := Lib.hid hz
      obtain ⟨ho, v, rfl, hv⟩ := hz
      clear ho hv
      subst e
      go_wp2
      go_ret2
      have hall : cells.all rightB = true := (all_getD cells rightB 0).2 HG.out.2.2
      have hz : ofP n cells = zoneP n (keepUp n cells cells.length) := by
        unfold ofP; rw [if_pos (by omega), if_pos HL.out, if_pos hall]; rfl
      rw [hz]
      exact of_makes HR.out HZ.out

set_option maxRecDepth 100000 in
set_option maxHeartbeats 1000000 in
theorem of_clock (n : Int) (A : Option Addr) (c : Nat) (cells : List Int) (w : World) (hn : ¬ (0 ≤ n ∧ n ≤ 8)) :
    Calls Try.prog 17 #[.int .i64 n, .slice A cells.length c] w (MakesZ w n.toNat (ofP n cells)) := by
  have hz : ofP n cells = (none, 12) := by unfold ofP; rw [if_neg hn]
  rw [hz]
  clear hz
  have HN := Lib.hid hn
  clear hn
  go_enter Try.func17, Try.ntmps17
  go_wp2_with fail
  refine (few_no _ _ HN.out).mono ?_
  rintro e w' ⟨rfl, rfl⟩
  go_wp2
  go_ret2
  exact ⟨Below.refl _ _, .pointer none, rfl, rfl⟩

set_option maxRecDepth 100000 in
set_option maxHeartbeats 1000000 in
theorem of_long (n : Nat) (A : Option Addr) (c : Nat) (cells : List Int) (w : World) (hn : n ≤ 8) (hlen : ¬ (cells.length : Int) = ((n : Int) + 1) * ((n : Int) + 1)) (hmax : cells.length ≤ 4611686018427387904) :
    Calls Try.prog 17 #[.int .i64 n, .slice A cells.length c] w (MakesZ w n (ofP n cells)) := by
  have hz : ofP n cells = (none, 6) := by unfold ofP; rw [if_pos (by omega), if_neg hlen]
  rw [hz]
  clear hz
  have hm : ((n : Int) + 1) * ((n : Int) + 1) ≤ 9 * 9 := Int.mul_le_mul (by omega) (by omega) (by omega) (by omega)
  have hm0 : 0 ≤ ((n : Int) + 1) * ((n : Int) + 1) := Int.mul_nonneg (by omega) (by omega)
  have t1 : ((cells.length : Int) != ((n : Int) + 1) * ((n : Int) + 1)) = true := by simpa using hlen
  clear hlen
  go_enter Try.func17, Try.ntmps17
  go_wp2_with fail
  refine (few_yes _ _ (by omega)).mono ?_
  rintro e w' ⟨rfl, rfl⟩
  go_wp2
  go_ret2
  exact ⟨Below.refl _ _, .pointer none, rfl, rfl⟩

/-- Of, whatever it is given. -/
theorem of_any (n : Int) (A : Option Addr) (c : Nat) (cells : List Int) (w : World) (hI : Ints w .i32 A cells) (hmax : cells.length ≤ 4611686018427387904)
    (hk : ∀ q, q < cells.length → -2147483648 ≤ cells.getD q 0 ∧ cells.getD q 0 ≤ 2147483647) :
    Calls Try.prog 17 #[.int .i64 n, .slice A cells.length c] w (MakesZ w n.toNat (ofP n cells)) := by
  by_cases hn : 0 ≤ n ∧ n ≤ 8
  · obtain ⟨k, rfl⟩ : ∃ k : Nat, n = k := ⟨n.toNat, by omega⟩
    by_cases hl : (cells.length : Int) = ((k : Int) + 1) * ((k : Int) + 1)
    · exact of_yes k A c cells w (by omega) hI hl hk
    · exact of_long k A c cells w (by omega) hl hmax
  · exact of_clock n A c cells w hn

end Go.Proofs.Ytfegongaflekiaa

/- The cells of a zone, opened. -/
namespace Go.Proofs.Ytfegongaflekiaa
open Go Go.RowKit
set_option linter.unusedVariables false
set_option linter.unusedSimpArgs false
attribute [local go_sem] min_ints max_ints

/-- How many clocks a zone has; none: 0. -/
def dimN (z : Option (Nat × Mat)) : Nat := match z with | some (n, _) => n | none => 0
/-- The first p cells of a row, as a matrix. -/
def fillUp (n : Nat) (l : List Int) (p : Nat) : Mat := fun i j => if i < n + 1 ∧ j < n + 1 ∧ i * (n + 1) + j < p then l.getD (i * (n + 1) + j) 0 else 0
theorem fillUp_zero (n : Nat) (l : List Int) : fillUp n l 0 = fun _ _ => 0 := by
  funext i j
  unfold fillUp
  rw [if_neg (by omega)]
theorem fillUp_next (n : Nat) (l : List Int) (p : Nat) (hp : p < (n + 1) * (n + 1)) : fillUp n l (p + 1) = upd (fillUp n l p) (p / (n + 1)) (p % (n + 1)) (l.getD p 0) := by
  have h1 : p / (n + 1) < n + 1 := Nat.div_lt_of_lt_mul hp
  have h2 := Nat.mod_lt p (show 0 < n + 1 by omega)
  have h3 := Nat.div_add_mod p (n + 1)
  rw [Nat.mul_comm] at h3
  funext i j
  unfold fillUp upd
  by_cases e : i = p / (n + 1) ∧ j = p % (n + 1)
  · obtain ⟨e1, e2⟩ := e
    have e3 : i * (n + 1) + j = p := by rw [e1, e2]; exact h3
    rw [if_pos ⟨by omega, by omega, by omega⟩, if_pos ⟨e1, e2⟩, e3]
  · rw [if_neg e]
    show _ = (if i < n + 1 ∧ j < n + 1 ∧ i * (n + 1) + j < p then l.getD (i * (n + 1) + j) 0 else 0)
    by_cases c : i < n + 1 ∧ j < n + 1
    · have hne : i * (n + 1) + j ≠ p := fun e' => e (by
        rw [← e']
        refine ⟨?_, ?_⟩
        · rw [Nat.mul_comm, Nat.mul_add_div (by omega), Nat.div_eq_of_lt c.2]; rfl
        · rw [Nat.mul_comm, Nat.mul_add_mod, Nat.mod_eq_of_lt c.2])
      by_cases d : i * (n + 1) + j < p
      · rw [if_pos ⟨c.1, c.2, by omega⟩, if_pos ⟨c.1, c.2, d⟩]
      · rw [if_neg (by omega), if_neg (by omega)]
    · rw [if_neg (by omega), if_neg (by omega)]

theorem odim_any (v : Value) (z : Option (Nat × Mat)) (w : World) (h : ZoneV 108 w v z) : Calls Try.prog 37 #[v] w fun e w' => e = .returned (.int .i64 (dimN z)) ∧ w = w' := by
  match z, h with
  | none, h =>
    have h : v = .pointer none := h
    subst h
    exact dim_nil w
  | some (n, m), ⟨b, e, hn, _, hm⟩ =>
    subst e
    exact dim_zone b n m w hm

theorem zero_work (n : Nat) : (Try.zeroCells138).setIfInBounds 0 (Value.int .i64 n) = matCells .i32 n (fun _ _ => 0) := rfl

set_option maxHeartbeats 1000000 in
set_option maxRecDepth 100000 in
theorem oopen_any (v : Value) (z : Option (Nat × Mat)) (w : World) (h : ZoneV 108 w v z) (hz : dimN z ≤ 8) (hl : (cellsP z).length ≤ 81) :
    Calls Try.prog 86 #[v] w fun e w' => e = .returned (.pointer (some ⟨w.heap.size, 0, none⟩)) ∧ Below w.heap.size w w' ∧ MatAt w' w.heap.size 138 .i32 (dimN z) (fillUp (dimN z) (cellsP z) (cellsP z).length) := by
  have HD := Lib.hid (fun w h => odim_any v z w h)
  have HC := Lib.hid (fun w h => cells_any v z w h)
  have HZ := Lib.hid h
  obtain ⟨n, hn⟩ : ∃ n, n = dimN z := ⟨_, rfl⟩
  have hlen : (cellsP z).length ≤ (n + 1) * (n + 1) := by
    rw [hn]
    match z with
    | none => simp [cellsP]
    | some (k, m) => show (flat k m).length ≤ _; rw [flat_length]; exact Nat.le_refl _
  rw [← hn] at HD hz ⊢
  obtain ⟨l, hl'⟩ : ∃ l, l = cellsP z := ⟨_, rfl⟩
  rw [← hl'] at HC hl hlen ⊢
  have HLEN := Lib.hid hlen
  clear h hn hl' hlen
  go_enter Try.func86, Try.ntmps86
  go_wp2_with fail
  refine (HD.out _ HZ.out).mono ?_
  rintro e w1 ⟨rfl, rfl⟩
  go_wp2_with fail
  have HB1 := Lib.hid ((Below.refl w.heap.size w).alloc (Nat.le_refl _) (.cells ((Try.zeroCells138).setIfInBounds 0 (Value.int .i64 n)) 138))
  have hm : MatAt (w.alloc (.cells ((Try.zeroCells138).setIfInBounds 0 (Value.int .i64 n)) 138)) w.heap.size 138 .i32 n (fillUp n l 0) := by
    rw [fillUp_zero]
    unfold MatAt
    rw [heap_alloc_new, zero_work]
  have HM1 := Lib.hid hm
  have HZ1 := Lib.hid (HZ.out.below HB1.out)
  clear hm HZ HD
  generalize w.alloc (.cells ((Try.zeroCells138).setIfInBounds 0 (Value.int .i64 n)) 138) = w1 at *
  refine (HC.out _ HZ1.out).mono ?_
  rintro e w2 ⟨v', rfl, hb2, ho⟩
  have HM2 := Lib.hid (HM1.out.later hb2)
  have HB2 := Lib.hid (HB1.out.trans (hb2.mono HB1.out.size))
  obtain ⟨A, c, rfl, hI⟩ : ∃ A c, v' = .slice A l.length c ∧ ∀ wr, Only w.heap.size w2 wr → Ints wr .i32 A l := by
    by_cases h0 : 0 < l.length
    · obtain ⟨g, cap, e1, e2, e3⟩ := ho.row h0
      have := HM1.out.lt
      exact ⟨_, cap, e1, fun wr hw => (e3.only hw (by omega)).ints⟩
    · obtain ⟨A, cap, e1, _⟩ := ho.slice
      exact ⟨A, cap, e1, fun wr hw j hj => by omega⟩
  have HI := Lib.hid hI
  clear hb2 ho hI HC HZ1 HM1 HB1
  have g1 : IntKind.i64.wrap ((n : Int) + 1) = (n : Int) + 1 := IntWalk.i64_in _ (by omega)
  have g4 : ((n : Int) + 1 == 0) = false := by simp; omega
  have g5 : ¬ ((n : Int) + 1 = 0) := by omega
  go_wp2
  go_loopg [14] l.length (fun g v wr => ∃ p : Nat, v = .int .i64 p ∧ Hid (Only w.heap.size w2 wr ∧ MatAt wr w.heap.size 138 .i32 n (fillUp n l p)) ∧ Hid (p ≤ l.length ∧ g + p = l.length))
  case atStart => exact ⟨0, by simp, ⟨Only.refl _ _, HM2.out⟩, by omega, by omega⟩
  case round =>
    clear HM2
    obtain ⟨p, rfl, HR, HG⟩ := hrel
    by_cases hp : p < l.length
    · obtain ⟨b, off, rfl, hc⟩ := (HI.out _ HR.out.1) p hp
      obtain ⟨x, hx⟩ : ∃ x, x = l.getD p 0 := ⟨_, rfl⟩
      rw [← hx] at hc
      have HX := Lib.hid hx
      clear hx
      have hsq : p < (n + 1) * (n + 1) := by have := HLEN.out; omega
      have hd9 : p / (n + 1) < 9 := by
        have := Nat.div_lt_of_lt_mul hsq
        omega
      have hm9 : p % (n + 1) < 9 := by have := Nat.mod_lt p (show 0 < n + 1 by omega); omega
      have c0 := HR.out.2.head
      have c1 := HR.out.2.cell (p / (n + 1)) (p % (n + 1)) hd9 hm9
      have f1 := HR.out.2.frozen (1 + p / (n + 1) * 9 + p % (n + 1))
      have hlt := HR.out.2.lt
      have k1 := w64_div p n (by omega)
      have k2 := w64_mod p n (by omega)
      obtain ⟨D, hD⟩ : ∃ D, D = p / (n + 1) := ⟨_, rfl⟩
      obtain ⟨M, hM⟩ : ∃ M, M = p % (n + 1) := ⟨_, rfl⟩
      rw [← hD] at hd9 c1 f1 k1
      rw [← hM] at hm9 c1 f1 k2
      have k3 : IntKind.i64.wrap ((p : Int) / ((n : Int) + 1)) = (D : Int) := by rw [idx_div, ← hD]; exact IntWalk.i64_in _ (by omega)
      have k4 : (p : Int) % ((n : Int) + 1) = (M : Int) := by rw [idx_mod, ← hM]
      have k5 : (p : Int).tmod ((n : Int) + 1) = (M : Int) := by rw [Int.tmod_eq_emod_of_nonneg (by omega)]; exact k4
      have hd9i : (D : Int) < 9 := by omega
      have hm9i : (M : Int) < 9 := by omega
      have HSQ := Lib.hid hsq
      have HDM := Lib.hid (And.intro hD hM)
      clear hsq hD hM
      go_wp2_with fail
      go_region
      go_wp2
      go_roundg (gk - 1)
      case measure => have h := HG.out; omega
      case rel =>
        refine ⟨p + 1, by go_num, ⟨(HR.out.1.setCell _ _).drew, ?_⟩, by omega, by have h := HG.out; omega⟩
        rw [fillUp_next n l p HSQ.out, ← HDM.out.1, ← HDM.out.2, ← HX.out]
        exact HR.out.2.set D M hd9 hm9 x
    · have e : p = l.length := by have := HG.out.1; omega
      subst e
      go_wp2
      go_ret
      exact ⟨rfl, HB2.out.trans (HR.out.1.below (Nat.le_refl _) HB2.out.size), HR.out.2⟩

end Go.Proofs.Ytfegongaflekiaa

/- The zone of cells under way. -/
namespace Go.Proofs.Ytfegongaflekiaa
open Go Go.RowKit
set_option linter.unusedVariables false
set_option linter.unusedSimpArgs false
attribute [local go_sem] min_ints max_ints

/-- The rows that shut has gathered. -/
def ShutR (w0 : World) (n : Nat) (m : Mat) (i : Nat) (v : Value) (wr : World) : Prop :=
  Below w0.heap.size w0 wr ∧ wr.ownsRow w0.heap.size 88 1 v (i * (n + 1)) (vals .i32 (rowsL n m i)) ∧ i ≤ n + 1

theorem ShutR.own {w0 wr : World} {n : Nat} {m : Mat} {v : Value} (h : ShutR w0 n m (n + 1) v wr) : OwnI wr w0.heap.size 88 .i32 v (flat n m) := by
  unfold OwnI
  rw [flat_length]
  exact h.2.1

set_option maxRecDepth 100000 in
set_option maxHeartbeats 1000000 in
theorem shut_any (b n : Nat) (m : Mat) (w : World) (hn : n ≤ 8) (h : MatAt w b 138 .i32 n m) (hk : ∀ i j, i < n + 1 → j < n + 1 → -2147483648 ≤ m i j ∧ m i j ≤ 2147483647) :
    Calls Try.prog 87 #[.pointer (some ⟨b, 0, none⟩)] w (MakesZ w n (ofP n (flat n m))) := by
  have h0 := h.head
  have H := Lib.hid h
  have HK := Lib.hid hk
  clear h hk
  obtain ⟨N, hN⟩ : ∃ N, N = (n + 1) * (n + 1) := ⟨_, rfl⟩
  have hN81 : N ≤ 81 := by
    have := Nat.mul_le_mul (show n + 1 ≤ 9 by omega) (show n + 1 ≤ 9 by omega)
    omega
  have g1 : IntKind.i64.wrap ((n : Int) + 1) = (n : Int) + 1 := IntWalk.i64_in _ (by omega)
  have g2 : ((n : Int) + 1) * ((n : Int) + 1) = (N : Int) := by rw [hN]; push_cast; rfl
  have g3 : IntKind.i64.wrap (N : Int) = (N : Int) := IntWalk.i64_in _ (by omega)
  have HN := Lib.hid hN
  obtain ⟨i0, hi1, hz0, hz1, hz2⟩ := info_parts infoB
  have hmk := run_make_own (P := Try.prog) w.drew w.heap.size 22 88 i0 (.int .i32 0) 1 Try.underlying22 hi1 hz0 hz1 .i64 .i64 N (by rw [hz2]; omega) (by unfold maxLen; omega) (Nat.le_refl _)
  obtain ⟨w1, hrun, hown, hgr⟩ := hmk
  have HI := Lib.hid (And.intro hi1 (And.intro hz0 (And.intro hz1 hz2)))
  have hrun' : (Instr.makeSlice 22 (.int .i64 0) (.int .i64 (N : Int))).run Try.prog w.drew = .ok (.slice (some ⟨w.heap.size, 0, none⟩) 0 N) w1 := hrun
  have hb1 : Below w.heap.size w w1 := (Below.drew (Below.refl w.heap.size w)).grown hgr (Nat.le_refl _) (fun k hk => by cases hk)
  have HS := Lib.hid (show ShutR w n m 0 (.slice (some ⟨w.heap.size, 0, none⟩) 0 N) w1 from ⟨hb1, by simpa [rowsL, vals] using hown, by omega⟩)
  have HM1 := Lib.hid (H.out.later hb1)
  have hd1 := HM1.out.head
  clear hN hi1 hz0 hz1 hz2 hown hgr hb1 hrun
  go_enter Try.func87, Try.ntmps87
  go_wp2_with fail
  go_region
  clear hrun' h0
  go_wp2
  go_loopg [4, 26] (n + 1) (fun g v x wr => ∃ i : Nat, x = .int .i64 i ∧ Hid (ShutR w n m i v wr) ∧ Hid (g + i = n + 1))
  case atStart => exact ⟨0, by simp, HS.out, by show _ = _; omega⟩
  case round =>
    clear HS HM1 hd1
    obtain ⟨i, rfl, HR, HG⟩ := hrel
    have HM := Lib.hid (H.out.later HR.out.1)
    have h0 := HM.out.head
    by_cases hi : i < n + 1
    · have hii : (i : Int) < (n : Int) + 1 := by omega
      have i9 : (i : Int) < 9 := by omega
      have n9 : (n : Int) + 1 ≤ 9 := by omega
      have D0 := Lib.hid (show wr.drew.cell? _ = _ from h0)
      have hin : i * (n + 1) ≤ 8 * 9 := Nat.mul_le_mul (by omega) (by omega)
      have hsl := slice_row b (1 + i * 9) n hn
      go_wp2_with fail
      refine wp_region_still_tail 13 (by kernel_rfl) (by kernel_rfl) ?_
      simp only [List.take_succ_cons, List.take_zero, List.drop_succ_cons, List.drop_zero]
      change wpStill _ _ wr.drew _ _ _
      generalize wr.drew = w2 at *
      have d0 := D0.out
      clear D0
      repeat still_step
      refine wpStill_nil ?_
      go_wp2_with (at_builtin; refine wpList_append_own _ rfl _ _ 22 rfl w.heap.size 88 i0 (.int .i32 0) 1 4 Try.underlying22 HI.out.1 HI.out.2.1 HI.out.2.2.1 HI.out.2.2.2 rfl (by decide) _ _ _ rfl (own_drew HR.out.2.1) ⟨b, 1 + i * 9, none⟩ (n + 1) 9 ((List.range (n + 1)).map (fun c => Value.int .i32 (m i c))) rfl (by simp) (row_cells HM.out.drew (by omega) hn) (by intro u hu; obtain ⟨c, _, rfl⟩ := List.mem_map.1 hu; rfl) ?c3 ?c4 ?c5 ?_)
      case c3 => unfold maxLen; omega
      case c4 => omega
      case c5 => exact HR.out.1.size
      intro v' w3 hown hgrow _
      have HS3 := Lib.hid (show ShutR w n m (i + 1) v' w3 from by
        refine ⟨(Below.drew HR.out.1).grown hgrow HR.out.1.size (fun k hk => ?_), ?_, by omega⟩
        · exact (HR.out.2.1.lt k hk).1
        · have e : (i + 1) * (n + 1) = i * (n + 1) + (n + 1) := by rw [Nat.add_mul]; omega
          rw [e]
          have e2 : vals .i32 (rowsL n m (i + 1)) = vals .i32 (rowsL n m i) ++ (List.range (n + 1)).map (fun c => Value.int .i32 (m i c)) := by
            simp [vals, rowsL]
          rw [e2, List.range_succ, List.map_append]; exact hown)
      clear hown hgrow
      go_wp2
      go_roundg (gk - 1)
      case measure => have h := HG.out; omega
      case rel => exact ⟨i + 1, by go_num, HS3.out, by have h := HG.out; show _ = _; omega⟩
    · have hii : ¬ (i : Int) < (n : Int) + 1 := by omega
      have e : i = n + 1 := by have := HR.out.2.2; omega
      subst e
      have hown := ShutR.own HR.out
      obtain ⟨A, c, rfl, hints⟩ := hown.slice
      have HOF := Lib.hid (of_any n A c (flat n m) wr hints (by rw [flat_length, ← HN.out]; omega) (fun q hq => by
        rw [flat_length] at hq
        rw [flat_getD _ _ _ hq]
        have a1 : q / (n + 1) < n + 1 := Nat.div_lt_of_lt_mul hq
        have a2 := Nat.mod_lt q (show 0 < n + 1 by omega)
        exact HK.out _ _ a1 a2))
      have HB := Lib.hid HR.out.1
      clear hown hints HR HM
      go_wp2_with fail
      refine HOF.out.mono ?_
      rintro e w2 ⟨hb, v, rfl, hv⟩
      have HV := Lib.hid hv
      have HB2 := Lib.hid (HB.out.trans (hb.mono HB.out.size))
      clear hb hv
      obtain ⟨ee, hee⟩ : ∃ ee, ee = (ofP n (flat n m)).2 := ⟨_, rfl⟩
      rw [← hee]
      have HE := Lib.hid hee
      clear hee
      go_wp2
      go_ret2
      exact ⟨HB2.out, v, by rw [HE.out]; rfl, HV.out⟩

end Go.Proofs.Ytfegongaflekiaa

/- When time passes. -/
namespace Go.Proofs.Ytfegongaflekiaa
open Go Go.RowKit
set_option linter.unusedVariables false
set_option linter.unusedSimpArgs false
attribute [local go_sem] min_ints max_ints

/-- All cells are numbers of 32 bits. -/
def Rng (n : Nat) (m : Mat) : Prop := ∀ i j, i < n + 1 → j < n + 1 → -2147483648 ≤ m i j ∧ m i j ≤ 2147483647
theorem rng_upd {n : Nat} {m : Mat} (h : Rng n m) (a b : Nat) (x : Int) (h0 : -2147483648 ≤ x) (h1 : x ≤ 2147483647) : Rng n (upd m a b x) := fun i j hi hj => by
  unfold upd
  by_cases e : i = a ∧ j = b
  · rw [if_pos e]; exact ⟨h0, h1⟩
  · rw [if_neg e]; exact h i j hi hj
/-- The opened cells of a zone. -/
def openW (z : Option (Nat × Mat)) : Mat := fillUp (dimN z) (cellsP z) (cellsP z).length
theorem openW_in {n : Nat} {m : Mat} {i j : Nat} (hi : i < n + 1) (hj : j < n + 1) : openW (some (n, m)) i j = m i j := by
  show fillUp n (flat n m) (flat n m).length i j = m i j
  unfold fillUp
  have hlt : i * (n + 1) + j < (n + 1) * (n + 1) := by
    have := Nat.mul_le_mul_right (n + 1) (show i ≤ n by omega)
    have e : (n + 1) * (n + 1) = n * (n + 1) + (n + 1) := by rw [Nat.add_mul]; omega
    omega
  rw [if_pos ⟨hi, hj, by rw [flat_length]; exact hlt⟩, flat_at m hi hj]
theorem rng_open {n : Nat} {m : Mat} (h : RightM n m) : Rng n (openW (some (n, m))) := fun i j hi hj => by
  rw [openW_in hi hj]
  have := h i j (by omega) (by omega)
  unfold rightB at this
  have := of_decide_eq_true this
  omega

/-- No bound on how great the first p clocks are. -/
def upUp (m : Mat) : Nat → Mat
  | 0 => m
  | p + 1 => if p = 0 then upUp m p else upd (upUp m p) p 0 2147483647
theorem rng_up {n : Nat} {m : Mat} (h : Rng n m) : ∀ p, Rng n (upUp m p)
  | 0 => h
  | p + 1 => by
    unfold upUp
    split
    · exact rng_up h p
    · exact rng_upd (rng_up h p) _ _ _ (by decide) (by decide)
/-- The cells behind Up. -/
def upW (z : Option (Nat × Mat)) : Mat := if emptyP z then openW z else upUp (openW z) (dimN z + 1)

theorem oempty_any (b n : Nat) (m : Mat) (w : World) (hm : MatAt w b 108 .i32 n m) : Calls Try.prog 18 #[.pointer (some ⟨b, 0, none⟩)] w fun e w' => e = .returned (.bool (emptyP (some (n, m)))) ∧ w = w' := empty_zone b n m w hm

set_option maxHeartbeats 1000000 in
set_option maxRecDepth 100000 in
theorem up_nil (w : World) : Calls Try.prog 27 #[.pointer none] w fun e w' => e = .returned (.tuple #[.pointer none, .int .i64 1]) ∧ w = w' := by
  go_enter Try.func27, Try.ntmps27
  go_wp2
  go_ret2
  exact ⟨rfl, rfl⟩

set_option maxHeartbeats 1000000 in
set_option maxRecDepth 100000 in
theorem up_zone (v : Value) (n : Nat) (m : Mat) (w : World) (h : ZoneV 108 w v (some (n, m))) : Calls Try.prog 27 #[v] w (MakesZ w n (ofP n (flat n (upW (some (n, m)))))) := by
  have HZ := Lib.hid h
  obtain ⟨b, rfl, hn, hr, hm⟩ := h
  have hl : (cellsP (some (n, m))).length ≤ 81 := cellsP_short _ fun k m' e => by simp at e; omega
  have HO := Lib.hid (fun w h => oopen_any (.pointer (some ⟨b, 0, none⟩)) (some (n, m)) w h hn hl)
  have HM := Lib.hid hm
  have HRG := Lib.hid (rng_open hr)
  have HSH := Lib.hid (fun c m' w h hk => shut_any c n m' w hn h hk)
  clear hm hl hr
  go_enter Try.func27, Try.ntmps27
  go_wp2_with fail
  refine (HO.out _ HZ.out).mono ?_
  rintro e w1 ⟨rfl, hb, hw⟩
  have HB1 := Lib.hid hb
  have HW1 := Lib.hid (show MatAt w1 w.heap.size 138 .i32 n (openW (some (n, m))) from hw)
  have HM1 := Lib.hid (HM.out.later hb)
  clear hb hw HM HZ HO
  go_wp2_with fail
  refine (oempty_any b n m _ HM1.out).mono ?_
  cases he : emptyP (some (n, m)) with
  | true =>
    have HEQ := Lib.hid (show upW (some (n, m)) = openW (some (n, m)) by unfold upW; rw [if_pos he])
    rintro e w2 ⟨rfl, rfl⟩
    go_wp2_with fail
    refine (HSH.out _ _ _ HW1.out HRG.out).mono ?_
    rintro e w2 hz
    have HZ2 := Lib.hid hz
    obtain ⟨hb, v, rfl, hv⟩ := hz
    have HB2 := Lib.hid (HB1.out.trans (hb.mono HB1.out.size))
    clear hb hv
    go_wp2
    go_ret2
    rw [HEQ.out]
    exact ⟨HB2.out, HZ2.out.2⟩
  | false =>
    have HEQ := Lib.hid (show upW (some (n, m)) = upUp (openW (some (n, m))) (n + 1) by unfold upW; rw [if_neg (by simp [he])]; rfl)
    rintro e w2 ⟨rfl, rfl⟩
    obtain ⟨M, hM⟩ : ∃ M, M = openW (some (n, m)) := ⟨_, rfl⟩
    rw [← hM] at HEQ HW1 HRG
    clear hM he HM1
    go_wp2
    go_loopg [5] n (fun g v wr => ∃ p : Nat, v = .int .i64 p ∧ Hid (Only w.heap.size w1 wr ∧ MatAt wr w.heap.size 138 .i32 n (upUp M p)) ∧ Hid (1 ≤ p ∧ p ≤ n + 1 ∧ g + p = n + 1))
    case atStart => exact ⟨1, by simp, ⟨Only.refl _ _, HW1.out⟩, by omega, by omega, by omega⟩
    case round =>
      clear HW1
      obtain ⟨p, rfl, HR, HG⟩ := hrel
      have c0 := HR.out.2.head
      have hlt := HR.out.2.lt
      by_cases hp : p ≤ n
      · have hpi : (p : Int) ≤ (n : Int) := by omega
        have hp9 : (p : Int) < 9 := by omega
        have c1 := HR.out.2.cell p 0 (by omega) (by omega)
        have f1 := HR.out.2.frozen (1 + p * 9)
        simp only [Nat.add_zero] at c1
        go_wp2
        go_roundg (gk - 1)
        case measure => have h := HG.out; omega
        case rel =>
          refine ⟨p + 1, by go_num, ⟨HR.out.1.setCell _ _, ?_⟩, by omega, by omega, by have h := HG.out; omega⟩
          have e : upUp M (p + 1) = upd (upUp M p) p 0 2147483647 := by
            have h := HG.out
            rw [upUp, if_neg (by omega)]
          rw [e]
          exact HR.out.2.set p 0 (by omega) (by omega) _
      · have e : p = n + 1 := by have := HG.out; omega
        subst e
        have hpi : ¬ (((n + 1 : Nat) : Int) ≤ (n : Int)) := by omega
        have HB2 := Lib.hid (HB1.out.trans (HR.out.1.below (Nat.le_refl _) HB1.out.size))
        go_wp2_with fail
        refine (HSH.out _ _ _ HR.out.2 (rng_up HRG.out _)).mono ?_
        rintro e w2 hz
        have HZ2 := Lib.hid hz
        obtain ⟨hb, v, rfl, hv⟩ := hz
        have HB3 := Lib.hid (HB2.out.trans (hb.mono HB2.out.size))
        clear hb hv
        go_wp2
        go_ret2
        rw [HEQ.out]
        exact ⟨HB3.out, HZ2.out.2⟩

end Go.Proofs.Ytfegongaflekiaa

/- All from which time leads to a zone. -/
namespace Go.Proofs.Ytfegongaflekiaa
open Go Go.RowKit
set_option linter.unusedVariables false
set_option linter.unusedSimpArgs false
attribute [local go_sem] min_ints max_ints

theorem rng_less {n : Nat} {m : Mat} (h : Rng n m) (a b : Nat) (ha : a < n + 1) (hb : b < n + 1) (x : Int) (h0 : -2147483648 ≤ x) (h1 : x ≤ 2147483647) : Rng n (lessM m a b x) := by
  have := h a b ha hb
  unfold lessM
  exact rng_upd h a b _ (by omega) (by omega)
/-- Column i made as strict as the first j cells. -/
def downIn (m : Mat) (i : Nat) : Nat → Mat
  | 0 => m
  | j + 1 => if j = 0 then downIn m i j else lessM (downIn m i j) 0 i (downIn m i j j i)
def downUp (n : Nat) (m : Mat) : Nat → Mat
  | 0 => m
  | i + 1 => if i = 0 then downUp n m i else downIn (upd (downUp n m i) 0 i 1) i (n + 1)
theorem rng_downIn {n : Nat} {m : Mat} (h : Rng n m) (i : Nat) (hi : i < n + 1) : ∀ j, j ≤ n + 1 → Rng n (downIn m i j)
  | 0, _ => h
  | j + 1, hj => by
    have := rng_downIn h i hi j (by omega)
    unfold downIn
    split
    · exact this
    · exact rng_less this 0 i (by omega) hi _ (this j i (by omega) hi).1 (this j i (by omega) hi).2
theorem rng_down {n : Nat} {m : Mat} (h : Rng n m) : ∀ i, i ≤ n + 1 → Rng n (downUp n m i)
  | 0, _ => h
  | i + 1, hi => by
    have := rng_down h i (by omega)
    unfold downUp
    split
    · exact this
    · exact rng_downIn (rng_upd this _ _ _ (by decide) (by decide)) i (by omega) _ (Nat.le_refl _)
/-- The cells behind Down. -/
def downW (z : Option (Nat × Mat)) : Mat := if emptyP z then openW z else downUp (dimN z) (openW z) (dimN z + 1)

set_option maxHeartbeats 1000000 in
set_option maxRecDepth 100000 in
theorem down_nil (w : World) : Calls Try.prog 28 #[.pointer none] w fun e w' => e = .returned (.tuple #[.pointer none, .int .i64 1]) ∧ w = w' := by
  go_enter Try.func28, Try.ntmps28
  go_wp2
  go_ret2
  exact ⟨rfl, rfl⟩

set_option maxHeartbeats 1000000 in
set_option maxRecDepth 100000 in
theorem down_zone (v : Value) (n : Nat) (m : Mat) (w : World) (h : ZoneV 108 w v (some (n, m))) : Calls Try.prog 28 #[v] w (MakesZ w n (ofP n (flat n (downW (some (n, m)))))) := by
  have HZ := Lib.hid h
  obtain ⟨b, rfl, hn, hr, hm⟩ := h
  have hl : (cellsP (some (n, m))).length ≤ 81 := cellsP_short _ fun k m' e => by simp at e; omega
  have HO := Lib.hid (fun w h => oopen_any (.pointer (some ⟨b, 0, none⟩)) (some (n, m)) w h hn hl)
  have HM := Lib.hid hm
  have HRG := Lib.hid (rng_open hr)
  have HSH := Lib.hid (fun c m' w h hk => shut_any c n m' w hn h hk)
  clear hm hl hr
  go_enter Try.func28, Try.ntmps28
  go_wp2_with fail
  refine (HO.out _ HZ.out).mono ?_
  rintro e w1 ⟨rfl, hb, hw⟩
  have HB1 := Lib.hid hb
  have HW1 := Lib.hid (show MatAt w1 w.heap.size 138 .i32 n (openW (some (n, m))) from hw)
  have HM1 := Lib.hid (HM.out.later hb)
  clear hb hw HM HZ HO
  go_wp2_with fail
  refine (oempty_any b n m _ HM1.out).mono ?_
  cases he : emptyP (some (n, m)) with
  | true =>
    have HEQ := Lib.hid (show downW (some (n, m)) = openW (some (n, m)) by unfold downW; rw [if_pos he])
    rintro e w2 ⟨rfl, rfl⟩
    go_wp2_with fail
    refine (HSH.out _ _ _ HW1.out HRG.out).mono ?_
    rintro e w2 hz
    have HZ2 := Lib.hid hz
    obtain ⟨hb, v, rfl, hv⟩ := hz
    have HB2 := Lib.hid (HB1.out.trans (hb.mono HB1.out.size))
    clear hb hv
    go_wp2
    go_ret2
    rw [HEQ.out]
    exact ⟨HB2.out, HZ2.out.2⟩
  | false =>
    have HEQ := Lib.hid (show downW (some (n, m)) = downUp n (openW (some (n, m))) (n + 1) by unfold downW; rw [if_neg (by simp [he])]; rfl)
    rintro e w2 ⟨rfl, rfl⟩
    obtain ⟨M, hM⟩ : ∃ M, M = openW (some (n, m)) := ⟨_, rfl⟩
    rw [← hM] at HEQ HW1 HRG
    clear hM he HM1
    go_wp2
    go_loopg [5] n (fun g v wr => ∃ p : Nat, v = .int .i64 p ∧ Hid (Only w.heap.size w1 wr ∧ MatAt wr w.heap.size 138 .i32 n (downUp n M p)) ∧ Hid (1 ≤ p ∧ p ≤ n + 1 ∧ g + p = n + 1))
    case atStart => exact ⟨1, by simp, ⟨Only.refl _ _, HW1.out⟩, by omega, by omega, by omega⟩
    case round =>
      clear HW1
      obtain ⟨p, rfl, HR, HG⟩ := hrel
      have c0 := HR.out.2.head
      have hlt := HR.out.2.lt
      by_cases hp : p ≤ n
      · have hpi : (p : Int) ≤ (n : Int) := by omega
        have hp9 : (p : Int) < 9 := by omega
        have c1 := HR.out.2.cell 0 p (by omega) (by omega)
        have f1 := HR.out.2.frozen (1 + p)
        simp only [Nat.zero_mul, Nat.add_zero] at c1
        go_wp2_with fail
        have HM2 := Lib.hid (HR.out.2.set 0 p (by omega) (by omega) 1)
        have HO2 := Lib.hid (HR.out.1.setCell (1 + p) (.int .i32 1))
        simp only [Nat.zero_mul, Nat.add_zero] at HM2
        generalize wr.setCell ⟨w.heap.size, 1 + p, none⟩ (.int .i32 1) = w3 at *
        go_loopg [6] n (fun g v wr => ∃ q : Nat, v = .int .i64 q ∧ Hid (Only w.heap.size w1 wr ∧ MatAt wr w.heap.size 138 .i32 n (downIn (upd (downUp n M p) 0 p 1) p q)) ∧ Hid (1 ≤ q ∧ q ≤ n + 1 ∧ g + q = n + 1))
        case atStart => exact ⟨1, by simp, ⟨HO2.out, HM2.out⟩, by omega, by omega, by omega⟩
        case round =>
          clear HM2 HO2 c0 hlt c1 f1
          obtain ⟨q, rfl, HS, HH⟩ := hrel
          have c0 := HS.out.2.head
          have hlt := HS.out.2.lt
          by_cases hq : q ≤ n
          · have hqi : (q : Int) ≤ (n : Int) := by omega
            have hq9 : (q : Int) < 9 := by omega
            have c1 := HS.out.2.cell q p (by omega) (by omega)
            obtain ⟨x, hx⟩ : ∃ x, x = downIn (upd (downUp n M p) 0 p 1) p q q p := ⟨_, rfl⟩
            rw [← hx] at c1
            have HX := Lib.hid hx
            clear hx
            go_wp2_with fail
            refine (less_any w.heap.size 0 p n _ x _ (by omega) (by omega) HS.out.2).mono ?_
            rintro e w4 ⟨rfl, ho, hm⟩
            have HS4 := Lib.hid (And.intro (HS.out.1.trans ho) hm)
            clear ho hm
            go_wp2
            go_roundg (gk - 1)
            case measure => have h := HH.out; omega
            case rel =>
              refine ⟨q + 1, by go_num, ⟨HS4.out.1, ?_⟩, by omega, by omega, by have h := HH.out; omega⟩
              have e : downIn (upd (downUp n M p) 0 p 1) p (q + 1) = lessM (downIn (upd (downUp n M p) 0 p 1) p q) 0 p x := by
                have h := HH.out
                rw [downIn, if_neg (by omega), HX.out]
              rw [e]
              exact HS4.out.2
          · have e : q = n + 1 := by have := HH.out; omega
            subst e
            have hqi : ¬ (((n + 1 : Nat) : Int) ≤ (n : Int)) := by omega
            go_wp2
            go_roundg (n - p)
            case measure => have h := HG.out; omega
            case rel =>
              refine ⟨p + 1, by go_num, ⟨HS.out.1, ?_⟩, by omega, by omega, by have h := HG.out; omega⟩
              have e : downUp n M (p + 1) = downIn (upd (downUp n M p) 0 p 1) p (n + 1) := by
                have h := HG.out
                rw [downUp, if_neg (by omega)]
              rw [e]
              exact HS.out.2
      · have e : p = n + 1 := by have := HG.out; omega
        subst e
        have hpi : ¬ (((n + 1 : Nat) : Int) ≤ (n : Int)) := by omega
        have HB2 := Lib.hid (HB1.out.trans (HR.out.1.below (Nat.le_refl _) HB1.out.size))
        go_wp2_with fail
        refine (HSH.out _ _ _ HR.out.2 (rng_down HRG.out _ (Nat.le_refl _))).mono ?_
        rintro e w2 hz
        have HZ2 := Lib.hid hz
        obtain ⟨hb, v, rfl, hv⟩ := hz
        have HB3 := Lib.hid (HB2.out.trans (hb.mono HB2.out.size))
        clear hb hv
        go_wp2
        go_ret2
        rw [HEQ.out]
        exact ⟨HB3.out, HZ2.out.2⟩

end Go.Proofs.Ytfegongaflekiaa
