/- The document's zones, made of bounds. -/
import Derived.Test.YtgpmfnahjepjjaaRb
import Derived.Deep.AppendLies
import Derived.Deep.RegionLaw
namespace Go.Proofs.Ytgpmfnahjepjjaa
open Go Go.RowKit
set_option linter.unusedVariables false
set_option linter.unusedSimpArgs false

theorem infoI : (Try.prog.info? 2).map (fun i => (i.zero, i.size, i.bytes)) = some (some (.int .i64 0), 1, 8) := by kernel_rfl
theorem infoRB : (Try.prog.info? 37).map (fun i => (i.zero, i.size, i.bytes)) = some (some (.int .i32 0), 1, 4) := by kernel_rfl

/-- The wide row, so far. -/
def WideR (w0 : World) (l : List Int) (p : Nat) (v : Value) (wr : World) : Prop :=
  Below w0.heap.size w0 wr ∧ wr.ownsRow w0.heap.size 2 1 v p (vals .i64 (widUp l p)) ∧ p ≤ l.length
theorem WideR.next {w0 wr w1 : World} {l : List Int} {p : Nat} {v v' : Value} {o : Obj} (h : WideR w0 l p v wr) (hp : p < l.length) (x : Int) (hx : x = wid (l.getD p 0))
    (hown : w1.ownsRow w0.heap.size 2 1 v' (p + 1) (vals .i64 (widUp l p) ++ [.int .i64 x])) (hg : (wr.alloc o).grownBy w1 v.ownBlock) : WideR w0 l (p + 1) v' w1 := by
  refine ⟨(h.1.alloc h.1.size o).grown hg (by have := h.1.size; simp; omega) (fun k hk => (h.2.1.lt k hk).1), ?_, by omega⟩
  have e : vals .i64 (widUp l (p + 1)) = vals .i64 (widUp l p) ++ [.int .i64 x] := by rw [hx]; simp [vals, widUp]
  rw [e]; exact hown

set_option maxRecDepth 100000 in
set_option maxHeartbeats 2000000 in
theorem wide_any (A : Option Addr) (c : Nat) (l : List Int) (w : World) (hI : Ints w .i32 A l) (hl : l.length ≤ 1000) (hr : ∀ q, q < l.length → -2147483648 ≤ l.getD q 0 ∧ l.getD q 0 ≤ 2147483647) :
    Calls Try.prog 53 #[.slice A l.length c] w fun e w' => ∃ v, e = .returned v ∧ WideR w l l.length v w' := by
  have HI := Lib.hid hI
  have HR := Lib.hid hr
  clear hI hr
  obtain ⟨i0, hi, hz0, hz1, hz2⟩ := info_parts infoI
  have HInf := Lib.hid (And.intro hi (And.intro hz0 (And.intro hz1 hz2)))
  clear hi hz0 hz1 hz2
  have HS := Lib.hid (show WideR w l 0 (.slice none 0 0) w from ⟨Below.refl _ _, by simpa [widUp, vals] using World.ownsRow_nil w _ _ _, by omega⟩)
  go_enter Try.func53, Try.ntmps53
  go_wp2
  go_loopg [3, 4] l.length (fun g v x wr => ∃ p : Nat, x = .int .i64 p ∧ WideR w l p v wr ∧ Hid (g + p = l.length))
  case atStart => exact ⟨0, by simp, HS.out, by show _ = _; omega⟩
  case round =>
    clear HS
    obtain ⟨p, rfl, H, HG⟩ := hrel
    have HW := Lib.hid H
    clear H
    by_cases hp : p < l.length
    · obtain ⟨b, off, rfl, hc⟩ := HI.out.below HW.out.1 p hp
      have hb := HR.out p hp
      obtain ⟨x, hx⟩ : ∃ x, x = l.getD p 0 := ⟨_, rfl⟩
      rw [← hx] at hc hb
      have HX := Lib.hid hx
      clear hx
      obtain ⟨hb0, hb1⟩ := hb
      by_cases hinf : x = 2147483647
      · subst hinf
        go_wp2_with (at_builtin; refine wpList_append_own _ rfl _ _ 56 rfl w.heap.size 2 i0 (.int .i64 0) 1 8 Try.underlying56 HInf.out.1 HInf.out.2.1 HInf.out.2.2.1 HInf.out.2.2.2 rfl (by decide) _ _ _ rfl (HW.out.2.1.alloc _) ⟨wr.heap.size, 0, none⟩ 1 1 [.int .i64 4611686018427387904] rfl rfl (cell_one_new _ _ _) (by intro u hu; simp at hu; subst hu; rfl) ?c3 ?c4 ?c5 ?_)
        case c3 => unfold maxLen; omega
        case c4 => omega
        case c5 => have := HW.out.1.size; simp; omega
        intro v' w1 hown hgrow _
        have HN := Lib.hid (HW.out.next hp 4611686018427387904 (by rw [← HX.out]; rfl) hown hgrow)
        clear hown hgrow
        go_wp2
        go_roundg (gk - 1)
        case measure => have h := HG.out; omega
        case rel => exact ⟨p + 1, by go_num, HN.out, by have h := HG.out; show _ = _; omega⟩
      · have t1 : (x == 2147483647) = false := by simp [hinf]
        have HNI := Lib.hid hinf
        clear hinf
        go_wp2_with (at_builtin; refine wpList_append_own _ rfl _ _ 56 rfl w.heap.size 2 i0 (.int .i64 0) 1 8 Try.underlying56 HInf.out.1 HInf.out.2.1 HInf.out.2.2.1 HInf.out.2.2.2 rfl (by decide) _ _ _ rfl (HW.out.2.1.alloc _) ⟨wr.heap.size, 0, none⟩ 1 1 [.int .i64 x] rfl rfl (cell_one_new _ _ _) (by intro u hu; simp at hu; subst hu; rfl) ?c3 ?c4 ?c5 ?_)
        case c3 => unfold maxLen; omega
        case c4 => omega
        case c5 => have := HW.out.1.size; simp; omega
        intro v' w1 hown hgrow _
        have HN := Lib.hid (HW.out.next hp x (by rw [← HX.out]; unfold wid; rw [if_neg HNI.out]) hown hgrow)
        clear hown hgrow
        go_wp2
        go_roundg (gk - 1)
        case measure => have h := HG.out; omega
        case rel => exact ⟨p + 1, by go_num, HN.out, by have h := HG.out; show _ = _; omega⟩
    · have e : p = l.length := by have := HW.out.2.2; omega
      subst e
      go_wp2
      go_ret
      exact ⟨_, rfl, HW.out⟩

end Go.Proofs.Ytgpmfnahjepjjaa
