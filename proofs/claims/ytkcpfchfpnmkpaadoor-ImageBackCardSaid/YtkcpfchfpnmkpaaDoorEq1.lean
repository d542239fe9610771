/- Walks: the law's own functions: sameness. -/
import Derived.Test.YtkcpfchfpnmkpaaDoorRead5
namespace Go.Proofs
open Go Go.RowKit Go.Sort Go.Proofs.YtkcpfchfpnmkpaaDoor

namespace YtkcpfchfpnmkpaaDoor
theorem ba_ext {a b : ByteArray} (h : a.toList = b.toList) : a = b := by
  rw [ByteArray.toList_eq, ByteArray.toList_eq] at h
  cases a; cases b
  simp only at h
  congr 1
  exact Array.ext' h
theorem nd_eq {x y : Nd} (h1 : x.path = y.path) (h2 : x.data = y.data) (h3 : statVal x = statVal y) : x = y := by
  cases x; cases y
  simp only [statVal, List.cons.injEq, Value.int.injEq, true_and, and_true] at h1 h2 h3
  obtain ⟨a, b, c, d, e, f, g, h, i, j⟩ := h3
  subst h1 h2 a b c d e f g h i j
  rfl
end YtkcpfchfpnmkpaaDoor

set_option maxRecDepth 100000 in
set_option maxHeartbeats 1600000 in
theorem Tryd.sameNode_calls (x y : Nd) (d1 d2 : Value) (w : World) (h1 : Bs w d1 x.data) (h2 : Bs w d2 y.data) :
    Calls Tryd.prog 43 #[.agg (ndVal x d1).toArray, .agg (ndVal y d2).toArray] w fun e w' => e = .returned (.bool (decide (x = y))) ∧ Below w.heap.size w w' := by
  have HB : Hid (∀ o1 o2, RowKit.Below w.heap.size w ((w.alloc o1).alloc o2)) := fun o1 o2 => ((Below.refl _ _).alloc (Nat.le_refl _) _).alloc (by simp) _
  have H1 := Lib.hid h1
  have H2 := Lib.hid h2
  obtain ⟨a1, c1, rfl, -⟩ := h1
  obtain ⟨a2, c2, rfl, -⟩ := h2
  simp only [ndVal]
  go_enter Tryd.func43, Tryd.ntmps43
  go_wp2_with fail
  · rename x.path.toList = y.path.toList => hp
    have HP := Lib.hid hp
    clear hp
    refine (Tryd.sameBytes_calls _ _ x.data y.data _ (H1.out.below (HB.out _ _)) (H2.out.below (HB.out _ _))).mono ?_
    rintro e W ⟨rfl, n, rfl⟩
    obtain ⟨q, hq⟩ : ∃ q, (x.data == y.data) = q := ⟨_, rfl⟩
    rw [hq]
    have HQ := Lib.hid hq
    clear hq
    cases q
    · go_wp2_with fail
      go_ret
      refine ⟨?_, (HB.out _ _).trans ((belowD _ n).mono (by simp; omega))⟩
      have : ¬ x = y := fun e => by have := HQ.out; rw [e] at this; simp at this
      simp [this]
    · go_wp2_with fail
      all_goals (
        go_ret
        refine ⟨?_, (HB.out _ _).trans ((belowD _ n).mono (by simp; omega))⟩
        first
          | (have hxy : x = y := nd_eq (ba_ext HP.out) (by simpa using HQ.out) (by simp [statVal, *]); simp [hxy]; done)
          | (have hxy : ¬ x = y := (by intro e; subst e; contradiction); simp [hxy]))
  · rename ¬ x.path.toList = y.path.toList => hp
    go_ret
    have : ¬ x = y := fun e => hp (by rw [e])
    exact ⟨by simp [this], HB.out _ _⟩
/-- What a call answers that tells whether two are the same. -/
def YtkcpfchfpnmkpaaDoor.SameP (w : World) (b : Bool) (e : Ending) (w' : World) : Prop := e = .returned (.bool b) ∧ Below w.heap.size w w'

set_option maxRecDepth 100000 in
set_option maxHeartbeats 1600000 in
theorem Tryd.sameSittings_calls (v1 v2 : Value) (l1 l2 : List Sg) (w : World) (h1 : Sgs w v1 l1) (h2 : Sgs w v2 l2) :
    Calls Tryd.prog 22 #[v1, v2] w (SameP w (decide (l1 = l2))) := by
  obtain ⟨a1, c1, rfl, h11, h12, h13, h14⟩ := h1
  obtain ⟨a2, c2, rfl, h21, h22, h23, h24⟩ := h2
  unfold maxLen at h12 h22
  by_cases hl : l1.length = l2.length
  · have e1 : ((l1.length : Int) != (l2.length : Int)) = false := by simp [hl]
    have H14 := Lib.hid h14
    have H24 := Lib.hid h24
    have HL := Lib.hid hl
    clear h14 h24 hl h13 h23
    go_enter Tryd.func22, Tryd.ntmps22
    go_wp2
    go_loopw [5] (fun i wr => ∃ k n : Nat, k ≤ l1.length ∧ i = .int .i64 k ∧ wr = w.drewN n ∧ Hid (l1.take k = l2.take k)) (fun i _ => l1.length - (intOf i).toNat)
    case atStart => exact ⟨0, 0, by omega, rfl, rfl, by simp [Hid]⟩
    case round =>
      obtain ⟨k, n, hk, rfl, rfl, HT⟩ := hrel
      by_cases hlt : k < l1.length
      · have b1k : (k : Int) < (l1.length : Int) := by omega
        have b2k : (k : Int) < (l2.length : Int) := by have := HL.out; omega
        obtain ⟨x, hx⟩ := get_some l1 k hlt
        obtain ⟨y, hy⟩ := get_some l2 k (by omega)
        obtain ⟨b1, o1, rfl, g10, g11, g12⟩ := sgAt H14.out hx
        obtain ⟨b2, o2, rfl, g20, g21, g22⟩ := sgAt H24.out hy
        have HX := Lib.hid hx
        have HY := Lib.hid hy
        clear hx hy
        by_cases hxy : x = y
        · subst hxy
          go_wp2
          go_quiet (fail)
          go_wp2
          go_roundw
          case rel => exact ⟨k + 1, _, by omega, by go_num, rfl, by show _ = _; rw [take_snoc HX.out, take_snoc HY.out, HT.out]⟩
          case measure => simp [intOf]; omega
        · have hxy' : ¬ x.session = y.session ∨ (x.session = y.session ∧ ¬ x.timeout = y.timeout) ∨ (x.session = y.session ∧ x.timeout = y.timeout ∧ ¬ x.turn = y.turn) := by
            by_cases a : x.session = y.session <;> by_cases b : x.timeout = y.timeout <;> by_cases c : x.turn = y.turn <;> simp_all
            apply hxy; cases x; cases y; simp_all
          have hne : ¬ l1 = l2 := fun h => hxy (by have h1 := HX.out; have h2 := HY.out; rw [h, h2] at h1; exact (Option.some.inj h1).symm)
          have HNE := Lib.hid hne
          clear hne hxy
          rcases hxy' with h | ⟨h1, h⟩ | ⟨h1, h2, h⟩
          all_goals (
            go_wp2
            go_quiet (fail)
            go_wp2
            go_ret
            exact ⟨by simp [HNE.out], by rw [World.drewN_drewN]; exact belowD w _⟩)
      · go_wp2
        go_ret
        have hke : k = l1.length := by omega
        have h1 := HT.out
        rw [List.take_of_length_le (by omega), List.take_of_length_le (by have := HL.out; omega)] at h1
        exact ⟨by simp [h1], belowD w n⟩
  · have e1 : ((l1.length : Int) != (l2.length : Int)) = true := by simp [hl]; omega
    have e2 : (l1.length == l2.length) = false := by simp [hl]
    go_enter Tryd.func22, Tryd.ntmps22
    go_wp2
    go_ret
    exact ⟨by have : ¬ l1 = l2 := (by intro h; exact hl (by rw [h])); simp [this], belowD w 0⟩
end Go.Proofs
