/- Walks: the law's own functions: same, put, got, great; copies of bytes and nodes. -/
import Derived.Test.YtkcpfchfpnmkpaaDoorEq2
import Derived.Test.YtkcpfchfpnmkpaaDoorPut2
namespace Go.Proofs
open Go Go.RowKit Go.Sort Go.Proofs.YtkcpfchfpnmkpaaDoor

namespace YtkcpfchfpnmkpaaDoor
/-- The values of an image. -/
def imA (nv sv mv : Value) (x : Im) : Array Value := #[nv, sv, .int .i64 x.ver, mv, .int .i64 x.lo, .int .i64 x.hi]
/-- An image's parts lie in the slices nv, sv, mv. -/
structure ImV (w : World) (nv sv mv : Value) (x : Im) : Prop where
  nd : Nds w nv x.nodes
  sg : Sgs w sv x.sits
  mb : Ms w mv x.mems
theorem ImV.below {w w' : World} {nv sv mv : Value} {x : Im} (h : ImV w nv sv mv x) (hb : Below w.heap.size w w') : ImV w' nv sv mv x := ⟨h.nd.below hb, h.sg.below hb, h.mb.below hb⟩
theorem ImO.v {w : World} {B : Nat} {an : Option Addr} {cn : Nat} {as' : Option Addr} {cs' : Nat} {am : Option Addr} {cm : Nat} {y : Im} (h : ImO w B an cn as' cs' am cm y) : ImV w (.slice an y.nodes.length cn) (.slice as' y.sits.length cs') (.slice am y.mems.length cm) y := ⟨h.nd.nds, h.sg.sgs, MbsO.ms h.mb⟩
theorem ImV.slices {w : World} {nv sv mv : Value} {x : Im} (h : ImV w nv sv mv x) : ∃ an cn as' cs' am cm, nv = .slice an x.nodes.length cn ∧ sv = .slice as' x.sits.length cs' ∧ mv = .slice am x.mems.length cm := by
  obtain ⟨⟨ds, h1, ⟨an, cn, rfl, -⟩, -⟩, ⟨as', cs', rfl, -⟩, ⟨am, cm, rfl, -⟩⟩ := h
  exact ⟨an, cn, as', cs', am, cm, rfl, rfl, rfl⟩
theorem im_eq {x y : Im} : x = y ↔ (x.nodes = y.nodes ∧ x.sits = y.sits ∧ (x.ver = y.ver ∧ x.mems = y.mems) ∧ x.lo = y.lo ∧ x.hi = y.hi) := by
  cases x; cases y; simp [and_assoc]
end YtkcpfchfpnmkpaaDoor

set_option maxRecDepth 100000 in
set_option maxHeartbeats 1600000 in
theorem Tryd.same_calls (x y : Im) (n1 s1 m1 n2 s2 m2 : Value) (w : World) (h1 : ImV w n1 s1 m1 x) (h2 : ImV w n2 s2 m2 y) :
    Calls Tryd.prog 12 #[.agg (imA n1 s1 m1 x), .agg (imA n2 s2 m2 y)] w (SameP w (decide (x = y))) := by
  have HB : Hid (∀ o1 o2, RowKit.Below w.heap.size w ((w.alloc o1).alloc o2)) := fun o1 o2 => ((Below.refl _ _).alloc (Nat.le_refl _) _).alloc (by simp) _
  have H1 := Lib.hid h1
  have H2 := Lib.hid h2
  obtain ⟨a1, b1, c1, e1, f1, g1, rfl, rfl, rfl⟩ := h1.slices
  obtain ⟨a2, b2, c2, e2, f2, g2, rfl, rfl, rfl⟩ := h2.slices
  clear h1 h2
  simp only [imA]
  obtain ⟨W0, hW0⟩ : ∃ W0, (w.alloc (.cells #[.slice a1 x.nodes.length b1, .slice c1 x.sits.length e1, .int .i64 x.ver, .slice f1 x.mems.length g1, .int .i64 x.lo, .int .i64 x.hi] 29)).alloc (.cells #[.slice a2 y.nodes.length b2, .slice c2 y.sits.length e2, .int .i64 y.ver, .slice f2 y.mems.length g2, .int .i64 y.lo, .int .i64 y.hi] 29) = W0 := ⟨_, rfl⟩
  have hb0 : RowKit.Below w.heap.size w W0 := by rw [← hW0]; exact HB.out _ _
  have hz1 : W0.heap[w.heap.size]? = some (.cells #[.slice a1 x.nodes.length b1, .slice c1 x.sits.length e1, .int .i64 x.ver, .slice f1 x.mems.length g1, .int .i64 x.lo, .int .i64 x.hi] 29 (0, 0)) := by
    rw [← hW0]; exact (Below.heap_alloc _ _ _ (by simp)).trans (heap_alloc_new w _)
  have hz2 : W0.heap[w.heap.size + 1]? = some (.cells #[.slice a2 y.nodes.length b2, .slice c2 y.sits.length e2, .int .i64 y.ver, .slice f2 y.mems.length g2, .int .i64 y.lo, .int .i64 y.hi] 29 (0, 0)) := by
    have := heap_alloc_new (w.alloc (.cells #[.slice a1 x.nodes.length b1, .slice c1 x.sits.length e1, .int .i64 x.ver, .slice f1 x.mems.length g1, .int .i64 x.lo, .int .i64 x.hi] 29)) (.cells #[.slice a2 y.nodes.length b2, .slice c2 y.sits.length e2, .int .i64 y.ver, .slice f2 y.mems.length g2, .int .i64 y.lo, .int .i64 y.hi] 29)
    rw [hW0] at this
    simpa using this
  have HW0 := Lib.hid hW0
  have HB0 := Lib.hid hb0
  have HZ1 := Lib.hid hz1
  have HZ2 := Lib.hid hz2
  have HIE : Hid (decide (x = y) = (decide (x.nodes = y.nodes) && (decide (x.sits = y.sits) && (decide (x.ver = y.ver ∧ x.mems = y.mems) && (decide (x.lo = y.lo) && decide (x.hi = y.hi)))))) := by
    show _ = _
    rw [Bool.eq_iff_iff]
    simp [im_eq]
  have hs0 : w.heap.size + 2 ≤ W0.heap.size := by have := Lib.lt_of_heap hz2; omega
  clear hW0 hb0 hz1 hz2
  go_enter Tryd.func12, Tryd.ntmps12
  go_wp2_with fail
  rw [HW0.out]
  refine (Tryd.sameNodes_calls _ _ x.nodes y.nodes W0 (H1.out.nd.below HB0.out) (H2.out.nd.below HB0.out)).mono ?_
  rintro e w1 ⟨rfl, hb1⟩
  have y1 := (hb1.block w.heap.size (by omega)).trans HZ1.out
  have y2 := (hb1.block (w.heap.size + 1) (by omega)).trans HZ2.out
  have HB1 := Lib.hid (HB0.out.trans (hb1.mono (by omega)))
  have hs1 : w.heap.size + 2 ≤ w1.heap.size := by have := hb1.size; omega
  have c1' : w1.cell? ⟨w.heap.size, 1, none⟩ = some (.slice c1 x.sits.length e1) := by rw [Lib.cell_of_heap y1]; rfl
  have c2' : w1.cell? ⟨w.heap.size + 1, 1, none⟩ = some (.slice c2 y.sits.length e2) := by rw [Lib.cell_of_heap y2]; rfl
  have Y1 := Lib.hid y1
  have Y2 := Lib.hid y2
  obtain ⟨q1, hq1⟩ : ∃ q, decide (x.nodes = y.nodes) = q := ⟨_, rfl⟩
  rw [hq1] at HIE ⊢
  clear hb1 y1 y2 hq1
  cases q1 with
  | false =>
    rw [Bool.false_and] at HIE
    go_wp2_with fail
    go_ret
    exact ⟨by rw [HIE.out]; rfl, HB1.out⟩
  | true =>
    rw [Bool.true_and] at HIE
    go_wp2_with fail
    refine (Tryd.sameSittings_calls _ _ x.sits y.sits w1 (H1.out.sg.below HB1.out) (H2.out.sg.below HB1.out)).mono ?_
    rintro e w2 ⟨rfl, hb2⟩
    have y1 := (hb2.block w.heap.size (by omega)).trans Y1.out
    have y2 := (hb2.block (w.heap.size + 1) (by omega)).trans Y2.out
    have HB2 := Lib.hid (HB1.out.trans (hb2.mono (by omega)))
    have hs2 : w.heap.size + 2 ≤ w2.heap.size := by have := hb2.size; omega
    have d1 : w2.cell? ⟨w.heap.size, 2, none⟩ = some (.int .i64 x.ver) := by rw [Lib.cell_of_heap y1]; rfl
    have d2 : w2.cell? ⟨w.heap.size, 3, none⟩ = some (.slice f1 x.mems.length g1) := by rw [Lib.cell_of_heap y1]; rfl
    have d3 : w2.cell? ⟨w.heap.size + 1, 2, none⟩ = some (.int .i64 y.ver) := by rw [Lib.cell_of_heap y2]; rfl
    have d4 : w2.cell? ⟨w.heap.size + 1, 3, none⟩ = some (.slice f2 y.mems.length g2) := by rw [Lib.cell_of_heap y2]; rfl
    have Z1 := Lib.hid y1
    have Z2 := Lib.hid y2
    obtain ⟨q2, hq2⟩ : ∃ q, decide (x.sits = y.sits) = q := ⟨_, rfl⟩
    rw [hq2] at HIE ⊢
    clear hb2 y1 y2 hq2 c1' c2' Y1 Y2
    cases q2 with
    | false =>
      rw [Bool.false_and] at HIE
      go_wp2_with fail
      go_ret
      exact ⟨by rw [HIE.out]; rfl, HB2.out⟩
    | true =>
      rw [Bool.true_and] at HIE
      go_wp2_with fail
      refine (Tryd.sameEnsemble_calls x.ver y.ver _ _ x.mems y.mems w2 (H1.out.mb.below HB2.out) (H2.out.mb.below HB2.out)).mono ?_
      rintro e w3 ⟨rfl, hb3⟩
      have y1 := (hb3.block w.heap.size (by omega)).trans Z1.out
      have y2 := (hb3.block (w.heap.size + 1) (by omega)).trans Z2.out
      have HB3 := Lib.hid (HB2.out.trans (hb3.mono (by omega)))
      have f1' : w3.cell? ⟨w.heap.size, 4, none⟩ = some (.int .i64 x.lo) := by rw [Lib.cell_of_heap y1]; rfl
      have f2' : w3.cell? ⟨w.heap.size, 5, none⟩ = some (.int .i64 x.hi) := by rw [Lib.cell_of_heap y1]; rfl
      have f3' : w3.cell? ⟨w.heap.size + 1, 4, none⟩ = some (.int .i64 y.lo) := by rw [Lib.cell_of_heap y2]; rfl
      have f4' : w3.cell? ⟨w.heap.size + 1, 5, none⟩ = some (.int .i64 y.hi) := by rw [Lib.cell_of_heap y2]; rfl
      obtain ⟨q3, hq3⟩ : ∃ q, decide (x.ver = y.ver ∧ x.mems = y.mems) = q := ⟨_, rfl⟩
      rw [hq3] at HIE ⊢
      clear hb3 y1 y2 hq3 d1 d2 d3 d4 Z1 Z2
      cases q3 with
      | false =>
        rw [Bool.false_and] at HIE
        go_wp2_with fail
        go_ret
        exact ⟨by rw [HIE.out]; rfl, HB3.out⟩
      | true =>
        rw [Bool.true_and] at HIE
        go_wp2_with fail
        all_goals (
          go_ret
          rw [HIE.out]
          refine ⟨congrArg (fun b => Ending.returned (Value.bool b)) ?_, HB3.out⟩
          rw [Bool.eq_iff_iff]
          simp [*])

set_option maxRecDepth 100000 in
set_option maxHeartbeats 1600000 in
theorem Tryd.putL_calls (x : Im) (nv sv mv : Value) (w : World) (h : ImV w nv sv mv x) (hi : ImIn x) :
    Calls Tryd.prog 7 #[.agg (imA nv sv mv x)] w (PutP w x) := by
  have HB : Hid (∀ o1, RowKit.Below w.heap.size w (w.alloc o1)) := fun o1 => (Below.refl _ _).alloc (Nat.le_refl _) _
  have H := Lib.hid h
  have HI := Lib.hid hi
  obtain ⟨a1, b1, c1, e1, f1, g1, rfl, rfl, rfl⟩ := h.slices
  clear h hi
  simp only [imA]
  go_enter Tryd.func7, Tryd.ntmps7
  go_wp2_with fail
  refine (Tryd.put_calls x _ _ _ _ (H.out.nd.below (HB.out _)) (H.out.sg.below (HB.out _)) (H.out.mb.below (HB.out _)) HI.out).mono ?_
  rintro e w1 ⟨v, rfl, ho, hb⟩
  have hF : PutP w x (.returned (.tuple #[v, .int .i64 (putS x).2])) w1 := ⟨v, rfl, own_base ho (by simp), (HB.out _).trans (hb.mono (by simp))⟩
  have HF := Lib.hid hF
  obtain ⟨av, cv, rfl, -⟩ := ho.bs
  clear ho hb hF
  go_wp2_with fail
  go_ret2
  exact HF.out

theorem Tryd.great_calls (x : Im) (nv sv mv : Value) (w : World) (h : ImV w nv sv mv x) :
    Calls Tryd.prog 6 #[.agg (imA nv sv mv x)] w (SameP w (decide (700 < x.nodes.length) || (decide (700 < x.sits.length) || decide (700 < x.mems.length)))) := by
  have HB : Hid (∀ o1, RowKit.Below w.heap.size w (w.alloc o1)) := fun o1 => (Below.refl _ _).alloc (Nat.le_refl _) _
  obtain ⟨a1, b1, c1, e1, f1, g1, rfl, rfl, rfl⟩ := h.slices
  clear h
  simp only [imA]
  go_enter Tryd.func6, Tryd.ntmps6
  go_wp2_with fail
  all_goals (
    go_ret
    refine ⟨congrArg (fun b => Ending.returned (Value.bool b)) ?_, HB.out _⟩
    rw [Bool.eq_iff_iff]
    simp
    try omega)
end Go.Proofs
