/- Walks: the law's own functions: got; copies of bytes and nodes. -/
import Derived.Test.YtkcpfchfpnmkpaaDoorEq3
namespace Go.Proofs
open Go Go.RowKit Go.Sort Go.Proofs.YtkcpfchfpnmkpaaDoor

namespace YtkcpfchfpnmkpaaDoor
theorem infoIm : (Tryd.prog.info? 29).map (·.size) = some 6 := by kernel_rfl
theorem Own.data {w : World} {B : Nat} {v : Value} {l : List UInt8} (h : Own w B v l) : DataO w B w.heap.size v l :=
  ⟨h.bs, fun k hk => by obtain ⟨a, b, c, e⟩ := own_tag h hk; exact ⟨a, b, c, _, e⟩⟩
def CopyP (w : World) (l : List UInt8) (e : Ending) (w' : World) : Prop := ∃ v, e = .returned v ∧ Own w' w.heap.size v l ∧ Below w.heap.size w w'
end YtkcpfchfpnmkpaaDoor

set_option maxRecDepth 100000 in
set_option maxHeartbeats 1600000 in
theorem Tryd.got_calls (v : Value) (b : List UInt8) (w : World) (h : Bs w v b) (hl : b.length ≤ 140737488355328) :
    Calls Tryd.prog 8 #[v] w (ToldQ w (gotS b).1 (gotS b).2) := by
  have H := Lib.hid h
  obtain ⟨a, c, rfl, -⟩ := h
  have HB0 : Hid (RowKit.Below w.heap.size w (w.alloc (.cells #[.slice none 0 0, .slice none 0 0, .int .i64 0, .slice none 0 0, .int .i64 0, .int .i64 0] 29))) := (Below.refl _ _).alloc (Nat.le_refl _) _
  have HV0 := Lib.hid (H.out.below HB0.out)
  have HX0 : Hid ((w.alloc (.cells #[.slice none 0 0, .slice none 0 0, .int .i64 0, .slice none 0 0, .int .i64 0, .int .i64 0] 29)).heap[w.heap.size]? = some (.cells #[.slice none 0 0, .slice none 0 0, .int .i64 0, .slice none 0 0, .int .i64 0, .int .i64 0] 29 (0, 0))) := heap_alloc_new w _
  obtain ⟨W0, hW0⟩ : ∃ W0, w.alloc (.cells #[.slice none 0 0, .slice none 0 0, .int .i64 0, .slice none 0 0, .int .i64 0, .int .i64 0] 29) = W0 := ⟨_, rfl⟩
  have hs0 : W0.heap.size = w.heap.size + 1 := by rw [← hW0]; simp
  rw [hW0] at HB0 HV0 HX0
  have HW0 := Lib.hid hW0
  have HS0 := Lib.hid hs0
  clear hW0 hs0
  obtain ⟨⟨y, ec⟩, hy⟩ : ∃ x, gotS b = x := ⟨_, rfl⟩
  rw [hy]
  have HY := Lib.hid hy
  clear hy
  go_enter Tryd.func8, Tryd.ntmps8
  go_wp2_with fail
  rw [HW0.out]
  refine (Tryd.get_calls _ b W0 HV0.out hl).mono ?_
  rw [HY.out]
  rintro e w1 ⟨an, cn, as', cs', am, cm, rfl, ho, hb1⟩
  have hx1 := (hb1.block w.heap.size (by have := HS0.out; omega)).trans HX0.out
  have hlt : w.heap.size < w1.heap.size := Lib.lt_of_heap hx1
  obtain ⟨W2, hW2⟩ : ∃ W2, w1.alloc (.cells #[.int .i64 y.ver, .slice am y.mems.length cm] 27) = W2 := ⟨_, rfl⟩
  have hz2 : W2.heap[w1.heap.size]? = some (.cells #[.int .i64 y.ver, .slice am y.mems.length cm] 27 (0, 0)) := by rw [← hW2]; exact heap_alloc_new w1 _
  have hb2 : RowKit.Below w1.heap.size w1 W2 := by rw [← hW2]; exact (Below.refl _ _).alloc (Nat.le_refl _) _
  have hx2 := (hb2.block w.heap.size hlt).trans hx1
  have HO2 := Lib.hid (ho.below hb2)
  have HB2 := Lib.hid ((HB0.out.trans (hb1.mono HB0.out.size)).trans (hb2.mono (by omega)))
  have HX2 := Lib.hid hx2
  have HW2 := Lib.hid hW2
  have c0 : W2.cell? ⟨w1.heap.size, 0, none⟩ = some (.int .i64 y.ver) := by rw [Lib.cell_of_heap hz2]; rfl
  have c1 : W2.cell? ⟨w1.heap.size, 1, none⟩ = some (.slice am y.mems.length cm) := by rw [Lib.cell_of_heap hz2]; rfl
  obtain ⟨W3, hW3⟩ : ∃ W3, W2.setRow w.heap.size #[.slice an y.nodes.length cn, .slice as' y.sits.length cs', .int .i64 y.ver, .slice am y.mems.length cm, .int .i64 y.lo, .int .i64 y.hi] = W3 := ⟨_, rfl⟩
  have hg3 : W2.grownBy W3 (some w.heap.size) := by rw [← hW3]; exact grown_setRow _ _ _
  have hz3 : W3.heap[w.heap.size]? = some (.cells #[.slice an y.nodes.length cn, .slice as' y.sits.length cs', .int .i64 y.ver, .slice am y.mems.length cm, .int .i64 y.lo, .int .i64 y.hi] 29 (0, 0)) := by rw [← hW3]; exact setRow_heap _ _ _ _ _ _ hx2
  have HF : Hid (ToldQ w y ec (.returned (.tuple #[.agg #[.slice an y.nodes.length cn, .slice as' y.sits.length cs', .int .i64 y.ver, .slice am y.mems.length cm, .int .i64 y.lo, .int .i64 y.hi], .int .i64 ec])) W3) :=
    ⟨an, cn, as', cs', am, cm, rfl, (HO2.out.step hg3 (by have := HS0.out; omega)).base (by have := HS0.out; omega), HB2.out.trans (grown_below hg3 (Nat.le_refl _) HB2.out.size)⟩
  have HW3 := Lib.hid hW3
  have e0 : W3.cell? ⟨w.heap.size, 0, none⟩ = some (.slice an y.nodes.length cn) := by rw [Lib.cell_of_heap hz3]; rfl
  have e1 : W3.cell? ⟨w.heap.size, 1, none⟩ = some (.slice as' y.sits.length cs') := by rw [Lib.cell_of_heap hz3]; rfl
  have e2 : W3.cell? ⟨w.heap.size, 2, none⟩ = some (.int .i64 y.ver) := by rw [Lib.cell_of_heap hz3]; rfl
  have e3 : W3.cell? ⟨w.heap.size, 3, none⟩ = some (.slice am y.mems.length cm) := by rw [Lib.cell_of_heap hz3]; rfl
  have e4 : W3.cell? ⟨w.heap.size, 4, none⟩ = some (.int .i64 y.lo) := by rw [Lib.cell_of_heap hz3]; rfl
  have e5 : W3.cell? ⟨w.heap.size, 5, none⟩ = some (.int .i64 y.hi) := by rw [Lib.cell_of_heap hz3]; rfl
  clear hb1 hb2 ho hx1 hx2 hz2 hW2 hW3 hg3 hz3 hlt
  go_wp2_with (((with_reducible show wpList _ _ _ (⟨none, Op.store 29 (.tmp 2) (.tmp 24), _, _, _, _⟩ :: _) _ _); rw [HW2.out]; refine wpList_store_row rfl 29 _ _ rfl w.heap.size #[.slice an y.nodes.length cn, .slice as' y.sits.length cs', .int .i64 y.ver, .slice am y.mems.length cm, .int .i64 y.lo, .int .i64 y.hi] rfl rfl 29 _ HX2.out infoIm rfl (wh_one _ _ _ _ _ _ _ _ _ _ _ _) ?_; rw [HW3.out]))
  refine bodyPost_ret (v := .tuple #[.agg #[.slice an y.nodes.length cn, .slice as' y.sits.length cs', .int .i64 y.ver, .slice am y.mems.length cm, .int .i64 y.lo, .int .i64 y.hi], .int .i64 ec]) (by simp [results, Tryd.results8, go_sem, e0, e1, e2, e3, e4, e5]) rfl ?_
  exact HF.out

set_option maxHeartbeats 800000 in
theorem Tryd.copyBytes_calls (v : Value) (l : List UInt8) (w : World) (h : Bs w v l) (hl : l.length ≤ 140737488355328) :
    Calls Tryd.prog 11 #[v] w (CopyP w l) := by
  have H := Lib.hid h
  obtain ⟨a, c, rfl, -⟩ := h
  have HL : Hid (([] : List UInt8).length + l.length ≤ 140737488355328) := by simpa [Hid] using hl
  go_enter Tryd.func11, Tryd.ntmps11
  go_wp2_with (at_builtin; refine Tryd.append_bytes rfl _ _ rfl w.heap.size (.slice none 0 0) _ [] l rfl rfl (Own.nil _ _) H.out HL.out (Nat.le_refl _) ?_; intro v' w' ho hg; rw [List.nil_append] at ho; have HO := Lib.hid ho; have HG := Lib.hid (below_of_grown hg); obtain ⟨a', c', rfl, -⟩ := ho.bs; clear ho hg)
  go_ret
  exact ⟨_, rfl, HO.out, HG.out⟩

namespace YtkcpfchfpnmkpaaDoor
def CopyNdP (w : World) (x : Nd) (e : Ending) (w' : World) : Prop := ∃ d, e = .returned (.agg (ndVal x d).toArray) ∧ DataO w' w.heap.size w'.heap.size d x.data ∧ Below w.heap.size w w'
end YtkcpfchfpnmkpaaDoor
end Go.Proofs
