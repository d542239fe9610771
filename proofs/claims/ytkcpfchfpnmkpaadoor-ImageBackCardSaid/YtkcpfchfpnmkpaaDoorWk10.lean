/- Walks: bytes.Buffer's Bytes; wire.Writer's Done. -/
import Derived.Test.YtkcpfchfpnmkpaaDoorWk9
import Derived.BigQuiet
namespace Go.Proofs
open Go Go.RowKit Go.Proofs.YtkcpfchfpnmkpaaDoor

namespace YtkcpfchfpnmkpaaDoor
def DrewBs (w : World) (l : List UInt8) (b : Nat) (e : Ending) (w' : World) : Prop := ∃ v n, e = .returned v ∧ Bs w' v l ∧ w' = w.drewN n
theorem below_of_drewN {w w' : World} {n : Nat} (h : Below (w.drewN n).heap.size (w.drewN n) w') : Below w.heap.size w w' := ⟨h.os, h.tape, h.output, h.size, h.block⟩
end YtkcpfchfpnmkpaaDoor

set_option maxHeartbeats 1600000 in
theorem Tryd.bufBytes_calls (B b : Nat) (l : List UInt8) (w : World) (h : WrP w B b l) (hne : l ≠ []) :
    Calls Tryd.prog 58 #[.pointer (some ⟨b, 0, none⟩)] w (DrewBs w l b) := by
  obtain ⟨T, h⟩ := h
  obtain ⟨hBb, lr, hcs⟩ := h.cases
  have hl0 : (bv l).length ≠ 0 := by rw [bv_length]; intro e; exact hne (List.eq_nil_of_length_eq_zero e)
  rcases hcs with ⟨hnil, _⟩ | ⟨g2, cap, cur, hbk, hBg, hg, hnc, hcm, hcsz, htk, hgb⟩
  · exact absurd (by rw [hnil]; rfl) hl0
  have c0 : w.cell? ⟨b, 0, none⟩ = some (.slice (some ⟨g2, 0, none⟩) (bv l).length cap) := hbk.c0
  have c1 : w.cell? ⟨b, 1, none⟩ = some (.int .i64 0) := hbk.c1
  have hcm' := hcm
  unfold maxLen at hcm'
  have HBS : Hid (Bs w (.slice (some ⟨g2, 0, none⟩) l.length cap) l) := by
    refine ⟨_, cap, rfl, by rw [← bv_length]; exact hnc, hcm, by simp, ?_⟩
    intro i v hv
    refine ⟨g2, 0, rfl, ?_⟩
    rw [Nat.zero_add, Lib.cell_of_heap hg, ← Array.getElem?_toList]
    rw [← htk, List.getElem?_take] at hv
    split at hv
    · exact hv
    · simp at hv
  rw [bv_length] at c0 hnc
  clear h hbk hg htk
  go_enter Tryd.func58, Tryd.ntmps58
  go_wp2_with fail
  go_quiet (fail)
  go_wp2
  go_ret
  exact ⟨_, _, rfl, HBS.out, rfl⟩

set_option maxHeartbeats 1600000 in
theorem Tryd.wDone_calls (B b : Nat) (l : List UInt8) (w : World) (h : WrP w B b l) (hne : l ≠ []) (hl : l.length ≤ 140737488355328) :
    Calls Tryd.prog 41 #[.pointer (some ⟨b, 0, none⟩)] w fun e w' => ∃ v', e = .returned v' ∧ NewBs w w' v' l ∧ Below w.heap.size w w' := by
  have H := Lib.hid h
  have HNE := Lib.hid hne
  clear h hne
  go_enter Tryd.func41, Tryd.ntmps41
  go_wp2_with fail
  refine (Tryd.bufBytes_calls B b l w H.out HNE.out).mono ?_
  rintro e w1 ⟨v, n, rfl, h1, rfl⟩
  have H1 := Lib.hid h1
  obtain ⟨a, c, rfl, -⟩ := h1
  go_wp2_with fail
  refine (Tryd.clone_calls _ l (w.drewN n) H1.out hl).mono ?_
  rintro e w2 ⟨v', rfl, h2, h3⟩
  have H2 := Lib.hid h2
  have H3 := Lib.hid h3
  clear h2 h3
  obtain ⟨a2, c2, rfl, -⟩ := H2.out.1
  go_wp2
  go_ret
  exact ⟨_, rfl, H2.out, below_of_drewN H3.out⟩
end Go.Proofs
