/- Walks: bytes.Buffer: growing and writing, with the row told: it is the old one, or new. -/
import Derived.Test.YtkcpfchfpnmkpaaDoorApp
import Derived.Test.YtkcpfchfpnmkpaaDoorShelf
import Derived.Deep.RegionWith
import Derived.Laws.MakeOwn
namespace Go.Proofs
open Go Go.RowKit Go.Proofs.YtkcpfchfpnmkpaaDoor

namespace YtkcpfchfpnmkpaaDoor
/-- What grow leaves: a new row N that holds the first l bytes, with room. -/
def GrowP (w : World) (T : TypeId) (b l n : Nat) (lr : Int) (bs : List Value) (e : Ending) (w' : World) : Prop :=
  e = .returned (.int .i64 l) ∧ ∃ N cap2 cells, w.heap.size ≤ N ∧ LibA.Three w' b 0 T (fun _ => none) (.slice (some ⟨N, 0, none⟩) (l + n) cap2) (.int .i64 0) (.int .i8 lr) ∧
    w'.heap[N]? = some (.cells cells 5 (0, 0)) ∧ cells.size = cap2 ∧ cells.toList.take l = bs ∧ l + n ≤ cap2 ∧ cap2 ≤ maxLen ∧ w.grownBy w' (some b)
theorem GrowP.mk3 {w w0 w2 : World} {T : TypeId} {b l n N cap2 : Nat} {lr : Int} {bs : List Value} {v0 v1 : Value} {cells : Array Value} (hbk2 : LibA.Three w2 b 0 T (fun _ => none) v0 (.int .i64 0) (.int .i8 lr))
    (hN : w2.heap[N]? = some (.cells cells 5 (0, 0))) (hwN : w.heap.size ≤ N) (hNb : N ≠ b) (hcsz : cells.size = cap2) (htk : cells.toList.take l = bs) (hcap2 : l + n ≤ cap2) (hcm2 : cap2 ≤ maxLen) (hg : w.grownBy w2 (some b)) :
    GrowP w T b l n lr bs (.returned (.int .i64 l)) (((w2.setCell ⟨b, 0, none⟩ v1).setCell ⟨b, 1, none⟩ (.int .i64 0)).setCell ⟨b, 0, none⟩ (.slice (some ⟨N, 0, none⟩) (l + n) cap2)) := by
  refine ⟨rfl, N, cap2, cells, hwN, (((hbk2.set0 v1).set1 (.int .i64 0)).set0 _), ?_, hcsz, htk, hcap2, hcm2, grown_setCell (grown_setCell (grown_setCell hg _) _) _⟩
  rw [Below.heap_setCell _ _ _ _ hNb, Below.heap_setCell _ _ _ _ hNb, Below.heap_setCell _ _ _ _ hNb]
  exact hN
end YtkcpfchfpnmkpaaDoor

set_option maxHeartbeats 12800000 in
set_option maxRecDepth 100000 in
theorem Tryd.grow_row (T : TypeId) (b g l cap n : Nat) (lr : Int) (cur : Array Value) (bs : List Value) (w : World)
    (hbk : LibA.Three w b 0 T (fun _ => none) (.slice (some ⟨g, 0, none⟩) l cap) (.int .i64 0) (.int .i8 lr)) (hl : bs.length = l) (hg : w.heap[g]? = some (.cells cur 5 (0, 0))) (hlc : l ≤ cap) (hcm : cap ≤ maxLen) (hcs : cur.size = cap)
    (htake : cur.toList.take l = bs) (hgb : g ≠ b) (h1 : ∀ v ∈ bs, v.oneCell' = true) (hn : 1 ≤ n) (hroom : cap - l < n) (hlim : l + n ≤ 140737488355328) (hl0 : l ≠ 0) :
    Calls Tryd.prog 67 #[.pointer (some ⟨b, 0, none⟩), .int .i64 n] w (GrowP w T b l n lr bs) := by
  have hIs : LibA.IsBuffer T (fun _ => none) 5 0 b 0 bs w := ⟨Nat.zero_le _, _, _, hbk, ⟨by rw [hl, Nat.mul_one], .inr ⟨g, cap, cur, by rw [hl], Nat.zero_le _, hg, by omega, hcm, by omega, by rw [hl, Nat.mul_one]; exact htake⟩⟩, by simp [Value.ownBlock]; exact hgb⟩
  have hnil : ∀ W, (binOp .eql 30 (.slice (some ⟨g, 0, none⟩) l cap) (.slice none 0 0)).run Tryd.prog W = .ok (.bool false) W := fun W => Lib.run_eql_slice_some_nil W _ _ _ Tryd.underlying30
  go_enter Tryd.func67, Tryd.ntmps67
  go_wp2_with (go_at_call 81; refine (Tryd.Buffer_Len_at T _ 0 b 0 bs _ hIs).mono ?_)
  rintro e W0 ⟨rfl, k, hW0⟩
  rw [hl]
  have hbk0 : LibA.Three W0 b 0 T (fun _ => none) (.slice (some ⟨g, 0, none⟩) l cap) (.int .i64 0) (.int .i8 lr) := by rw [hW0]; exact hbk
  have hg0 : W0.heap[g]? = some (.cells cur 5 (0, 0)) := by rw [hW0]; exact hg
  have c0 : W0.cell? ⟨b, 0, none⟩ = some (.slice (some ⟨g, 0, none⟩) l cap) := hbk0.c0
  have c1 : W0.cell? ⟨b, 1, none⟩ = some (.int .i64 0) := hbk0.c1
  have f0 : W0.frozen? ⟨b, 0, none⟩ = false := hbk0.f 0
  have f1 : W0.frozen? ⟨b, 1, none⟩ = false := hbk0.f 1
  have HW0 := Lib.hid hW0
  clear hW0 hIs
  have hcm' := hcm
  unfold maxLen at hcm'
  go_wp2_with (go_at_call 66; refine (Tryd.Buffer_tryGrow_none_at b 0 _ l cap n _ c0 hlc hcm hroom).mono ?_; rintro e w' ⟨rfl, rfl⟩)
  have hc2 : cap ≤ 140737488355328 := by omega
  have h1' : ∀ v ∈ cur.toList.take l, v.oneCell' = true := by rw [htake]; exact h1
  have hbW := hbk0.lt
  have hwn : IntKind.i64.wrap (n : Int) = n := by rw [IntKind.wrap_i64]; omega
  go_region_with (
      go_at_call 83
      refine (Tryd.bytes_growSlice_row g l cap n cur _ ?_ hcs hlc hn hlim hc2 h1').mono ?_
      exact hg0
      rintro e w2 ⟨cap2, cells, rfl, hN, hcsz, htk, hcap2, hcm2, hbel⟩
      have hbk2 : LibA.Three w2 b 0 T (fun _ => none) (.slice (some ⟨g, 0, none⟩) l cap) (.int .i64 0) (.int .i8 lr) := hbk0.of_heap (hbel.block b hbW)
      have d0 : w2.cell? ⟨b, 0, none⟩ = some (.slice (some ⟨g, 0, none⟩) l cap) := hbk2.c0
      have d1 : w2.cell? ⟨b, 1, none⟩ = some (.int .i64 0) := hbk2.c1
      have e0 : w2.frozen? ⟨b, 0, none⟩ = false := hbk2.f 0
      have e1 : w2.frozen? ⟨b, 1, none⟩ = false := hbk2.f 1)
  all_goals (
    go_wp2
    go_ret
    have hsz0 : w'.heap.size = w.heap.size := by rw [HW0.out]; rfl
    have hg2 : w.grownBy w2 (some b) := Lib.grownBy_below (w := w'.drew) (by rw [HW0.out]; exact ⟨rfl, rfl, rfl, Nat.le_refl _, fun _ _ _ => rfl⟩) hbel
    exact GrowP.mk3 (w0 := w) hbk2 hN (by show w.heap.size ≤ w'.heap.size; omega) (by show w'.heap.size ≠ b; omega) hcsz (htk.trans htake) hcap2 hcm2 hg2)
end Go.Proofs
