/- Walks: path.Check. -/
import Derived.Test.YtkcpfchfpnmkpaaDoorPath4
namespace Go.Proofs
open Go Go.RowKit Go.Shelf Go.Proofs.YtkcpfchfpnmkpaaDoor
attribute [local go_sem] Oper.semAt_some

theorem Tryd.parts_calls (s : ByteArray) (w : World) :
    Calls Tryd.prog 64 #[.string s] w fun e w' => e = .returned (.func (.func 79) #[] #[.pointer (some ⟨w.heap.size, 0, none⟩)]) ∧ w' = w.alloc (.cells #[.string s] 9) := by
  go_enter Tryd.func64, Tryd.ntmps64
  go_wp2
  go_ret
  exact ⟨rfl, rfl⟩

namespace YtkcpfchfpnmkpaaDoor
theorem pathOk_cons {c : UInt8} {l : List UInt8} : pathOk (c :: l) = (c == 47 && decide ((c :: l).length ≤ 200) && (l == [] || (partsOf l).all partOk)) := rfl
/-- What the loop knows between two rounds; where it has left. -/
def ChkI (w : World) (pre : List ByteArray) (X : World) : Prop := (∀ x ∈ pre, partOk x.data.toList = true) ∧ X.heap[w.heap.size]? = some (.cells #[.bool false] 4 (0, 0)) ∧ Below w.heap.size w X ∧ w.heap.size + 1 < X.heap.size
def ChkX (w : World) (pre : List ByteArray) (X : World) : Prop := (∃ x ∈ pre, partOk x.data.toList = false) ∧ X.heap[w.heap.size]? = some (.cells #[.bool false] 4 (0, 0)) ∧ Below w.heap.size w X ∧ w.heap.size + 1 < X.heap.size
theorem bears_block {w : World} {B pb : Nat} (hB : w.heap.size < B) (hpb : w.heap.size < pb) (q : List ByteArray → Prop) (o : Obj) :
    Bears pb B (fun s X => q s ∧ X.heap[w.heap.size]? = some o ∧ Below w.heap.size w X ∧ w.heap.size + 1 < X.heap.size) := by
  rintro s X Y row ⟨h1, h2, h3, h4⟩ hg hr
  have hne : ∀ k, k ≤ w.heap.size → some k ≠ row := by
    intro k hk e
    rcases hr with hr | hr
    · rw [hr] at e; simp at e; omega
    · have := (hr k e.symm).1; omega
  refine ⟨h1, (hg.block _ (Lib.lt_of_heap h2) (hne _ (Nat.le_refl _))).trans h2, h3.trans ⟨hg.os, hg.tape, hg.output, hg.size, fun k hk => hg.block k (by have := h3.size; omega) (hne k (by omega))⟩, Nat.lt_of_lt_of_le h4 hg.size⟩
theorem keeps_below {X Y : World} (h : Below X.heap.size X Y) : KeepsOthers X Y := KeepsOthers.of_grownBy (row := none) (grown_of_below h) (fun j o e => by cases e)
end YtkcpfchfpnmkpaaDoor

set_option maxRecDepth 100000 in
set_option maxHeartbeats 3200000 in
theorem Tryd.pathCheck_calls (p : ByteArray) (w : World) :
    Calls Tryd.prog 51 #[.string p] w fun e w' => e = .returned (.bool (pathOk p.data.toList)) ∧ Below w.heap.size w w' := by
  refine (callsIn_wide (n := 3)).1 ?_
  refine callsIn_of_wp_marks Tryd.func51 rfl trivial ?_ rfl
  simp only [Tryd.ntmps51, List.size_toArray, List.length_cons, List.length_nil, Nat.reduceAdd, Nat.reduceSub, Array.replicate_succ, Array.replicate_zero, List.push_toArray, List.append_toArray, List.nil_append, List.cons_append]
  have hlen : p.data.toList.length = p.size := by rw [Array.length_toList]; rfl
  cases hl : p.data.toList with
  | nil =>
    have hA : p.toList = [] := by rw [ByteArray.toList_eq]; exact hl
    have HF : Hid (pathOk [] = false) := rfl
    clear hl hlen
    gi_wp2
    refine ⟨.bool false, by simp [results, Tryd.func51, Tryd.f51, go_sem], by rw [HF.out], (Below.refl _ _).alloc (Nat.le_refl _) _⟩
  | cons c l =>
    have hA : ¬ p.toList = [] := by rw [ByteArray.toList_eq, hl]; simp
    have hE : p.toList.isEmpty = false := by rw [ByteArray.toList_eq, hl]; rfl
    rw [hl] at hlen
    have h2 : 0 < p.size := by rw [← hlen]; simp
    have h30 : p.data.toList[0]? = some (p[0]'h2) := by rw [Array.getElem?_toList]; exact Array.getElem?_eq_getElem h2
    rw [hl] at h30
    simp only [List.getElem?_cons_zero, Option.some.injEq] at h30
    by_cases hc : c = 47
    · have hB : ((p[0]'h2).toNat : Int) = 47 := by rw [← h30, hc]; rfl
      by_cases hC : 200 < p.size
      · have hC' : (200 : Int) < p.size := by omega
        have HF : Hid (pathOk (c :: l) = false) := by
          rw [Hid, pathOk_cons]
          have hd : decide ((c :: l : List UInt8).length ≤ 200) = false := by rw [decide_eq_false_iff_not]; omega
          rw [hd]; simp
        clear hl hlen h30 hc
        gi_wp2
        refine ⟨.bool false, by simp [results, Tryd.func51, Tryd.f51, go_sem], by rw [HF.out], (Below.refl _ _).alloc (Nat.le_refl _) _⟩
      · have hC' : (p.size : Int) ≤ 200 := by omega
        have hp200 : p.size ≤ 200 := by omega
        have HOK : Hid (pathOk (c :: l) = (partsP p).all (fun x => partOk x.data.toList)) := by
          subst hc
          show pathOk _ = _
          rw [pathOk_cons, partsP, hl]
          have hd : decide ((47 :: l : List UInt8).length ≤ 200) = true := by rw [decide_eq_true_iff]; omega
          rw [hd]
          cases l with
          | nil => rfl
          | cons d l => simp [toB, List.all_map, Function.comp_def]
        have hb0 : Below w.heap.size w ((w.alloc (.cells #[.bool false] 4)).alloc (.cells #[.string p] 9)) := ((Below.refl _ _).alloc (Nat.le_refl _) _).alloc (by simp) _
        have hz0 : ((w.alloc (.cells #[.bool false] 4)).alloc (.cells #[.string p] 9)).heap[w.heap.size]? = some (.cells #[.bool false] 4 (0, 0)) := (Below.heap_alloc _ _ _ (by simp)).trans (heap_alloc_new w _)
        have hp0 := heap_alloc_new (w.alloc (.cells #[.bool false] 4)) (.cells #[.string p] 9)
        rw [World.size_alloc] at hp0
        clear hl hlen h30 hc
        gi_wp2
        refine ⟨trivial, ?_⟩
        refine (callsIn_wide.2 (Tryd.parts_calls p _)).mono ?_
        rintro e w1 ⟨rfl, rfl⟩
        gi_wp2
        refine Tryd.range_parts (n := 3) (pb := w.heap.size + 1) (p := p) (by omega) rfl hp200 hp0 rfl (ChkI w) (ChkX w) (bears_block (by simp; omega) (by omega) _ _) (bears_block (by simp; omega) (by omega) _ _)
          ⟨by simp, hz0, hb0, by simp⟩
          (fun x => { tmps := #[.string p, undef, .pointer (some ⟨w.heap.size, 0, none⟩), .string x, .string p, .bool false, .bool false, .string p, .int .u8 47, .bool false, .bool false, .bool false, .string p, .int .i64 p.size, .bool (decide (200 < (p.size : Int))), .bool (decide (200 < (p.size : Int))), .string p, .func (.func 79) #[] #[.pointer (some ⟨w.heap.size + 1, 0, none⟩)], .string x, undef, undef, undef], defers := [] }) ?assign ?body ?done ?stop
        case assign =>
          intro l x X K hK
          gi_wp2
          exact hK
        case body =>
          rintro l pre x X ⟨q1, q2, q3, q4⟩
          gi_wp2
          refine ⟨trivial, ?_⟩
          refine (CallsIn.inRound l (callsIn_wide.2 (Tryd.part_calls x X))).mono ?_
          rintro e Y ⟨rfl, hY⟩
          have r2 := (hY.block _ (Lib.lt_of_heap q2)).trans q2
          have rc : Y.cell? ⟨w.heap.size, 0, none⟩ = some (.bool false) := by rw [Lib.cell_of_heap r2]; rfl
          have rf : Y.frozen? ⟨w.heap.size, 0, none⟩ = false := Lib.frozen_of_heap r2 _
          have r3 : Below w.heap.size w Y := q3.trans (hY.mono q3.size)
          have r5 := hY.block (w.heap.size + 1) q4
          have r4 : w.heap.size + 1 < Y.heap.size := Nat.lt_of_lt_of_le q4 hY.size
          cases hok : partOk x.data.toList with
          | false =>
            gi_wp2
            refine ⟨(keeps_below hY).trans (KeepsOthers.setCell _ _ _), (Below.heap_setCell _ _ _ _ (by simp)).trans r5, ⟨x, by simp, hok⟩, ?_, r3.setCell (p := ⟨w.heap.size, 0, none⟩) (Nat.le_refl _) _, by simpa [World.setCell] using r4⟩
            exact Lib.heap_setCell_same (i := 0) r2 (.bool false)
          | true =>
            gi_wp2
            refine ⟨keeps_below hY, r5, ?_, r2, r3, r4⟩
            intro y hy
            rw [List.mem_append, List.mem_singleton] at hy
            rcases hy with hy | rfl
            · exact q1 y hy
            · exact hok
        case done =>
          rintro D X hD ⟨q1, q2, q3, q4⟩ hK
          have rc : X.cell? ⟨w.heap.size, 0, none⟩ = some (.bool false) := by rw [Lib.cell_of_heap q2]; rfl
          have rf : X.frozen? ⟨w.heap.size, 0, none⟩ = false := Lib.frozen_of_heap q2 _
          gi_wp2
          have hK' := (KeepsOthers.setCell X ⟨w.heap.size, 0, none⟩ (.bool true)).same D _ hK rfl
          refine ⟨by simp, .inl ⟨_, _, rfl, run_takeDeferred hK', ?_⟩⟩
          have hc5 := cell_kept (World.cell?_setCell_same' X ⟨w.heap.size, 0, none⟩ (.bool true) (by rw [rc]; rfl)) (grownBy_putObj' _ D (.deferred none)) (fun r e => by cases e; exact ⟨_, hK', rfl⟩)
          refine ⟨.bool true, by simp [results, Tryd.func51, Tryd.f51, go_sem, hc5], ?_, (q3.setCell (p := ⟨w.heap.size, 0, none⟩) (Nat.le_refl _) _).trans (belowK_b (w := w) (Nat.le_refl _) _ D _ _ (by simp at hD; omega) hK' rfl rfl)⟩
          rw [HOK.out, List.all_eq_true.2 q1]
        case stop =>
          rintro D pre X hD hpre ⟨⟨x, hx1, hx2⟩, q2, q3, q4⟩ hK
          have rc : X.cell? ⟨w.heap.size, 0, none⟩ = some (.bool false) := by rw [Lib.cell_of_heap q2]; rfl
          gi_wp2
          refine ⟨by simp, .inl ⟨_, _, rfl, run_takeDeferred hK, ?_⟩⟩
          have hc5 := cell_kept rc (grownBy_putObj' _ D (.deferred none)) (fun r e => by cases e; exact ⟨_, hK, rfl⟩)
          refine ⟨.bool false, by simp [results, Tryd.func51, Tryd.f51, go_sem, hc5], ?_, q3.trans (belowK_b (w := w) (Nat.le_refl _) X D _ _ (by simp at hD; omega) hK rfl rfl)⟩
          rw [HOK.out, List.all_eq_false.2 ⟨x, hpre.subset hx1, by simp [hx2]⟩]
    · have hB : ¬ ((p[0]'h2).toNat : Int) = 47 := by
        rw [← h30]; intro e
        exact hc (UInt8.toNat_inj.1 (by show _ = 47; omega))
      have HF : Hid (pathOk (c :: l) = false) := by
        rw [Hid, pathOk_cons, beq_eq_false_iff_ne.2 hc]; rfl
      clear hl hlen h30 hc
      gi_wp2
      refine ⟨.bool false, by simp [results, Tryd.func51, Tryd.f51, go_sem], by rw [HF.out], (Below.refl _ _).alloc (Nat.le_refl _) _⟩
end Go.Proofs
