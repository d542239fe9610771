/- Walks: a range over the parts of a path; path.Check. -/
import Derived.Test.YtkcpfchfpnmkpaaDoorPath3
namespace Go.Proofs
open Go Go.RowKit Go.Shelf Go.Proofs.YtkcpfchfpnmkpaaDoor
attribute [local go_sem] Oper.semAt_some

namespace YtkcpfchfpnmkpaaDoor
/-- What a caller's word about the world must bear: the iterator's own cell may turn, and what is no cells and was made since. -/
def Bears (pb B : Nat) (I : List ByteArray → World → Prop) : Prop :=
  ∀ s X Y row, I s X → X.grownBy Y row → (row = some pb ∨ ∀ r, row = some r → B ≤ r ∧ ∃ o : Obj, X.heap[r]? = some o ∧ o.isCells = false) → I s Y
/-- How a round may be left. -/
def PartPost (pb : Nat) (I Ix : List ByteArray → World → Prop) (xs : List ByteArray) (X : World) : Exit → Act → World → Prop
  | .normal, _, Y => KeepsOthers X Y ∧ Y.heap[pb]? = X.heap[pb]? ∧ I xs Y
  | .ret, _, Y => KeepsOthers X Y ∧ Y.heap[pb]? = X.heap[pb]? ∧ Ix xs Y
  | _, _, _ => False
end YtkcpfchfpnmkpaaDoor

theorem Tryd.range_parts {g : Operand} {ps : Array Tmp} {assign body : Code} {Q : Exit → Act → World → Prop} {a : Act} {w : World} {n pb : Nat} {p : ByteArray} (hn : 2 ≤ n)
    (hg : a.eval g = .func (.func 79) #[] #[.pointer (some ⟨pb, 0, none⟩)]) (hp : p.size ≤ 200) (hb : w.heap[pb]? = some (.cells #[.string p] 9 (0, 0))) (hps : ps.size = 1)
    (I Ix : List ByteArray → World → Prop) (hI : Bears pb w.heap.size I) (hIx : Bears pb w.heap.size Ix) (h0 : I [] w) (a₁ : ByteArray → Act)
    (hassign : ∀ (l : Nat) (x : ByteArray) (X : World) (K : Act → World → Prop), K (a₁ x) X →
      assign.wpIn (Fence.wide.inRound l) (n - 1 - 1) Tryd.prog (Exit.then K (fun _ _ _ => False)) { tmps := (ps.zip #[.string x]).foldl (fun t (p, v) => t.setIfInBounds p v) a.tmps, defers := [] } X)
    (hbody : ∀ (l : Nat) (pre : List ByteArray) (x : ByteArray) (X : World), I pre X → body.wpIn (Fence.wide.inRound l) (n - 1 - 1) Tryd.prog (PartPost pb I Ix (pre ++ [x]) X) (a₁ x) X)
    (hdone : ∀ (D : Nat) (X : World), w.heap.size ≤ D → I (partsP p) X → X.heap[D]? = some (.deferred (some [])) → Q .normal { a with defers := { target := .collected D, args := #[] } :: a.defers } X)
    (hstop : ∀ (D : Nat) (pre : List ByteArray) (X : World), w.heap.size ≤ D → pre <+: partsP p → Ix pre X → X.heap[D]? = some (.deferred (some [])) → Code.ret.wpIn Fence.wide n Tryd.prog Q { a with defers := { target := .collected D, args := #[] } :: a.defers } X) :
    (Code.rangeFunc g ps assign body).wpIn Fence.wide n Tryd.prog Q a w := by
  have hpb : pb < w.heap.size := Lib.lt_of_heap hb
  refine wpIn_rangeFunc ?_
  intro fn hfn
  obtain ⟨rec, hrec⟩ : ∃ rec : LoopState → Option Code → Loop, rec = fun st pe => { state := st, pending := pe, fn, tmps := a.tmps, params := ps, assign, body, defers := w.heap.size } := ⟨_, rfl⟩
  obtain ⟨W1, hW1⟩ : ∃ W1, (w.alloc (.deferred (some []))).alloc (.loop (rec .ready none)) = W1 := ⟨_, rfl⟩
  have hL1 : W1.heap[w.heap.size + 1]? = some (.loop (rec .ready none)) := by
    rw [← hW1]; have := World.alloc_heap_new (w.alloc (.deferred (some []))) (.loop (rec .ready none)); rwa [World.size_alloc] at this
  have hK1 : W1.heap[w.heap.size]? = some (.deferred (some [])) := by
    rw [← hW1]; exact (Below.heap_alloc _ _ _ (by simp)).trans (World.alloc_heap_new w _)
  have hb1 : W1.heap[pb]? = some (.cells #[.string p] 9 (0, 0)) := by
    rw [← hW1]; exact (Below.heap_alloc _ _ _ (by simp; omega)).trans ((Below.heap_alloc _ _ _ hpb).trans hb)
  have hI1 : I [] W1 := by
    rw [← hW1]
    exact hI _ _ _ none (hI _ _ _ none h0 (World.grownBy_alloc _ _ none) (.inr (fun r e => by cases e))) (World.grownBy_alloc _ _ none) (.inr (fun r e => by cases e))
  -- a turn of a block of the loop's own
  have turn : ∀ (J : List ByteArray → World → Prop), Bears pb w.heap.size J → ∀ s (X : World) l (o o' : Obj), J s X → w.heap.size ≤ l → X.heap[l]? = some o → o.isCells = false → J s (X.putObj l o') :=
    fun J hJ s X l o o' hs hl ho hc => hJ s X _ (some l) hs (grownBy_putObj' X l o') (.inr (fun r e => by cases e; exact ⟨hl, o, ho, hc⟩))
  refine ⟨w.heap.size + 1, [{ target := .collected w.heap.size, args := #[] }], W1, { target := .fn (.func 79) #[.pointer (some ⟨pb, 0, none⟩)], args := #[.func (.yield (w.heap.size + 1)) #[] #[]] }, W1, 79,
    #[.func (.yield (w.heap.size + 1)) #[] #[], .pointer (some ⟨pb, 0, none⟩)], W1, ?_, ?_, ?_, ?_, fun _ => by omega, ?_⟩
  · rw [← hW1, hrec]; exact run_enterLoop_outer _ _ _ _ _
  · simp only [resolve, hg]
    simp [go_sem]
  · intro f' _; trivial
  · have eg := enters_of (P := Tryd.prog) Tryd.func79 (by kernel_rfl) rfl
    simp [invoke, go_sem, eg]
  · refine (Tryd.parts1_in Fence.wide rfl (n - 1) (by omega) (w.heap.size + 1) pb p hp
      (fun pre X => I pre X ∧ X.heap[w.heap.size + 1]? = some (.loop (rec .ready none)) ∧ X.heap[w.heap.size]? = some (.deferred (some [])))
      (fun pre X => Ix pre X ∧ X.heap[w.heap.size + 1]? = some (.loop (rec .done (some .ret))) ∧ X.heap[w.heap.size]? = some (.deferred (some [])))
      (fun s X Y hs hgr => ⟨hI s X Y _ hs.1 hgr (.inl rfl), (hgr.block _ (Lib.lt_of_heap hs.2.1) (by simp; omega)).trans hs.2.1, (hgr.block _ (Lib.lt_of_heap hs.2.2) (by simp; omega)).trans hs.2.2⟩)
      (fun s X Y hs hgr => ⟨hIx s X Y _ hs.1 hgr (.inl rfl), (hgr.block _ (Lib.lt_of_heap hs.2.1) (by simp; omega)).trans hs.2.1, (hgr.block _ (Lib.lt_of_heap hs.2.2) (by simp; omega)).trans hs.2.2⟩)
      ?_ W1 hb1 ⟨hI1, hL1, hK1⟩).mono ?_
    · -- one round
      rintro pre x X ⟨hi, hl, hk⟩
      have hlt := Lib.lt_of_heap hl
      have hy := run_yield (P := Tryd.prog) (args := #[.string x]) hl (by rw [hrec]; simp [hps])
      rw [hrec] at hy
      refine ⟨fn, _, assign, body, hy, roundIn_of_wpIn hfn (hassign _ x X _ ⟨_, run_beginRound hl (by rw [hrec]), ?_⟩)⟩
      obtain ⟨X2, hX2⟩ : ∃ X2, X.putObj (w.heap.size + 1) (.loop { rec .ready none with state := .busy }) = X2 := ⟨_, rfl⟩
      have hl2 : X2.heap[w.heap.size + 1]? = some (.loop { rec .ready none with state := .busy }) := by rw [← hX2]; exact World.putObj_heap_same hlt
      have hk2 : X2.heap[w.heap.size]? = some (.deferred (some [])) := by rw [← hX2]; exact (World.putObj_heap_other (by omega)).trans hk
      have hp2 : X2.heap[pb]? = X.heap[pb]? := by rw [← hX2]; exact World.putObj_heap_other (by omega)
      have hi2 : I pre X2 := by rw [← hX2]; exact turn I hI _ _ _ _ _ hi (by omega) hl rfl
      have fin : ∀ (jump : Option Code) (Y : World), KeepsOthers X2 Y → Y.heap[pb]? = X2.heap[pb]? → ∃ Y2, (Instr.endRound (w.heap.size + 1) jump).run Tryd.prog Y = .ok (.bool jump.isNone) Y2 ∧
          Y.putObj (w.heap.size + 1) (.loop (rec (if jump.isNone then .ready else .done) jump)) = Y2 ∧ Y.heap[w.heap.size + 1]? = some (.loop { rec .ready none with state := .busy }) ∧
          Y2.heap[w.heap.size + 1]? = some (.loop (rec (if jump.isNone then .ready else .done) jump)) ∧ Y2.heap[w.heap.size]? = some (.deferred (some [])) ∧ Y2.heap[pb]? = X.heap[pb]? := fun jump Y hk3 hp3 => by
        have hl3 := hk3.same _ _ hl2 rfl
        have hr := run_endRound (P := Tryd.prog) jump hl3
        rw [hrec] at hr ⊢
        exact ⟨_, hr, rfl, by rw [hrec] at hl3; exact hl3, World.putObj_heap_same (Lib.lt_of_heap hl3), (World.putObj_heap_other (by omega)).trans (hk3.same _ _ hk2 rfl), (World.putObj_heap_other (by omega)).trans (hp3.trans hp2)⟩
      rw [hX2]
      refine wpIn_mono (hbody _ pre x X2 hi2) ?_
      rintro e a3 Y hpo
      cases e with
      | normal =>
        obtain ⟨q1, q2, q3⟩ := hpo
        obtain ⟨Y2, r1, r2, r3, r4, r5, r6⟩ := fin none Y q1 q2
        exact ⟨_, _, r1, .inl ⟨rfl, ⟨by rw [← r2]; exact turn I hI _ _ _ _ _ q3 (by omega) r3 rfl, r4, r5⟩, r6⟩⟩
      | ret =>
        obtain ⟨q1, q2, q3⟩ := hpo
        obtain ⟨Y2, r1, r2, r3, r4, r5, r6⟩ := fin (some .ret) Y q1 q2
        exact ⟨_, _, r1, .inr ⟨rfl, ⟨by rw [← r2]; exact turn Ix hIx _ _ _ _ _ q3 (by omega) r3 rfl, r4, r5⟩, r6⟩⟩
      | exit id => exact hpo.elim
      | goto t => exact hpo.elim
      | panic ch => exact hpo.elim
      | outgrown => exact hpo.elim
    · rintro e W2 ⟨⟨v, rfl⟩, (⟨hi, hl, hk⟩ | ⟨pre, hSp, hi, hl, hk⟩)⟩
      · exact ⟨none, _, by have := run_endLoop (P := Tryd.prog) hl (by rw [hrec]; simp); rw [hrec] at this; exact this, hdone _ _ (Nat.le_refl _) (turn I hI _ _ _ _ _ hi (by omega) hl rfl) ((World.putObj_heap_other (by omega)).trans hk)⟩
      · exact ⟨some .ret, _, by have := run_endLoop (P := Tryd.prog) hl (by rw [hrec]; simp); rw [hrec] at this; exact this, hstop _ pre _ (Nat.le_refl _) hSp (turn Ix hIx _ _ _ _ _ hi (by omega) hl rfl) ((World.putObj_heap_other (by omega)).trans hk)⟩
end Go.Proofs
