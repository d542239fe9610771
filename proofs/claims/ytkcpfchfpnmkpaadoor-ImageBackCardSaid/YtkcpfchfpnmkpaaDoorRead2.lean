/- What read keeps: nodes and sittings that the call owns; appends to them. -/
import Derived.Test.YtkcpfchfpnmkpaaDoorRead1
namespace Go.Proofs
open Go Go.RowKit Go.Proofs.YtkcpfchfpnmkpaaDoor

namespace YtkcpfchfpnmkpaaDoor
/-- Bytes that the call has made: their row lies from B to M. -/
def DataO (w : World) (B M : Nat) (d : Value) (s : List UInt8) : Prop := Bs w d s ∧ ∀ k, d.ownBlock = some k → B ≤ k ∧ k < M ∧ ∃ c fz, w.heap[k]? = some (.cells c 5 fz)
/-- A row that the call has made: it lies from B to M. -/
def RowO (w : World) (B M : Nat) (t : TypeId) (size : Nat) (v : Value) (n : Nat) (xs : List Value) : Prop := w.ownsRow B t size v n xs ∧ ∀ k, v.ownBlock = some k → k < M
def NdsO (w : World) (B M : Nat) (v : Value) (l : List Nd) : Prop :=
  ∃ ds : List Value, ds.length = l.length ∧ RowO w B M 42 12 v l.length (ndCells l ds) ∧ ∀ (i : Nat) (x : Nd) (d : Value), l[i]? = some x → ds[i]? = some d → DataO w B M d x.data
def SgsO (w : World) (B M : Nat) (v : Value) (l : List Sg) : Prop := RowO w B M 51 3 v l.length (l.flatMap sgVal)
theorem own_tag {w : World} {B : Nat} {t : TypeId} {size : Nat} {v : Value} {n : Nat} {xs : List Value} (h : w.ownsRow B t size v n xs) {k : Nat} (hk : v.ownBlock = some k) : B ≤ k ∧ k < w.heap.size ∧ ∃ c, w.heap[k]? = some (.cells c t (0, 0)) := by
  have hl := h.lt k hk
  obtain ⟨_, ⟨rfl, _⟩ | ⟨g, cap, cur, rfl, _, hg2, _⟩⟩ := h
  · simp [Value.ownBlock] at hk
  · simp [Value.ownBlock] at hk; subst hk; exact ⟨hl.1, hl.2, _, hg2⟩
/-- The rows of type t from B to M are not touched. -/
def Away (w : World) (B M : Nat) (t : TypeId) (row : Option Nat) : Prop := ∀ k, row = some k → k < B ∨ M ≤ k ∨ ∃ c t' fz, w.heap[k]? = some (.cells c t' fz) ∧ t' ≠ t
theorem Away.out {w : World} {B M : Nat} {t : TypeId} {k : Nat} (h : k < B ∨ M ≤ k) : Away w B M t (some k) := by
  intro j e; cases e; exact h.elim .inl (fun h => .inr (.inl h))
theorem Away.no {w : World} {B M : Nat} {t : TypeId} : Away w B M t none := by intro j e; cases e
theorem Away.ne {w : World} {B M : Nat} {t : TypeId} {row : Option Nat} (h : Away w B M t row) {k : Nat} {c : Array Value} {fz : Nat × Nat} (h1 : B ≤ k) (h2 : k < M) (h3 : w.heap[k]? = some (.cells c t fz)) : some k ≠ row := by
  intro e
  rcases h k e.symm with h | h | ⟨c', t', fz', h, ht⟩
  · omega
  · omega
  · rw [h3] at h
    injection h with h
    injection h with _ h _
    exact ht h.symm
theorem DataO.keep {w w' : World} {B M : Nat} {d : Value} {s : List UInt8} {row : Option Nat} (h : DataO w B M d s) (hg : w.grownBy w' row) (ha : Away w B M 5 row) : DataO w' B M d s := by
  obtain ⟨h1, h2⟩ := h
  have hne : ∀ k, d.ownBlock = some k → some k ≠ row := by
    intro k hk
    obtain ⟨a, b, c, fz, e⟩ := h2 k hk
    exact ha.ne a b e
  refine ⟨h1.grown hg ?_, fun k hk => ?_⟩
  · cases hd : d.ownBlock with
    | none => exact .inl rfl
    | some k => exact .inr (hne k hd)
  · obtain ⟨a, b, c, fz, e⟩ := h2 k hk
    exact ⟨a, b, c, fz, (hg.block k (Lib.lt_of_heap e) (hne k hk)).trans e⟩
theorem RowO.keep {w w' : World} {B M : Nat} {t : TypeId} {size : Nat} {v : Value} {n : Nat} {xs : List Value} {row : Option Nat} (h : RowO w B M t size v n xs) (hg : w.grownBy w' row) (ha : Away w B M t row) : RowO w' B M t size v n xs := by
  obtain ⟨h1, h2⟩ := h
  refine ⟨h1.kept hg ?_, h2⟩
  cases hd : v.ownBlock with
  | none => exact .inl rfl
  | some k =>
    obtain ⟨a, b, c, e⟩ := own_tag h1 hd
    exact .inr (ha.ne a (h2 k hd) e)
theorem NdsO.keep {w w' : World} {B M : Nat} {v : Value} {l : List Nd} {row : Option Nat} (h : NdsO w B M v l) (hg : w.grownBy w' row) (ha : Away w B M 42 row) (hb : Away w B M 5 row) : NdsO w' B M v l := by
  obtain ⟨ds, h1, h2, h3⟩ := h
  exact ⟨ds, h1, h2.keep hg ha, fun i x d hx hd => (h3 i x d hx hd).keep hg hb⟩
theorem DataO.mono {w : World} {B M M' : Nat} {d : Value} {s : List UInt8} (h : DataO w B M d s) (hM : M ≤ M') : DataO w B M' d s := ⟨h.1, fun k hk => by obtain ⟨a, b, c⟩ := h.2 k hk; exact ⟨a, by omega, c⟩⟩
theorem RowO.mono {w : World} {B M M' : Nat} {t : TypeId} {size : Nat} {v : Value} {n : Nat} {xs : List Value} (h : RowO w B M t size v n xs) (hM : M ≤ M') : RowO w B M' t size v n xs := ⟨h.1, fun k hk => Nat.lt_of_lt_of_le (h.2 k hk) hM⟩
theorem NdsO.mono {w : World} {B M M' : Nat} {v : Value} {l : List Nd} (h : NdsO w B M v l) (hM : M ≤ M') : NdsO w B M' v l := by
  obtain ⟨ds, h1, h2, h3⟩ := h
  exact ⟨ds, h1, h2.mono hM, fun i x d hx hd => (h3 i x d hx hd).mono hM⟩
theorem NdsO.nds {w : World} {B M : Nat} {v : Value} {l : List Nd} (h : NdsO w B M v l) : Nds w v l := by
  obtain ⟨ds, h1, h2, h3⟩ := h
  exact ⟨ds, h1, own_sl h2.1, fun i x d hx hd => (h3 i x d hx hd).1⟩
theorem SgsO.sgs {w : World} {B M : Nat} {v : Value} {l : List Sg} (h : SgsO w B M v l) : Sgs w v l := own_sl h.1
theorem RowO.nil (w : World) (B M : Nat) (t : TypeId) (size : Nat) : RowO w B M t size (.slice none 0 0) 0 [] := ⟨⟨by simp, .inl ⟨rfl, rfl⟩⟩, fun k hk => by simp [Value.ownBlock] at hk⟩
theorem NdsO.nil (w : World) (B M : Nat) : NdsO w B M (.slice none 0 0) [] := ⟨[], rfl, RowO.nil _ _ _ _ _, fun i x d hx => by simp at hx⟩
theorem SgsO.nil (w : World) (B M : Nat) : SgsO w B M (.slice none 0 0) [] := RowO.nil _ _ _ _ _
end YtkcpfchfpnmkpaaDoor
theorem Tryd.infoNd : (Tryd.prog.info? 42).map (fun i => (i.zero, i.size, i.bytes)) = some (some (.agg #[.string ⟨#[]⟩, .slice none 0 0, .int .i64 0, .int .i64 0, .int .i64 0, .int .i64 0, .int .i64 0, .int .i64 0, .int .i64 0, .int .i64 0, .int .i64 0, .int .i64 0]), 12, 120) := by kernel_rfl
theorem Tryd.infoSg : (Tryd.prog.info? 51).map (fun i => (i.zero, i.size, i.bytes)) = some (some (.agg #[.int .i64 0, .int .i64 0, .int .i64 0]), 3, 24) := by kernel_rfl

/-- 'append(s, n)' of nodes, s the call's own. -/
theorem Tryd.append_nd {w : World} {ops : Array Oper} {rest : List Oper} {o : Oper} {a : Act} {Q : Exit → Act → World → Prop} (hgd : o.guard = none) (s x : Operand)
    (ho : o.op = .call { callee := .builtin .append, args := #[s, x], argTypes := #[22, 22] }) (B M : Nat) (v : Value) (ad : Addr) (c : Nat) (l : List Nd) (nd : Nd) (d : Value) (hs : a.eval s = v) (hx : a.eval x = .slice (some ad) 1 c)
    (h1 : NdsO w B M v l) (hd : DataO w B w.heap.size d nd.data) (h2 : ∀ j u, (ndVal nd d)[j]? = some u → w.cell? (ad.add j) = some u) (hlim : l.length ≤ 1000000) (hB : B ≤ M) (hM : M ≤ w.heap.size)
    (h : ∀ v' w', NdsO w' B w'.heap.size v' (l ++ [nd]) → w.grownBy w' v.ownBlock → (∀ k, v.ownBlock = some k → B ≤ k ∧ k < M ∧ ∃ c, w.heap[k]? = some (.cells c 42 (0, 0))) → wpList Tryd.prog ops Q rest (a.put o.dst v') w') : wpList Tryd.prog ops Q (o :: rest) a w := by
  obtain ⟨i0, hi, hz0, hz1, hz2⟩ := info_parts Tryd.infoNd
  obtain ⟨ds, e1, e2, e3⟩ := h1
  have hd1 : d.oneCell' = true := by obtain ⟨_, _, rfl, -⟩ := hd.1; rfl
  refine wpList_append_own w hgd s x 22 ho B 42 i0 _ 12 120 Tryd.underlying22 hi hz0 hz1 hz2 rfl (by decide) v l.length (ndCells l ds) hs e2.1 ad 1 c (ndVal nd d) hx rfl h2 ?_ (by unfold maxLen; omega) (by omega) (by omega) ?_
  · intro u hu; simp only [ndVal, List.mem_cons, List.not_mem_nil, or_false] at hu
    rcases hu with rfl | rfl | rfl | rfl | rfl | rfl | rfl | rfl | rfl | rfl | rfl | rfl <;> first | rfl | exact hd1
  · intro v' w' ho' hg _
    have hsz := hg.size
    have htag : ∀ k, v.ownBlock = some k → B ≤ k ∧ k < M ∧ ∃ c, w.heap[k]? = some (.cells c 42 (0, 0)) := fun k hk => by
      obtain ⟨a, b, c⟩ := own_tag e2.1 hk
      exact ⟨a, e2.2 k hk, c⟩
    have haw : ∀ M, Away w B M 5 v.ownBlock := by
      intro M k hk
      obtain ⟨a, b, c, e⟩ := own_tag e2.1 hk
      exact .inr (.inr ⟨c, _, _, e, by decide⟩)
    refine h v' w' ⟨ds ++ [d], by simp [e1], ⟨?_, fun k hk => (ho'.lt k hk).2⟩, ?_⟩ hg htag
    · have : ndCells (l ++ [nd]) (ds ++ [d]) = ndCells l ds ++ ndVal nd d := by
        unfold ndCells
        rw [List.zip_append (by omega)]
        simp
      rw [this, List.length_append]
      exact ho'
    · intro i y d' hy hd'
      rcases Nat.lt_or_ge i l.length with hlt | hge
      · rw [List.getElem?_append_left hlt] at hy
        rw [List.getElem?_append_left (by omega)] at hd'
        exact ((e3 i y d' hy hd').keep hg (haw M)).mono (by omega)
      · rw [List.getElem?_append_right hge] at hy
        rw [List.getElem?_append_right (by omega)] at hd'
        have hi0 : i - l.length = 0 := by
          have := lt_of_get hy
          simp at this; omega
        rw [hi0] at hy
        rw [show i - ds.length = 0 by omega] at hd'
        simp at hy hd'
        subst hy; subst hd'
        exact (hd.keep hg (haw _)).mono hsz
/-- 'append(s, n)' of sittings, s the call's own. -/
theorem Tryd.append_sg {w : World} {ops : Array Oper} {rest : List Oper} {o : Oper} {a : Act} {Q : Exit → Act → World → Prop} (hgd : o.guard = none) (s x : Operand)
    (ho : o.op = .call { callee := .builtin .append, args := #[s, x], argTypes := #[23, 23] }) (B M : Nat) (v : Value) (ad : Addr) (c : Nat) (l : List Sg) (g : Sg) (hs : a.eval s = v) (hx : a.eval x = .slice (some ad) 1 c)
    (h1 : SgsO w B M v l) (h2 : ∀ j u, (sgVal g)[j]? = some u → w.cell? (ad.add j) = some u) (hlim : l.length ≤ 1000000) (hB : B ≤ M) (hM : M ≤ w.heap.size)
    (h : ∀ v' w', SgsO w' B w'.heap.size v' (l ++ [g]) → w.grownBy w' v.ownBlock → (∀ k, v.ownBlock = some k → B ≤ k ∧ k < M ∧ ∃ c, w.heap[k]? = some (.cells c 51 (0, 0))) → wpList Tryd.prog ops Q rest (a.put o.dst v') w') : wpList Tryd.prog ops Q (o :: rest) a w := by
  obtain ⟨i0, hi, hz0, hz1, hz2⟩ := info_parts Tryd.infoSg
  refine wpList_append_own w hgd s x 23 ho B 51 i0 _ 3 24 Tryd.underlying23 hi hz0 hz1 hz2 rfl (by decide) v l.length (l.flatMap sgVal) hs h1.1 ad 1 c (sgVal g) hx rfl h2 ?_ (by unfold maxLen; omega) (by omega) (by omega) ?_
  · intro u hu; simp only [sgVal, List.mem_cons, List.not_mem_nil, or_false] at hu
    rcases hu with rfl | rfl | rfl <;> rfl
  · intro v' w' ho' hg _
    have htag : ∀ k, v.ownBlock = some k → B ≤ k ∧ k < M ∧ ∃ c, w.heap[k]? = some (.cells c 51 (0, 0)) := fun k hk => by
      obtain ⟨a, b, c⟩ := own_tag h1.1 hk
      exact ⟨a, h1.2 k hk, c⟩
    exact h v' w' ⟨by rw [List.length_append, List.flatMap_append]; simpa using ho', fun k hk => (ho'.lt k hk).2⟩ hg htag

namespace YtkcpfchfpnmkpaaDoor
def zWh : Obj := .cells #[.slice none 0 0, .slice none 0 0, .int .i64 0, .slice none 0 0, .int .i64 0, .int .i64 0] 94
/-- What read keeps beside the reader. -/
structure RdS (w : World) (bx B M : Nat) (nv : Value) (l : List Nd) (sv : Value) (s : List Sg) (wr : World) : Prop where
  wh : wr.heap[bx]? = some (.cells #[nv, sv, .int .i64 0, .slice none 0 0, .int .i64 0, .int .i64 0] 94 (0, 0))
  nd : NdsO wr B M nv l
  sg : SgsO wr B M sv s
  bel : Below (w.heap.size + 1) (w.alloc zWh) wr
  bM : B ≤ M
  Mw : M ≤ wr.heap.size
theorem RdS.step {w : World} {bx B M : Nat} {nv : Value} {l : List Nd} {sv : Value} {s : List Sg} {wr wr' : World} (h : RdS w bx B M nv l sv s wr) {k : Nat} (hg : wr.grownBy wr' (some k)) (hk : k < B ∨ M ≤ k) (hkb : k ≠ bx) (hw : w.heap.size < k) : RdS w bx B M nv l sv s wr' := by
  have hsz := hg.size
  refine ⟨(hg.block bx (Lib.lt_of_heap h.wh) (by simp; omega)).trans h.wh, h.nd.keep hg (Away.out hk) (Away.out hk), RowO.keep h.sg hg (Away.out hk), h.bel.trans (grown_below hg hw ?_), h.bM, Nat.le_trans h.Mw hsz⟩
  have := h.bel.size
  simp at this
  omega
theorem RdS.stepN {w : World} {bx B M : Nat} {nv : Value} {l : List Nd} {sv : Value} {s : List Sg} {wr wr' : World} (h : RdS w bx B M nv l sv s wr) (hb : Below wr.heap.size wr wr') : RdS w bx B M nv l sv s wr' := by
  have hg := grown_of_below hb
  have hsz := hg.size
  refine ⟨(hb.block bx (Lib.lt_of_heap h.wh)).trans h.wh, h.nd.keep hg Away.no Away.no, RowO.keep h.sg hg Away.no, h.bel.trans (hb.mono ?_), h.bM, Nat.le_trans h.Mw hsz⟩
  have := h.bel.size
  simp at this
  omega
theorem RdS.alloc {w : World} {bx B M : Nat} {nv : Value} {l : List Nd} {sv : Value} {s : List Sg} {wr : World} (h : RdS w bx B M nv l sv s wr) (o : Obj) : RdS w bx B M nv l sv s (wr.alloc o) := h.stepN ((Below.refl _ _).alloc (Nat.le_refl _) _)
theorem RdS.top {w : World} {bx B M : Nat} {nv : Value} {l : List Nd} {sv : Value} {s : List Sg} {wr : World} (h : RdS w bx B M nv l sv s wr) : RdS w bx B wr.heap.size nv l sv s wr := ⟨h.wh, h.nd.mono h.Mw, RowO.mono h.sg h.Mw, h.bel, Nat.le_trans h.bM h.Mw, Nat.le_refl _⟩
/-- A node is put behind the others: x.nodes = append(x.nodes, n). -/
theorem RdS.pushNd {w : World} {bx B M : Nat} {nv nv' : Value} {l l' : List Nd} {sv : Value} {s : List Sg} {wr wr' : World} (h : RdS w bx B M nv l sv s wr) (hn : NdsO wr' B wr'.heap.size nv' l') (hg : wr.grownBy wr' nv.ownBlock)
    (ht : ∀ k, nv.ownBlock = some k → B ≤ k ∧ k < M ∧ ∃ c, wr.heap[k]? = some (.cells c 42 (0, 0))) (hb : bx < B) (hw : w.heap.size < bx) :
    RdS w bx B wr'.heap.size nv' l' sv s (wr'.setCell ⟨bx, 0, none⟩ nv') ∧ wr'.heap[bx]? = some (.cells #[nv, sv, .int .i64 0, .slice none 0 0, .int .i64 0, .int .i64 0] 94 (0, 0)) := by
  have hsz := hg.size
  have hbx : wr'.heap[bx]? = some (.cells #[nv, sv, .int .i64 0, .slice none 0 0, .int .i64 0, .int .i64 0] 94 (0, 0)) := by
    refine (hg.block bx (Lib.lt_of_heap h.wh) (fun e => ?_)).trans h.wh
    have := (ht bx e.symm).1; omega
  have hg2 := Lib.grownBy_setCell wr' bx 0 nv'
  have hM := h.Mw
  have hbM := h.bM
  have hbel := h.bel.size
  simp at hbel
  refine ⟨⟨Lib.heap_setCell_same (i := 0) hbx _, hn.keep hg2 (Away.out (.inl hb)) (Away.out (.inl hb)), (RowO.keep (RowO.keep h.sg hg ?_) hg2 (Away.out (.inl hb))).mono (by omega), ?_, by omega, by simp [World.setCell]⟩, hbx⟩
  · intro k hk
    obtain ⟨_, _, c, e⟩ := ht k hk
    exact .inr (.inr ⟨c, _, _, e, by decide⟩)
  · refine (h.bel.trans ⟨hg.os, hg.tape, hg.output, hg.size, fun k hk => hg.block k (by omega) (fun e => ?_)⟩).trans (grown_below hg2 hw (by omega))
    have := (ht k e.symm).1; omega
theorem RdS.pushSg {w : World} {bx B M : Nat} {nv : Value} {l : List Nd} {sv sv' : Value} {s s' : List Sg} {wr wr' : World} (h : RdS w bx B M nv l sv s wr) (hn : SgsO wr' B wr'.heap.size sv' s') (hg : wr.grownBy wr' sv.ownBlock)
    (ht : ∀ k, sv.ownBlock = some k → B ≤ k ∧ k < M ∧ ∃ c, wr.heap[k]? = some (.cells c 51 (0, 0))) (hb : bx < B) (hw : w.heap.size < bx) :
    RdS w bx B wr'.heap.size nv l sv' s' (wr'.setCell ⟨bx, 1, none⟩ sv') ∧ wr'.heap[bx]? = some (.cells #[nv, sv, .int .i64 0, .slice none 0 0, .int .i64 0, .int .i64 0] 94 (0, 0)) := by
  have hsz := hg.size
  have hbx : wr'.heap[bx]? = some (.cells #[nv, sv, .int .i64 0, .slice none 0 0, .int .i64 0, .int .i64 0] 94 (0, 0)) := by
    refine (hg.block bx (Lib.lt_of_heap h.wh) (fun e => ?_)).trans h.wh
    have := (ht bx e.symm).1; omega
  have hg2 := Lib.grownBy_setCell wr' bx 1 sv'
  have hM := h.Mw
  have hbM := h.bM
  have hbel := h.bel.size
  simp at hbel
  have ha : ∀ t, t ≠ 51 → Away wr B M t sv.ownBlock := by
    intro t htt k hk
    obtain ⟨_, _, c, e⟩ := ht k hk
    exact .inr (.inr ⟨c, _, _, e, htt.symm⟩)
  refine ⟨⟨Lib.heap_setCell_same (i := 1) hbx _, ((h.nd.keep hg (ha _ (by decide)) (ha _ (by decide))).keep hg2 (Away.out (.inl hb)) (Away.out (.inl hb))).mono (by omega), RowO.keep hn hg2 (Away.out (.inl hb)), ?_, by omega, by simp [World.setCell]⟩, hbx⟩
  · refine (h.bel.trans ⟨hg.os, hg.tape, hg.output, hg.size, fun k hk => hg.block k (by omega) (fun e => ?_)⟩).trans (grown_below hg2 hw (by omega))
    have := (ht k e.symm).1; omega
/-- The reader, over a step on a row that the call has made. -/
theorem RdP.row {wr wr' : World} {g B : Nat} {r : Rd} {v : Value} (hr : RdP wr g r) (hg : wr.grownBy wr' v.ownBlock) (ht : ∀ k, v.ownBlock = some k → B ≤ k) (hB : g < B) : RdP wr' g r := by
  cases ho : v.ownBlock with
  | none => rw [ho] at hg; exact hr.below (below_of_grown hg)
  | some k => rw [ho] at hg; exact hr.keep hg (by have := ht k ho; omega)
end YtkcpfchfpnmkpaaDoor
end Go.Proofs
