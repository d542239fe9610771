/- Slices of bytes that a call owns; appends to them. -/
import Derived.Test.YtkcpfchfpnmkpaaDoorProg
import Derived.Test.YtkcpfchfpnmkpaaDoorMem
import Derived.WalkKit
import Derived.Laws.AppendOwnNone
import Derived.Maps.AppendAt
namespace Go.Proofs
open Go Go.RowKit Go.Proofs.YtkcpfchfpnmkpaaDoor

namespace YtkcpfchfpnmkpaaDoor
/-- A slice of bytes that the call owns. -/
def Own (w : World) (B : Nat) (v : Value) (l : List UInt8) : Prop := w.ownsRow B 5 1 v l.length (bv l)
theorem Own.bs {w : World} {B : Nat} {v : Value} {l : List UInt8} (h : Own w B v l) : Bs w v l := by
  obtain ⟨hx, ⟨rfl, hn⟩ | ⟨g, cap, cur, rfl, hg1, hg2, hg3, hg4, hg5, hg6⟩⟩ := h
  · have : l = [] := List.length_eq_zero_iff.1 hn
    subst this
    exact Bs.nil w
  · refine ⟨some ⟨g, 0, none⟩, cap, rfl, hg3, hg4, by simp, ?_⟩
    intro i x hi
    refine ⟨g, 0, rfl, ?_⟩
    rw [Nat.mul_one] at hg6
    rw [← hg6, List.getElem?_take] at hi
    split at hi
    · simp only [World.cell?, hg2]
      simpa using hi
    · simp at hi
theorem ownNew (w : World) (vs : List Value) (t : TypeId) (size n : Nat) (h : vs.length = n * size) (hm : n ≤ maxLen) :
    (w.alloc (.cells vs.toArray t)).ownsRow w.heap.size t size (.slice (some ⟨w.heap.size, 0, none⟩) n n) n vs :=
  ⟨h, .inr ⟨w.heap.size, n, vs.toArray, rfl, Nat.le_refl _, heap_alloc_new w _, Nat.le_refl _, hm, by simpa using h, by rw [List.take_of_length_le (by simp; omega)]⟩⟩
theorem own_base {w : World} {B B' : Nat} {e : TypeId} {size : Nat} {v : Value} {n : Nat} {xs : List Value} (h : w.ownsRow B e size v n xs) (hB : B' ≤ B) : w.ownsRow B' e size v n xs := by
  obtain ⟨h1, h2⟩ := h
  refine ⟨h1, ?_⟩
  rcases h2 with h2 | ⟨g, cap, cur, a, b, r⟩
  · exact .inl h2
  · exact .inr ⟨g, cap, cur, a, Nat.le_trans hB b, r⟩
theorem own_below {w w' : World} {B : Nat} {e : TypeId} {size : Nat} {v : Value} {n : Nat} {xs : List Value} (h : w.ownsRow B e size v n xs) (hb : Below w.heap.size w w') : w'.ownsRow B e size v n xs :=
  World.ownsRow.kept h (grown_of_below hb) (by cases v.ownBlock <;> simp)
theorem oneCell_bv (l : List UInt8) : ∀ u ∈ bv l, u.oneCell' = true := by
  intro u hu
  simp only [bv, List.mem_map] at hu
  obtain ⟨x, _, rfl⟩ := hu
  rfl
theorem Cs.addr {w : World} {ad : Addr} {vs : List Value} (h : Cs w (some ad) vs) : ∀ j v, vs[j]? = some v → w.cell? (ad.add j) = some v := by
  intro j v hj
  obtain ⟨b, off, e, hc⟩ := h j v hj
  obtain rfl := Option.some.inj e
  rw [addr_add]
  exact hc
end YtkcpfchfpnmkpaaDoor
theorem Tryd.infoU8 : (Tryd.prog.info? 5).map (fun i => (i.zero, i.size, i.bytes)) = some (some (.int .u8 0), 1, 1) := by kernel_rfl

/-- 'append(s, x...)' of bytes, s the call's own. -/
theorem Tryd.append_bytes {w : World} {ops : Array Oper} {rest : List Oper} {o : Oper} {a : Act} {Q : Exit → Act → World → Prop} (hgd : o.guard = none) (s x : Operand)
    (ho : o.op = .call { callee := .builtin .append, args := #[s, x], argTypes := #[30, 30] }) (B : Nat) (v v2 : Value) (l l2 : List UInt8) (hs : a.eval s = v) (hx : a.eval x = v2)
    (h1 : Own w B v l) (h2 : Bs w v2 l2) (hlim : l.length + l2.length ≤ 140737488355328) (hB : B ≤ w.heap.size)
    (h : ∀ v' w', Own w' B v' (l ++ l2) → w.grownBy w' v.ownBlock → wpList Tryd.prog ops Q rest (a.put o.dst v') w') : wpList Tryd.prog ops Q (o :: rest) a w := by
  obtain ⟨i0, hi, hz0, hz1, hz2⟩ := info_parts Tryd.infoU8
  obtain ⟨a2, c2, rfl, q1, q2, q3, q4⟩ := h2
  cases a2 with
  | none =>
    have hc := q3 rfl
    subst hc
    have hl : l2 = [] := by
      cases l2 with
      | nil => rfl
      | cons y l2 => simp at q1
    subst hl
    refine wpList_append_own_none hgd s x 30 ho B 5 i0 1 Tryd.underlying30 hi v l.length (bv l) hs h1 hx ?_
    exact h v w (by rw [List.append_nil]; exact h1) (grown_refl _ _)
  | some ad =>
    refine wpList_append_own w hgd s x 30 ho B 5 i0 (.int .u8 0) 1 1 Tryd.underlying30 hi hz0 hz1 hz2 rfl (by decide) v l.length (bv l) hs h1 ad l2.length c2 (bv l2) hx (by simp [bv]) q4.addr (oneCell_bv l2) (by unfold maxLen; omega) (by omega) hB ?_
    intro v' w' ho' hg _
    exact h v' w' (by unfold Own; rw [List.length_append, bv_append]; exact ho') hg
end Go.Proofs
