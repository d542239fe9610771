/- Memory predicates for the walks: what a slice reads as, how it is kept. -/
import Derived.Below
import Derived.Laws.OwnMore
import Derived.Lib.Hide
import Derived.Deep.Draws
namespace Go.Proofs.YtkcpfchfpnmkpaaDoor
open Go Go.RowKit

/-- The cells from a slice's address on. -/
def Cs (w : World) (a : Option Addr) (vs : List Value) : Prop :=
  ∀ i v, vs[i]? = some v → ∃ b off, a = some ⟨b, off, none⟩ ∧ w.cell? ⟨b, off + i, none⟩ = some v

/-- A slice of n elements whose cells are vs. -/
def Sl (w : World) (v : Value) (n : Nat) (vs : List Value) : Prop :=
  ∃ a cap, v = .slice a n cap ∧ n ≤ cap ∧ cap ≤ maxLen ∧ (a = none → cap = 0) ∧ Cs w a vs

def bv (l : List UInt8) : List Value := l.map fun x => .int .u8 x.toNat

/-- A slice of bytes. -/
def Bs (w : World) (v : Value) (l : List UInt8) : Prop := Sl w v l.length (bv l)

theorem bv_get (l : List UInt8) (i : Nat) (h : i < l.length) : (bv l)[i]? = some (.int .u8 l[i].toNat) := by
  simp [bv, h]
theorem bv_length (l : List UInt8) : (bv l).length = l.length := by simp [bv]
theorem bv_append (a b : List UInt8) : bv (a ++ b) = bv a ++ bv b := by simp [bv]

theorem Cs.grown {w w' : World} {row : Option Nat} {a : Option Addr} {vs : List Value} (h : Cs w a vs) (hg : w.grownBy w' row)
    (hne : ∀ ad, a = some ad → some ad.block ≠ row) : Cs w' a vs := by
  intro i v hv
  obtain ⟨b, off, ha, hc⟩ := h i v hv
  exact ⟨b, off, ha, hg.cell hc (by simpa using hne _ ha)⟩

theorem grown_of_below {w w' : World} (h : Below w.heap.size w w') : w.grownBy w' none :=
  ⟨h.os, h.tape, h.output, h.size, fun k hk _ => h.block k hk⟩
theorem below_of_grown {w w' : World} (h : w.grownBy w' none) : Below w.heap.size w w' :=
  ⟨h.os, h.tape, h.output, h.size, fun k hk => h.block k hk (by simp)⟩

theorem Cs.below {w w' : World} {a : Option Addr} {vs : List Value} (h : Cs w a vs) (hb : Below w.heap.size w w') : Cs w' a vs :=
  h.grown (grown_of_below hb) (by simp)
theorem Sl.below {w w' : World} {v : Value} {n : Nat} {vs : List Value} (h : Sl w v n vs) (hb : Below w.heap.size w w') : Sl w' v n vs := by
  obtain ⟨a, cap, rfl, h1, h2, h3, h4⟩ := h
  exact ⟨a, cap, rfl, h1, h2, h3, h4.below hb⟩
theorem Sl.grown {w w' : World} {row : Option Nat} {v : Value} {n : Nat} {vs : List Value} (h : Sl w v n vs) (hg : w.grownBy w' row)
    (hne : v.ownBlock = none ∨ v.ownBlock ≠ row) : Sl w' v n vs := by
  obtain ⟨a, cap, rfl, h1, h2, h3, h4⟩ := h
  refine ⟨a, cap, rfl, h1, h2, h3, h4.grown hg ?_⟩
  intro ad e
  subst e
  simpa [Value.ownBlock] using hne
theorem Bs.below {w w' : World} {v : Value} {l : List UInt8} (h : Bs w v l) (hb : Below w.heap.size w w') : Bs w' v l := Sl.below h hb
theorem Bs.grown {w w' : World} {row : Option Nat} {v : Value} {l : List UInt8} (h : Bs w v l) (hg : w.grownBy w' row)
    (hne : v.ownBlock = none ∨ v.ownBlock ≠ row) : Bs w' v l := Sl.grown h hg hne

theorem get_some {α : Type} (l : List α) (k : Nat) (h : k < l.length) : ∃ x, l[k]? = some x := ⟨l[k], by simp [h]⟩
theorem take_snoc {α : Type} {l : List α} {k : Nat} {x : α} (h : l[k]? = some x) : l.take (k + 1) = l.take k ++ [x] := by
  rw [List.take_add_one, h]; rfl
theorem lt_of_get {α : Type} {l : List α} {k : Nat} {x : α} (h : l[k]? = some x) : k < l.length := (List.getElem?_eq_some_iff.1 h).1
theorem bv_of_get {l : List UInt8} {k : Nat} {x : UInt8} (h : l[k]? = some x) : (bv l)[k]? = some (.int .u8 x.toNat) := by simp [bv, h]
theorem u8_beq (x y : UInt8) : ((x.toNat : Int) == (y.toNat : Int)) = (x == y) := by
  rw [Bool.eq_iff_iff]; simp [← UInt8.toNat_inj]; omega
theorem u8_bne (x y : UInt8) : ((x.toNat : Int) != (y.toNat : Int)) = (x != y) := by
  simp only [bne, u8_beq]

theorem grown_refl (w : World) (row : Option Nat) : w.grownBy w row := ⟨rfl, rfl, rfl, Nat.le_refl _, fun _ _ _ => rfl⟩
theorem grown_trans {a b c : World} {row row2 : Option Nat} (h1 : a.grownBy b row) (h2 : b.grownBy c row2) (h : ∀ k, row2 = some k → some k = row ∨ a.heap.size ≤ k) : a.grownBy c row := by
  refine ⟨h2.os.trans h1.os, h2.tape.trans h1.tape, h2.output.trans h1.output, Nat.le_trans h1.size h2.size, fun k hk hr => ?_⟩
  refine (h2.block k (Nat.lt_of_lt_of_le hk h1.size) ?_).trans (h1.block k hk hr)
  intro e
  rcases h k e.symm with h | h
  · exact hr h
  · omega
theorem grown_tr {a b c : World} {row : Option Nat} (h1 : a.grownBy b row) (h2 : b.grownBy c row) : a.grownBy c row := grown_trans h1 h2 (fun _ e => .inl e.symm)
theorem grown_none {a b : World} {row : Option Nat} (h : a.grownBy b none) : a.grownBy b row := ⟨h.os, h.tape, h.output, h.size, fun k hk _ => h.block k hk (by simp)⟩
theorem grown_setCell {w w1 : World} {g o : Nat} (h : w.grownBy w1 (some g)) (v : Value) : w.grownBy (w1.setCell ⟨g, o, none⟩ v) (some g) := by
  refine grown_tr h ⟨rfl, rfl, rfl, by simp [World.setCell], fun k hk hr => Below.heap_setCell _ _ _ _ (fun e => hr (by rw [e]))⟩
theorem grown_setNew {w w1 : World} {row : Option Nat} {g o : Nat} (h : w.grownBy w1 row) (hg : w.heap.size ≤ g) (v : Value) : w.grownBy (w1.setCell ⟨g, o, none⟩ v) row :=
  grown_trans h (grown_setCell (g := g) (grown_refl w1 (some g)) v) (fun k e => .inr (by cases e; exact hg))
theorem grown_alloc {w w1 : World} {row : Option Nat} (h : w.grownBy w1 row) (o : Obj) : w.grownBy (w1.alloc o) row := grown_tr h (World.grownBy_alloc w1 o row)
theorem grown_drew {w w1 : World} {row : Option Nat} (h : w.grownBy w1 row) : w.grownBy w1.drew row := ⟨h.os, h.tape, h.output, h.size, h.block⟩
theorem grown_drewN {w w1 : World} {row : Option Nat} (h : w.grownBy w1 row) (n : Nat) : w.grownBy (w1.drewN n) row := ⟨h.os, h.tape, h.output, h.size, h.block⟩

theorem Bs.nil (w : World) : Bs w (.slice none 0 0) [] := ⟨none, 0, rfl, by simp, by simp, by simp, by intro i v h; simp [bv] at h⟩
theorem addr_add (b off m : Nat) : (⟨b, off, none⟩ : Addr).add m = ⟨b, off + m, none⟩ := by
  unfold Addr.add; split <;> simp_all
theorem Bs.take {w : World} {a : Option Addr} {l : List UInt8} {m c : Nat} (h : Cs w a (bv l)) (hm : m ≤ l.length) (hc : m ≤ c) (hmax : c ≤ maxLen) (ha : a = none → c = 0) : Bs w (.slice a m c) (l.take m) := by
  refine ⟨a, c, by rw [List.length_take, Nat.min_eq_left hm], by rw [List.length_take]; omega, hmax, ha, ?_⟩
  intro i v hv
  refine h i v ?_
  simp only [bv, List.map_take] at hv ⊢
  rw [List.getElem?_take] at hv
  split at hv
  · exact hv
  · simp at hv
theorem Bs.drop {w : World} {a : Option Addr} {l : List UInt8} {m c : Nat} (h : Cs w a (bv l)) (hm : m ≤ l.length) (hc : l.length ≤ c) (hmax : c ≤ maxLen) (hcm : ¬ c = m) (ha : a = none → c = 0) :
    Bs w (.slice (a.map (·.add m)) (l.length - m) (c - m)) (l.drop m) := by
  refine ⟨a.map (·.add m), c - m, by rw [List.length_drop], by rw [List.length_drop]; omega, by omega, by cases a <;> simp_all, ?_⟩
  intro i v hv
  simp only [bv, List.map_drop] at hv
  rw [List.getElem?_drop] at hv
  obtain ⟨b, off, e, hcell⟩ := h (m + i) v hv
  exact ⟨b, off + m, by rw [e]; simp [addr_add], by rw [Nat.add_assoc]; exact hcell⟩
theorem Bs.drop_end {w : World} {a : Option Addr} {l : List UInt8} {m c : Nat} (hm : m ≤ l.length) (hc : l.length ≤ c) (hcm : c = m) (ha : a = none → c = 0) :
    Bs w (.slice a (l.length - m) 0) (l.drop m) := by
  have h0 : l.drop m = [] := by rw [List.drop_eq_nil_iff]; omega
  rw [h0, show l.length - m = 0 by omega]
  exact ⟨a, 0, rfl, by simp, by simp, by simp, by intro i v h; simp [bv] at h⟩
theorem own_map {a : Option Addr} {n c n' c' m : Nat} : (Value.slice (a.map (·.add m)) n c).ownBlock = (Value.slice a n' c').ownBlock := by
  cases a with
  | none => rfl
  | some x => simp [Value.ownBlock, Addr.add]; split <;> rfl
theorem own_slice {a : Option Addr} {n c n' c' : Nat} : (Value.slice a n c).ownBlock = (Value.slice a n' c').ownBlock := by
  cases a <;> rfl

theorem Cs.at {w : World} {a : Option Addr} {vs : List Value} (h : Cs w a vs) (i : Nat) (v : Value) (hv : vs[i]? = some v) :
    ∃ b off, a = some ⟨b, off, none⟩ ∧ w.cell? ⟨b, off + i, none⟩ = some v := h i v hv

end Go.Proofs.YtkcpfchfpnmkpaaDoor
