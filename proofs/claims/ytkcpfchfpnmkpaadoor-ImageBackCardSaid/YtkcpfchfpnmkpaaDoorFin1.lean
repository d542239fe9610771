/- Plain facts for the walk of ImageBack. -/
import Derived.Test.YtkcpfchfpnmkpaaDoorAw3
namespace Go.Proofs
open Go Go.RowKit Go.Proofs.YtkcpfchfpnmkpaaDoor
namespace YtkcpfchfpnmkpaaDoor
theorem rdNd_in (r : Rd) : NdIn (rdNd r).1 := by
  intro y hy
  simp only [rdNd, Nd.stat8, List.mem_cons, List.not_mem_nil, or_false] at hy
  rcases hy with rfl | rfl | rfl | rfl | rfl | rfl | rfl | rfl <;> exact rdInt_range _
theorem rdNds_in : ∀ n r, ∀ x ∈ (rdNds n r).1, NdIn x := by
  intro n
  induction n with
  | zero => intro r x hx; simp [rdNds] at hx
  | succ n ih =>
    intro r x hx
    simp only [rdNds, List.mem_cons] at hx
    rcases hx with rfl | hx
    · exact rdNd_in r
    · exact ih _ x hx
theorem rdSgs_in : ∀ n r, ∀ x ∈ (rdSgs n r).1, SgIn x := by
  intro n
  induction n with
  | zero => intro r x hx; simp [rdSgs] at hx
  | succ n ih =>
    intro r x hx
    simp only [rdSgs, List.mem_cons] at hx
    rcases hx with rfl | hx
    · exact ⟨rdInt_range _, rdInt_range _, rdInt_range _⟩
    · exact ih _ x hx
theorem get_in {b : List UInt8} {y : Im} (h : getS b = some y) : ImIn y := by
  obtain ⟨load, h1, h2⟩ := (getS_iff b y).1 h
  unfold getL fin at h2
  split at h2
  · cases h2
  · split at h2
    · have := Option.some.inj h2
      subst this
      exact ⟨rdNds_in _ _, rdSgs_in _ _, rdInt_range _, rdInt_range _⟩
    · cases h2
/-- A cell of a row is turned. -/
theorem own_set {w : World} {B : Nat} {t : TypeId} {size n g cap : Nat} {xs : List Value} (h : w.ownsRow B t size (.slice (some ⟨g, 0, none⟩) n cap) n xs) (p : Nat) (u : Value) (hp : p < n * size) :
    (w.setCell ⟨g, p, none⟩ u).ownsRow B t size (.slice (some ⟨g, 0, none⟩) n cap) n (xs.set p u) := by
  obtain ⟨h1, h2 | ⟨g', cap', cur, e, h3, h4, h5, h6, h7, h8⟩⟩ := h
  · cases h2.1
  · cases e
    refine ⟨by rw [List.length_set]; exact h1, .inr ⟨g, cap, cur.setIfInBounds p u, rfl, h3, Lib.heap_setCell_same h4 u, h5, h6, by simpa using h7, ?_⟩⟩
    rw [← h8, Array.toList_setIfInBounds, List.take_set]
theorem flat_set {α β : Type} (f : α → List β) (c : Nat) (hf : ∀ x, (f x).length = c) : ∀ (l : List α) (k : Nat) (m m' : α) (j : Nat) (u : β), l[k]? = some m → j < c → f m' = (f m).set j u → (l.set k m').flatMap f = (l.flatMap f).set (k * c + j) u := by
  intro l
  induction l with
  | nil => intro k m m' j u h; simp at h
  | cons a l ih =>
    intro k m m' j u h hj he
    cases k with
    | zero =>
      simp at h; subst h
      rw [List.set_cons_zero, List.flatMap_cons, List.flatMap_cons, he, Nat.zero_mul, Nat.zero_add, List.set_append_left _ _ (by rw [hf]; omega)]
    | succ k =>
      rw [List.set_cons_succ, List.flatMap_cons, List.flatMap_cons, ih k m m' j u (by simpa using h) hj he, List.set_append_right _ _ (by rw [hf, Nat.succ_mul]; omega), hf, show (k + 1) * c + j - c = k * c + j by rw [Nat.succ_mul]; omega]
theorem NdsO.set {w : World} {B M : Nat} {g cap : Nat} {l : List Nd} (h : NdsO w B M (.slice (some ⟨g, 0, none⟩) l.length cap) l) {k : Nat} {x x' : Nd} (hx : l[k]? = some x) (j : Nat) (u : Value) (hj : j < 12) (hv : ∀ d, ndVal x' d = (ndVal x d).set j u) (hd : x'.data = x.data) :
    NdsO (w.setCell ⟨g, k * 12 + j, none⟩ u) B M (.slice (some ⟨g, 0, none⟩) l.length cap) (l.set k x') := by
  obtain ⟨ds, h1, h2, h3⟩ := h
  obtain ⟨d, hdk, hz⟩ := zip_get h1 hx
  have hk := lt_of_get hx
  have hg := Lib.grownBy_setCell w g (k * 12 + j) u
  have haw : Away w B M 5 (some g) := by
    intro i e; cases e
    obtain ⟨_, _, c, e⟩ := own_tag h2.1 (k := g) rfl
    exact .inr (.inr ⟨c, _, _, e, by decide⟩)
  refine ⟨ds, by rw [List.length_set]; exact h1, ⟨?_, h2.2⟩, ?_⟩
  · rw [List.length_set]
    have hs := own_set h2.1 (k * 12 + j) u (by omega)
    have he : ndCells (l.set k x') ds = (ndCells l ds).set (k * 12 + j) u := by
      unfold ndCells
      have hzs : (l.set k x').zip ds = (l.zip ds).set k (x', d) := by
        apply List.ext_getElem?
        intro i
        rw [List.getElem?_set]
        by_cases hik : k = i
        · subst hik
          have hz2 : ((l.set k x').zip ds)[k]? = some (x', d) := by rw [List.getElem?_zip_eq_some]; exact ⟨by simp [hk], hdk⟩
          rw [if_pos rfl, if_pos (by rw [List.length_zip]; omega), hz2]
        · rw [if_neg hik]
          simp only [List.zip, List.getElem?_zipWith, List.getElem?_set, if_neg hik]
      rw [hzs]
      exact flat_set (fun p : Nd × Value => ndVal p.1 p.2) 12 (fun _ => rfl) (l.zip ds) k (x, d) (x', d) j u hz hj (hv d)
    rw [he]
    exact hs
  · intro i y e hy he
    rw [List.getElem?_set] at hy
    split at hy
    · rename_i hik
      subst hik
      first
        | (cases hy
           rw [hdk] at he
           cases he
           rw [hd]
           exact (h3 k x d hx hdk).keep hg haw)
        | (split at hy
           · cases hy
             rw [hdk] at he
             cases he
             rw [hd]
             exact (h3 k x d hx hdk).keep hg haw
           · cases hy)
    · exact (h3 i y e hy he).keep hg haw
theorem set_take_map {α : Type} (f : α → α) (l : List α) (k : Nat) (x : α) (hx : l[k]? = some x) : ((l.take k).map f ++ l.drop k).set k (f x) = (l.take (k + 1)).map f ++ l.drop (k + 1) := by
  have hk := lt_of_get hx
  rw [List.set_append_right _ _ (by simp; omega), List.length_map, List.length_take, Nat.min_eq_left (by omega), Nat.sub_self, drop_get hx, List.set_cons_zero, take_snoc hx]
  simp
theorem map_take_get {α : Type} (f : α → α) (l : List α) (k : Nat) (x : α) (hx : l[k]? = some x) : ((l.take k).map f ++ l.drop k)[k]? = some x := by
  have hk := lt_of_get hx
  rw [List.getElem?_append_right (by simp; omega), List.length_map, List.length_take, Nat.min_eq_left (by omega), Nat.sub_self, drop_get hx]
  rfl
theorem map_take_len {α : Type} (f : α → α) (l : List α) (k : Nat) : ((l.take k).map f ++ l.drop k).length = l.length := by
  rw [List.length_append, List.length_map, List.length_take, List.length_drop]; omega
theorem NdsO.setN {w : World} {B M : Nat} {g cap n : Nat} {l : List Nd} (h : NdsO w B M (.slice (some ⟨g, 0, none⟩) n cap) l) (hn : l.length = n) {k : Nat} {x x' : Nd} (hx : l[k]? = some x) (j : Nat) (u : Value) (hj : j < 12) (hv : ∀ d, ndVal x' d = (ndVal x d).set j u) (hd : x'.data = x.data) :
    NdsO (w.setCell ⟨g, k * 12 + j, none⟩ u) B M (.slice (some ⟨g, 0, none⟩) n cap) (l.set k x') := by
  subst hn; exact h.set hx j u hj hv hd
/-- Where the loop over the wanted nodes stands. -/
structure LoopW (W5 : World) (B bw g cap : Nat) (x : Im) (sv mv : Value) (k : Nat) (wr : World) : Prop where
  bel : Below bw W5 wr
  box : wr.heap[bw]? = some (.cells #[.slice (some ⟨g, 0, none⟩) x.nodes.length cap, sv, .int .i64 x.ver, mv, .int .i64 x.lo, .int .i64 x.hi] 29 (0, 0))
  nd : NdsO wr B wr.heap.size (.slice (some ⟨g, 0, none⟩) x.nodes.length cap) ((x.nodes.take k).map normNd ++ x.nodes.drop k)
structure LoopC (wr : World) (bw g cap k : Nat) (x : Im) (nd : Nd) : Prop where
  box : wr.cell? ⟨bw, 0, none⟩ = some (.slice (some ⟨g, 0, none⟩) x.nodes.length cap)
  c1 : ∃ ad cd, wr.cell? ⟨g, k * 12 + 1, none⟩ = some (.slice ad nd.data.length cd)
  c10 : wr.cell? ⟨g, k * 12 + 10, none⟩ = some (.int .i64 nd.length)
  c11 : wr.cell? ⟨g, k * 12 + 11, none⟩ = some (.int .i64 nd.children)
  f : ∀ i, wr.frozen? ⟨g, i, none⟩ = false
theorem LoopW.at {W5 : World} {B bw g cap : Nat} {x : Im} {sv mv : Value} {k : Nat} {wr : World} (h : LoopW W5 B bw g cap x sv mv k wr) {nd : Nd} (hx : x.nodes[k]? = some nd) : LoopC wr bw g cap k x nd := by
  have hcur := map_take_get normNd x.nodes k nd hx
  have hlen := map_take_len normNd x.nodes k
  obtain ⟨ds, g1, g2, g3⟩ := h.nd
  obtain ⟨a0, cp0, e, _, _, _, hcs⟩ := own_sl g2.1
  injection e with e1 e2 e3
  subst e1
  obtain ⟨b9, o9, d9, e9, hd9, at9⟩ := ndAt hcs g1 hcur
  cases e9
  obtain ⟨ad9, cd9, rfl, -⟩ := (g3 _ _ _ hcur hd9).1
  obtain ⟨_, _, cc9, hg9⟩ := own_tag g2.1 (k := g) rfl
  refine ⟨by rw [Lib.cell_of_heap h.box]; rfl, ⟨ad9, cd9, ?_⟩, ?_, ?_, fun i => Lib.frozen_of_heap hg9 _⟩
  · have := at9.c1; rw [Nat.zero_add] at this; exact this
  · have := at9.c10; rw [Nat.zero_add] at this; exact this
  · have := at9.c11; rw [Nat.zero_add] at this; exact this
theorem LoopW.next {W5 : World} {B bw g cap : Nat} {x : Im} {sv mv : Value} {k : Nat} {wr : World} (h : LoopW W5 B bw g cap x sv mv k wr) {nd : Nd} (hx : x.nodes[k]? = some nd) (hb : bw < g) (hs : bw ≤ W5.heap.size) :
    LoopW W5 B bw g cap x sv mv (k + 1) ((wr.setCell ⟨g, k * 12 + 10, none⟩ (.int .i64 nd.data.length)).drew.setCell ⟨g, k * 12 + 11, none⟩ (.int .i64 0)) := by
  have hcur := map_take_get normNd x.nodes k nd hx
  have hlen := map_take_len normNd x.nodes k
  have hk := lt_of_get hx
  have n1 := h.nd.setN hlen hcur (x' := { nd with length := nd.data.length }) 10 (.int .i64 nd.data.length) (by omega) (fun d => by simp [ndVal]) rfl
  have hcur2 : (((x.nodes.take k).map normNd ++ x.nodes.drop k).set k { nd with length := nd.data.length })[k]? = some { nd with length := nd.data.length } := by
    rw [List.getElem?_set, if_pos rfl, if_pos (by rw [hlen]; exact hk)]
  have n1' : NdsO (wr.setCell ⟨g, k * 12 + 10, none⟩ (.int .i64 nd.data.length)).drew B wr.heap.size (.slice (some ⟨g, 0, none⟩) x.nodes.length cap) (((x.nodes.take k).map normNd ++ x.nodes.drop k).set k { nd with length := nd.data.length }) := n1.keep (w' := (wr.setCell ⟨g, k * 12 + 10, none⟩ (.int .i64 nd.data.length)).drew) (grown_of_below (belowD _ 1)) Away.no Away.no
  have n2 := n1'.setN (by rw [List.length_set]; exact hlen) hcur2 (x' := normNd nd) 11 (.int .i64 0) (by omega) (fun d => by simp [ndVal, normNd]) rfl
  rw [List.set_set] at n2
  have he := set_take_map normNd x.nodes k nd hx
  rw [he] at n2
  have hg1 := Lib.grownBy_setCell wr g (k * 12 + 10) (.int .i64 nd.data.length)
  have hg2 := Lib.grownBy_setCell (wr.setCell ⟨g, k * 12 + 10, none⟩ (.int .i64 nd.data.length)).drew g (k * 12 + 11) (.int .i64 0)
  have hsz : ((wr.setCell ⟨g, k * 12 + 10, none⟩ (.int .i64 nd.data.length)).drew.setCell ⟨g, k * 12 + 11, none⟩ (.int .i64 0)).heap.size = wr.heap.size := by simp [World.setCell, World.drew]
  have hbs := h.bel.size
  refine ⟨?_, ?_, by rw [hsz]; exact n2⟩
  · have h1 : RowKit.Below bw wr (wr.setCell ⟨g, k * 12 + 10, none⟩ (.int .i64 nd.data.length)).drew := (grown_below hg1 (by omega) (by omega)).trans ⟨rfl, rfl, rfl, Nat.le_refl _, fun _ _ => rfl⟩
    exact (h.bel.trans h1).trans (grown_below hg2 (by omega) (by have := h1.size; omega))
  · refine (Below.heap_setCell _ _ _ _ (by show ¬ bw = g; omega)).trans ?_
    exact (Below.heap_setCell wr _ _ _ (by show ¬ bw = g; omega)).trans h.box
theorem NdsO.row {w : World} {B M : Nat} {v : Value} {l : List Nd} (h : NdsO w B M v l) (hl : l ≠ []) : ∃ g cap, v = .slice (some ⟨g, 0, none⟩) l.length cap ∧ B ≤ g ∧ g < w.heap.size := by
  obtain ⟨ds, h1, h2, h3⟩ := h
  obtain ⟨_, ⟨rfl, hn⟩ | ⟨g, cap, cur, rfl, hB, hg, _⟩⟩ := h2.1
  · exact absurd (List.eq_nil_of_length_eq_zero hn) hl
  · exact ⟨g, cap, rfl, hB, Lib.lt_of_heap hg⟩
theorem right_ne {x : Im} (h : right x = true) : x.nodes ≠ [] := by
  intro e
  unfold right at h
  rw [e] at h
  simp at h
theorem flip_val (u : UInt8) (r : Nat) (hr : r < 8) : ∃ m : UInt8, m ≠ 0 ∧ bits .xor .u8 (u.toNat : Int) ((2 : Int) ^ r % 256) = (((u ^^^ m).toNat : Nat) : Int) := by
  have h1 : ∃ m : UInt8, m ≠ 0 ∧ ((2 : Int) ^ r % 256) = ((m.toNat : Nat) : Int) := by
    have : r = 0 ∨ r = 1 ∨ r = 2 ∨ r = 3 ∨ r = 4 ∨ r = 5 ∨ r = 6 ∨ r = 7 := by omega
    rcases this with rfl | rfl | rfl | rfl | rfl | rfl | rfl | rfl
    · exact ⟨1, by decide, by decide⟩
    · exact ⟨2, by decide, by decide⟩
    · exact ⟨4, by decide, by decide⟩
    · exact ⟨8, by decide, by decide⟩
    · exact ⟨16, by decide, by decide⟩
    · exact ⟨32, by decide, by decide⟩
    · exact ⟨64, by decide, by decide⟩
    · exact ⟨128, by decide, by decide⟩
  obtain ⟨m, hm, he⟩ := h1
  refine ⟨m, hm, ?_⟩
  rw [he, u8_xor_nat _ _ u.toNat_lt m.toNat_lt, UInt8.toNat_xor]
/-- What the law keeps while it goes on. -/
structure Keeps (w : World) (x : Im) (vb : Value) (b : List UInt8) (vm : Value) (more : List UInt8) (vc : Value) (c : List UInt8) (n1 s1 m1 n2 s2 m2 : Value) (yb zb : Nat) (wt : World) : Prop where
  f : Below w.heap.size w wt
  b : Bs wt vb b
  m : Bs wt vm more
  c : Bs wt vc c
  y : ImV wt n1 s1 m1 (normIm x)
  yb : wt.heap[yb]? = some (.cells #[n1, s1, .int .i64 (normIm x).ver, m1, .int .i64 (normIm x).lo, .int .i64 (normIm x).hi] 29 (0, 0))
  z : ImV wt n2 s2 m2 (normIm x)
  zb : wt.heap[zb]? = some (.cells #[n2, s2, .int .i64 x.ver, m2, .int .i64 x.lo, .int .i64 x.hi] 29 (0, 0))
theorem Keeps.below {w : World} {x : Im} {vb : Value} {b : List UInt8} {vm : Value} {more : List UInt8} {vc : Value} {c : List UInt8} {n1 s1 m1 n2 s2 m2 : Value} {yb zb : Nat} {wt wt' : World} (h : Keeps w x vb b vm more vc c n1 s1 m1 n2 s2 m2 yb zb wt) (hb : Below wt.heap.size wt wt') : Keeps w x vb b vm more vc c n1 s1 m1 n2 s2 m2 yb zb wt' :=
  ⟨h.f.trans (hb.mono h.f.size), h.b.below hb, h.m.below hb, h.c.below hb, h.y.below hb, (hb.block _ (Lib.lt_of_heap h.yb)).trans h.yb, h.z.below hb, (hb.block _ (Lib.lt_of_heap h.zb)).trans h.zb⟩
theorem Own.setB {w : World} {B g cap : Nat} {l : List UInt8} (h : Own w B (.slice (some ⟨g, 0, none⟩) l.length cap) l) {k : Nat} (hk : k < l.length) (v : UInt8) : Bs (w.setCell ⟨g, k, none⟩ (.int .u8 v.toNat)) (.slice (some ⟨g, 0, none⟩) l.length cap) (l.set k v) := by
  have h1 := own_set h k (.int .u8 v.toNat) (by omega)
  have h2 := own_sl h1
  have he : (bv l).set k (.int .u8 v.toNat) = bv (l.set k v) := by simp [bv, List.map_set]
  rw [he] at h2
  show Sl _ _ (l.set k v).length _
  rw [List.length_set]
  exact h2
theorem below_new {w w' : World} {B : Nat} {v : Value} {l : List UInt8} (hg : w.grownBy w' v.ownBlock) (ho : Own w B v l) (hB : B ≤ w.heap.size) : Below B w w' :=
  ⟨hg.os, hg.tape, hg.output, hg.size, fun k hk => hg.block k (by omega) (fun e => by have := (own_tag ho e.symm).1; omega)⟩
theorem flip_ne (x m : UInt8) (hm : m ≠ 0) : x ≠ x ^^^ m := by
  intro e
  apply hm
  have h2 := congrArg (fun z => x ^^^ z) e
  simp only [← UInt8.xor_assoc, UInt8.xor_self, UInt8.zero_xor] at h2
  exact h2.symm
end YtkcpfchfpnmkpaaDoor
end Go.Proofs
