/- Arguments opened: slices of bytes, nodes, sittings, members; images. -/
import Derived.Test.YtkcpfchfpnmkpaaDoorEq3
import Derived.Test.YtkcpfchfpnmkpaaDoorLaw2
import Derived.Deep.Slices
import Derived.Deep.Fields
import Derived.ChangeSame
import Derived.ChangeArms
import Derived.ProofKit
namespace Go.Proofs
open Go Go.RowKit Go.Deep Go.ChangeShapes Go.WideShapes Go.Proofs.YtkcpfchfpnmkpaaDoor

namespace YtkcpfchfpnmkpaaDoor
theorem choose_list {α : Type} (p : Nat → α → Prop) : ∀ n, (∀ i, i < n → ∃ x, p i x) → ∃ l : List α, l.length = n ∧ ∀ i x, l[i]? = some x → p i x := by
  intro n
  induction n with
  | zero => intro _; exact ⟨[], rfl, by simp⟩
  | succ n ih =>
    intro h
    obtain ⟨l, hl, hp⟩ := ih (fun i hi => h i (by omega))
    obtain ⟨x, hx⟩ := h n (by omega)
    refine ⟨l ++ [x], by simp [hl], fun i y hy => ?_⟩
    by_cases hlt : i < l.length
    · rw [List.getElem?_append_left hlt] at hy
      exact hp i y hy
    · have h1 := lt_of_get hy
      rw [List.length_append, List.length_singleton] at h1
      have e : i = n := by omega
      subst e
      rw [List.getElem?_append_right (by omega), hl, Nat.sub_self] at hy
      obtain rfl : x = y := by simpa using hy
      exact hx

theorem spot_of_cell {w : World} {a : Addr} {v : Value} (h : w.cell? a = some v) : a.spot = none := by
  unfold World.cell? at h
  split at h
  · split at h
    · simp at h
    · rename_i hn
      cases hs : a.spot <;> simp_all
  · simp at h
theorem flat_len {α β : Type} (f : α → List β) (c : Nat) (hf : ∀ x, (f x).length = c) (l : List α) : (l.flatMap f).length = l.length * c := by
  induction l with
  | nil => simp
  | cons x l ih => simp [ih, hf, Nat.succ_mul, Nat.add_comm]
theorem cs_of {α : Type} {w : World} {base : Nat} {a : Addr} (f : α → List Value) (c : Nat) (hc : 0 < c) (hf : ∀ x, (f x).length = c) (l : List α)
    (h : ∀ i x, l[i]? = some x → w.cells? base (a.add (i * c)) c = some (f x)) : Cs w (some a) (l.flatMap f) := by
  intro i v hv
  have hi := lt_of_get hv
  rw [flat_len f c hf l] at hi
  have hk : i / c < l.length := Nat.div_lt_of_lt_mul (by rw [Nat.mul_comm]; exact hi)
  obtain ⟨x, hx⟩ := get_some l (i / c) hk
  have hj := Nat.mod_lt i hc
  have hij : i / c * c + i % c = i := by rw [Nat.mul_comm]; exact Nat.div_add_mod i c
  have e1 := flat_get f c hf l (i / c) x (i % c) hx hj
  rw [hij, hv] at e1
  have e2 := (World.cells?_some (h _ _ hx)).2.2 (i % c) hj
  rw [add_add, hij, ← e1] at e2
  obtain ⟨x0, hx0⟩ := get_some l 0 (Nat.lt_of_le_of_lt (Nat.zero_le _) hk)
  have e3 := (World.cells?_some (h _ _ hx0)).2.2 0 hc
  obtain ⟨u, hu⟩ := get_some (f x0) 0 (by rw [hf]; exact hc)
  rw [hu, add_add, show 0 * c + 0 = 0 by omega, show a.add 0 = a from rfl] at e3
  have hs := spot_of_cell e3
  obtain ⟨b, off, sp⟩ := a
  cases hs
  exact ⟨b, off, rfl, by rw [← addr_add]; exact e2⟩

section
variable {H : Type} {enc : TypeId × Value → H} {P : Program} {w : World} {base : Nat} {spare : Nat → Bool} {held : Bool}

theorem sl_open {α : Type} {t e : TypeId} {fuel c : Nat} {cs : List Value} {x : DataW H × List MemPlace} (f : α → List Value) (p : α → Prop) (hc0 : 0 < c) (hf : ∀ x, (f x).length = c) (ht : P.underlying t = some (.slice e)) (hc : P.cellsOf e = c)
    (h : DataW.trod enc P w base spare held fuel t cs = some x) (hel : ∀ n cs' y, DataW.trod enc P w base spare held n e cs' = some y → ∃ z, cs' = f z ∧ p z) :
    ∃ (v : Value) (l : List α), cs = [v] ∧ Sl w v l.length (l.flatMap f) ∧ ∀ (i : Nat) (z : α), l[i]? = some z → p z := by
  rcases open_slice ht h with ⟨rfl, _⟩ | ⟨a, len, cap, m, n, D, Pl, rfl, hb, hl, hm, hmm, _, hi⟩
  · exact ⟨_, [], rfl, ⟨none, 0, rfl, by simp, by simp, by simp, by intro i v h; simp at h⟩, by simp⟩
  · have hle : len ≤ m := by rw [hmm]; split <;> omega
    obtain ⟨l, hll, hp⟩ := choose_list (fun i (z : α) => w.cells? base (a.add (i * c)) c = some (f z) ∧ p z) len (fun i hlt => by
      obtain ⟨cs', h1, h2⟩ := hi i (by omega)
      obtain ⟨z, rfl, hz⟩ := hel _ _ _ h2
      rw [hc] at h1
      exact ⟨z, h1, hz⟩)
    exact ⟨_, l, rfl, ⟨some a, cap, by rw [hll], by omega, hm, by simp, cs_of f c hc0 hf l (fun i z hz => (hp i z hz).1)⟩, fun i z hz => (hp i z hz).2⟩

theorem bytes_open {t e : TypeId} {fuel : Nat} {cs : List Value} {x : DataW H × List MemPlace} (ht : P.underlying t = some (.slice e)) (he : P.underlying e = some (.int .u8)) (hc : P.cellsOf e = 1)
    (h : DataW.trod enc P w base spare held fuel t cs = some x) : ∃ v l, cs = [v] ∧ Bs w v l := by
  obtain ⟨v, l, rfl, hs, -⟩ := sl_open (fun x : UInt8 => [Value.int .u8 x.toNat]) (fun _ => True) Nat.one_pos (fun _ => rfl) ht hc h (fun n cs' y hy => by
    obtain ⟨k, rfl, _, hw⟩ := DataW.trod_int he hy
    refine ⟨UInt8.ofNat k.toNat, ?_, trivial⟩
    have hk : 0 ≤ k ∧ k ≤ 255 := by
      have : (decide ((0 : Int) ≤ k) && decide (k ≤ (255 : Int))) = true := hw
      simpa using this
    have : ((UInt8.ofNat k.toNat).toNat : Int) = k := by
      simp; omega
    rw [this])
  refine ⟨v, l, rfl, ?_⟩
  unfold Bs
  rw [bv, List.map_eq_flatMap]
  exact hs

theorem one_field {t : TypeId} {fs : Array Field} {n : Nat} {cs : List Value} {xs : List (DataW H × List MemPlace)} (hxl : xs.length = fs.size)
    (hg : ∀ (i : Nat) (f : Field), fs[i]? = some f → DataW.trod enc P w base spare held n f.type (List.take (P.cellsOf f.type) (List.drop f.offset cs)) = xs[i]?)
    (i : Nat) (f : Field) (hf : fs[i]? = some f) (k : Nat) (h1 : P.cellsOf f.type = k) : ∃ y, DataW.trod enc P w base spare held n f.type (List.take k (List.drop f.offset cs)) = some y := by
  have h := hg i f hf
  have hlt : i < xs.length := by rw [hxl]; exact (Array.getElem?_eq_some_iff.1 hf).1
  rw [h1, List.getElem?_eq_getElem hlt] at h
  exact ⟨_, h⟩
theorem int_field {t : TypeId} {fs : Array Field} {n : Nat} {cs : List Value} {xs : List (DataW H × List MemPlace)} (hxl : xs.length = fs.size)
    (hg : ∀ (i : Nat) (f : Field), fs[i]? = some f → DataW.trod enc P w base spare held n f.type (List.take (P.cellsOf f.type) (List.drop f.offset cs)) = xs[i]?)
    (i : Nat) (f : Field) (hf : fs[i]? = some f) (k : IntKind) (hk : P.underlying f.type = some (.int k)) (h1 : P.cellsOf f.type = 1) (v : Value) (hv : cs[f.offset]? = some v) : ∃ m, v = .int k m ∧ (Lit.int k m).wf = true := by
  obtain ⟨y, h⟩ := one_field (t := t) hxl hg i f hf 1 h1
  obtain ⟨hlt, e⟩ := List.getElem?_eq_some_iff.1 hv
  rw [List.drop_eq_getElem_cons hlt, e] at h
  obtain ⟨m, hm, _, hw⟩ := DataW.trod_int hk h
  exact ⟨m, by simpa using hm, hw⟩
theorem in_of_wf {m : Int} (h : (Lit.int .i64 m).wf = true) : In64 m := by
  have : (decide ((-9223372036854775808 : Int) ≤ m) && decide (m ≤ (9223372036854775807 : Int))) = true := h
  simpa [In64] using this
end
end YtkcpfchfpnmkpaaDoor

section
variable {H : Type} {enc : TypeId × Value → H} {w : World} {base : Nat} {spare : Nat → Bool} {held : Bool} {n : Nat} {cs : List Value} {y : DataW H × List MemPlace}
set_option maxRecDepth 100000
theorem Tryd.sg_elem (h : DataW.trod enc Tryd.prog w base spare held n 51 cs = some y) : ∃ s : Sg, cs = sgVal s ∧ SgIn s := by
  obtain ⟨xs, m, -, -, hl, hxl, hg⟩ := DataW.trod_struct Tryd.underlying51 h
  rw [show Tryd.prog.cellsOf 51 = 3 by kernel_rfl] at hl
  match cs, hl with
  | [a, b, c], _ =>
    obtain ⟨i0, rfl, w0⟩ := int_field (t := 0) hxl hg 0 _ rfl .i64 (by kernel_rfl) (by kernel_rfl) a rfl
    obtain ⟨i1, rfl, w1⟩ := int_field (t := 0) hxl hg 1 _ rfl .i64 (by kernel_rfl) (by kernel_rfl) b rfl
    obtain ⟨i2, rfl, w2⟩ := int_field (t := 0) hxl hg 2 _ rfl .i64 (by kernel_rfl) (by kernel_rfl) c rfl
    exact ⟨⟨i0, i1, i2⟩, rfl, in_of_wf w0, in_of_wf w1, in_of_wf w2⟩
theorem Tryd.mb_elem (h : DataW.trod enc Tryd.prog w base spare held n 78 cs = some y) : ∃ s : Mb, cs = mbVal s ∧ True := by
  obtain ⟨xs, m, -, -, hl, hxl, hg⟩ := DataW.trod_struct Tryd.underlying78 h
  rw [show Tryd.prog.cellsOf 78 = 4 by kernel_rfl] at hl
  match cs, hl with
  | [a, b, c, d], _ =>
    obtain ⟨i0, rfl, w0⟩ := int_field (t := 0) hxl hg 0 _ rfl .i64 (by kernel_rfl) (by kernel_rfl) a rfl
    obtain ⟨i1, rfl, w1⟩ := int_field (t := 0) hxl hg 1 _ rfl .u8 (by kernel_rfl) (by kernel_rfl) b rfl
    obtain ⟨i2, rfl, w2⟩ := int_field (t := 0) hxl hg 2 _ rfl .i64 (by kernel_rfl) (by kernel_rfl) c rfl
    obtain ⟨i3, rfl, w3⟩ := int_field (t := 0) hxl hg 3 _ rfl .i64 (by kernel_rfl) (by kernel_rfl) d rfl
    exact ⟨⟨i0, i1, i2, i3⟩, rfl, trivial⟩
theorem Tryd.nd_elem (h : DataW.trod enc Tryd.prog w base spare held n 42 cs = some y) : ∃ p : Nd × Value, cs = ndVal p.1 p.2 ∧ Bs w p.2 p.1.data ∧ NdIn p.1 := by
  obtain ⟨xs, m, -, -, hl, hxl, hg⟩ := DataW.trod_struct Tryd.underlying42 h
  rw [show Tryd.prog.cellsOf 42 = 12 by kernel_rfl] at hl
  match cs, hl with
  | [c0, c1, c2, c3, c4, c5, c6, c7, c8, c9, c10, c11], _ =>
    obtain ⟨y0, h0⟩ := one_field (t := 0) hxl hg 0 _ rfl 1 (by kernel_rfl)
    obtain ⟨s, e0, -, hs⟩ := DataW.trod_string (by kernel_rfl) h0
    obtain rfl : c0 = .string s := by simpa using e0
    obtain ⟨y1, h1⟩ := one_field (t := 0) hxl hg 1 _ rfl 1 (by kernel_rfl)
    obtain ⟨d, l, e1, hb⟩ := bytes_open Tryd.underlying30 Tryd.underlying5 (by kernel_rfl) h1
    obtain rfl : c1 = d := by simpa using e1
    obtain ⟨y2, h2⟩ := one_field (t := 0) hxl hg 2 _ rfl 10 (by kernel_rfl)
    have h2' : DataW.trod enc Tryd.prog w base spare held m 40 [c2, c3, c4, c5, c6, c7, c8, c9, c10, c11] = some y2 := h2
    clear h2
    obtain ⟨xs', m', -, -, -, hxl', hg'⟩ := DataW.trod_struct Tryd.underlying40 h2'
    obtain ⟨i0, rfl, w0⟩ := int_field (t := 0) hxl' hg' 0 _ rfl .i64 (by kernel_rfl) (by kernel_rfl) c2 rfl
    obtain ⟨i1, rfl, w1⟩ := int_field (t := 0) hxl' hg' 1 _ rfl .i64 (by kernel_rfl) (by kernel_rfl) c3 rfl
    obtain ⟨i2, rfl, w2⟩ := int_field (t := 0) hxl' hg' 2 _ rfl .i64 (by kernel_rfl) (by kernel_rfl) c4 rfl
    obtain ⟨i3, rfl, w3⟩ := int_field (t := 0) hxl' hg' 3 _ rfl .i64 (by kernel_rfl) (by kernel_rfl) c5 rfl
    obtain ⟨i4, rfl, w4⟩ := int_field (t := 0) hxl' hg' 4 _ rfl .i64 (by kernel_rfl) (by kernel_rfl) c6 rfl
    obtain ⟨i5, rfl, w5⟩ := int_field (t := 0) hxl' hg' 5 _ rfl .i64 (by kernel_rfl) (by kernel_rfl) c7 rfl
    obtain ⟨i6, rfl, w6⟩ := int_field (t := 0) hxl' hg' 6 _ rfl .i64 (by kernel_rfl) (by kernel_rfl) c8 rfl
    obtain ⟨i7, rfl, w7⟩ := int_field (t := 0) hxl' hg' 7 _ rfl .i64 (by kernel_rfl) (by kernel_rfl) c9 rfl
    obtain ⟨i8, rfl, w8⟩ := int_field (t := 0) hxl' hg' 8 _ rfl .i64 (by kernel_rfl) (by kernel_rfl) c10 rfl
    obtain ⟨i9, rfl, w9⟩ := int_field (t := 0) hxl' hg' 9 _ rfl .i64 (by kernel_rfl) (by kernel_rfl) c11 rfl
    refine ⟨(⟨s, l, i0, i1, i2, i3, i4, i5, i6, i7, i8, i9⟩, c1), rfl, hb, ?_⟩
    intro z hz
    simp only [Nd.stat8, List.mem_cons, List.not_mem_nil, or_false] at hz
    rcases hz with rfl | rfl | rfl | rfl | rfl | rfl | rfl | rfl <;> exact in_of_wf (by assumption)
theorem Tryd.bs_open (h : DataW.trod enc Tryd.prog w base spare held n 30 cs = some y) : ∃ v l, cs = [v] ∧ Bs w v l :=
  bytes_open Tryd.underlying30 Tryd.underlying5 (by kernel_rfl) h
theorem Tryd.sgs_open (h : DataW.trod enc Tryd.prog w base spare held n 23 cs = some y) : ∃ v l, cs = [v] ∧ Sgs w v l ∧ ∀ s ∈ l, SgIn s := by
  obtain ⟨v, l, e, hs, hp⟩ := sl_open sgVal SgIn (c := 3) (by decide) (fun _ => rfl) Tryd.underlying23 (by kernel_rfl) h (fun _ _ _ hy => Tryd.sg_elem hy)
  exact ⟨v, l, e, hs, fun s hs => by obtain ⟨i, hi⟩ := List.getElem?_of_mem hs; exact hp i s hi⟩
theorem Tryd.mbs_open (h : DataW.trod enc Tryd.prog w base spare held n 25 cs = some y) : ∃ v l, cs = [v] ∧ Ms w v l := by
  obtain ⟨v, l, e, hs, hp⟩ := sl_open mbVal (fun _ => True) (c := 4) (by decide) (fun _ => rfl) Tryd.underlying25 (by kernel_rfl) h (fun _ _ _ hy => Tryd.mb_elem hy)
  exact ⟨v, l, e, hs⟩
theorem Tryd.nds_open (h : DataW.trod enc Tryd.prog w base spare held n 22 cs = some y) : ∃ v l, cs = [v] ∧ Nds w v l ∧ ∀ s ∈ l, NdIn s := by
  obtain ⟨v, l, e, hs, hp⟩ := sl_open (fun p : Nd × Value => ndVal p.1 p.2) (fun p => Bs w p.2 p.1.data ∧ NdIn p.1) (c := 12) (by decide) (fun _ => rfl) Tryd.underlying22 (by kernel_rfl) h (fun _ _ _ hy => Tryd.nd_elem hy)
  have hz : ∀ l : List (Nd × Value), (l.map Prod.fst).zip (l.map Prod.snd) = l := fun l => by induction l with
    | nil => rfl
    | cons x l ih => simp [ih]
  refine ⟨v, l.map Prod.fst, e, ⟨l.map Prod.snd, by simp, ?_, ?_⟩, ?_⟩
  · rw [List.length_map]; unfold ndCells; rw [hz]; exact hs
  · intro i x d hx hd
    rw [List.getElem?_map, Option.map_eq_some_iff] at hx hd
    obtain ⟨p, hp1, rfl⟩ := hx
    obtain ⟨q, hq1, rfl⟩ := hd
    rw [hp1] at hq1; cases hq1
    exact (hp i p hp1).1
  · intro s hs
    obtain ⟨p, hp1, rfl⟩ := List.mem_map.1 hs
    obtain ⟨i, hi⟩ := List.getElem?_of_mem hp1
    exact (hp i p hi).2
theorem Tryd.im_open (h : DataW.trod enc Tryd.prog w base spare held n 29 cs = some y) : ∃ nv sv mv x, cs = (imA nv sv mv x).toList ∧ ImV w nv sv mv x ∧ ImIn x := by
  obtain ⟨xs, m, -, -, hl, hxl, hg⟩ := DataW.trod_struct Tryd.underlying29 h
  rw [show Tryd.prog.cellsOf 29 = 6 by kernel_rfl] at hl
  match cs, hl with
  | [c0, c1, c2, c3, c4, c5], _ =>
    obtain ⟨y0, h0⟩ := one_field (t := 0) hxl hg 0 _ rfl 1 (by kernel_rfl)
    obtain ⟨v0, nd, e0, g0, q0⟩ := Tryd.nds_open h0
    obtain rfl : c0 = v0 := by simpa using e0
    obtain ⟨y1, h1⟩ := one_field (t := 0) hxl hg 1 _ rfl 1 (by kernel_rfl)
    obtain ⟨v1, sg, e1, g1, q1⟩ := Tryd.sgs_open h1
    obtain rfl : c1 = v1 := by simpa using e1
    obtain ⟨y2, h2⟩ := one_field (t := 0) hxl hg 2 _ rfl 2 (by kernel_rfl)
    have h2' : DataW.trod enc Tryd.prog w base spare held m 27 [c2, c3] = some y2 := h2
    clear h2
    obtain ⟨xs', m', -, -, -, hxl', hg'⟩ := DataW.trod_struct Tryd.underlying27 h2'
    obtain ⟨ver, rfl, w0⟩ := int_field (t := 0) hxl' hg' 0 _ rfl .i64 (by kernel_rfl) (by kernel_rfl) c2 rfl
    obtain ⟨y3, h3⟩ := one_field (t := 0) hxl' hg' 1 _ rfl 1 (by kernel_rfl)
    obtain ⟨v3, mb, e3, g3⟩ := Tryd.mbs_open h3
    obtain rfl : c3 = v3 := by simpa using e3
    obtain ⟨lo, rfl, w4⟩ := int_field (t := 0) hxl hg 3 _ rfl .i64 (by kernel_rfl) (by kernel_rfl) c4 rfl
    obtain ⟨hi, rfl, w5⟩ := int_field (t := 0) hxl hg 4 _ rfl .i64 (by kernel_rfl) (by kernel_rfl) c5 rfl
    exact ⟨c0, c1, c3, ⟨nd, sg, ver, mb, lo, hi⟩, rfl, ⟨g0, g1, g3⟩, q0, q1, in_of_wf w4, in_of_wf w5⟩
end
end Go.Proofs
