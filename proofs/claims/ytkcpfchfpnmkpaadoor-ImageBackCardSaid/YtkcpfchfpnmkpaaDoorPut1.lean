/- Plain facts and relations for the walk of image.Put. -/
import Derived.Test.YtkcpfchfpnmkpaaDoorImg3
import Derived.Test.YtkcpfchfpnmkpaaDoorLaw2
import Derived.Test.YtkcpfchfpnmkpaaDoorWk9
namespace Go.Proofs
open Go Go.RowKit Go.Proofs.YtkcpfchfpnmkpaaDoor

namespace YtkcpfchfpnmkpaaDoor
def PutP (w : World) (x : Im) (e : Ending) (w' : World) : Prop :=
  ∃ v, e = .returned (.tuple #[v, .int .i64 (putS x).2]) ∧ Own w' w.heap.size v (putS x).1 ∧ Below w.heap.size w w'
theorem Own.nil (w : World) (B : Nat) : Own w B (.slice none 0 0) [] := ⟨rfl, .inl ⟨rfl, rfl⟩⟩
theorem WrP.old {w w' : World} {B g : Nat} {l : List UInt8} (h : WrP w B g l) (hb : Below w.heap.size w w') : WrP w' B g l := by
  obtain ⟨T, h⟩ := h
  exact ⟨T, h.old hb⟩
def tailSg (x : Im) : List UInt8 := encB (ensBytes x.ver x.mems) ++ (encI x.lo ++ encI x.hi)
def tailNd (x : Im) : List UInt8 := encI x.sits.length ++ (x.sits.flatMap sgBytes ++ tailSg x)
theorem imBytes_eq (x : Im) : imBytes x = [1] ++ (encI x.nodes.length ++ (x.nodes.flatMap ndBytes ++ tailNd x)) := by
  simp only [imBytes, tailNd, tailSg, List.append_assoc]
def bigIm : Nat := 700000
theorem nd_len {n : Nd} (hs : NdSz n) (hi : NdIn n) : (ndBytes n).length ≤ 1300 := by
  obtain ⟨hp, hd⟩ := hs
  have a := encB_len_le n.path.data.toList (by omega)
  have b := encB_len_le n.data (by omega)
  have c : ∀ l : List Int, (∀ y ∈ l, In64 y) → (l.flatMap encI).length ≤ 10 * l.length := by
    intro l
    induction l with
    | nil => intro _; simp
    | cons y l ih =>
      intro h
      have h1 := encI_len (h y (by simp))
      have h2 := ih (fun z hz => h z (by simp [hz]))
      simp only [List.flatMap_cons, List.length_append, List.length_cons]; omega
  have d := c n.stat8 hi
  have e : n.stat8.length = 8 := rfl
  simp only [ndBytes, List.length_append]; omega
theorem imBytes_len {x : Im} (hi : ImIn x) (hr : right x = true) : (imBytes x).length ≤ bigIm := by
  unfold bigIm
  obtain ⟨i1, i2, i3, i4⟩ := hi
  obtain ⟨r1, r2, r3, r4⟩ := right_parts hr
  have a : ∀ l : List Nd, (∀ n ∈ l, NdIn n) → (∀ n ∈ l, ndOk n = true) → (l.flatMap ndBytes).length ≤ 1300 * l.length := by
    intro l
    induction l with
    | nil => intro _ _; simp
    | cons y l ih =>
      intro h1 h2
      have h3 := nd_len (ndOk_sz (h2 y (by simp))) (h1 y (by simp))
      have h4 := ih (fun z hz => h1 z (by simp [hz])) (fun z hz => h2 z (by simp [hz]))
      simp only [List.flatMap_cons, List.length_append, List.length_cons]; omega
  have b : ∀ l : List Sg, (∀ n ∈ l, SgIn n) → (l.flatMap sgBytes).length ≤ 30 * l.length := by
    intro l
    induction l with
    | nil => intro _; simp
    | cons y l ih =>
      intro h1
      obtain ⟨q1, q2, q3⟩ := h1 y (by simp)
      have := encI_len q1
      have := encI_len q2
      have := encI_len q3
      have h4 := ih (fun z hz => h1 z (by simp [hz]))
      simp only [List.flatMap_cons, List.length_append, List.length_cons, sgBytes]; omega
  have c := a x.nodes i1 r4
  have d := b x.sits i2
  have e := ensBytes_len r3
  have f := encB_len_le (ensBytes x.ver x.mems) (by omega)
  have g := encI_len i3
  have h := encI_len i4
  have k := encI_len (n := x.nodes.length) (by omega)
  have m := encI_len (n := x.sits.length) (by omega)
  simp only [imBytes, List.length_append, List.length_cons, List.length_nil]
  omega
theorem pre_len {a b c : List UInt8} {n : Nat} (h : a ++ b = c) (hc : c.length ≤ n) : a.length + b.length ≤ n := by rw [← h, List.length_append] at hc; exact hc
/-- Where the loop over the nodes stands; ns: what is left to be put of the node before. -/
def PutN (W : World) (x : Im) (pre suf : List Nd) (ns : List Int) (wr : World) : Prop :=
  x.nodes = pre ++ suf ∧ ∃ acc : List UInt8, acc ++ (ns.flatMap encI ++ (suf.flatMap ndBytes ++ tailNd x)) = imBytes x ∧ acc ≠ [] ∧ WrP wr W.heap.size W.heap.size acc ∧ Below W.heap.size W wr
/-- Where the loop over the sittings stands. -/
def PutG (W : World) (x : Im) (pre suf : List Sg) (wr : World) : Prop :=
  x.sits = pre ++ suf ∧ ∃ acc : List UInt8, acc ++ (suf.flatMap sgBytes ++ tailSg x) = imBytes x ∧ acc ≠ [] ∧ WrP wr W.heap.size W.heap.size acc ∧ Below W.heap.size W wr
theorem Bs.lt {w : World} {v : Value} {l : List UInt8} (h : Bs w v l) : l = [] ∨ ∀ k, v.ownBlock = some k → k < w.heap.size := by
  obtain ⟨a, c, rfl, h1, h2, h3, h4⟩ := h
  cases l with
  | nil => exact .inl rfl
  | cons x l =>
    refine .inr (fun k hk => ?_)
    obtain ⟨b, off, rfl, hc⟩ := h4 0 (.int .u8 x.toNat) (by simp [bv])
    simp [Value.ownBlock] at hk
    subst hk
    exact World.block_lt_of_cell? w _ hc
theorem row_ge {w : World} {B b : Nat} {l : List UInt8} (h : WrP w B b l) : ∀ g, Row w b g → B ≤ g := by
  intro g hr
  exact (Row.size h hr).1
theorem row_lt {w : World} {B b : Nat} {l : List UInt8} (h : WrP w B b l) : ∀ g, Row w b g → g < w.heap.size := by
  intro g hr
  exact (Row.size h hr).2.1
/-- Bytes that lie below the buffer may be written. -/
theorem may_write {w0 w : World} {B : Nat} {l : List UInt8} {v : Value} {s : List UInt8} (hs : Bs w0 v s) (h0 : w0.heap.size ≤ B) (h : WrP w B B l) : s = [] ∨ ∀ k, v.ownBlock = some k → k ≠ B ∧ ∀ g, Row w B g → k ≠ g := by
  refine hs.lt.imp id (fun hk k e => ?_)
  have := hk k e
  exact ⟨by omega, fun g hg => by have := row_ge h g hg; omega⟩
theorem ok8_keep {g : Nat} {w w' : World} (h : OK8 g w w') {k : Nat} {vs : Array Value} {t : TypeId} (hk : w.heap[k]? = some (.cells vs t (0, 0))) (hg : k ≠ g) (ht : t ≠ 5) : w'.heap[k]? = some (.cells vs t (0, 0)) :=
  h k _ hk (fun e => hg (Option.some.inj e)) (fun c fz e => by injection e with _ e2 _; exact ht e2)
end YtkcpfchfpnmkpaaDoor
theorem Tryd.right_calls (x : Im) (nv sv mv : Value) (w : World) (hn : Nds w nv x.nodes) (hs : Sgs w sv x.sits) (hm : Ms w mv x.mems) :
    Calls Tryd.prog 32 #[nv, sv, .agg #[.int .i64 x.ver, mv], .int .i64 x.lo, .int .i64 x.hi] w fun e w' => e = .returned (.bool (right x)) ∧ Below w.heap.size w w' := by
  by_cases h : headOk x = true
  · exact Tryd.right_pass x nv sv mv w hn hs hm h
  · exact Tryd.right_fail x nv sv mv w hn hs hm h
end Go.Proofs
