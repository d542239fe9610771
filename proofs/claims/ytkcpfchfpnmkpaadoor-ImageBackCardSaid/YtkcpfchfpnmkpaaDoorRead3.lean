/- Plain facts for the walk of image.read. -/
import Derived.Test.YtkcpfchfpnmkpaaDoorRead2
import Derived.Deep.MidRow
namespace Go.Proofs
open Go Go.RowKit Go.Proofs.YtkcpfchfpnmkpaaDoor

namespace YtkcpfchfpnmkpaaDoor
def MbsO (w : World) (B M : Nat) (v : Value) (l : List Mb) : Prop := RowO w B M 78 4 v l.length (l.flatMap mbVal)
def ReadP (w : World) (b : List UInt8) (e : Ending) (w' : World) : Prop :=
  Below w.heap.size w w' ∧ ((getS b = none ∧ e = .panicked brk) ∨
    ∃ y nv sv mv, getS b = some y ∧ e = .returned (.agg #[nv, sv, .int .i64 y.ver, mv, .int .i64 y.lo, .int .i64 y.hi]) ∧ NdsO w' w.heap.size w'.heap.size nv y.nodes ∧ SgsO w' w.heap.size w'.heap.size sv y.sits ∧ MbsO w' w.heap.size w'.heap.size mv y.mems)
theorem rdInt_none : rdInt none = (0, none) := rfl
theorem rdCount_none (m : Nat) : rdCount m none = (0, none) := by simp [rdCount, rdInt]
theorem rdBytes_none (m : Nat) : rdBytes m none = ([], none) := by simp [rdBytes, rdCount_none, rdTake]
theorem rdNd_none : (rdNd none).2 = none := rfl
theorem rdNds_none : ∀ n, (rdNds n none).2 = none := by
  intro n
  induction n with
  | zero => rfl
  | succ n ih => simp only [rdNds, rdNd_none, ih]
theorem rdSg_none : (rdSg none).2 = none := rfl
theorem rdSgs_none : ∀ n, (rdSgs n none).2 = none := by
  intro n
  induction n with
  | zero => rfl
  | succ n ih => simp only [rdSgs, rdSg_none, ih]
theorem fin_rest {c : UInt8} {x : Raw} (h : x.rest ≠ some []) : fin c x = none := by
  unfold fin
  split
  · rfl
  · rw [if_neg (fun hc => h hc.2.1)]
theorem fin_c {c : UInt8} {x : Raw} (h : c ≠ 1) : fin c x = none := by
  unfold fin
  split
  · rfl
  · rw [if_neg (fun hc => h hc.1)]
theorem rest_nds {r : Rd} (h : (rdNds (rdCount 500 r).1 (rdCount 500 r).2).2 = none) : (rdRaw r).rest = none := by
  simp only [rdRaw, h, rdCount_none, rdSgs_none, rdBytes_none, rdInt_none]
theorem rest_sgs {r : Rd} (h : (rdSgs (rdCount 200 (rdNds (rdCount 500 r).1 (rdCount 500 r).2).2).1 (rdCount 200 (rdNds (rdCount 500 r).1 (rdCount 500 r).2).2).2).2 = none) : (rdRaw r).rest = none := by
  simp only [rdRaw, h, rdBytes_none, rdInt_none]
theorem fin_ens {c : UInt8} {x : Raw} (h : ensGet x.cfg = none) : fin c x = none := by
  unfold fin; rw [h]
/-- j numbers. -/
def rdI : Nat → Rd → List Int × Rd
  | 0, r => ([], r)
  | j + 1, r => ((rdI j r).1 ++ [(rdInt (rdI j r).2).1], (rdInt (rdI j r).2).2)
theorem rdI_len : ∀ j r, (rdI j r).1.length = j := by
  intro j
  induction j with
  | zero => intro r; rfl
  | succ j ih => intro r; simp [rdI, ih]
/-- Where the loop over the nodes stands. -/
def RdN (w : World) (g bx B N : Nat) (all : List Nd × Rd) (l : List Nd) (r : Rd) (nv : Value) (wr : World) : Prop :=
  l.length ≤ N ∧ all = (l ++ (rdNds (N - l.length) r).1, (rdNds (N - l.length) r).2) ∧ RdP wr g r ∧ RdS w bx B wr.heap.size nv l (.slice none 0 0) [] wr
/-- Where the loop over the sittings stands. -/
def RdG (w : World) (g bx B N : Nat) (nv : Value) (nl : List Nd) (all : List Sg × Rd) (l : List Sg) (r : Rd) (sv : Value) (wr : World) : Prop :=
  l.length ≤ N ∧ all = (l ++ (rdSgs (N - l.length) r).1, (rdSgs (N - l.length) r).2) ∧ RdP wr g r ∧ RdS w bx B wr.heap.size nv nl sv l wr
/-- What ensemble.Get has told, in one form. -/
def EnsOne (w : World) (b : List UInt8) (e : Ending) (w' : World) : Prop :=
  ∃ ver am nm cm ec, e = .returned (.tuple #[.agg #[.int .i64 ver, .slice am nm cm], .int .i64 ec]) ∧ Below w.heap.size w w' ∧ ((ensGet b = none ∧ ec = 4) ∨ ∃ l, ensGet b = some (ver, l) ∧ ec = 0 ∧ OwnM w' w.heap.size (.slice am nm cm) l)
theorem EnsGetP.one {w : World} {b : List UInt8} {e : Ending} {w' : World} (h : EnsGetP w b e w') : EnsOne w b e w' := by
  obtain ⟨h1, ⟨h2, rfl⟩ | ⟨ver, l, v, h2, rfl, h3⟩⟩ := h
  · exact ⟨0, none, 0, 0, 4, rfl, h1, .inl ⟨h2, rfl⟩⟩
  · obtain ⟨a, c, rfl, -⟩ := h3.ms
    exact ⟨ver, _, _, _, 0, rfl, h1, .inr ⟨l, h2, rfl, h3⟩⟩
theorem fin_right {c : UInt8} {x : Raw} {ver : Int} {l : List Mb} (h : ensGet x.cfg = some (ver, l)) (hr : right ⟨x.nodes, x.sits, ver, l, x.lo, x.hi⟩ = false) : fin c x = none := by
  unfold fin; rw [h]; simp only
  rw [if_neg (fun hc => by rw [hr] at hc; exact absurd hc.2.2 (by simp))]
theorem fin_ok {c : UInt8} {x : Raw} {ver : Int} {l : List Mb} (h : ensGet x.cfg = some (ver, l)) (hc : c = 1) (h2 : x.rest = some []) (hr : right ⟨x.nodes, x.sits, ver, l, x.lo, x.hi⟩ = true) : fin c x = some ⟨x.nodes, x.sits, ver, l, x.lo, x.hi⟩ := by
  unfold fin; rw [h]; simp only
  rw [if_pos ⟨hc, h2, hr⟩]
/-- What read keeps, the config and the numbers told. -/
structure RdF (w : World) (bx B : Nat) (nv : Value) (l : List Nd) (sv : Value) (s : List Sg) (ver : Int) (mv : Value) (lo hi : Int) (wr : World) : Prop where
  wh : wr.heap[bx]? = some (.cells #[nv, sv, .int .i64 ver, mv, .int .i64 lo, .int .i64 hi] 94 (0, 0))
  nd : NdsO wr B wr.heap.size nv l
  sg : SgsO wr B wr.heap.size sv s
  bel : Below (w.heap.size + 1) (w.alloc zWh) wr
theorem RdS.toF {w : World} {bx B M : Nat} {nv : Value} {l : List Nd} {sv : Value} {s : List Sg} {wr : World} (h : RdS w bx B M nv l sv s wr) : RdF w bx B nv l sv s 0 (.slice none 0 0) 0 0 wr := ⟨h.wh, h.nd.mono h.Mw, RowO.mono h.sg h.Mw, h.bel⟩
theorem RdF.step {w : World} {bx B : Nat} {nv : Value} {l : List Nd} {sv : Value} {s : List Sg} {ver : Int} {mv : Value} {lo hi : Int} {wr wr' : World} (h : RdF w bx B nv l sv s ver mv lo hi wr) {k : Nat} (hg : wr.grownBy wr' (some k)) (hk : k < B) (hkb : k ≠ bx) (hw : w.heap.size < k) : RdF w bx B nv l sv s ver mv lo hi wr' := by
  have hsz := hg.size
  refine ⟨(hg.block bx (Lib.lt_of_heap h.wh) (by simp; omega)).trans h.wh, (h.nd.keep hg (Away.out (.inl hk)) (Away.out (.inl hk))).mono hsz, (RowO.keep h.sg hg (Away.out (.inl hk))).mono hsz, h.bel.trans (grown_below hg hw ?_)⟩
  have := h.bel.size
  simp at this
  omega
theorem RdF.stepN {w : World} {bx B : Nat} {nv : Value} {l : List Nd} {sv : Value} {s : List Sg} {ver : Int} {mv : Value} {lo hi : Int} {wr wr' : World} (h : RdF w bx B nv l sv s ver mv lo hi wr) (hb : Below wr.heap.size wr wr') : RdF w bx B nv l sv s ver mv lo hi wr' := by
  have hg := grown_of_below hb
  have hsz := hg.size
  refine ⟨(hb.block bx (Lib.lt_of_heap h.wh)).trans h.wh, (h.nd.keep hg Away.no Away.no).mono hsz, (RowO.keep h.sg hg Away.no).mono hsz, h.bel.trans (hb.mono ?_)⟩
  have := h.bel.size
  simp at this
  omega
theorem RdF.set {w : World} {bx B : Nat} {nv : Value} {l : List Nd} {sv : Value} {s : List Sg} {ver : Int} {mv : Value} {lo hi : Int} {wr : World} (h : RdF w bx B nv l sv s ver mv lo hi wr) (i : Nat) (v : Value) (ver' : Int) (mv' : Value) (lo' hi' : Int)
    (ha : (#[nv, sv, .int .i64 ver, mv, .int .i64 lo, .int .i64 hi] : Array Value).setIfInBounds i v = #[nv, sv, .int .i64 ver', mv', .int .i64 lo', .int .i64 hi']) (hb : bx < B) (hw : w.heap.size < bx) : RdF w bx B nv l sv s ver' mv' lo' hi' (wr.setCell ⟨bx, i, none⟩ v) := by
  have hg := Lib.grownBy_setCell wr bx i v
  have hs : (wr.setCell ⟨bx, i, none⟩ v).heap.size = wr.heap.size := by simp [World.setCell]
  refine ⟨by rw [Lib.heap_setCell_same h.wh, ha], ?_, ?_, h.bel.trans (grown_below hg hw ?_)⟩
  · rw [hs]; exact h.nd.keep hg (Away.out (.inl hb)) (Away.out (.inl hb))
  · rw [hs]; exact RowO.keep h.sg hg (Away.out (.inl hb))
  · have := h.bel.size
    simp at this
    omega
theorem DataO.base {w : World} {B B' M : Nat} {d : Value} {s : List UInt8} (h : DataO w B M d s) (hB : B' ≤ B) : DataO w B' M d s := ⟨h.1, fun k hk => by obtain ⟨a, b, c⟩ := h.2 k hk; exact ⟨by omega, b, c⟩⟩
theorem RowO.base {w : World} {B B' M : Nat} {t : TypeId} {size : Nat} {v : Value} {n : Nat} {xs : List Value} (h : RowO w B M t size v n xs) (hB : B' ≤ B) : RowO w B' M t size v n xs := ⟨own_base h.1 hB, h.2⟩
theorem NdsO.base {w : World} {B B' M : Nat} {v : Value} {l : List Nd} (h : NdsO w B M v l) (hB : B' ≤ B) : NdsO w B' M v l := by
  obtain ⟨ds, h1, h2, h3⟩ := h
  exact ⟨ds, h1, h2.base hB, fun i x d hx hd => (h3 i x d hx hd).base hB⟩
theorem MbsO.ms {w : World} {B M : Nat} {v : Value} {l : List Mb} (h : MbsO w B M v l) : Ms w v l := own_sl h.1
theorem grown_setRow (w : World) (g : Nat) (arr : Array Value) : w.grownBy (w.setRow g arr) (some g) :=
  ⟨rfl, rfl, rfl, by simp [World.setRow], fun k hk hr => setRow_other _ _ _ _ (fun e => hr (by rw [e]))⟩
theorem infoWh : (Tryd.prog.info? 94).map (·.size) = some 6 := by kernel_rfl
theorem wh_one (a b d : Option Addr) (n1 n2 n3 c1 c2 c3 : Nat) (ver lo hi : Int) : (#[.slice a n1 c1, .slice b n2 c2, .int .i64 ver, .slice d n3 c3, .int .i64 lo, .int .i64 hi] : Array Value).all (·.oneCell') = true := by simp [Value.oneCell']
def ndBox (p : ByteArray) (d : Value) : Obj := .cells #[.string p, d, .int .i64 0, .int .i64 0, .int .i64 0, .int .i64 0, .int .i64 0, .int .i64 0, .int .i64 0, .int .i64 0, .int .i64 0, .int .i64 0] 42
def ndBoxF (p : ByteArray) (d : Value) : Obj := .cells #[.string p, d, .int .i64 0, .int .i64 0, .int .i64 0, .int .i64 0, .int .i64 0, .int .i64 0, .int .i64 0, .int .i64 0, .int .i64 0, .int .i64 0] 42 (0, 0)
def arr8 (ys : List Int) : Array Value := ((ys ++ List.replicate (8 - ys.length) 0).map (Value.int .i64)).toArray
theorem arr8_set (ys : List Int) (n : Int) (h : ys.length < 8) : (arr8 ys).setIfInBounds ys.length (.int .i64 n) = arr8 (ys ++ [n]) := by
  unfold arr8
  rw [List.setIfInBounds_toArray]
  congr 1
  rw [List.map_append, List.map_append, List.set_append_right _ _ (by simp), List.length_map, Nat.sub_self]
  obtain ⟨k, hk⟩ : ∃ k, 8 - ys.length = k + 1 := ⟨7 - ys.length, by omega⟩
  rw [hk, List.length_append, show 8 - (ys.length + [n].length) = k by simp; omega, List.replicate_succ]
  simp
theorem arr8_size (ys : List Int) (h : ys.length ≤ 8) : (arr8 ys).size = 8 := by unfold arr8; simp; omega
/-- Where the loop over a node's numbers stands. -/
structure RdA (w : World) (g bx B M bn : Nat) (nv : Value) (l : List Nd) (p : ByteArray) (vd : Value) (d : List UInt8) (ys : List Int) (r : Rd) (wr : World) : Prop where
  rd : RdP wr g r
  st : RdS w bx B M nv l (.slice none 0 0) [] wr
  da : DataO wr B bn vd d
  nb : wr.heap[bn]? = some (ndBoxF p vd)
  ar : wr.heap[bn + 1]? = some (.cells (arr8 ys) 89 (0, 0))
theorem RdA.read {w : World} {g bx B M bn : Nat} {nv : Value} {l : List Nd} {p : ByteArray} {vd : Value} {d : List UInt8} {ys : List Int} {r r' : Rd} {wr wr' : World} (h : RdA w g bx B M bn nv l p vd d ys r wr) (hr : RdP wr' g r') (hg : wr.grownBy wr' (some g)) (h1 : w.heap.size < g) (h2 : g < bx) (h3 : bx < B) (h4 : M ≤ bn) : RdA w g bx B M bn nv l p vd d ys r' wr' := by
  have hbM := h.st.bM
  exact ⟨hr, h.st.step hg (.inl (by omega)) (by omega) h1, h.da.keep hg (Away.out (.inl (by omega))), (hg.block bn (Lib.lt_of_heap h.nb) (by simp; omega)).trans h.nb, (hg.block (bn + 1) (Lib.lt_of_heap h.ar) (by simp; omega)).trans h.ar⟩
theorem RdA.set {w : World} {g bx B M bn : Nat} {nv : Value} {l : List Nd} {p : ByteArray} {vd : Value} {d : List UInt8} {ys : List Int} {r : Rd} {wr : World} (h : RdA w g bx B M bn nv l p vd d ys r wr) (n : Int) (hy : ys.length < 8) (h1 : w.heap.size < g) (h2 : g < bx) (h3 : bx < B) (h4 : M ≤ bn) : RdA w g bx B M bn nv l p vd d (ys ++ [n]) r (wr.setCell ⟨bn + 1, ys.length, none⟩ (.int .i64 n)) := by
  have hbM := h.st.bM
  have hg := Lib.grownBy_setCell wr (bn + 1) ys.length (.int .i64 n)
  refine ⟨h.rd.keep hg (by omega), h.st.step hg (.inr (by omega)) (by omega) (by omega), h.da.keep hg (Away.out (.inr (by omega))), (hg.block bn (Lib.lt_of_heap h.nb) (by simp)).trans h.nb, ?_⟩
  rw [Lib.heap_setCell_same (i := ys.length) h.ar, arr8_set ys n hy]
theorem grown_setCells (b : Nat) : ∀ (vs : List Value) (o : Nat) (w w' : World), w.grownBy w' (some b) → w.grownBy (w'.setCells b o vs) (some b) := by
  intro vs
  induction vs with
  | nil => intro o w w' h; exact h
  | cons v r ih => intro o w w' h; exact ih (o + 1) w _ (grown_setCell h v)
def statA (a0 a1 a2 a3 a4 a5 a6 a7 a8 a9 : Int) : Array Value := #[.int .i64 a0, .int .i64 a1, .int .i64 a2, .int .i64 a3, .int .i64 a4, .int .i64 a5, .int .i64 a6, .int .i64 a7, .int .i64 a8, .int .i64 a9]
theorem statA_one (a0 a1 a2 a3 a4 a5 a6 a7 a8 a9 : Int) : (statA a0 a1 a2 a3 a4 a5 a6 a7 a8 a9).all (·.oneCell') = true := by simp [statA, Value.oneCell']
def setAll (cs : Array Value) (o : Nat) : List Value → Array Value
  | [] => cs
  | v :: r => setAll (cs.setIfInBounds o v) (o + 1) r
theorem heap_setCells {b : Nat} {t : TypeId} {fr : Nat × Nat} : ∀ (vs : List Value) (o : Nat) (w : World) (cs : Array Value), w.heap[b]? = some (.cells cs t fr) → (w.setCells b o vs).heap[b]? = some (.cells (setAll cs o vs) t fr) := by
  intro vs
  induction vs with
  | nil => intro o w cs h; exact h
  | cons v r ih => intro o w cs h; exact ih (o + 1) _ _ (Lib.heap_setCell_same h v)
theorem stat_arr (p : ByteArray) (vd : Value) (a0 a1 a2 a3 a4 a5 a6 a7 a8 a9 : Int) : setAll #[.string p, vd, .int .i64 0, .int .i64 0, .int .i64 0, .int .i64 0, .int .i64 0, .int .i64 0, .int .i64 0, .int .i64 0, .int .i64 0, .int .i64 0] 2 (statA a0 a1 a2 a3 a4 a5 a6 a7 a8 a9).toList =
    #[.string p, vd, .int .i64 a0, .int .i64 a1, .int .i64 a2, .int .i64 a3, .int .i64 a4, .int .i64 a5, .int .i64 a6, .int .i64 a7, .int .i64 a8, .int .i64 a9] := by
  simp [statA, setAll]
theorem stat_store {w : World} {bn : Nat} {p : ByteArray} {vd : Value} (a0 a1 a2 a3 a4 a5 a6 a7 a8 a9 : Int) (h : w.heap[bn]? = some (ndBoxF p vd)) :
    (w.setCells bn 2 (statA a0 a1 a2 a3 a4 a5 a6 a7 a8 a9).toList).heap[bn]? = some (.cells #[.string p, vd, .int .i64 a0, .int .i64 a1, .int .i64 a2, .int .i64 a3, .int .i64 a4, .int .i64 a5, .int .i64 a6, .int .i64 a7, .int .i64 a8, .int .i64 a9] 42 (0, 0)) := by
  rw [← stat_arr]
  exact heap_setCells _ 2 w _ h
theorem there_box {w : World} {bn : Nat} {c : Array Value} {t : TypeId} (h : w.heap[bn]? = some (.cells c t (0, 0))) (o n : Nat) (hn : o + n ≤ c.size) : w.there bn o n := by
  intro j hj
  refine ⟨?_, Lib.frozen_of_heap h _⟩
  rw [Lib.cell_of_heap h, Array.getElem?_eq_getElem (by omega)]; rfl
theorem infoStat : (Tryd.prog.info? 40).map (·.size) = some 10 := by kernel_rfl
theorem infoNode : (Tryd.prog.info? 42).map (·.size) = some 12 := by kernel_rfl
theorem getS_none {b : List UInt8} (h : unframe b = none) : getS b = none := by unfold getS; rw [h]
theorem getS_len {b load : List UInt8} (h : unframe b = some load) (h2 : b.length ≠ 8 + load.length) : getS b = none := by unfold getS; rw [h]; simp only; rw [if_pos h2]
theorem getS_fin {b load : List UInt8} (h : unframe b = some load) (h2 : b.length = 8 + load.length) : getS b = fin (rdByte (some load)).1 (rdRaw (rdByte (some load)).2) := by
  unfold getS; rw [h]; simp only; rw [if_neg (by omega)]; rfl
end YtkcpfchfpnmkpaaDoor
end Go.Proofs
