/- Walks: package image: told, Get. -/
import Derived.Test.YtkcpfchfpnmkpaaDoorRead4
import Derived.Defers
import Derived.Recover
namespace Go.Proofs
open Go Go.RowKit Go.Sort Go.Proofs.YtkcpfchfpnmkpaaDoor

namespace YtkcpfchfpnmkpaaDoor
def zA : Array Value := #[.slice none 0 0, .slice none 0 0, .int .i64 0, .slice none 0 0, .int .i64 0, .int .i64 0]
/-- What told hands back. -/
def ToldP (w : World) (b : List UInt8) (e : Ending) (w' : World) : Prop :=
  Below w.heap.size w w' ∧ ((getS b = none ∧ e = .returned (.tuple #[.agg #[.slice none 0 0, .slice none 0 0, .int .i64 0, .slice none 0 0, .int .i64 0, .int .i64 0], .int .i64 4])) ∨
    ∃ y an cn as' cs' am cm, getS b = some y ∧ e = .returned (.tuple #[.agg #[.slice an y.nodes.length cn, .slice as' y.sits.length cs', .int .i64 y.ver, .slice am y.mems.length cm, .int .i64 y.lo, .int .i64 y.hi], .int .i64 0]) ∧
      NdsO w' w.heap.size w'.heap.size (.slice an y.nodes.length cn) y.nodes ∧ SgsO w' w.heap.size w'.heap.size (.slice as' y.sits.length cs') y.sits ∧ MbsO w' w.heap.size w'.heap.size (.slice am y.mems.length cm) y.mems)
end YtkcpfchfpnmkpaaDoor

set_option maxRecDepth 100000 in
theorem Tryd.catch_panicking (bx be : Nat) (u : TypeId) (pv : Value) (older : List PanicEntry) (w : World) (hx : w.heap[bx]? = some (.cells zA 94 (0, 0))) (he : w.heap[be]? = some (.cells #[.int .i64 0] 33 (0, 0))) (hne : ¬ bx = be) :
    CallsD Tryd.prog 59 #[.pointer (some ⟨bx, 0, none⟩), .pointer (some ⟨be, 0, none⟩)] (.panicking ({ v := .iface u pv, recovered := false } :: older)) w fun e u' w' =>
      e = .returned (.tuple #[]) ∧ u' = .panicking ({ v := .iface u pv, recovered := true } :: older) ∧ w.heap.size ≤ w'.heap.size ∧ w'.heap[bx]? = some (.cells zA 94 (0, 0)) ∧ w'.heap[be]? = some (.cells #[.int .i64 4] 33 (0, 0)) ∧
        (∀ k, k < bx → k < be → w'.heap[k]? = w.heap[k]?) ∧ w'.os = w.os ∧ w'.tape = w.tape ∧ w'.output = w.output := by
  refine callsD_of_wpS Tryd.func59 rfl fun c₀ cs hu => ?_
  apply wpS_seq
  apply wpS_region
  simp [wpOpsS, go_sem, recoverD, hu, Tryd.ntmps59, Exit.thenS]
  refine wpS_cond (t := true) (by simp [Act.eval, Array.replicate]) ?_
  simp only [if_true]
  have x0 : w.cell? ⟨bx, 0, none⟩ = some (.slice none 0 0) := by rw [Lib.cell_of_heap hx]; rfl
  have x1 : w.cell? ⟨bx, 1, none⟩ = some (.slice none 0 0) := by rw [Lib.cell_of_heap hx]; rfl
  have x2 : w.cell? ⟨bx, 2, none⟩ = some (.int .i64 0) := by rw [Lib.cell_of_heap hx]; rfl
  have x3 : w.cell? ⟨bx, 3, none⟩ = some (.slice none 0 0) := by rw [Lib.cell_of_heap hx]; rfl
  have x4 : w.cell? ⟨bx, 4, none⟩ = some (.int .i64 0) := by rw [Lib.cell_of_heap hx]; rfl
  have x5 : w.cell? ⟨bx, 5, none⟩ = some (.int .i64 0) := by rw [Lib.cell_of_heap hx]; rfl
  have xe : w.cell? ⟨be, 0, none⟩ = some (.int .i64 0) := by rw [Lib.cell_of_heap he]; rfl
  have xf : ∀ i, w.frozen? ⟨bx, i, none⟩ = false := fun i => Lib.frozen_of_heap hx i
  have ef : ∀ i, w.frozen? ⟨be, i, none⟩ = false := fun i => Lib.frozen_of_heap he i
  have hne' : ¬ be = bx := fun e => hne e.symm
  refine wpS_of_wp ?_
  go_wp2_with fail
  obtain ⟨V, hV⟩ : ∃ V, w.setCells bx 0 [.slice none 0 0, .slice none 0 0, .int .i64 0, .slice none 0 0, .int .i64 0, .int .i64 0] = V := ⟨_, rfl⟩
  have g1 : w.grownBy V (some bx) := by rw [← hV]; exact grown_setCells bx _ 0 w w (grown_refl _ _)
  have v1 : V.heap[bx]? = some (.cells zA 94 (0, 0)) := by
    have h1 := heap_setCells [.slice none 0 0, .slice none 0 0, .int .i64 0, .slice none 0 0, .int .i64 0, .int .i64 0] 0 w zA hx
    have h2 : setAll zA 0 [.slice none 0 0, .slice none 0 0, .int .i64 0, .slice none 0 0, .int .i64 0, .int .i64 0] = zA := by simp [setAll, zA]
    rw [h2, hV] at h1
    exact h1
  have v2 : V.heap[be]? = some (.cells #[.int .i64 0] 33 (0, 0)) := (g1.block be (Lib.lt_of_heap he) (by simp; exact hne')).trans he
  have hF : w.heap.size ≤ (V.setCell ⟨be, 0, none⟩ (.int .i64 4)).heap.size ∧ (V.setCell ⟨be, 0, none⟩ (.int .i64 4)).heap[bx]? = some (.cells zA 94 (0, 0)) ∧ (V.setCell ⟨be, 0, none⟩ (.int .i64 4)).heap[be]? = some (.cells #[.int .i64 4] 33 (0, 0)) ∧
      (∀ k, k < bx → k < be → (V.setCell ⟨be, 0, none⟩ (.int .i64 4)).heap[k]? = w.heap[k]?) ∧ (V.setCell ⟨be, 0, none⟩ (.int .i64 4)).os = w.os ∧ (V.setCell ⟨be, 0, none⟩ (.int .i64 4)).tape = w.tape ∧ (V.setCell ⟨be, 0, none⟩ (.int .i64 4)).output = w.output := by
    have g2 := Lib.grownBy_setCell V be 0 (.int .i64 4)
    refine ⟨Nat.le_trans g1.size g2.size, (Below.heap_setCell _ _ _ _ hne).trans v1, Lib.heap_setCell_same (i := 0) v2 _, ?_, g2.os.trans g1.os, g2.tape.trans g1.tape, g2.output.trans g1.output⟩
    intro k h1 h2
    have n1 : k ≠ bx := by omega
    have n2 : k ≠ be := by omega
    have hk : k < w.heap.size := by have := Lib.lt_of_heap hx; omega
    exact (Below.heap_setCell _ _ _ _ n2).trans (g1.block k hk (by simp; omega))
  simp only [World.setCells, Nat.zero_add, Nat.reduceAdd] at hV
  rw [hV]
  obtain ⟨W', hW'⟩ : ∃ W', V.setCell ⟨be, 0, none⟩ (.int .i64 4) = W' := ⟨_, rfl⟩
  rw [hW'] at hF ⊢
  clear hV hW' g1 v1 v2 x0 x1 x2 x3 x4 x5 xe xf ef hx he
  simp only [bodyPostS, results, Tryd.results59]
  simp [go_sem, hF]
  exact hF.2.2.2.1

theorem Tryd.catch_idle (bx be : Nat) (w : World) :
    CallsD Tryd.prog 59 #[.pointer (some ⟨bx, 0, none⟩), .pointer (some ⟨be, 0, none⟩)] .returning w fun e u' w' => e = .returned (.tuple #[]) ∧ u' = .returning ∧ w' = w := by
  refine callsD_of_wpS Tryd.func59 rfl fun c₀ cs hu => ?_
  apply wpS_seq
  apply wpS_region
  simp [wpOpsS, go_sem, recoverD, hu, Tryd.ntmps59, Exit.thenS]
  refine wpS_cond (t := false) (by simp [Act.eval, Array.replicate]) ?_
  simp only [Bool.false_eq_true, if_false]
  refine wpS_of_wp (wp_skip ?_)
  cases c₀
  simp_all [bodyPostS, results, Tryd.results59]

set_option maxRecDepth 100000 in
set_option maxHeartbeats 1600000 in
theorem Tryd.told_calls (v : Value) (b : List UInt8) (w : World) (h : Bs w v b) (hl : b.length ≤ 140737488355328) :
    Calls Tryd.prog 42 #[v] w (ToldP w b) := by
  have H := Lib.hid h
  obtain ⟨a, c, rfl, -⟩ := h
  have hmf : ∀ (fn : Fn) (first cap : Array Value) (w : World), (Instr.makeFunc fn first cap).run Tryd.prog w = .ok (.func fn first cap) w := fun _ _ _ _ => rfl
  have HB0 : Hid (RowKit.Below w.heap.size w ((w.alloc zWh).alloc (.cells #[.int .i64 0] 33))) := ((Below.refl _ _).alloc (Nat.le_refl _) _).alloc (by simp) _
  have HV0 := Lib.hid (H.out.below HB0.out)
  have HX0 : Hid (((w.alloc zWh).alloc (.cells #[.int .i64 0] 33)).heap[w.heap.size]? = some (.cells zA 94 (0, 0))) := (Below.heap_alloc _ _ _ (by simp)).trans (heap_alloc_new w _)
  have HE0 : Hid (((w.alloc zWh).alloc (.cells #[.int .i64 0] 33)).heap[w.heap.size + 1]? = some (.cells #[.int .i64 0] 33 (0, 0))) := by
    have := heap_alloc_new (w.alloc zWh) (.cells #[.int .i64 0] 33)
    rw [show (w.alloc zWh).heap.size = w.heap.size + 1 by simp] at this
    exact this
  obtain ⟨W0, hW0⟩ : ∃ W0, (w.alloc zWh).alloc (.cells #[.int .i64 0] 33) = W0 := ⟨_, rfl⟩
  have hs0 : W0.heap.size = w.heap.size + 2 := by rw [← hW0]; simp
  rw [hW0] at HB0 HV0 HX0 HE0
  have HW0 := Lib.hid hW0
  have HS0 := Lib.hid hs0
  clear hW0 hs0
  go_enter_defers Tryd.func42, Tryd.ntmps42
  go_wp2_with fail
  have hgw : (w.alloc zWh).alloc (.cells #[.int .i64 0] 33) = W0 := HW0.out
  unfold zWh at hgw
  rw [hgw]
  clear hgw
  refine (Tryd.read_calls _ b W0 HV0.out hl).mono ?_
  rintro e w1 ⟨hb1, hr⟩
  have hx1 := (hb1.block w.heap.size (by have := HS0.out; omega)).trans HX0.out
  have he1 := (hb1.block (w.heap.size + 1) (by have := HS0.out; omega)).trans HE0.out
  have hs1 : w.heap.size + 2 ≤ w1.heap.size := by have := hb1.size; have := HS0.out; omega
  have HX1 := Lib.hid hx1
  have HE1 := Lib.hid he1
  have HB1 := Lib.hid (HB0.out.trans (hb1.mono HB0.out.size))
  clear hb1 hx1 he1
  rcases hr with ⟨hg, rfl⟩ | ⟨y, nv, sv, mv, hg, rfl, hn, hs, hm⟩
  · have HG := Lib.hid hg
    clear hg
    go_wp2_with fail
    refine leaves_cons (f := 59) (args := #[.pointer (some ⟨w.heap.size, 0, none⟩), .pointer (some ⟨w.heap.size + 1, 0, none⟩)]) (by simp) (by simp [go_sem]) ?_
    refine (Tryd.catch_panicking w.heap.size (w.heap.size + 1) _ _ [] w1 HX1.out HE1.out (by omega)).mono ?_
    rintro e u' w2 ⟨rfl, rfl, f1, f2, f3, f4, f5, f6, f7⟩
    have hF : ToldP w b (.returned (.tuple #[.agg #[.slice none 0 0, .slice none 0 0, .int .i64 0, .slice none 0 0, .int .i64 0, .int .i64 0], .int .i64 4])) w2 :=
      ⟨HB1.out.trans ⟨f5, f6, f7, f1, fun k hk => f4 k hk (by omega)⟩, .inl ⟨HG.out, rfl⟩⟩
    have HF := Lib.hid hF
    have c0 : w2.cell? ⟨w.heap.size, 0, none⟩ = some (.slice none 0 0) := by rw [Lib.cell_of_heap f2]; rfl
    have c1 : w2.cell? ⟨w.heap.size, 1, none⟩ = some (.slice none 0 0) := by rw [Lib.cell_of_heap f2]; rfl
    have c2 : w2.cell? ⟨w.heap.size, 2, none⟩ = some (.int .i64 0) := by rw [Lib.cell_of_heap f2]; rfl
    have c3 : w2.cell? ⟨w.heap.size, 3, none⟩ = some (.slice none 0 0) := by rw [Lib.cell_of_heap f2]; rfl
    have c4 : w2.cell? ⟨w.heap.size, 4, none⟩ = some (.int .i64 0) := by rw [Lib.cell_of_heap f2]; rfl
    have c5 : w2.cell? ⟨w.heap.size, 5, none⟩ = some (.int .i64 0) := by rw [Lib.cell_of_heap f2]; rfl
    have d0 : w2.cell? ⟨w.heap.size + 1, 0, none⟩ = some (.int .i64 4) := by rw [Lib.cell_of_heap f3]; rfl
    clear hF f1 f2 f3 f4 f5 f6 f7
    simp [Leaves, settle, results, Tryd.results42, go_sem, c0, c1, c2, c3, c4, c5, d0]
    exact HF.out
  · obtain ⟨an, cn, e1, -⟩ : Sl w1 nv y.nodes.length _ := hn.nds.choose_spec.2.1
    obtain ⟨as', cs', e2, -⟩ := hs.sgs
    obtain ⟨am, cm, e3, -⟩ := hm.ms
    subst e1
    subst e2
    subst e3
    obtain ⟨W2, hW2⟩ : ∃ W2, w1.setRow w.heap.size #[.slice an y.nodes.length cn, .slice as' y.sits.length cs', .int .i64 y.ver, .slice am y.mems.length cm, .int .i64 y.lo, .int .i64 y.hi] = W2 := ⟨_, rfl⟩
    have g2 : w1.grownBy W2 (some w.heap.size) := by rw [← hW2]; exact grown_setRow _ _ _
    have z2 : W2.heap[w.heap.size]? = some (.cells #[.slice an y.nodes.length cn, .slice as' y.sits.length cs', .int .i64 y.ver, .slice am y.mems.length cm, .int .i64 y.lo, .int .i64 y.hi] 94 (0, 0)) := by rw [← hW2]; exact setRow_heap _ _ _ _ _ _ HX1.out
    have z3 : W2.heap[w.heap.size + 1]? = some (.cells #[.int .i64 0] 33 (0, 0)) := (g2.block _ (by omega) (by simp)).trans HE1.out
    have g3 := Lib.grownBy_setCell W2 (w.heap.size + 1) 0 (.int .i64 0)
    have z4 : (W2.setCell ⟨w.heap.size + 1, 0, none⟩ (.int .i64 0)).heap[w.heap.size]? = _ := (g3.block _ (by have := g2.size; omega) (by simp)).trans z2
    have z5 := Lib.heap_setCell_same (i := 0) z3 (.int .i64 0)
    have hs2 := g2.size
    have hs3 := g3.size
    have hlt0 : w.heap.size < W0.heap.size := by have := HS0.out; omega
    have hlt1 : w.heap.size + 1 < W0.heap.size := by have := HS0.out; omega
    have HF : Hid (ToldP w b (.returned (.tuple #[.agg #[.slice an y.nodes.length cn, .slice as' y.sits.length cs', .int .i64 y.ver, .slice am y.mems.length cm, .int .i64 y.lo, .int .i64 y.hi], .int .i64 0])) (W2.setCell ⟨w.heap.size + 1, 0, none⟩ (.int .i64 0))) := by
      refine ⟨HB1.out.trans ((grown_below g2 (Nat.le_refl _) HB1.out.size).trans (grown_below g3 (by omega) (by omega))), .inr ⟨y, an, cn, as', cs', am, cm, hg, rfl, ?_, ?_, ?_⟩⟩
      · exact ((((hn.keep g2 (Away.out (.inl hlt0)) (Away.out (.inl hlt0))).keep g3 (Away.out (.inl hlt1)) (Away.out (.inl hlt1)))).mono (by omega)).base (by have := HS0.out; omega)
      · exact (((RowO.keep hs g2 (Away.out (.inl hlt0))).keep g3 (Away.out (.inl hlt1))).mono (by omega)).base (by have := HS0.out; omega)
      · exact (((RowO.keep hm g2 (Away.out (.inl hlt0))).keep g3 (Away.out (.inl hlt1))).mono (by omega)).base (by have := HS0.out; omega)
    have e0 : W2.cell? ⟨w.heap.size + 1, 0, none⟩ = some (.int .i64 0) := by rw [Lib.cell_of_heap z3]; rfl
    have ef : W2.frozen? ⟨w.heap.size + 1, 0, none⟩ = false := Lib.frozen_of_heap z3 _
    have HW2 := Lib.hid hW2
    have HZ4 := Lib.hid z4
    have HZ5 := Lib.hid z5
    clear hW2 g2 z2 z3 g3 z4 z5 hs2 hs3 hn hs hm hg
    go_wp2_with ((with_reducible show wpList _ _ _ (⟨none, Op.store 94 (.tmp 2) (.tmp 6), _, _, _, _⟩ :: _) _ _); refine wpList_store_row rfl 94 _ _ rfl w.heap.size #[.slice an y.nodes.length cn, .slice as' y.sits.length cs', .int .i64 y.ver, .slice am y.mems.length cm, .int .i64 y.lo, .int .i64 y.hi] rfl rfl 94 _ HX1.out infoWh rfl (wh_one _ _ _ _ _ _ _ _ _ _ _ _) ?_; rw [HW2.out])
    refine leaves_cons (f := 59) (args := #[.pointer (some ⟨w.heap.size, 0, none⟩), .pointer (some ⟨w.heap.size + 1, 0, none⟩)]) (by simp) (by simp [go_sem]) ?_
    refine (Tryd.catch_idle w.heap.size (w.heap.size + 1) _).mono ?_
    rintro e u' w'' ⟨rfl, rfl, rfl⟩
    obtain ⟨W3, hW3⟩ : ∃ W3, W2.setCell ⟨w.heap.size + 1, 0, none⟩ (.int .i64 0) = W3 := ⟨_, rfl⟩
    have f2 := HZ4.out
    have f3 := HZ5.out
    rw [hW3] at f2 f3 HF ⊢
    have c0 : W3.cell? ⟨w.heap.size, 0, none⟩ = some (.slice an y.nodes.length cn) := by rw [Lib.cell_of_heap f2]; rfl
    have c1 : W3.cell? ⟨w.heap.size, 1, none⟩ = some (.slice as' y.sits.length cs') := by rw [Lib.cell_of_heap f2]; rfl
    have c2 : W3.cell? ⟨w.heap.size, 2, none⟩ = some (.int .i64 y.ver) := by rw [Lib.cell_of_heap f2]; rfl
    have c3 : W3.cell? ⟨w.heap.size, 3, none⟩ = some (.slice am y.mems.length cm) := by rw [Lib.cell_of_heap f2]; rfl
    have c4 : W3.cell? ⟨w.heap.size, 4, none⟩ = some (.int .i64 y.lo) := by rw [Lib.cell_of_heap f2]; rfl
    have c5 : W3.cell? ⟨w.heap.size, 5, none⟩ = some (.int .i64 y.hi) := by rw [Lib.cell_of_heap f2]; rfl
    have d0 : W3.cell? ⟨w.heap.size + 1, 0, none⟩ = some (.int .i64 0) := by rw [Lib.cell_of_heap f3]; rfl
    clear f2 f3 hW3
    simp [Leaves, settle, results, Tryd.results42, go_sem, c0, c1, c2, c3, c4, c5, d0]
    exact HF.out

namespace YtkcpfchfpnmkpaaDoor
def zeroIm : Im := ⟨[], [], 0, [], 0, 0⟩
/-- The image that Get tells, and the error. -/
def gotS (b : List UInt8) : Im × Int := match getS b with
  | some y => (y, 0)
  | none => (zeroIm, 4)
/-- The image y lies in these slices; the call has made them. -/
structure ImO (w : World) (B : Nat) (an : Option Addr) (cn : Nat) (as' : Option Addr) (cs' : Nat) (am : Option Addr) (cm : Nat) (y : Im) : Prop where
  nd : NdsO w B w.heap.size (.slice an y.nodes.length cn) y.nodes
  sg : SgsO w B w.heap.size (.slice as' y.sits.length cs') y.sits
  mb : MbsO w B w.heap.size (.slice am y.mems.length cm) y.mems
theorem ImO.below {w w' : World} {B : Nat} {an : Option Addr} {cn : Nat} {as' : Option Addr} {cs' : Nat} {am : Option Addr} {cm : Nat} {y : Im} (h : ImO w B an cn as' cs' am cm y) (hb : Below w.heap.size w w') : ImO w' B an cn as' cs' am cm y :=
  ⟨(h.nd.keep (grown_of_below hb) Away.no Away.no).mono hb.size, (RowO.keep h.sg (grown_of_below hb) Away.no).mono hb.size, (RowO.keep h.mb (grown_of_below hb) Away.no).mono hb.size⟩
theorem ImO.base {w : World} {B B' : Nat} {an : Option Addr} {cn : Nat} {as' : Option Addr} {cs' : Nat} {am : Option Addr} {cm : Nat} {y : Im} (h : ImO w B an cn as' cs' am cm y) (hB : B' ≤ B) : ImO w B' an cn as' cs' am cm y :=
  ⟨h.nd.base hB, RowO.base h.sg hB, RowO.base h.mb hB⟩
/-- A step on a block below all of it. -/
theorem ImO.step {w w' : World} {B k : Nat} {an : Option Addr} {cn : Nat} {as' : Option Addr} {cs' : Nat} {am : Option Addr} {cm : Nat} {y : Im} (h : ImO w B an cn as' cs' am cm y) (hg : w.grownBy w' (some k)) (hk : k < B) : ImO w' B an cn as' cs' am cm y :=
  ⟨(h.nd.keep hg (Away.out (.inl hk)) (Away.out (.inl hk))).mono hg.size, (RowO.keep h.sg hg (Away.out (.inl hk))).mono hg.size, (RowO.keep h.mb hg (Away.out (.inl hk))).mono hg.size⟩
theorem ImO.zero (w : World) (B : Nat) : ImO w B none 0 none 0 none 0 zeroIm := ⟨NdsO.nil _ _ _, SgsO.nil _ _ _, RowO.nil _ _ _ _ _⟩
def ToldQ (w : World) (y : Im) (ec : Int) (e : Ending) (w' : World) : Prop :=
  ∃ an cn as' cs' am cm, e = .returned (.tuple #[.agg #[.slice an y.nodes.length cn, .slice as' y.sits.length cs', .int .i64 y.ver, .slice am y.mems.length cm, .int .i64 y.lo, .int .i64 y.hi], .int .i64 ec]) ∧ ImO w' w.heap.size an cn as' cs' am cm y ∧ Below w.heap.size w w'
theorem ToldP.q {w : World} {b : List UInt8} {e : Ending} {w' : World} (h : ToldP w b e w') : ToldQ w (gotS b).1 (gotS b).2 e w' := by
  obtain ⟨h1, ⟨h2, rfl⟩ | ⟨y, an, cn, as', cs', am, cm, h2, rfl, h3, h4, h5⟩⟩ := h
  · rw [gotS, h2]
    exact ⟨none, 0, none, 0, none, 0, rfl, ImO.zero _ _, h1⟩
  · rw [gotS, h2]
    exact ⟨an, cn, as', cs', am, cm, rfl, ⟨h3, h4, h5⟩, h1⟩
/-- What Get hands back. -/
def GetQ (w : World) (y : Im) (ec : Int) (e : Ending) (w' : World) : Prop :=
  ∃ an cn as' cs' am cm, e = .returned (.tuple #[.slice an y.nodes.length cn, .slice as' y.sits.length cs', .agg #[.int .i64 y.ver, .slice am y.mems.length cm], .int .i64 y.lo, .int .i64 y.hi, .int .i64 ec]) ∧ ImO w' w.heap.size an cn as' cs' am cm y ∧ Below w.heap.size w w'
end YtkcpfchfpnmkpaaDoor

set_option maxRecDepth 100000 in
set_option maxHeartbeats 1600000 in
theorem Tryd.get_calls (v : Value) (b : List UInt8) (w : World) (h : Bs w v b) (hl : b.length ≤ 140737488355328) :
    Calls Tryd.prog 19 #[v] w (GetQ w (gotS b).1 (gotS b).2) := by
  have H := Lib.hid h
  obtain ⟨a, c, rfl, -⟩ := h
  have HB0 : Hid (RowKit.Below w.heap.size w (w.alloc zEns)) := (Below.refl _ _).alloc (Nat.le_refl _) _
  have HV0 := Lib.hid (H.out.below HB0.out)
  have HX0 : Hid ((w.alloc zEns).heap[w.heap.size]? = some (.cells #[.int .i64 0, .slice none 0 0] 27 (0, 0))) := heap_alloc_new w _
  obtain ⟨W0, hW0⟩ : ∃ W0, w.alloc zEns = W0 := ⟨_, rfl⟩
  have hs0 : W0.heap.size = w.heap.size + 1 := by rw [← hW0]; simp
  rw [hW0] at HB0 HV0 HX0
  have HW0 := Lib.hid hW0
  have HS0 := Lib.hid hs0
  clear hW0 hs0
  obtain ⟨⟨y, ec⟩, hy⟩ : ∃ x, gotS b = x := ⟨_, rfl⟩
  rw [hy]
  have HY := Lib.hid hy
  clear hy
  go_enter Tryd.func19, Tryd.ntmps19
  go_wp2_with fail
  have hgw : w.alloc zEns = W0 := HW0.out
  unfold zEns at hgw
  rw [hgw]
  clear hgw
  refine (Tryd.told_calls _ b W0 HV0.out hl).mono ?_
  intro e w1 h1
  have h2 := h1.q
  rw [HY.out] at h2
  obtain ⟨an, cn, as', cs', am, cm, rfl, ho, hb1⟩ := h2
  have hx1 := (hb1.block w.heap.size (by have := HS0.out; omega)).trans HX0.out
  have HX1 := Lib.hid hx1
  have HB1 := Lib.hid (HB0.out.trans (hb1.mono HB0.out.size))
  have HO1 := Lib.hid ho
  have hlt : w.heap.size < w1.heap.size := Lib.lt_of_heap hx1
  clear h1 hb1 ho hx1
  go_wp2_with fail
  obtain ⟨W2, hW2⟩ : ∃ W2, w1.alloc (.cells #[.slice an y.nodes.length cn, .slice as' y.sits.length cs', .int .i64 y.ver, .slice am y.mems.length cm, .int .i64 y.lo, .int .i64 y.hi] 94) = W2 := ⟨_, rfl⟩
  have hz2 : W2.heap[w1.heap.size]? = some (.cells #[.slice an y.nodes.length cn, .slice as' y.sits.length cs', .int .i64 y.ver, .slice am y.mems.length cm, .int .i64 y.lo, .int .i64 y.hi] 94 (0, 0)) := by rw [← hW2]; exact heap_alloc_new w1 _
  have hb2 : RowKit.Below w1.heap.size w1 W2 := by rw [← hW2]; exact (Below.refl _ _).alloc (Nat.le_refl _) _
  have hx2 := (hb2.block w.heap.size hlt).trans HX1.out
  rw [hW2]
  have HO2 := Lib.hid (HO1.out.below hb2)
  have HB2 := Lib.hid (HB1.out.trans (hb2.mono HB1.out.size))
  have HX2 := Lib.hid hx2
  have c0 : W2.cell? ⟨w1.heap.size, 0, none⟩ = some (.slice an y.nodes.length cn) := by rw [Lib.cell_of_heap hz2]; rfl
  have c1 : W2.cell? ⟨w1.heap.size, 1, none⟩ = some (.slice as' y.sits.length cs') := by rw [Lib.cell_of_heap hz2]; rfl
  have c2 : W2.cell? ⟨w1.heap.size, 2, none⟩ = some (.int .i64 y.ver) := by rw [Lib.cell_of_heap hz2]; rfl
  have c3 : W2.cell? ⟨w1.heap.size, 3, none⟩ = some (.slice am y.mems.length cm) := by rw [Lib.cell_of_heap hz2]; rfl
  have c4 : W2.cell? ⟨w1.heap.size, 4, none⟩ = some (.int .i64 y.lo) := by rw [Lib.cell_of_heap hz2]; rfl
  have c5 : W2.cell? ⟨w1.heap.size, 5, none⟩ = some (.int .i64 y.hi) := by rw [Lib.cell_of_heap hz2]; rfl
  have d0 : W2.cell? ⟨w.heap.size, 0, none⟩ = some (.int .i64 0) := by rw [Lib.cell_of_heap hx2]; rfl
  have d1 : W2.cell? ⟨w.heap.size, 1, none⟩ = some (.slice none 0 0) := by rw [Lib.cell_of_heap hx2]; rfl
  have df0 : W2.frozen? ⟨w.heap.size, 0, none⟩ = false := Lib.frozen_of_heap hx2 _
  have df1 : W2.frozen? ⟨w.heap.size, 1, none⟩ = false := Lib.frozen_of_heap hx2 _
  have hn1 : ¬ w1.heap.size = w.heap.size := by omega
  have hn2 : ¬ w.heap.size = w1.heap.size := by omega
  obtain ⟨bx, hbx⟩ : ∃ bx, w1.heap.size = bx := ⟨_, rfl⟩
  obtain ⟨b0, hb0⟩ : ∃ b0, w.heap.size = b0 := ⟨_, rfl⟩
  have HBX := Lib.hid hbx
  have HB00 := Lib.hid hb0
  rw [hbx] at c0 c1 c2 c3 c4 c5 hn1 hn2
  rw [hb0] at d0 d1 df0 df1 hn1 hn2
  simp only [hbx, hb0]
  clear hW2 hz2 hb2 hx2 hbx hb0 hlt
  go_region
  have hz3 := Lib.heap_setCell_same (i := 1) (Lib.heap_setCell_same (i := 0) HX2.out (.int .i64 y.ver)) (.slice am y.mems.length cm)
  rw [HB00.out] at hz3
  have hg3 := (grown_setCell (grown_setCell (grown_refl W2 (some b0)) (g := b0) (o := 0) (.int .i64 y.ver)) (o := 1) (.slice am y.mems.length cm))
  have hlt := HS0.out
  rw [HB00.out] at hlt
  have hF : GetQ w y ec (.returned (.tuple #[.slice an y.nodes.length cn, .slice as' y.sits.length cs', .agg #[.int .i64 y.ver, .slice am y.mems.length cm], .int .i64 y.lo, .int .i64 y.hi, .int .i64 ec])) ((W2.setCell ⟨b0, 0, none⟩ (.int .i64 y.ver)).setCell ⟨b0, 1, none⟩ (.slice am y.mems.length cm)).drew := by
    refine ⟨an, cn, as', cs', am, cm, rfl, ((HO2.out.step hg3 (by omega)).base (by have := HS0.out; omega)).below (belowD _ 1), ?_⟩
    have h1 := HB2.out
    have h2 : RowKit.Below w.heap.size W2 ((W2.setCell ⟨b0, 0, none⟩ (.int .i64 y.ver)).setCell ⟨b0, 1, none⟩ (.slice am y.mems.length cm)) := grown_below hg3 (by rw [HB00.out]; exact Nat.le_refl _) h1.size
    exact h1.trans (h2.trans ⟨rfl, rfl, rfl, Nat.le_refl _, fun _ _ => rfl⟩)
  have HF := Lib.hid hF
  obtain ⟨W3, hW3⟩ : ∃ W3, ((W2.setCell ⟨b0, 0, none⟩ (.int .i64 y.ver)).setCell ⟨b0, 1, none⟩ (.slice am y.mems.length cm)).drew = W3 := ⟨_, rfl⟩
  have hz4 : W3.heap[b0]? = some (.cells #[.int .i64 y.ver, .slice am y.mems.length cm] 27 (0, 0)) := by rw [← hW3]; exact hz3
  have e0 : W3.cell? ⟨b0, 0, none⟩ = some (.int .i64 y.ver) := by rw [Lib.cell_of_heap hz4]; rfl
  have e1 : W3.cell? ⟨b0, 1, none⟩ = some (.slice am y.mems.length cm) := by rw [Lib.cell_of_heap hz4]; rfl
  rw [hW3] at HF ⊢
  clear hW3 hz3 hz4 hg3 hF c0 c1 c2 c3 c4 c5 d0 d1 df0 df1
  go_wp2_with fail
  refine bodyPost_ret (v := .tuple #[.slice an y.nodes.length cn, .slice as' y.sits.length cs', .agg #[.int .i64 y.ver, .slice am y.mems.length cm], .int .i64 y.lo, .int .i64 y.hi, .int .i64 ec]) (by simp [results, Tryd.results19, go_sem, e0, e1]) rfl ?_
  exact HF.out
end Go.Proofs
