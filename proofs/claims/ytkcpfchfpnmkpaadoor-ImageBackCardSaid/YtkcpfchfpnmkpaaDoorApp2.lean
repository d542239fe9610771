/- Slices of members, of sittings, of nodes that a call owns; appends to them. -/
import Derived.Test.YtkcpfchfpnmkpaaDoorApp
import Derived.Test.YtkcpfchfpnmkpaaDoorEns2
namespace Go.Proofs
open Go Go.RowKit Go.Proofs.YtkcpfchfpnmkpaaDoor

namespace YtkcpfchfpnmkpaaDoor
def sgVal (s : Sg) : List Value := [.int .i64 s.session, .int .i64 s.timeout, .int .i64 s.turn]
def ndVal (n : Nd) (d : Value) : List Value := [.string n.path, d, .int .i64 n.czxid, .int .i64 n.mzxid, .int .i64 n.pzxid, .int .i64 n.ctime, .int .i64 n.mtime, .int .i64 n.version, .int .i64 n.cversion, .int .i64 n.owner, .int .i64 n.length, .int .i64 n.children]
theorem cells_new (w : World) (vs : List Value) (t : TypeId) : ∀ j u, vs[j]? = some u → (w.alloc (.cells vs.toArray t)).cell? ((⟨w.heap.size, 0, none⟩ : Addr).add j) = some u := by
  intro j u h
  rw [addr_add, Lib.cell_of_heap (heap_alloc_new w _), Nat.zero_add]
  simpa using h
theorem own_sl {w : World} {B : Nat} {e : TypeId} {size : Nat} {v : Value} {n : Nat} {xs : List Value} (h : w.ownsRow B e size v n xs) : Sl w v n xs := by
  obtain ⟨hx, ⟨rfl, hn⟩ | ⟨g, cap, cur, rfl, hg1, hg2, hg3, hg4, hg5, hg6⟩⟩ := h
  · subst hn
    have : xs = [] := by simpa using hx
    subst this
    exact ⟨none, 0, rfl, by simp, by simp, by simp, by intro i v h; simp at h⟩
  · refine ⟨some ⟨g, 0, none⟩, cap, rfl, hg3, hg4, by simp, ?_⟩
    intro i x hi
    refine ⟨g, 0, rfl, ?_⟩
    rw [← hg6, List.getElem?_take] at hi
    split at hi
    · simp only [World.cell?, hg2]
      simpa using hi
    · simp at hi
def OwnM (w : World) (B : Nat) (v : Value) (l : List Mb) : Prop := w.ownsRow B 78 4 v l.length (l.flatMap mbVal)
theorem OwnM.ms {w : World} {B : Nat} {v : Value} {l : List Mb} (h : OwnM w B v l) : Ms w v l := own_sl h
theorem OwnM.nil (w : World) (B : Nat) : OwnM w B (.slice none 0 0) [] := ⟨rfl, .inl ⟨rfl, rfl⟩⟩
end YtkcpfchfpnmkpaaDoor
theorem Tryd.infoMb : (Tryd.prog.info? 78).map (fun i => (i.zero, i.size, i.bytes)) = some (some (.agg #[.int .i64 0, .int .u8 0, .int .i64 0, .int .i64 0]), 4, 32) := by kernel_rfl

/-- 'append(s, m)' of members, s the call's own. -/
theorem Tryd.append_mb {w : World} {ops : Array Oper} {rest : List Oper} {o : Oper} {a : Act} {Q : Exit → Act → World → Prop} (hgd : o.guard = none) (s x : Operand)
    (ho : o.op = .call { callee := .builtin .append, args := #[s, x], argTypes := #[25, 25] }) (B : Nat) (v : Value) (ad : Addr) (c : Nat) (l : List Mb) (m : Mb) (hs : a.eval s = v) (hx : a.eval x = .slice (some ad) 1 c)
    (h1 : OwnM w B v l) (h2 : ∀ j u, (mbVal m)[j]? = some u → w.cell? (ad.add j) = some u) (hlim : l.length ≤ 1000000) (hB : B ≤ w.heap.size)
    (h : ∀ v' w', OwnM w' B v' (l ++ [m]) → w.grownBy w' v.ownBlock → wpList Tryd.prog ops Q rest (a.put o.dst v') w') : wpList Tryd.prog ops Q (o :: rest) a w := by
  obtain ⟨i0, hi, hz0, hz1, hz2⟩ := info_parts Tryd.infoMb
  refine wpList_append_own w hgd s x 25 ho B 78 i0 _ 4 32 Tryd.underlying25 hi hz0 hz1 hz2 rfl (by decide) v l.length (l.flatMap mbVal) hs h1 ad 1 c (mbVal m) hx rfl h2 ?_ (by unfold maxLen; omega) (by omega) hB ?_
  · intro u hu; simp only [mbVal, List.mem_cons, List.not_mem_nil, or_false] at hu; rcases hu with rfl | rfl | rfl | rfl <;> rfl
  · intro v' w' ho' hg _
    exact h v' w' (by unfold OwnM; rw [List.length_append, List.flatMap_append]; simpa using ho') hg

namespace YtkcpfchfpnmkpaaDoor
theorem grown_below {w w' : World} {g B : Nat} (h : w.grownBy w' (some g)) (hB : B ≤ g) (hs : B ≤ w.heap.size) : Below B w w' :=
  ⟨h.os, h.tape, h.output, h.size, fun k hk => h.block k (by omega) (by simp; omega)⟩
def EnsGetP (w : World) (b : List UInt8) (e : Ending) (w' : World) : Prop :=
  Below w.heap.size w w' ∧ ((ensGet b = none ∧ e = .returned (.tuple #[.agg #[.int .i64 0, .slice none 0 0], .int .i64 4])) ∨
    ∃ ver l v, ensGet b = some (ver, l) ∧ e = .returned (.tuple #[.agg #[.int .i64 ver, v], .int .i64 0]) ∧ OwnM w' w.heap.size v l)
def zEns : Obj := .cells #[.int .i64 0, .slice none 0 0] 27
theorem far_cell {w w' : World} {row : Option Nat} (hg : w.grownBy w' row) (a : Addr) (hlt : a.block < w.heap.size) (hne : some a.block ≠ row) : w'.cell? a = w.cell? a := World.cell?_of_block (hg.block a.block hlt hne)
theorem far_frozen {w w' : World} {row : Option Nat} (hg : w.grownBy w' row) (a : Addr) (hlt : a.block < w.heap.size) (hne : some a.block ≠ row) : w'.frozen? a = w.frozen? a := World.frozen?_of_block (hg.block a.block hlt hne)
/-- What Get keeps beside the reader: the config that is read. -/
def GetE (w W : World) (be : Nat) (ver : Int) (l : List Mb) (v : Value) (wr : World) : Prop :=
  wr.cell? ⟨be, 0, none⟩ = some (.int .i64 ver) ∧ wr.cell? ⟨be, 1, none⟩ = some v ∧ wr.frozen? ⟨be, 1, none⟩ = false ∧ OwnM wr W.heap.size v l ∧ W.heap.size ≤ wr.heap.size ∧ Below (w.heap.size + 1) (w.alloc zEns) wr
theorem GetE.step {w W : World} {be : Nat} {ver : Int} {l : List Mb} {v : Value} {wr wr' : World} {k : Nat} (h : GetE w W be ver l v wr) (hg : wr.grownBy wr' (some k)) (hb : be < W.heap.size) (hw : w.heap.size < k) (hkb : k ≠ be) (hk : k < W.heap.size ∨ v.ownBlock ≠ some k) (hW : w.heap.size < W.heap.size) : GetE w W be ver l v wr' := by
  obtain ⟨h1, h2, h3, h4, h5, h6⟩ := h
  refine ⟨(far_cell hg _ (by show be < _; omega) (by simp; omega)).trans h1, (far_cell hg _ (by show be < _; omega) (by simp; omega)).trans h2, (far_frozen hg _ (by show be < _; omega) (by simp; omega)).trans h3, h4.kept hg (.inr ?_), Nat.le_trans h5 hg.size, h6.trans (grown_below hg hw (by omega))⟩
  rcases hk with hk | hk
  · intro e
    have := (h4.lt k e).1
    omega
  · exact hk
theorem GetE.alloc {w W : World} {be : Nat} {ver : Int} {l : List Mb} {v : Value} {wr : World} (h : GetE w W be ver l v wr) (o : Obj) (hb : be < W.heap.size) (hW : w.heap.size < W.heap.size) : GetE w W be ver l v (wr.alloc o) := by
  have hg := World.grownBy_alloc wr o none
  obtain ⟨h1, h2, h3, h4, h5, h6⟩ := h
  exact ⟨(far_cell hg _ (by show be < _; omega) (by simp)).trans h1, (far_cell hg _ (by show be < _; omega) (by simp)).trans h2, (far_frozen hg _ (by show be < _; omega) (by simp)).trans h3, own_below h4 ((Below.refl _ _).alloc (Nat.le_refl _) _), Nat.le_trans h5 hg.size, h6.alloc (by omega) _⟩
/-- Where Get stands. -/
def GetR (w W : World) (g be : Nat) (ver : Int) (N : Nat) (all : List Mb × Rd) (l : List Mb) (r : Rd) (v : Value) (wr : World) : Prop :=
  l.length ≤ N ∧ all = (l ++ (rdMbs (N - l.length) r).1, (rdMbs (N - l.length) r).2) ∧ RdP wr g r ∧ GetE w W be ver l v wr
/-- A member that is read, cell by cell. -/
def McP (wr : World) (bm : Nat) (a b c d : Int) : Prop := wr.heap[bm]? = some (.cells #[.int .i64 a, .int .u8 b, .int .i64 c, .int .i64 d] 78 (0, 0))
theorem GetE.ne {w W : World} {be : Nat} {ver : Int} {l : List Mb} {v : Value} {wr : World} (h : GetE w W be ver l v wr) {k : Nat} (hk : k < W.heap.size) : some k ≠ v.ownBlock := fun e => by
  have := (h.2.2.2.1.lt k e.symm).1
  omega
theorem GetE.be1 {w W : World} {be : Nat} {ver : Int} {l : List Mb} {v : Value} {wr wr' : World} (h : GetE w W be ver l v wr) (hb : be < W.heap.size) (hg : wr.grownBy wr' v.ownBlock) : wr'.cell? ⟨be, 1, none⟩ = some v ∧ wr'.frozen? ⟨be, 1, none⟩ = false :=
  ⟨(far_cell hg _ (by show be < _; have := h.2.2.2.2.1; omega) (h.ne hb)).trans h.2.1, (far_frozen hg _ (by show be < _; have := h.2.2.2.2.1; omega) (h.ne hb)).trans h.2.2.1⟩
theorem GetE.push {w W : World} {be : Nat} {ver : Int} {l l' : List Mb} {v v' : Value} {wr wr' : World} (h : GetE w W be ver l v wr) (hb : be < W.heap.size) (hw : w.heap.size < be) (ho : OwnM wr' W.heap.size v' l') (hg : wr.grownBy wr' v.ownBlock) : GetE w W be ver l' v' (wr'.setCell ⟨be, 1, none⟩ v') := by
  have hb1 := (h.be1 hb hg).1
  have hf1 := (h.be1 hb hg).2
  have hW := h.2.2.2.2.1
  have hb0 : wr'.cell? ⟨be, 0, none⟩ = some (.int .i64 ver) := (far_cell hg _ (by show be < _; omega) (h.ne hb)).trans h.1
  have hv : v'.ownBlock ≠ some be := fun e => by have := (ho.lt be e).1; omega
  have hbel : Below (w.heap.size + 1) (w.alloc zEns) wr' := h.2.2.2.2.2.trans ⟨hg.os, hg.tape, hg.output, hg.size, fun k hk => hg.block k (by omega) (h.ne (by omega))⟩
  refine ⟨by simp [go_sem, hb0, hb1], World.cell?_setCell_same' _ _ _ (by rw [hb1]; rfl), by rw [World.frozen?_setCell]; exact hf1, ho.kept (Lib.grownBy_setCell _ _ 1 _) (.inr hv), ?_, hbel.setCell (p := ⟨be, 1, none⟩) (by show _ ≤ be; omega) _⟩
  have := hg.size
  simp [World.setCell]; omega
theorem RdP.push {w W : World} {be g : Nat} {ver : Int} {l : List Mb} {v v' : Value} {r : Rd} {wr wr' : World} (hr : RdP wr g r) (h : GetE w W be ver l v wr) (hb : be < W.heap.size) (hgb : g < be) (hg : wr.grownBy wr' v.ownBlock) : RdP (wr'.setCell ⟨be, 1, none⟩ v') g r := by
  refine RdP.keep (k := be) ?_ (Lib.grownBy_setCell _ _ 1 _) hgb
  have hne := fun k e => (h.2.2.2.1.lt k e).1
  cases ho : v.ownBlock with
  | none => rw [ho] at hg; exact hr.below (below_of_grown hg)
  | some k => rw [ho] at hg; exact hr.keep hg (by have := hne k ho; omega)
theorem McP.far {wr wr' : World} {bm : Nat} {a b c d : Int} {k : Nat} (h : McP wr bm a b c d) (hg : wr.grownBy wr' (some k)) (hk : k ≠ bm) : McP wr' bm a b c d := (hg.block bm (Lib.lt_of_heap h) (by simp; omega)).trans h
theorem McP.set1 {wr : World} {bm : Nat} {a b c d : Int} (h : McP wr bm a b c d) (x : Int) : McP (wr.setCell ⟨bm, 1, none⟩ (.int .u8 x)) bm a x c d := Lib.heap_setCell_same (i := 1) h _
theorem McP.set2 {wr : World} {bm : Nat} {a b c d : Int} (h : McP wr bm a b c d) (x : Int) : McP (wr.setCell ⟨bm, 2, none⟩ (.int .i64 x)) bm a b x d := Lib.heap_setCell_same (i := 2) h _
theorem McP.set3 {wr : World} {bm : Nat} {a b c d : Int} (h : McP wr bm a b c d) (x : Int) : McP (wr.setCell ⟨bm, 3, none⟩ (.int .i64 x)) bm a b c x := Lib.heap_setCell_same (i := 3) h _
theorem McP.c {wr : World} {bm : Nat} {a b c d : Int} (h : McP wr bm a b c d) : wr.cell? ⟨bm, 0, none⟩ = some (.int .i64 a) ∧ wr.cell? ⟨bm, 1, none⟩ = some (.int .u8 b) ∧ wr.cell? ⟨bm, 2, none⟩ = some (.int .i64 c) ∧ wr.cell? ⟨bm, 3, none⟩ = some (.int .i64 d) ∧
    (∀ i, wr.frozen? ⟨bm, i, none⟩ = false) := ⟨by rw [Lib.cell_of_heap h]; rfl, by rw [Lib.cell_of_heap h]; rfl, by rw [Lib.cell_of_heap h]; rfl, by rw [Lib.cell_of_heap h]; rfl, fun i => Lib.frozen_of_heap h i⟩
end YtkcpfchfpnmkpaaDoor

set_option maxRecDepth 100000 in
set_option maxHeartbeats 3200000 in
theorem Tryd.ensGet_calls (v : Value) (b : List UInt8) (w : World) (h : Bs w v b) (hl : b.length ≤ 140737488355328) :
    Calls Tryd.prog 77 #[v] w (EnsGetP w b) := by
  have H := Lib.hid h
  obtain ⟨a, c, rfl, -⟩ := h
  go_enter Tryd.func77, Tryd.ntmps77
  go_wp2_with fail
  refine (Tryd.newReader_calls _ b _ (H.out.below ((Below.refl _ _).alloc (Nat.le_refl _) _)) hl).mono ?_
  rintro e w1 ⟨g, rfl, hg, hr, hb⟩
  have hsz := hb.size
  simp at hsz hg
  have hsz1 : w.heap.size ≤ w1.heap.size := by omega
  have HR := Lib.hid hr
  have HB : Hid (Below (w.heap.size + 1) (w.alloc zEns) w1) := hb.mono (by simp)
  have hgs : g < w1.heap.size := by obtain ⟨sv, c0, _⟩ := hr; exact World.block_lt_of_cell? w1 _ c0
  clear hr hb
  go_wp2_with fail
  refine (Tryd.rInt_calls g (some b) w1 HR.out).mono ?_
  rintro e w2 ⟨rfl, hr2, hg2⟩
  have hsz2 := hg2.size
  have HB2 : Hid (Below (w.heap.size + 1) (w.alloc zEns) w2) := HB.out.trans (grown_below hg2 hg hsz)
  obtain ⟨⟨ver, r2⟩, hx⟩ : ∃ x, rdInt (some b) = x := ⟨_, rfl⟩
  rw [hx] at hr2 ⊢
  have HX := Lib.hid hx
  have HR2 := Lib.hid (hr2.below ((Below.refl _ _).alloc (Nat.le_refl _) (.cells #[.int .i64 ver, .slice none 0 0] 27)))
  have HB2a : Hid (Below (w.heap.size + 1) (w.alloc zEns) (w2.alloc (.cells #[.int .i64 ver, .slice none 0 0] 27))) := HB2.out.alloc (by omega) _
  clear hr2 hg2 hx HB2
  go_wp2_with fail
  refine (Tryd.count_calls 7 g r2 _ HR2.out (by omega)).mono ?_
  rintro e w3 ⟨rfl, hr3, hg3⟩
  have hsz3 := hg3.size
  simp at hsz3
  obtain ⟨be, hbe⟩ : ∃ be, w2.heap.size = be := ⟨_, rfl⟩
  have hc0 : w3.cell? ⟨be, 0, none⟩ = some (.int .i64 ver) := (far_cell hg3 ⟨be, 0, none⟩ (by simp; omega) (by simp; omega)).trans (by rw [← hbe]; go_simp)
  have hc1 : w3.cell? ⟨be, 1, none⟩ = some (.slice none 0 0) := (far_cell hg3 ⟨be, 1, none⟩ (by simp; omega) (by simp; omega)).trans (by rw [← hbe]; go_simp)
  have hf1 : w3.frozen? ⟨be, 1, none⟩ = false := (far_frozen hg3 ⟨be, 1, none⟩ (by simp; omega) (by simp; omega)).trans (by rw [← hbe]; go_simp)
  have HB3 := Lib.hid (HB2a.out.trans (grown_below hg3 hg (by simp; omega)))
  obtain ⟨⟨N, r3⟩, hx⟩ : ∃ x, rdCount 7 r2 = x := ⟨_, rfl⟩
  have hN : N ≤ 7 := by have := rdCount_le 7 r2; rw [hx] at this; exact this
  rw [hx] at hr3 ⊢
  have HX3 := Lib.hid hx
  have HG : Hid (GetR w w3 g be ver N (rdMbs N r3) [] r3 (.slice none 0 0) w3) :=
    ⟨Nat.zero_le _, by simp, hr3, hc0, hc1, hf1, OwnM.nil _ _, Nat.le_refl _, HB3.out⟩
  rw [hbe]
  have hbe3 : be < w3.heap.size := by omega
  have hgbe : g < be := by omega
  have hwbe : w.heap.size < be := by omega
  clear hbe hsz3 hsz2 hr3 hg3 hx hc0 hc1 hf1 HB3 HB2a HR2 HB HR
  go_wp2_with fail
  go_loopw [16] (fun i wr => ∃ (l : List Mb) (r : Rd) (v : Value), i = .int .i64 l.length ∧ Hid (GetR w w3 g be ver N (rdMbs N r3) l r v wr)) (fun i _ => 8 - (intOf i).toNat)
  case atStart => exact ⟨[], r3, _, rfl, HG⟩
  case round =>
    obtain ⟨l, r, v, rfl, HR⟩ := hrel
    obtain ⟨k1, k2, k3, k4⟩ := HR.out
    have K2 := Lib.hid k2
    have K3 := Lib.hid k3
    have K4 := Lib.hid k4
    clear k2 k3 HR HG
    by_cases hlN : l.length = N
    · have hc0 := k4.1
      have hc1 := k4.2.1
      have HM := Lib.hid k4.2.2.2.1.ms
      have hz : wr.heap[w.heap.size]? = some zEns := (k4.2.2.2.2.2.block w.heap.size (by omega)).trans (heap_alloc_new w _)
      clear k4
      obtain ⟨a5, c5, rfl, -⟩ := HM.out
      have z0 : wr.cell? ⟨w.heap.size, 0, none⟩ = some (.int .i64 0) := by rw [Lib.cell_of_heap hz]; rfl
      have z1 : wr.cell? ⟨w.heap.size, 1, none⟩ = some (.slice none 0 0) := by rw [Lib.cell_of_heap hz]; rfl
      have zf0 : wr.frozen? ⟨w.heap.size, 0, none⟩ = false := Lib.frozen_of_heap hz _
      have zf1 : wr.frozen? ⟨w.heap.size, 1, none⟩ = false := Lib.frozen_of_heap hz _
      have hwr := K4.out.2.2.2.2.1
      subst hlN
      have HE : Hid (ensGet b = if r = some [] ∧ ensCheck ver l = 0 then some (ver, l) else none) := by
        have h2 := K2.out
        simp only [Nat.sub_self, rdMbs, List.append_nil] at h2
        simp only [Hid, ensGet, HX.out, HX3.out, h2]
      go_wp2_with (go_at_call 78; refine (Tryd.whole_calls g r wr K3.out).mono ?_; rintro e w5 ⟨rfl, rfl⟩)
      · rename_i hr0
        refine (Tryd.ensCheck_calls ver _ l wr HM.out).mono ?_
        rintro e w6 ⟨rfl, hw6⟩
        have hz6 := (hw6.block w.heap.size (by omega)).trans hz
        have y0 : w6.cell? ⟨w.heap.size, 0, none⟩ = some (.int .i64 0) := by rw [Lib.cell_of_heap hz6]; rfl
        have y1 : w6.cell? ⟨w.heap.size, 1, none⟩ = some (.slice none 0 0) := by rw [Lib.cell_of_heap hz6]; rfl
        have yf0 : w6.frozen? ⟨w.heap.size, 0, none⟩ = false := Lib.frozen_of_heap hz6 _
        have yf1 : w6.frozen? ⟨w.heap.size, 1, none⟩ = false := Lib.frozen_of_heap hz6 _
        replace hc0 := (hw6.cell (p := ⟨be, 0, none⟩) (by show be < _; omega)).trans hc0
        replace hc1 := (hw6.cell (p := ⟨be, 1, none⟩) (by show be < _; omega)).trans hc1
        have hsz6 := hw6.size
        have HW6 := Lib.hid hw6
        clear hw6 hz6 z0 z1 zf0 zf1
        go_wp2_with fail
        · rename_i hck
          refine bodyPost_ret (v := .tuple #[.agg #[.int .i64 0, .slice none 0 0], .int .i64 4]) (by simp [results, Tryd.func77, go_sem, y0, y1]) rfl ?_
          have hfin : Below w.heap.size w w6 := (((Below.refl _ w).alloc (Nat.le_refl _) zEns).trans (K4.out.2.2.2.2.2.mono (by omega))).trans (HW6.out.mono (by omega))
          refine ⟨(hfin.setCell (p := ⟨w.heap.size, 0, none⟩) (Nat.le_refl _) _).setCell (p := ⟨w.heap.size, 1, none⟩) (Nat.le_refl _) _, .inl ⟨?_, rfl⟩⟩
          rw [HE.out, if_neg (by simp_all)]
        · rename_i hck
          refine bodyPost_ret (v := .tuple #[.agg #[.int .i64 ver, .slice a5 l.length c5], .int .i64 0]) (by simp [results, Tryd.func77, go_sem, y0, y1]) rfl ?_
          have hfin : Below w.heap.size w w6 := (((Below.refl _ w).alloc (Nat.le_refl _) zEns).trans (K4.out.2.2.2.2.2.mono (by omega))).trans (HW6.out.mono (by omega))
          refine ⟨(hfin.setCell (p := ⟨w.heap.size, 0, none⟩) (Nat.le_refl _) _).setCell (p := ⟨w.heap.size, 1, none⟩) (Nat.le_refl _) _, .inr ⟨ver, l, _, ?_, rfl, ?_⟩⟩
          · rw [HE.out, if_pos (by simp_all)]
          · have hO : OwnM w6 w3.heap.size (.slice a5 l.length c5) l := own_below K4.out.2.2.2.1 HW6.out
            have hne : (Value.slice a5 l.length c5).ownBlock ≠ some w.heap.size := fun e => by have := (hO.lt _ e).1; omega
            exact own_base ((hO.kept (Lib.grownBy_setCell _ _ 0 _) (.inr hne)).kept (Lib.grownBy_setCell _ _ 1 _) (.inr hne)) (by omega)
      · rename_i hr0
        refine bodyPost_ret (v := .tuple #[.agg #[.int .i64 0, .slice none 0 0], .int .i64 4]) (by simp [results, Tryd.func77, go_sem, z0, z1]) rfl ?_
        have hfin : Below w.heap.size w wr := ((Below.refl _ w).alloc (Nat.le_refl _) zEns).trans (K4.out.2.2.2.2.2.mono (by omega))
        refine ⟨(hfin.setCell (p := ⟨w.heap.size, 0, none⟩) (Nat.le_refl _) _).setCell (p := ⟨w.heap.size, 1, none⟩) (Nat.le_refl _) _, .inl ⟨?_, rfl⟩⟩
        rw [HE.out, if_neg (by simp_all)]
    · have hlN' : l.length < N := by omega
      have hlNi : (l.length : Int) < (N : Int) := by omega
      have hwr := k4.2.2.2.2.1
      have hvlt := fun k e => (k4.2.2.2.1.lt k e).2
      have HVLT := Lib.hid hvlt
      clear k4 hvlt
      go_wp2_with fail
      refine (Tryd.count_calls 7 g r wr K3.out (by omega)).mono ?_
      rintro e v1 ⟨rfl, hr1, hg1⟩
      have E1 := K4.out.step hg1 hbe3 (by omega) (by omega) (.inl (by omega)) (by omega)
      have hs1 := hg1.size
      obtain ⟨⟨na, ra⟩, hxa⟩ : ∃ x, rdCount 7 r = x := ⟨_, rfl⟩
      have hna : na ≤ 7 := by have := rdCount_le 7 r; rw [hxa] at this; exact this
      rw [hxa] at hr1 ⊢
      obtain ⟨bm, hbm⟩ : ∃ bm, v1.heap.size = bm := ⟨_, rfl⟩
      have HR1 := Lib.hid (hr1.below ((Below.refl _ _).alloc (Nat.le_refl _) (.cells #[.int .i64 na, .int .u8 0, .int .i64 0, .int .i64 0] 78)))
      have HE1 := Lib.hid (E1.alloc (.cells #[.int .i64 na, .int .u8 0, .int .i64 0, .int .i64 0] 78) hbe3 (by omega))
      have HM1 : Hid (McP (v1.alloc (.cells #[.int .i64 na, .int .u8 0, .int .i64 0, .int .i64 0] 78)) bm na 0 0 0) := by rw [← hbm]; exact heap_alloc_new v1 _
      have HXA := Lib.hid hxa
      clear hr1 hg1 E1 hxa
      go_wp2_with fail
      refine (Tryd.count_calls 2 g ra _ HR1.out (by omega)).mono ?_
      rintro e v2 ⟨rfl, hr2, hg2⟩
      have HE2 := Lib.hid (HE1.out.step hg2 hbe3 (by omega) (by omega) (.inl (by omega)) (by omega))
      have HM2 := Lib.hid (HM1.out.far hg2 (by omega))
      have hs2 := hg2.size
      simp at hs2
      obtain ⟨⟨nb, rb⟩, hxb⟩ : ∃ x, rdCount 2 ra = x := ⟨_, rfl⟩
      have hnb : nb ≤ 2 := by have := rdCount_le 2 ra; rw [hxb] at this; exact this
      have hwrap : IntKind.u8.wrap (nb : Int) = nb := by rw [IntKind.wrap_u8]; omega
      rw [hxb] at hr2 ⊢
      have HR2 := Lib.hid (hr2.keep (Lib.grownBy_setCell v2 bm 1 (.int .u8 nb)) (by omega))
      have HXB := Lib.hid hxb
      have c1 := HM2.out.c.2.1
      have f1 := HM2.out.c.2.2.2.2 1
      have HM2s := Lib.hid (HM2.out.set1 nb)
      have HE2s := Lib.hid (HE2.out.step (Lib.grownBy_setCell v2 bm 1 (.int .u8 nb)) hbe3 (by omega) (by omega) (.inr (fun e => by have := HVLT.out _ e; omega)) (by omega))
      clear hr2 hg2 hxb HR1 HE1 HM1 HM2 HE2
      go_wp2_with fail
      refine (Tryd.count_calls 1000 g rb _ HR2.out (by omega)).mono ?_
      rintro e v3 ⟨rfl, hr3', hg3'⟩
      have HE3 := Lib.hid (HE2s.out.step hg3' hbe3 (by omega) (by omega) (.inl (by omega)) (by omega))
      have HM3 := Lib.hid (HM2s.out.far hg3' (by omega))
      have hs3 := hg3'.size
      simp [World.setCell] at hs3
      obtain ⟨⟨nc, rc⟩, hxc⟩ : ∃ x, rdCount 1000 rb = x := ⟨_, rfl⟩
      rw [hxc] at hr3' ⊢
      have HR3 := Lib.hid hr3'
      have HXC := Lib.hid hxc
      clear hr3' hg3' hxc c1 f1 HR2 HE2s HM2s
      go_wp2_with fail
      refine (Tryd.count_calls 7 g rc _ HR3.out (by omega)).mono ?_
      rintro e v4 ⟨rfl, hr4, hg4⟩
      have HE4 := Lib.hid (HE3.out.step hg4 hbe3 (by omega) (by omega) (.inl (by omega)) (by omega))
      have HM4 := Lib.hid (HM3.out.far hg4 (by omega))
      have hs4 := hg4.size
      obtain ⟨⟨nd, rd⟩, hxd⟩ : ∃ x, rdCount 7 rc = x := ⟨_, rfl⟩
      rw [hxd] at hr4 ⊢
      have HR4 := Lib.hid ((hr4.keep (Lib.grownBy_setCell v4 bm 2 (.int .i64 nc)) (by omega)).keep (Lib.grownBy_setCell _ bm 3 (.int .i64 nd)) (by omega))
      have HXD := Lib.hid hxd
      obtain ⟨c0, c1, c2, c3, cf⟩ := HM4.out.c
      have f2 := cf 2
      have f3 := cf 3
      have hb1 := HE4.out.2.1
      have hbf := HE4.out.2.2.1
      have HM4s := Lib.hid ((HM4.out.set2 nc).set3 nd)
      have HE4s := Lib.hid ((HE4.out.step (Lib.grownBy_setCell v4 bm 2 (.int .i64 nc)) hbe3 (by omega) (by omega) (.inr (fun e => by have := HVLT.out _ e; omega)) (by omega)).step (Lib.grownBy_setCell _ bm 3 (.int .i64 nd)) hbe3 (by omega) (by omega) (.inr (fun e => by have := HVLT.out _ e; omega)) (by omega))
      have hbb : ¬ be = bm := by omega
      have hbb' : ¬ bm = be := by omega
      have hs5 : ((v4.setCell ⟨bm, 2, none⟩ (.int .i64 nc)).setCell ⟨bm, 3, none⟩ (.int .i64 nd)).heap.size = v4.heap.size := by simp [World.setCell]
      obtain ⟨W5, hW5⟩ : ∃ W5, ((v4.setCell ⟨bm, 2, none⟩ (.int .i64 nc)).setCell ⟨bm, 3, none⟩ (.int .i64 nd)).alloc (.cells #[.int .i64 na, .int .u8 nb, .int .i64 nc, .int .i64 nd] 78) = W5 := ⟨_, rfl⟩
      have HCE : Hid (∀ j u, (mbVal ⟨na, nb, nc, nd⟩)[j]? = some u → W5.cell? ((⟨v4.heap.size, 0, none⟩ : Addr).add j) = some u) := by
        rw [← hs5, ← hW5]
        exact cells_new ((v4.setCell ⟨bm, 2, none⟩ (.int .i64 nc)).setCell ⟨bm, 3, none⟩ (.int .i64 nd)) (mbVal ⟨na, nb, nc, nd⟩) 78
      have HE5 := Lib.hid (HE4s.out.alloc (.cells #[.int .i64 na, .int .u8 nb, .int .i64 nc, .int .i64 nd] 78) hbe3 (by omega))
      have HR5 := Lib.hid (HR4.out.below ((Below.refl _ _).alloc (Nat.le_refl _) (.cells #[.int .i64 na, .int .u8 nb, .int .i64 nc, .int .i64 nd] 78)))
      rw [hW5] at HE5 HR5
      have HW5 := Lib.hid hW5
      have hsz5 : w3.heap.size ≤ W5.heap.size := HE5.out.2.2.2.2.1
      have hl1 : l.length ≤ 1000000 := by omega
      clear hr4 hg4 hxd cf HE4 HM4 HE3 HM3 HR3 hW5 HR4 HM4s HE4s
      go_wp2_with (at_builtin; rw [HW5.out]; refine Tryd.append_mb rfl _ _ rfl w3.heap.size v ⟨v4.heap.size, 0, none⟩ 1 l ⟨na, nb, nc, nd⟩ rfl rfl HE5.out.2.2.2.1 HCE.out hl1 hsz5 ?_; intro v' w6 ho hg6; obtain ⟨a6, c6, rfl, -⟩ := ho.ms; have HO6 := Lib.hid ho; have HG6 := Lib.hid hg6; obtain ⟨q1, q2⟩ := HE5.out.be1 hbe3 hg6; clear ho hg6 hb1 hbf)
      refine ⟨⟨l ++ [⟨na, nb, nc, nd⟩], rd, .slice a6 (l.length + 1) c6, by simp, ?_, ?_, ?_, ?_⟩, by simp [intOf]; omega⟩
      · simp; omega
      · have hm : rdMb r = (⟨na, nb, nc, nd⟩, rd) := by simp [rdMb, HXA.out, HXB.out, HXC.out, HXD.out]
        have h2 := K2.out
        rw [h2, show N - l.length = (N - (l.length + 1)) + 1 by omega]
        simp [rdMbs, hm]
      · have := RdP.push (v' := .slice a6 (l ++ [(⟨na, nb, nc, nd⟩ : Mb)]).length c6) HR5.out HE5.out hbe3 hgbe HG6.out
        simpa using this
      · have := GetE.push HE5.out hbe3 hwbe HO6.out HG6.out
        simpa using this
end Go.Proofs
