/- Walks: the law's own functions: copies of nodes. -/
import Derived.Test.YtkcpfchfpnmkpaaDoorEq4
namespace Go.Proofs
open Go Go.RowKit Go.Sort Go.Proofs.YtkcpfchfpnmkpaaDoor

namespace YtkcpfchfpnmkpaaDoor
theorem nd_one (p : ByteArray) (a : Option Addr) (n c : Nat) (a0 a1 a2 a3 a4 a5 a6 a7 a8 a9 : Int) : (#[.string p, .slice a n c, .int .i64 a0, .int .i64 a1, .int .i64 a2, .int .i64 a3, .int .i64 a4, .int .i64 a5, .int .i64 a6, .int .i64 a7, .int .i64 a8, .int .i64 a9] : Array Value).all (·.oneCell') = true := by simp [Value.oneCell']
def zNd : Obj := ndBox ⟨#[]⟩ (.slice none 0 0)
end YtkcpfchfpnmkpaaDoor

set_option maxRecDepth 100000 in
set_option maxHeartbeats 1600000 in
theorem Tryd.copyNode_calls (x : Nd) (d : Value) (w : World) (h : Bs w d x.data) (hl : x.data.length ≤ 140737488355328) :
    Calls Tryd.prog 20 #[.agg (ndVal x d).toArray] w (CopyNdP w x) := by
  have H := Lib.hid h
  obtain ⟨a, c, rfl, -⟩ := h
  simp only [ndVal]
  obtain ⟨W0, hW0⟩ : ∃ W0, (w.alloc (.cells #[.string x.path, .slice a x.data.length c, .int .i64 x.czxid, .int .i64 x.mzxid, .int .i64 x.pzxid, .int .i64 x.ctime, .int .i64 x.mtime, .int .i64 x.version, .int .i64 x.cversion, .int .i64 x.owner, .int .i64 x.length, .int .i64 x.children] 42)).alloc zNd = W0 := ⟨_, rfl⟩
  have hb0 : RowKit.Below w.heap.size w W0 := by rw [← hW0]; exact ((Below.refl _ _).alloc (Nat.le_refl _) _).alloc (by simp) _
  have hz1 : W0.heap[w.heap.size]? = some (.cells #[.string x.path, .slice a x.data.length c, .int .i64 x.czxid, .int .i64 x.mzxid, .int .i64 x.pzxid, .int .i64 x.ctime, .int .i64 x.mtime, .int .i64 x.version, .int .i64 x.cversion, .int .i64 x.owner, .int .i64 x.length, .int .i64 x.children] 42 (0, 0)) := by
    rw [← hW0]; exact (Below.heap_alloc _ _ _ (by simp)).trans (heap_alloc_new w _)
  have hz2 : W0.heap[w.heap.size + 1]? = some (ndBoxF ⟨#[]⟩ (.slice none 0 0)) := by
    have := heap_alloc_new (w.alloc (.cells #[.string x.path, .slice a x.data.length c, .int .i64 x.czxid, .int .i64 x.mzxid, .int .i64 x.pzxid, .int .i64 x.ctime, .int .i64 x.mtime, .int .i64 x.version, .int .i64 x.cversion, .int .i64 x.owner, .int .i64 x.length, .int .i64 x.children] 42)) zNd
    rw [hW0, show (w.alloc (.cells #[.string x.path, .slice a x.data.length c, .int .i64 x.czxid, .int .i64 x.mzxid, .int .i64 x.pzxid, .int .i64 x.ctime, .int .i64 x.mtime, .int .i64 x.version, .int .i64 x.cversion, .int .i64 x.owner, .int .i64 x.length, .int .i64 x.children] 42)).heap.size = w.heap.size + 1 by simp] at this
    exact this
  have HW0 := Lib.hid hW0
  have HB0 := Lib.hid hb0
  have HZ1 := Lib.hid hz1
  have HZ2 := Lib.hid hz2
  have hs0 : w.heap.size + 2 ≤ W0.heap.size := by have := Lib.lt_of_heap hz2; omega
  have hwx : w.heap.size < W0.heap.size := by omega
  clear hW0 hb0 hz1 hz2
  go_enter Tryd.func20, Tryd.ntmps20
  go_wp2_with fail
  have hgw := HW0.out
  unfold zNd ndBox at hgw
  rw [hgw]
  clear hgw
  refine (Tryd.copyBytes_calls _ x.data W0 (H.out.below HB0.out) hl).mono ?_
  rintro e w1 ⟨v, rfl, ho, hb1⟩
  have hd := ho.data
  have y1 := (hb1.block w.heap.size (by omega)).trans HZ1.out
  have y2 := (hb1.block (w.heap.size + 1) (by omega)).trans HZ2.out
  have HB1 := Lib.hid (HB0.out.trans (hb1.mono (by omega)))
  have hs1 : W0.heap.size ≤ w1.heap.size := hb1.size
  obtain ⟨av, cv, rfl, -⟩ := ho.bs
  have c1 : w1.cell? ⟨w.heap.size, 1, none⟩ = some (.slice a x.data.length c) := by rw [Lib.cell_of_heap y1]; rfl
  have cf : w1.frozen? ⟨w.heap.size, 1, none⟩ = false := Lib.frozen_of_heap y1 _
  obtain ⟨W2, hW2⟩ : ∃ W2, w1.setCell ⟨w.heap.size, 1, none⟩ (.slice av x.data.length cv) = W2 := ⟨_, rfl⟩
  have hg2 : w1.grownBy W2 (some w.heap.size) := by rw [← hW2]; exact Lib.grownBy_setCell _ _ _ _
  have u1 : W2.heap[w.heap.size]? = some (.cells #[.string x.path, .slice av x.data.length cv, .int .i64 x.czxid, .int .i64 x.mzxid, .int .i64 x.pzxid, .int .i64 x.ctime, .int .i64 x.mtime, .int .i64 x.version, .int .i64 x.cversion, .int .i64 x.owner, .int .i64 x.length, .int .i64 x.children] 42 (0, 0)) := by
    rw [← hW2, Lib.heap_setCell_same (i := 1) y1]
    simp
  have u2 := (hg2.block (w.heap.size + 1) (Lib.lt_of_heap y2) (by simp)).trans y2
  obtain ⟨W3, hW3⟩ : ∃ W3, W2.setRow (w.heap.size + 1) #[.string x.path, .slice av x.data.length cv, .int .i64 x.czxid, .int .i64 x.mzxid, .int .i64 x.pzxid, .int .i64 x.ctime, .int .i64 x.mtime, .int .i64 x.version, .int .i64 x.cversion, .int .i64 x.owner, .int .i64 x.length, .int .i64 x.children] = W3 := ⟨_, rfl⟩
  have hg3 : W2.grownBy W3 (some (w.heap.size + 1)) := by rw [← hW3]; exact grown_setRow _ _ _
  have hz3 : W3.heap[w.heap.size + 1]? = some (.cells #[.string x.path, .slice av x.data.length cv, .int .i64 x.czxid, .int .i64 x.mzxid, .int .i64 x.pzxid, .int .i64 x.ctime, .int .i64 x.mtime, .int .i64 x.version, .int .i64 x.cversion, .int .i64 x.owner, .int .i64 x.length, .int .i64 x.children] 42 (0, 0)) := by rw [← hW3]; exact setRow_heap _ _ _ _ _ _ u2
  have hs2 := hg2.size
  have hs3 := hg3.size
  have HF : Hid (CopyNdP w x (.returned (.agg #[.string x.path, .slice av x.data.length cv, .int .i64 x.czxid, .int .i64 x.mzxid, .int .i64 x.pzxid, .int .i64 x.ctime, .int .i64 x.mtime, .int .i64 x.version, .int .i64 x.cversion, .int .i64 x.owner, .int .i64 x.length, .int .i64 x.children])) W3) :=
    ⟨_, rfl, (((hd.keep hg2 (Away.out (.inl hwx))).keep hg3 (Away.out (.inl (by omega)))).mono (by omega)).base (by omega), HB1.out.trans ((grown_below hg2 (Nat.le_refl _) (by omega)).trans (grown_below hg3 (by omega) (by omega)))⟩
  have HW2 := Lib.hid hW2
  have HW3 := Lib.hid hW3
  have HU1 := Lib.hid u1
  have HU2 := Lib.hid u2
  have HZ3 := Lib.hid hz3
  clear ho hb1 hd y1 y2 hW2 hg2 u1 u2 hW3 hg3 hz3 hs2 hs3
  go_wp2_with (first | ((with_reducible show wpList _ _ _ (⟨some 7, Op.load 42 (.tmp 1), _, _, _, _⟩ :: _) _ _); rw [HW2.out]; refine wpList_load_row rfl 42 _ rfl w.heap.size rfl 42 _ (0, 0) _ HU1.out Tryd.underlying42 rfl infoNode ?_) | ((with_reducible show wpList _ _ _ (⟨none, Op.store 42 (.tmp 2) (.tmp 7), _, _, _, _⟩ :: _) _ _); refine wpList_store_row rfl 42 _ _ rfl (w.heap.size + 1) #[.string x.path, .slice av x.data.length cv, .int .i64 x.czxid, .int .i64 x.mzxid, .int .i64 x.pzxid, .int .i64 x.ctime, .int .i64 x.mtime, .int .i64 x.version, .int .i64 x.cversion, .int .i64 x.owner, .int .i64 x.length, .int .i64 x.children] rfl rfl 42 _ HU2.out infoNode rfl (nd_one _ _ _ _ _ _ _ _ _ _ _ _ _ _) ?_; rw [HW3.out]))
  refine bodyPost_ret (v := .agg #[.string x.path, .slice av x.data.length cv, .int .i64 x.czxid, .int .i64 x.mzxid, .int .i64 x.pzxid, .int .i64 x.ctime, .int .i64 x.mtime, .int .i64 x.version, .int .i64 x.cversion, .int .i64 x.owner, .int .i64 x.length, .int .i64 x.children]) (results_cell_row rfl _ _ (w.heap.size + 1) 42 _ (0, 0) _ rfl HZ3.out Tryd.underlying42 rfl infoNode) rfl ?_
  exact HF.out

namespace YtkcpfchfpnmkpaaDoor
def CopyNdsP (w : World) (l : List Nd) (e : Ending) (w' : World) : Prop := ∃ v, e = .returned v ∧ NdsO w' w.heap.size w'.heap.size v l ∧ Below w.heap.size w w'
end YtkcpfchfpnmkpaaDoor

set_option maxRecDepth 100000 in
set_option maxHeartbeats 3200000 in
theorem Tryd.copyNodes_calls (v : Value) (l : List Nd) (w : World) (h : Nds w v l) (hl : ∀ x ∈ l, x.data.length ≤ 140737488355328) (hn : l.length ≤ 1000000) :
    Calls Tryd.prog 9 #[v] w (CopyNdsP w l) := by
  obtain ⟨ds, hds, ⟨a, c, rfl, h1, h2, h3, h4⟩, hdd⟩ := h
  unfold maxLen at h2
  have HL := Lib.hid hl
  have H4 := Lib.hid h4
  have HD := Lib.hid hdd
  have HS := Lib.hid hds
  clear hl h4 hdd hds h3
  go_enter Tryd.func9, Tryd.ntmps9
  go_wp2_with fail
  go_loopw [3, 4] (fun vv i wr => ∃ k : Nat, k ≤ l.length ∧ i = .int .i64 k ∧ Hid (NdsO wr w.heap.size wr.heap.size vv (l.take k)) ∧ Hid (RowKit.Below w.heap.size w wr)) (fun _ i _ => l.length - (intOf i).toNat)
  case atStart => exact ⟨0, by omega, rfl, NdsO.nil _ _ _, Below.refl _ _⟩
  case round =>
    obtain ⟨k, hk, rfl, HN, HB⟩ := hrel
    have hlen : (l.take k).length = k := by rw [List.length_take]; omega
    obtain ⟨_, _, ⟨an, cn, evv, -⟩, -⟩ := HN.out.nds
    rw [hlen] at evv
    subst evv
    clear hlen
    have hsw := HB.out.size
    by_cases hlt : k < l.length
    · have b1k : (k : Int) < (l.length : Int) := by omega
      obtain ⟨x, hx⟩ := get_some l k hlt
      obtain ⟨b, o, d, rfl, hd, at1⟩ := ndAt (H4.out.below HB.out) HS.out hx
      have hbd := (HD.out _ _ _ hx hd).below HB.out
      have HBD := Lib.hid hbd
      obtain ⟨ad, cd, rfl, -⟩ := hbd
      have hxl : x.data.length ≤ 140737488355328 := HL.out x (List.mem_of_getElem? hx)
      have g0 := at1.c0
      have g1 := at1.c1
      have g2 := at1.c2
      have g3 := at1.c3
      have g4 := at1.c4
      have g5 := at1.c5
      have g6 := at1.c6
      have g7 := at1.c7
      have g8 := at1.c8
      have g9 := at1.c9
      have g10 := at1.c10
      have g11 := at1.c11
      have HX := Lib.hid hx
      clear at1 hx hd
      go_wp2_with fail
      have hcc := Tryd.copyNode_calls x (.slice ad x.data.length cd) _ HBD.out hxl
      simp only [ndVal] at hcc
      refine hcc.mono ?_
      clear hcc
      rintro e w1 ⟨d2, rfl, hd2, hb1⟩
      have hnd1 := (HN.out.keep (grown_of_below hb1) Away.no Away.no).mono hb1.size
      have hs1 := hb1.size
      obtain ⟨ad2, cd2, rfl, -⟩ := hd2.1
      obtain ⟨W2, hW2⟩ : ∃ W2, (w1.alloc (.cells #[.string x.path, .slice ad2 x.data.length cd2, .int .i64 x.czxid, .int .i64 x.mzxid, .int .i64 x.pzxid, .int .i64 x.ctime, .int .i64 x.mtime, .int .i64 x.version, .int .i64 x.cversion, .int .i64 x.owner, .int .i64 x.length, .int .i64 x.children] 42)) = W2 := ⟨_, rfl⟩
      have hb2 : RowKit.Below w1.heap.size w1 W2 := by rw [← hW2]; exact (Below.refl _ _).alloc (Nat.le_refl _) _
      have hs2 := hb2.size
      have hz2 : W2.heap[w1.heap.size]? = some (.cells #[.string x.path, .slice ad2 x.data.length cd2, .int .i64 x.czxid, .int .i64 x.mzxid, .int .i64 x.pzxid, .int .i64 x.ctime, .int .i64 x.mtime, .int .i64 x.version, .int .i64 x.cversion, .int .i64 x.owner, .int .i64 x.length, .int .i64 x.children] 42 (0, 0)) := by rw [← hW2]; exact heap_alloc_new w1 _
      obtain ⟨W3, hW3⟩ : ∃ W3, W2.alloc (.cells #[.string x.path, .slice ad2 x.data.length cd2, .int .i64 x.czxid, .int .i64 x.mzxid, .int .i64 x.pzxid, .int .i64 x.ctime, .int .i64 x.mtime, .int .i64 x.version, .int .i64 x.cversion, .int .i64 x.owner, .int .i64 x.length, .int .i64 x.children] 42) = W3 := ⟨_, rfl⟩
      have hb3 : RowKit.Below W2.heap.size W2 W3 := by rw [← hW3]; exact (Below.refl _ _).alloc (Nat.le_refl _) _
      have hs3 := hb3.size
      have HCE : Hid (∀ j u, (ndVal x (.slice ad2 x.data.length cd2))[j]? = some u → W3.cell? ((⟨W2.heap.size, 0, none⟩ : Addr).add j) = some u) := by
        rw [← hW3]; exact cells_new W2 (ndVal x (.slice ad2 x.data.length cd2)) 42
      have HN3 := Lib.hid (((hnd1.keep (grown_of_below hb2) Away.no Away.no).keep (grown_of_below hb3) Away.no Away.no).mono (show w1.heap.size ≤ W3.heap.size by omega))
      have HD3 := Lib.hid ((((hd2.keep (grown_of_below hb2) Away.no).keep (grown_of_below hb3) Away.no).mono (show w1.heap.size ≤ W3.heap.size by omega)).base (show w.heap.size ≤ _ from hsw))
      have HB3 := Lib.hid (((HB.out.trans (hb1.mono hsw)).trans (hb2.mono (by omega))).trans (hb3.mono (by omega)))
      have HW2 := Lib.hid hW2
      have HW3 := Lib.hid hW3
      have HZ2 := Lib.hid hz2
      rw [show (ndVal x (.slice ad2 x.data.length cd2)).toArray = #[.string x.path, .slice ad2 x.data.length cd2, .int .i64 x.czxid, .int .i64 x.mzxid, .int .i64 x.pzxid, .int .i64 x.ctime, .int .i64 x.mtime, .int .i64 x.version, .int .i64 x.cversion, .int .i64 x.owner, .int .i64 x.length, .int .i64 x.children] from rfl]
      have hlk : (l.take k).length ≤ 1000000 := by rw [List.length_take]; omega
      have hsB : w.heap.size ≤ W3.heap.size := by omega
      clear hb1 hnd1 hd2 hW2 hW3 hz2 hb2 hb3 g0 g1 g2 g3 g4 g5 g6 g7 g8 g9 g10 g11
      go_wp2_with (first | ((with_reducible show wpList _ _ _ (⟨some 18, Op.load 42 (.tmp 5), _, _, _, _⟩ :: _) _ _); rw [HW2.out]; refine wpList_load_row rfl 42 _ rfl w1.heap.size rfl 42 _ (0, 0) _ HZ2.out Tryd.underlying42 rfl infoNode ?_) | (at_builtin; rw [HW3.out]; refine Tryd.append_nd rfl _ _ rfl w.heap.size W3.heap.size (.slice an k cn) ⟨W2.heap.size, 0, none⟩ 1 (l.take k) x (.slice ad2 x.data.length cd2) rfl rfl HN3.out HD3.out HCE.out hlk hsB (Nat.le_refl _) ?_; intro v' w7 hn7 hg7 ht7; have HN7 := Lib.hid hn7; have HB7 := Lib.hid (HB3.out.trans (show RowKit.Below w.heap.size W3 w7 from ⟨hg7.os, hg7.tape, hg7.output, hg7.size, fun k hk => hg7.block k (by omega) (fun e => by have := (ht7 k e.symm).1; omega)⟩)); have hlen7 : (l.take k ++ [x]).length = k + 1 := (by rw [List.length_append, List.length_take]; simp; omega); obtain ⟨_, _, ⟨a9, c9, e9, -⟩, -⟩ := hn7.nds; rw [hlen7] at e9; subst e9; clear hn7 hg7 ht7 hlen7))
      refine ⟨⟨k + 1, by omega, by go_num, ?_, HB7.out⟩, by simp [intOf]; omega⟩
      show NdsO _ _ _ _ _
      rw [take_snoc HX.out]
      exact HN7.out
    · go_wp2_with fail
      go_ret
      have hke : k = l.length := by omega
      subst hke
      have := HN.out
      rw [List.take_length] at this
      exact ⟨.slice an l.length cn, by simp, this, HB.out⟩
end Go.Proofs
