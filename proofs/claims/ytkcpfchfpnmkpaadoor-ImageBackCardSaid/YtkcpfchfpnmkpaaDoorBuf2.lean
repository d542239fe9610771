/- Walks: bytes.Buffer.WriteByte where a row stands, with all that is kept; wire.Writer's Int and Bytes on it. -/
import Derived.Test.YtkcpfchfpnmkpaaDoorBuf
import Derived.Test.YtkcpfchfpnmkpaaDoorWk8
namespace Go.Proofs
open Go Go.RowKit Go.Proofs.YtkcpfchfpnmkpaaDoor

namespace YtkcpfchfpnmkpaaDoor
/-- The buffer at b has its bytes in block g. -/
def Row (w : World) (b g : Nat) : Prop := ∃ l cap, w.cell? ⟨b, 0, none⟩ = some (.slice (some ⟨g, 0, none⟩) l cap)
/-- All older blocks but two are kept. -/
def Kept (w w' : World) (b g : Nat) : Prop := w'.os = w.os ∧ w'.tape = w.tape ∧ w'.output = w.output ∧ w.heap.size ≤ w'.heap.size ∧ ∀ k, k < w.heap.size → k ≠ b → k ≠ g → w'.heap[k]? = w.heap[k]?
/-- The writer has put more; its row is the old one, or new; all else is kept. -/
def WRow (w : World) (B b g : Nat) (l : List UInt8) (w' : World) : Prop :=
  WrP w' B b l ∧ Below B w w' ∧ ∃ g', Row w' b g' ∧ (g' = g ∨ w.heap.size ≤ g') ∧ Kept w w' b g
theorem Row.size {w : World} {B b g : Nat} {l : List UInt8} (h : WrP w B b l) (hr : Row w b g) : B ≤ g ∧ g < w.heap.size ∧ g ≠ b := by
  obtain ⟨T, h⟩ := h
  obtain ⟨n, cap, hr⟩ := hr
  obtain ⟨hB, lr, hc⟩ := h.cases
  rcases hc with ⟨_, h3⟩ | ⟨g2, cap2, cur, h3, hBg, hg, _, _, _, _, hgb⟩
  · have := h3.c0; rw [hr] at this; simp at this
  · have := h3.c0; rw [hr] at this; simp at this
    obtain ⟨rfl, _⟩ := this
    exact ⟨hBg, Lib.lt_of_heap hg, hgb⟩
theorem WrP.row {w : World} {B b : Nat} {l : List UInt8} (h : WrP w B b l) (hl : l ≠ []) : ∃ g, Row w b g := by
  obtain ⟨T, h⟩ := h
  obtain ⟨hB, lr, hc⟩ := h.cases
  rcases hc with ⟨hn, h3⟩ | ⟨g2, cap2, cur, h3, _⟩
  · exfalso; apply hl; have := congrArg List.length hn; rw [bv_length] at this; exact List.eq_nil_of_length_eq_zero (by simpa using this)
  · exact ⟨g2, _, _, h3.c0⟩
theorem Kept.trans {w w1 w2 : World} {b g g1 : Nat} (h : Kept w w1 b g) (h1 : Kept w1 w2 b g1) (hg : g1 = g ∨ w.heap.size ≤ g1) : Kept w w2 b g := by
  obtain ⟨a1, a2, a3, a4, a5⟩ := h
  obtain ⟨b1, b2, b3, b4, b5⟩ := h1
  refine ⟨b1.trans a1, b2.trans a2, b3.trans a3, Nat.le_trans a4 b4, fun k hk hkb hkg => ?_⟩
  rw [b5 k (by omega) hkb (by rcases hg with rfl | hg; exact hkg; omega), a5 k hk hkb hkg]
theorem Kept.refl (w : World) (b g : Nat) : Kept w w b g := ⟨rfl, rfl, rfl, Nat.le_refl _, fun _ _ _ _ => rfl⟩
theorem Kept.setB {w w1 : World} {b g o : Nat} (h : Kept w w1 b g) (v : Value) : Kept w (w1.setCell ⟨b, o, none⟩ v) b g := by
  obtain ⟨a1, a2, a3, a4, a5⟩ := h
  exact ⟨a1, a2, a3, by simpa [World.setCell] using a4, fun k hk hkb hkg => (Below.heap_setCell _ _ _ _ hkb).trans (a5 k hk hkb hkg)⟩
theorem Kept.setG {w w1 : World} {b g g1 o : Nat} (h : Kept w w1 b g) (hg : g1 = g ∨ w.heap.size ≤ g1) (v : Value) : Kept w (w1.setCell ⟨g1, o, none⟩ v) b g := by
  obtain ⟨a1, a2, a3, a4, a5⟩ := h
  refine ⟨a1, a2, a3, by simpa [World.setCell] using a4, fun k hk hkb hkg => (Below.heap_setCell _ _ _ _ ?_).trans (a5 k hk hkb hkg)⟩
  rcases hg with rfl | hg
  · exact hkg
  · show k ≠ g1; omega
theorem Kept.grown {w w1 w2 : World} {b g : Nat} (h : Kept w w1 b g) (h1 : w1.grownBy w2 (some b)) : Kept w w2 b g := by
  obtain ⟨a1, a2, a3, a4, a5⟩ := h
  exact ⟨h1.os.trans a1, h1.tape.trans a2, h1.output.trans a3, Nat.le_trans a4 h1.size, fun k hk hkb hkg => (h1.block k (by omega) (by simpa using hkb)).trans (a5 k hk hkb hkg)⟩
theorem Kept.below {w w' : World} {B b g : Nat} (h : Kept w w' b g) (hb : B ≤ b) (hg : B ≤ g) (hB : B ≤ w.heap.size) : Below B w w' := by
  obtain ⟨a1, a2, a3, a4, a5⟩ := h
  exact ⟨a1, a2, a3, a4, fun k hk => a5 k (by omega) (by omega) (by omega)⟩
theorem Cs.kept {w w' : World} {a : Option Addr} {vs : List Value} {b g : Nat} (h : Cs w a vs) (hk : Kept w w' b g) (hne : ∀ ad, a = some ad → ad.block ≠ b ∧ ad.block ≠ g) : Cs w' a vs := by
  intro i v hv
  obtain ⟨k, off, rfl, hc⟩ := h i v hv
  refine ⟨k, off, rfl, ?_⟩
  have hlt := World.block_lt_of_cell? w _ hc
  obtain ⟨h1, h2⟩ := hne _ rfl
  exact (World.cell?_of_block (w := w) (hk.2.2.2.2 k hlt h1 h2)).trans hc
end YtkcpfchfpnmkpaaDoor

set_option maxHeartbeats 6400000 in
set_option maxRecDepth 100000 in
theorem Tryd.bufByteR_calls (B b g : Nat) (l : List UInt8) (x : UInt8) (c : Int) (hc : c = x.toNat) (w : World) (h : WrP w B b l) (hne : l ≠ []) (hr : Row w b g) (hB : B ≤ w.heap.size) (hl : l.length + 1 ≤ 140737488355328) :
    Calls Tryd.prog 52 #[.pointer (some ⟨b, 0, none⟩), .int .u8 c] w fun e w' => e = .returned .nilIface ∧ WRow w B b g (l ++ [x]) w' := by
  obtain ⟨hBg, hgs, hgb⟩ := Row.size h hr
  obtain ⟨T, h⟩ := h
  obtain ⟨n0, cap0, hr⟩ := hr
  obtain ⟨hBb, lr, hcs⟩ := h.cases
  have hl0 : (bv l).length ≠ 0 := by rw [bv_length]; intro e; exact hne (List.eq_nil_of_length_eq_zero e)
  rcases hcs with ⟨hnil, _⟩ | ⟨g2, cap, cur, hbk, _, hg, hnc, hcm, hcsz, htk, _⟩
  · exact absurd (by rw [hnil]; rfl) hl0
  obtain rfl : g2 = g := by have := hbk.c0; rw [hr] at this; simp at this; exact this.1.symm
  have hbv : (bv l).length = l.length := bv_length l
  have hbs := hbk.lt
  rw [hbv] at hl0 hbk hnc htk
  have c2 : w.cell? ⟨b, 2, none⟩ = some (.int .i8 lr) := hbk.c2
  have f2 : w.frozen? ⟨b, 2, none⟩ = false := hbk.f 2
  have hbk1 := hbk.set2 (.int .i8 0)
  have hg1 : (w.setCell ⟨b, 0 + 2, none⟩ (.int .i8 0)).heap[g2]? = some (.cells cur 5 (0, 0)) := (Below.heap_setCell _ _ _ _ hgb).trans hg
  have HK1 := Lib.hid ((Kept.refl w b g2).setB (o := 0 + 2) (.int .i8 0))
  have HC := Lib.hid hc
  have H1C := Lib.hid (oneCell_bv l)
  have HTK := Lib.hid htk
  have HCS := Lib.hid hcsz
  have HCM := Lib.hid hcm
  clear hc htk hcsz h hr hbk hg
  by_cases hroom : 1 ≤ cap - l.length
  · have hcap1 : l.length + 1 ≤ cap := by omega
    go_enter Tryd.func52, Tryd.ntmps52
    go_wp2_with (go_at_call 66; refine (Tryd.Buffer_tryGrow_room_at b 0 _ l.length cap 1 _ hbk1.c0 (hbk1.f 0) hnc HCM.out hroom).mono ?_)
    rintro e W1 ⟨rfl, hW1⟩
    have hbk2 := hbk1.set0 (.slice (some ⟨g2, 0, none⟩) (l.length + 1) cap)
    have hg2 : ((w.setCell ⟨b, 0 + 2, none⟩ (.int .i8 0)).setCell ⟨b, 0, none⟩ (.slice (some ⟨g2, 0, none⟩) (l.length + 1) cap)).heap[g2]? = some (.cells cur 5 (0, 0)) := (Below.heap_setCell _ _ _ _ hgb).trans hg1
    have HK2 := Lib.hid (HK1.out.setB (o := 0) (.slice (some ⟨g2, 0, none⟩) (l.length + 1) cap))
    have hW1' : W1 = (w.setCell ⟨b, 0 + 2, none⟩ (.int .i8 0)).setCell ⟨b, 0, none⟩ (.slice (some ⟨g2, 0, none⟩) (l.length + 1) cap) := hW1
    rw [← hW1'] at hbk2 hg2 HK2
    clear hW1 hW1' hg1 hbk1 HK1 c2 f2
    have d0 : W1.cell? ⟨b, 0, none⟩ = some (.slice (some ⟨g2, 0, none⟩) (l.length + 1) cap) := hbk2.c0
    have hlt : l.length < cur.size := by have := HCS.out; omega
    have dg : W1.cell? ⟨g2, l.length, none⟩ = some cur[l.length] := by rw [Lib.cell_of_heap hg2, Array.getElem?_eq_getElem hlt]
    have fg : W1.frozen? ⟨g2, l.length, none⟩ = false := Lib.frozen_of_heap hg2 _
    have hcm' := hcm
    unfold maxLen at hcm'
    go_wp2
    go_ret
    obtain ⟨r1, r2⟩ := LibA.poke_end (v := .int .u8 c) hBb hbk2 hBg hg2 HCM.out HCS.out hgb hcap1
    rw [HTK.out] at r1
    have hk3 := HK2.out.setG (g1 := g2) (o := l.length) (.inl rfl) (.int .u8 c)
    refine ⟨rfl, ⟨T, ?_⟩, hk3.below hBb hBg hB, g2, ⟨_, _, (hbk2.of_heap (w' := W1.setCell ⟨g2, l.length, none⟩ (.int .u8 c)) (Below.heap_setCell _ _ _ _ (Ne.symm hgb))).c0⟩, .inl rfl, hk3⟩
    rw [bv_append, bv_one, ← HC.out]
    exact r1
  · have hno : cap - l.length < 1 := by omega
    go_enter Tryd.func52, Tryd.ntmps52
    go_wp2_with (go_at_call 66; refine (Tryd.Buffer_tryGrow_none_at b 0 _ l.length cap 1 _ hbk1.c0 hnc HCM.out hno).mono ?_)
    rintro e W1 ⟨rfl, rfl⟩
    go_wp2_with (go_at_call 67; refine (Tryd.grow_row T b g2 l.length cap 1 0 cur (bv l) _ hbk1 hbv hg1 hnc HCM.out HCS.out HTK.out hgb H1C.out (by omega) hno hl hl0).mono ?_)
    rintro e W1 ⟨rfl, N, cap2, cells, hN, hbk2, hg2, hcsz2, htk2, hcap2, hcm2, hgr⟩
    have hNw : w.heap.size ≤ N := by have : (w.setCell ⟨b, 0 + 2, none⟩ (.int .i8 0)).heap.size = w.heap.size := by simp [World.setCell]
                                     omega
    have HK2 := Lib.hid (HK1.out.grown hgr)
    have HTK2 := Lib.hid htk2
    have HCS2 := Lib.hid hcsz2
    have HCM2 := Lib.hid hcm2
    have hlt : l.length < cells.size := by omega
    clear hg1 hbk1 HK1 c2 f2 hgr hN htk2 hcsz2
    have d0 : W1.cell? ⟨b, 0, none⟩ = some (.slice (some ⟨N, 0, none⟩) (l.length + 1) cap2) := hbk2.c0
    have dg : W1.cell? ⟨N, l.length, none⟩ = some cells[l.length] := by rw [Lib.cell_of_heap hg2, Array.getElem?_eq_getElem hlt]
    have fg : W1.frozen? ⟨N, l.length, none⟩ = false := Lib.frozen_of_heap hg2 _
    have hNb : N ≠ b := by omega
    have hcm' := hcm2
    unfold maxLen at hcm'
    go_wp2
    go_ret
    obtain ⟨r1, r2⟩ := LibA.poke_end (v := .int .u8 c) hBb hbk2 (by omega : B ≤ N) hg2 HCM2.out HCS2.out hNb hcap2
    rw [HTK2.out] at r1
    have hk3 := HK2.out.setG (g1 := N) (o := l.length) (.inr hNw) (.int .u8 c)
    refine ⟨rfl, ⟨T, ?_⟩, hk3.below hBb hBg hB, N, ⟨_, _, (hbk2.of_heap (w' := W1.setCell ⟨N, l.length, none⟩ (.int .u8 c)) (Below.heap_setCell _ _ _ _ (Ne.symm hNb))).c0⟩, .inr hNw, hk3⟩
    rw [bv_append, bv_one, ← HC.out]
    exact r1
end Go.Proofs
