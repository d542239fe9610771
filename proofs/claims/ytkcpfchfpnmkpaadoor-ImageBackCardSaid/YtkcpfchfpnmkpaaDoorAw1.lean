/- Walks: the law's own functions: config, small. -/
import Derived.Test.YtkcpfchfpnmkpaaDoorEq5
import Derived.Lib.SlBytesConst
namespace Go.Proofs
open Go Go.RowKit Go.Sort Go.Proofs.YtkcpfchfpnmkpaaDoor

namespace YtkcpfchfpnmkpaaDoor
def oneMb : List Mb := [⟨1, 1, 1, 0⟩]
def ConfigP (w : World) (e : Ending) (w' : World) : Prop := ∃ am cm, e = .returned (.agg #[.int .i64 0, .slice am 1 cm]) ∧ RowO w' w.heap.size w'.heap.size 78 4 (.slice am 1 cm) 1 (oneMb.flatMap mbVal) ∧ Below w.heap.size w w'
end YtkcpfchfpnmkpaaDoor

set_option maxRecDepth 100000 in
set_option maxHeartbeats 800000 in
theorem Tryd.config_calls (w : World) : Calls Tryd.prog 15 #[] w (ConfigP w) := by
  go_enter Tryd.func15, Tryd.ntmps15
  go_wp2_with fail
  refine bodyPost_ret (v := .agg #[.int .i64 0, .slice (some ⟨w.heap.size + 1, 0, none⟩) 1 1]) (by simp [results, Tryd.results15, go_sem]) rfl ?_
  refine ⟨_, _, rfl, ?_, ((Below.refl _ _).alloc (Nat.le_refl _) _).alloc (by simp) _⟩
  have h := (ownNew (w.alloc (.cells #[.int .i64 0, .slice (some ⟨w.heap.size + 1, 0, none⟩) 1 1] 27)) (oneMb.flatMap mbVal) 78 4 1 (by rfl) (by decide))
  rw [show (w.alloc (.cells #[.int .i64 0, .slice (some ⟨w.heap.size + 1, 0, none⟩) 1 1] 27)).heap.size = w.heap.size + 1 by simp] at h
  exact ⟨own_base h (by omega), fun k hk => (h.lt k hk).2⟩

namespace YtkcpfchfpnmkpaaDoor
def rootNd : Nd := ⟨⟨#[47]⟩, [], 0, 0, 0, 0, 0, 0, 0, 0, 0, 0⟩
def aNd : Nd := ⟨⟨#[47, 97]⟩, [120, 121], 3, 0, 0, 0, 0, 2, 0, 0, 2, 0⟩
def smallIm : Im := ⟨[rootNd, aNd], [⟨4, 10, 1⟩], 0, oneMb, 2, 5⟩
/-- An image that the call has made. -/
def NewIm (w : World) (x : Im) (e : Ending) (w' : World) : Prop :=
  ∃ an cn as' cs' am cm, e = .returned (.agg #[.slice an x.nodes.length cn, .slice as' x.sits.length cs', .int .i64 x.ver, .slice am x.mems.length cm, .int .i64 x.lo, .int .i64 x.hi]) ∧ ImV w' (.slice an x.nodes.length cn) (.slice as' x.sits.length cs') (.slice am x.mems.length cm) x ∧ Below w.heap.size w w'
theorem Bs.at_block {w : World} {k : Nat} {l : List UInt8} {t : TypeId} {fr : Nat × Nat} (h : w.heap[k]? = some (.cells (bv l).toArray t fr)) (hl : l.length ≤ maxLen) : Bs w (.slice (some ⟨k, 0, none⟩) l.length l.length) l :=
  ⟨_, _, rfl, Nat.le_refl _, hl, by simp, fun i v hv => ⟨k, 0, rfl, by rw [Nat.zero_add, Lib.cell_of_heap h]; simpa using hv⟩⟩
theorem Sl.at_block {w : World} {k n : Nat} {vs : List Value} {t : TypeId} {fr : Nat × Nat} (h : w.heap[k]? = some (.cells vs.toArray t fr)) (hl : n ≤ maxLen) : Sl w (.slice (some ⟨k, 0, none⟩) n n) n vs :=
  ⟨_, _, rfl, Nat.le_refl _, hl, by simp, fun i v hv => ⟨k, 0, rfl, by rw [Nat.zero_add, Lib.cell_of_heap h]; simpa using hv⟩⟩
end YtkcpfchfpnmkpaaDoor
theorem Tryd.conv_const (w : World) (g : Nat) (hg : g = w.heap.size) : (convert 30 30 (.slice (some ⟨g, 0, none⟩) 2 2)).run Tryd.prog (w.alloc (.cells #[.int .u8 120, .int .u8 121] 5)) = .ok (.slice (some ⟨g, 0, none⟩) 2 2) (w.alloc (.cells #[.int .u8 120, .int .u8 121] 5 (2, 3))) := by
  subst hg; exact Lib.run_convert_bytes_const w 30 5 #[.int .u8 120, .int .u8 121] 2 2 Tryd.underlying30 Tryd.underlying5

set_option maxRecDepth 100000 in
set_option maxHeartbeats 1600000 in
theorem Tryd.small_calls (w : World) : Calls Tryd.prog 16 #[] w (NewIm w smallIm) := by
  have hcv := Tryd.conv_const (w.alloc (.cells #[.slice none 0 0, .slice none 0 0, .int .i64 0, .slice none 0 0, .int .i64 0, .int .i64 0] 29)) (w.heap.size + 1) (by simp)
  obtain ⟨m, hm⟩ : ∃ m, w.heap.size = m := ⟨_, rfl⟩
  obtain ⟨W1, hW1⟩ : ∃ W1, w.alloc (.cells #[.slice none 0 0, .slice none 0 0, .int .i64 0, .slice none 0 0, .int .i64 0, .int .i64 0] 29) = W1 := ⟨_, rfl⟩
  obtain ⟨W2, hW2⟩ : ∃ W2, W1.alloc (.cells #[.int .u8 120, .int .u8 121] 5 (2, 3)) = W2 := ⟨_, rfl⟩
  obtain ⟨W3, hW3⟩ : ∃ W3, W2.alloc (.cells #[.string ⟨#[47]⟩, .slice none 0 0, .int .i64 0, .int .i64 0, .int .i64 0, .int .i64 0, .int .i64 0, .int .i64 0, .int .i64 0, .int .i64 0, .int .i64 0, .int .i64 0, .string ⟨#[47, 97]⟩, .slice (some ⟨w.heap.size + 1, 0, none⟩) 2 2, .int .i64 3, .int .i64 0, .int .i64 0, .int .i64 0, .int .i64 0, .int .i64 2, .int .i64 0, .int .i64 0, .int .i64 2, .int .i64 0] 42) = W3 := ⟨_, rfl⟩
  obtain ⟨W4, hW4⟩ : ∃ W4, W3.alloc (.cells #[.int .i64 4, .int .i64 10, .int .i64 1] 51) = W4 := ⟨_, rfl⟩
  have s1 : W1.heap.size = m + 1 := by rw [← hW1]; simp [hm]
  have s2 : W2.heap.size = m + 2 := by rw [← hW2]; simp [s1]
  have s3 : W3.heap.size = m + 3 := by rw [← hW3]; simp [s2]
  have s4 : W4.heap.size = m + 4 := by rw [← hW4]; simp [s3]
  have b1 : RowKit.Below m w W1 := by rw [← hW1]; exact (Below.refl _ _).alloc (by omega) _
  have b2 : RowKit.Below (m + 1) W1 W2 := by rw [← hW2]; exact (Below.refl _ _).alloc (by omega) _
  have b3 : RowKit.Below (m + 2) W2 W3 := by rw [← hW3]; exact (Below.refl _ _).alloc (by omega) _
  have b4 : RowKit.Below (m + 3) W3 W4 := by rw [← hW4]; exact (Below.refl _ _).alloc (by omega) _
  have k1 : W4.heap[m]? = some (.cells #[.slice none 0 0, .slice none 0 0, .int .i64 0, .slice none 0 0, .int .i64 0, .int .i64 0] 29 (0, 0)) := by
    rw [b4.block m (by omega), b3.block m (by omega), b2.block m (by omega), ← hW1, ← hm]; exact heap_alloc_new w _
  have k2 : W4.heap[m + 1]? = some (.cells #[.int .u8 120, .int .u8 121] 5 (2, 3)) := by
    rw [b4.block (m + 1) (by omega), b3.block (m + 1) (by omega), ← hW2, ← s1]; exact heap_alloc_new W1 _
  have k3 : W4.heap[m + 2]? = some (.cells #[.string ⟨#[47]⟩, .slice none 0 0, .int .i64 0, .int .i64 0, .int .i64 0, .int .i64 0, .int .i64 0, .int .i64 0, .int .i64 0, .int .i64 0, .int .i64 0, .int .i64 0, .string ⟨#[47, 97]⟩, .slice (some ⟨m + 1, 0, none⟩) 2 2, .int .i64 3, .int .i64 0, .int .i64 0, .int .i64 0, .int .i64 0, .int .i64 2, .int .i64 0, .int .i64 0, .int .i64 2, .int .i64 0] 42 (0, 0)) := by
    rw [b4.block (m + 2) (by omega), ← hW3, ← s2, hm]; exact heap_alloc_new W2 _
  have k4 : W4.heap[m + 3]? = some (.cells #[.int .i64 4, .int .i64 10, .int .i64 1] 51 (0, 0)) := by
    rw [← hW4, ← s3]; exact heap_alloc_new W3 _
  have bb : RowKit.Below m w W4 := b1.trans ((b2.mono (by omega)).trans ((b3.mono (by omega)).trans (b4.mono (by omega))))
  have HCH : Hid ((((w.alloc (.cells #[.slice none 0 0, .slice none 0 0, .int .i64 0, .slice none 0 0, .int .i64 0, .int .i64 0] 29)).alloc (.cells #[.int .u8 120, .int .u8 121] 5 (2, 3))).alloc (.cells #[.string ⟨#[47]⟩, .slice none 0 0, .int .i64 0, .int .i64 0, .int .i64 0, .int .i64 0, .int .i64 0, .int .i64 0, .int .i64 0, .int .i64 0, .int .i64 0, .int .i64 0, .string ⟨#[47, 97]⟩, .slice (some ⟨w.heap.size + 1, 0, none⟩) 2 2, .int .i64 3, .int .i64 0, .int .i64 0, .int .i64 0, .int .i64 0, .int .i64 2, .int .i64 0, .int .i64 0, .int .i64 2, .int .i64 0] 42)).alloc (.cells #[.int .i64 4, .int .i64 10, .int .i64 1] 51) = W4) := by
    show _ = _; rw [hW1, hW2, hW3, hW4]
  have K1 := Lib.hid k1
  have K2 := Lib.hid k2
  have K3 := Lib.hid k3
  have K4 := Lib.hid k4
  have BB := Lib.hid bb
  have S4 := Lib.hid s4
  have HM := Lib.hid hm
  clear b1 b2 b3 b4 k1 k2 k3 k4 bb s1 s2 s3 s4 hW1 hW2 hW3 hW4 hm
  go_enter Tryd.func16, Tryd.ntmps16
  go_wp2_with fail
  rw [HCH.out]
  refine (Tryd.config_calls W4).mono ?_
  rintro e W5 ⟨am, cm, rfl, hms, hb5⟩
  have l1 := (hb5.block m (by have := S4.out; omega)).trans K1.out
  have l2 := (hb5.block (m + 1) (by have := S4.out; omega)).trans K2.out
  have l3 := (hb5.block (m + 2) (by have := S4.out; omega)).trans K3.out
  have l4 := (hb5.block (m + 3) (by have := S4.out; omega)).trans K4.out
  have hs5 := hb5.size
  obtain ⟨W6, hW6⟩ : ∃ W6, W5.setRow m #[.slice (some ⟨m + 2, 0, none⟩) 2 2, .slice (some ⟨m + 3, 0, none⟩) 1 1, .int .i64 0, .slice am 1 cm, .int .i64 2, .int .i64 5] = W6 := ⟨_, rfl⟩
  have hg6 : W5.grownBy W6 (some m) := by rw [← hW6]; exact grown_setRow _ _ _
  have n1 : W6.heap[m]? = some (.cells #[.slice (some ⟨m + 2, 0, none⟩) 2 2, .slice (some ⟨m + 3, 0, none⟩) 1 1, .int .i64 0, .slice am 1 cm, .int .i64 2, .int .i64 5] 29 (0, 0)) := by rw [← hW6]; exact setRow_heap _ _ _ _ _ _ l1
  have n2 := (hg6.block (m + 1) (Lib.lt_of_heap l2) (by simp)).trans l2
  have n3 := (hg6.block (m + 2) (Lib.lt_of_heap l3) (by simp)).trans l3
  have n4 := (hg6.block (m + 3) (Lib.lt_of_heap l4) (by simp)).trans l4
  have hS4 := S4.out
  have hMs : Ms W6 (.slice am 1 cm) oneMb := own_sl ((RowO.keep hms hg6 (Away.out (.inl (by omega)))).1)
  have HF : Hid (NewIm w smallIm (.returned (.agg #[.slice (some ⟨m + 2, 0, none⟩) 2 2, .slice (some ⟨m + 3, 0, none⟩) 1 1, .int .i64 0, .slice am 1 cm, .int .i64 2, .int .i64 5])) W6) := by
    refine ⟨_, _, _, _, _, _, rfl, ⟨⟨[.slice none 0 0, .slice (some ⟨m + 1, 0, none⟩) 2 2], rfl, Sl.at_block n3 (by decide), ?_⟩, Sl.at_block n4 (by decide), hMs⟩, ?_⟩
    · intro i x d hx hd
      match i, hx, hd with
      | 0, hx, hd => simp [smallIm] at hx hd; subst hx hd; exact Bs.nil _
      | 1, hx, hd => simp [smallIm] at hx hd; subst hx hd; exact Bs.at_block (l := [120, 121]) n2 (by decide)
      | i + 2, hx, hd => simp [smallIm] at hx
    · rw [HM.out]
      exact (BB.out.trans (hb5.mono (by omega))).trans (grown_below hg6 (Nat.le_refl _) (by have := BB.out.size; omega))
  have HW6 := Lib.hid hW6
  have HL1 := Lib.hid l1
  have HN1 := Lib.hid n1
  clear l1 l2 l3 l4 n1 n2 n3 n4 hg6 hW6 hms hb5 hMs hcv
  go_wp2_with ((with_reducible show wpList _ _ _ (⟨none, Op.store 29 (.tmp 0) (.tmp 10), _, _, _, _⟩ :: _) _ _); rw [HM.out]; refine wpList_store_row rfl 29 _ _ rfl m #[.slice (some ⟨m + 2, 0, none⟩) 2 2, .slice (some ⟨m + 3, 0, none⟩) 1 1, .int .i64 0, .slice am 1 cm, .int .i64 2, .int .i64 5] rfl rfl 29 _ HL1.out infoIm rfl (wh_one _ _ _ _ _ _ _ _ _ _ _ _) ?_; rw [HW6.out])
  refine bodyPost_ret (v := .agg #[.slice (some ⟨m + 2, 0, none⟩) 2 2, .slice (some ⟨m + 3, 0, none⟩) 1 1, .int .i64 0, .slice am 1 cm, .int .i64 2, .int .i64 5]) (results_cell_row rfl _ _ m 29 _ (0, 0) _ rfl HN1.out Tryd.underlying29 rfl infoIm) rfl ?_
  exact HF.out
end Go.Proofs
