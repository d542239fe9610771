/- Walks: wire.Writer's Int and Bytes where the buffer's row is told; bytes.Buffer's Bytes; Done. -/
import Derived.Test.YtkcpfchfpnmkpaaDoorBuf2
import Derived.Test.YtkcpfchfpnmkpaaDoorWk6
namespace Go.Proofs
open Go Go.RowKit Go.Proofs.YtkcpfchfpnmkpaaDoor

namespace YtkcpfchfpnmkpaaDoor
def WRowP (w : World) (B b g : Nat) (l : List UInt8) (e : Ending) (w' : World) : Prop := e = .returned (.tuple #[]) ∧ WRow w B b g l w'
theorem WRow.refl {w : World} {B b g : Nat} {l : List UInt8} (h : WrP w B b l) (hr : Row w b g) : WRow w B b g l w :=
  ⟨h, Below.refl _ _, g, hr, .inl rfl, Kept.refl _ _ _⟩
theorem WRow.trans {w w1 w2 : World} {B b g g1 : Nat} {l1 l2 : List UInt8} (h : WRow w B b g l1 w1) (hr : Row w1 b g1) (h2 : WRow w1 B b g1 l2 w2) : WRow w B b g l2 w2 := by
  obtain ⟨a1, a2, ga, a3, a4, a5⟩ := h
  obtain ⟨b1, b2, gb, b3, b4, b5⟩ := h2
  have e : g1 = ga := by
    obtain ⟨_, _, hr⟩ := hr; obtain ⟨_, _, a3⟩ := a3
    rw [hr] at a3; simp at a3; exact a3.1
  subst e
  refine ⟨b1, a2.trans b2, gb, b3, ?_, a5.trans b5 a4⟩
  have := a2.size
  rcases b4 with rfl | b4
  · exact a4
  · exact .inr (by omega)
theorem WRow.row {w w1 : World} {B b g : Nat} {l1 : List UInt8} (h : WRow w B b g l1 w1) : ∃ g1, Row w1 b g1 := by
  obtain ⟨a1, a2, ga, a3, a4, a5⟩ := h
  exact ⟨ga, a3⟩
end YtkcpfchfpnmkpaaDoor

set_option maxRecDepth 100000 in
set_option maxHeartbeats 1600000 in
theorem Tryd.wIntR_calls (B b g : Nat) (l : List UInt8) (n : Int) (hn : -9223372036854775808 ≤ n ∧ n ≤ 9223372036854775807) (w : World) (h : WrP w B b l) (hne : l ≠ []) (hr : Row w b g) (hB : B ≤ w.heap.size) (hl : l.length + 10 ≤ 140737488355328) :
    Calls Tryd.prog 35 #[.pointer (some ⟨b, 0, none⟩), .int .i64 n] w (WRowP w B b g (l ++ encI n)) := by
  have H := Lib.hid (WRow.refl h hr)
  have HNE := Lib.hid hne
  have hz := zig_val n hn
  have hzl := zig_lt n hn
  have HE : Hid (encI n = vb (zig n)) := rfl
  obtain ⟨z, hzz⟩ : ∃ z, zig n = z := ⟨_, rfl⟩
  rw [hzz] at hz hzl HE
  have H10 := Lib.hid (vb_len10 z hzl)
  have HZ : Hid (z < 18446744073709551616) := hzl
  clear h hzz hzl hr hne
  go_enter Tryd.func35, Tryd.ntmps35
  go_wp2_with fail
  go_loopw [4] (fun u wr => ∃ (k : Nat) (d : List UInt8), u = .int .u64 k ∧ Hid (k < 18446744073709551616) ∧ Hid (d ++ vb k = vb z) ∧ Hid (WRow w B b g (l ++ d) wr)) (fun u _ => (intOf u).toNat)
  case atStart => exact ⟨z, [], rfl, HZ, by simp [Hid], by rw [List.append_nil]; exact H⟩
  case round =>
    obtain ⟨k, d, rfl, hk, HD, HW⟩ := hrel
    obtain ⟨g1, hg1⟩ := HW.out.row
    have HG1 := Lib.hid hg1
    have HWP := Lib.hid HW.out.1
    have HWB := Lib.hid HW.out.2.1
    have HNE2 : Hid (l ++ d ≠ []) := by simp [Hid, HNE.out]
    clear hg1
    by_cases h127 : 127 < k
    · have h127' : (127 : Int) < (k : Int) := by omega
      have HV : Hid (vb k = UInt8.ofNat (k % 128 + 128) :: vb (k / 128)) := by simp only [Hid]; rw [vb, if_neg (by omega)]
      have HO := Lib.hid (or_128 k)
      have HL : Hid ((l ++ d).length + 1 ≤ 140737488355328) := by
        have h1 := H10.out
        rw [← HD.out, List.length_append, HV.out, List.length_cons] at h1
        simp only [Hid, List.length_append]
        omega
      go_wp2_with fail
      refine (Tryd.bufByteR_calls B b g1 (l ++ d) (UInt8.ofNat (k % 128 + 128)) _ HO.out wr HWP.out HNE2.out HG1.out (Nat.le_trans hB HWB.out.size) HL.out).mono ?_
      rintro e w1 ⟨rfl, h1⟩
      have H1 := Lib.hid (HW.out.trans HG1.out h1)
      clear h1
      go_wp2_with fail
      go_roundw
      case rel => exact ⟨k / 128, d ++ [UInt8.ofNat (k % 128 + 128)], by simp, by show k / 128 < _; have := hk.out; omega, by show _ = _; rw [← HD.out, HV.out]; simp, by show WRow _ _ _ _ _ _; rw [← List.append_assoc]; exact H1.out⟩
      case measure => simp [intOf]; omega
    · have h127' : (k : Int) ≤ 127 := by omega
      have HV : Hid (vb k = [UInt8.ofNat k]) := by simp only [Hid]; rw [vb, if_pos (by omega)]
      have HO := Lib.hid (lo_byte k (by omega))
      have HL : Hid ((l ++ d).length + 1 ≤ 140737488355328) := by
        have h1 := H10.out
        rw [← HD.out, List.length_append, HV.out, List.length_cons] at h1
        simp only [Hid, List.length_append]
        omega
      go_wp2_with fail
      refine (Tryd.bufByteR_calls B b g1 (l ++ d) (UInt8.ofNat k) _ HO.out wr HWP.out HNE2.out HG1.out (Nat.le_trans hB HWB.out.size) HL.out).mono ?_
      rintro e w1 ⟨rfl, h1⟩
      have H1 := Lib.hid (HW.out.trans HG1.out h1)
      clear h1
      go_wp2_with fail
      go_end0
      exact ⟨rfl, by rw [HE.out, ← HD.out, HV.out, ← List.append_assoc]; exact H1.out⟩

set_option maxHeartbeats 6400000 in
set_option maxRecDepth 100000 in
theorem Tryd.bufWrite_nil (a : Option Addr) (c : Nat) (B b : Nat) (l : List UInt8) (w : World) (h : WrP w B b l) (hne : l ≠ []) (hB : B ≤ w.heap.size) :
    Calls Tryd.prog 54 #[.pointer (some ⟨b, 0, none⟩), .slice a 0 c] w fun e w' => e = .returned (.tuple #[.int .i64 0, .nilIface]) ∧ WrP w' B b l ∧ Below B w w' ∧ OK8 b w w' := by
  obtain ⟨T, h⟩ := h
  obtain ⟨hBb, lr, hcs⟩ := h.cases
  have hl0 : (bv l).length ≠ 0 := by rw [bv_length]; intro e; exact hne (List.eq_nil_of_length_eq_zero e)
  rcases hcs with ⟨hnil, _⟩ | ⟨g2, cap, cur, hbk, hBg, hg, hnc, hcm, hcsz, htk, hgb⟩
  · exact absurd (by rw [hnil]; rfl) hl0
  have c2 : w.cell? ⟨b, 2, none⟩ = some (.int .i8 lr) := hbk.c2
  have f2 : w.frozen? ⟨b, 2, none⟩ = false := hbk.f 2
  have h' := h.setLast 0
  have hbk1 := hbk.set2 (.int .i8 0)
  have hbk2 := hbk1.set0 (.slice (some ⟨g2, 0, none⟩) ((bv l).length + 0) cap)
  have hg2 : ((w.setCell ⟨b, 0 + 2, none⟩ (.int .i8 0)).setCell ⟨b, 0, none⟩ (.slice (some ⟨g2, 0, none⟩) ((bv l).length + 0) cap)).heap[g2]? = some (.cells cur 5 (0, 0)) := (Below.heap_setCell _ _ _ _ hgb).trans ((Below.heap_setCell _ _ _ _ hgb).trans hg)
  have HR := Lib.hid (LibA.isBuffer_mk (T := T) (lr := 0) hBb hbk2 hBg hg2 hnc hcm hcsz hgb)
  have HBEL : Hid (Below B w ((w.setCell ⟨b, 0 + 2, none⟩ (.int .i8 0)).setCell ⟨b, 0, none⟩ (.slice (some ⟨g2, 0, none⟩) ((bv l).length + 0) cap))) := ((Below.refl B w).setCell (p := ⟨b, 0 + 2, none⟩) hBb _).setCell (p := ⟨b, 0, none⟩) hBb _
  have HOK : Hid (OK8 b w ((w.setCell ⟨b, 0 + 2, none⟩ (.int .i8 0)).setCell ⟨b, 0, none⟩ (.slice (some ⟨g2, 0, none⟩) ((bv l).length + 0) cap))) := ((Lib.OthersKept.refl _ _ w).setCell ⟨b, 0 + 2, none⟩ rfl _).setCell ⟨b, 0, none⟩ rfl _
  have HTK := Lib.hid htk
  have HCM := Lib.hid hcm
  obtain ⟨n, hn⟩ : ∃ n, (bv l).length = n := ⟨_, rfl⟩
  rw [hn] at hbk1 hbk2 hnc HR HBEL HOK HTK hbk hg2
  have hinfo : (Tryd.prog.info? 5).map (·.size) = some 1 := by kernel_rfl
  have hce : ∀ d dLen dCap W, (Builtin.copy_ #[30, 30] 3 #[.slice d dLen dCap, .slice a 0 c]).run Tryd.prog W = .ok (goInt 0) W := fun d dLen dCap W => run_copy_none W 30 30 3 5 d a dLen dCap 0 c Tryd.underlying30 hinfo (by simp)
  clear h' h hbk htk hcsz hg hn
  go_enter Tryd.func54, Tryd.ntmps54
  go_wp2_with (go_at_call 66; refine (Tryd.Buffer_tryGrow_room_at b 0 _ n cap 0 _ hbk1.c0 (hbk1.f 0) hnc HCM.out (Nat.zero_le _)).mono ?_)
  rintro e W1 ⟨rfl, hW1⟩
  have hW1' : W1 = (w.setCell ⟨b, 0 + 2, none⟩ (.int .i8 0)).setCell ⟨b, 0, none⟩ (.slice (some ⟨g2, 0, none⟩) (n + 0) cap) := hW1
  rw [← hW1'] at hbk2 HR HBEL HOK hg2
  clear hW1 hW1' hbk1 c2 f2
  have d0 : W1.cell? ⟨b, 0, none⟩ = some (.slice (some ⟨g2, 0, none⟩) n cap) := hbk2.c0
  have hcm' := hcm
  unfold maxLen at hcm'
  go_wp2
  all_goals (
    go_ret2
    refine ⟨rfl, ⟨T, ?_⟩, HBEL.out, HOK.out⟩
    have := HR.out
    rw [Nat.add_zero, HTK.out] at this
    exact this)

theorem Tryd.bufWrite_calls (B b : Nat) (l : List UInt8) (v : Value) (s : List UInt8) (w : World) (h : WrP w B b l) (hne : l ≠ []) (hs : Bs w v s) (hvb : s = [] ∨ v.ownBlock ≠ some b) (hB : B ≤ w.heap.size) (hl : l.length + s.length ≤ 140737488355328) :
    Calls Tryd.prog 54 #[.pointer (some ⟨b, 0, none⟩), v] w fun e w' => e = .returned (.tuple #[.int .i64 s.length, .nilIface]) ∧ WrP w' B b (l ++ s) ∧ Below B w w' ∧ OK8 b w w' := by
  obtain ⟨a, cap, rfl, h1, h2, h3, h4⟩ := hs
  by_cases hs0 : s = []
  · subst hs0
    rw [List.append_nil]
    exact Tryd.bufWrite_nil a cap B b l w h hne hB
  replace hvb := hvb.resolve_left hs0
  cases a with
  | none =>
    exfalso
    obtain rfl := h3 rfl
    exact hs0 (List.eq_nil_of_length_eq_zero (by omega))
  | some a =>
    obtain ⟨T, h⟩ := h
    refine (Tryd.Buffer_Write_at T _ B b 0 (bv l) (bv s) a s.length cap w h hB (oneCell_bv l) (bv_length s) (by simpa [Value.ownBlock] using hvb) ?_ (oneCell_bv s) (by rw [bv_length]; exact hl)).mono ?_
    · intro j v hv
      obtain ⟨k, off, e, hc⟩ := h4 j v hv
      cases e
      rw [addr_add]; exact hc
    · rintro e w' ⟨rfl, h1, h2, h3⟩
      exact ⟨rfl, ⟨T, by rw [bv_append]; exact h1⟩, h2, h3⟩

namespace YtkcpfchfpnmkpaaDoor
theorem Bs.kept {w w' : World} {v : Value} {l : List UInt8} {b g : Nat} (h : Bs w v l) (hk : Kept w w' b g) (hne : ∀ k, v.ownBlock = some k → k ≠ b ∧ k ≠ g) : Bs w' v l := by
  obtain ⟨a, cap, rfl, h1, h2, h3, h4⟩ := h
  refine ⟨a, cap, rfl, h1, h2, h3, h4.kept hk ?_⟩
  rintro ad rfl
  exact hne _ rfl
end YtkcpfchfpnmkpaaDoor

namespace YtkcpfchfpnmkpaaDoor
theorem Kept.others {w w' : World} {B b g : Nat} {l : List UInt8} (h : WrP w B b l) (hr : Row w b g) (hk : Kept w w' b g) : OK8 b w w' := by
  obtain ⟨T, h⟩ := h
  obtain ⟨hBb, lr, hcs⟩ := h.cases
  obtain ⟨n0, cap0, hr⟩ := hr
  rcases hcs with ⟨_, h3⟩ | ⟨g2, cap, cur, hbk, _, hg, hnc, hcm, hcsz, htk, _⟩
  · have := h3.c0; rw [hr] at this; simp at this
  · obtain rfl : g2 = g := by have := hbk.c0; rw [hr] at this; simp at this; exact this.1.symm
    intro k o hko hkb hne
    have hlt := Lib.lt_of_heap hko
    have hkg : k ≠ g2 := fun e => by rw [e, hg] at hko; exact hne _ _ (Option.some.inj hko).symm
    exact (hk.2.2.2.2 k hlt (fun e => hkb (by rw [e])) hkg).trans hko
end YtkcpfchfpnmkpaaDoor

set_option maxHeartbeats 1600000 in
theorem Tryd.wBytesK_calls (B b : Nat) (l : List UInt8) (v : Value) (s : List UInt8) (w : World) (h : WrP w B b l) (hne : l ≠ []) (hs : Bs w v s) (hvb : s = [] ∨ ∀ k, v.ownBlock = some k → k ≠ b ∧ ∀ g, Row w b g → k ≠ g) (hB : B ≤ w.heap.size) (hl : l.length + 10 + s.length ≤ 140737488355328) (hs9 : s.length ≤ 140737488355328) :
    Calls Tryd.prog 37 #[.pointer (some ⟨b, 0, none⟩), v] w (WPostK w B b (l ++ encB s)) := by
  obtain ⟨g, hr⟩ := h.row hne
  obtain ⟨a, cap, rfl, g1, g2, g3, g4⟩ := id hs
  have H := Lib.hid h
  have HR := Lib.hid hr
  have HNE := Lib.hid hne
  have HS := Lib.hid hs
  have HV := Lib.hid hvb
  have HE : Hid (encB s = encI s.length ++ s) := rfl
  clear h hr hne hs hvb g4
  go_enter Tryd.func37, Tryd.ntmps37
  go_wp2_with fail
  refine (Tryd.wIntR_calls B b g l s.length (by omega) w H.out HNE.out HR.out hB (by omega)).mono ?_
  rintro e w1 ⟨rfl, h1⟩
  have H1 := Lib.hid h1
  have hlen : Hid ((l ++ encI s.length).length + s.length ≤ 140737488355328) := by
    have := vb_len10 (zig s.length) (zig_lt _ (by omega))
    simp only [Hid, List.length_append, encI]; omega
  have HS1 : Hid (Bs w1 (.slice a s.length cap) s) := by
    obtain ⟨_, _, _, _, _, hk⟩ := h1
    rcases HV.out with hv | hv
    · rw [hv] at HS ⊢
      obtain ⟨a', c', e', q1, q2, q3, q4⟩ := HS.out
      exact ⟨a', c', e', q1, q2, q3, by intro i v h; simp [bv] at h⟩
    · exact HS.out.kept hk (fun k e => ⟨(hv k e).1, (hv k e).2 g HR.out⟩)
  have HOK1 : Hid (OK8 b w w1) := by
    obtain ⟨_, _, _, _, _, hk⟩ := h1
    exact Kept.others H.out HR.out hk
  have HNE1 : Hid (l ++ encI s.length ≠ []) := by simp [Hid, HNE.out]
  clear h1
  go_wp2_with fail
  refine (Tryd.bufWrite_calls B b _ _ s w1 H1.out.1 HNE1.out HS1.out (HV.out.imp id (fun hv e => (hv _ e).1 rfl)) (Nat.le_trans hB H1.out.2.1.size) hlen.out).mono ?_
  rintro e w2 ⟨rfl, h1, h2, h5⟩
  have H3 := Lib.hid h1
  have H4 := Lib.hid h2
  have H5 := Lib.hid h5
  clear h1 h2 h5
  go_wp2_with fail
  go_end0
  exact ⟨rfl, by rw [HE.out, ← List.append_assoc]; exact H3.out, H1.out.2.1.trans H4.out, HOK1.out.trans H5.out⟩

end Go.Proofs
