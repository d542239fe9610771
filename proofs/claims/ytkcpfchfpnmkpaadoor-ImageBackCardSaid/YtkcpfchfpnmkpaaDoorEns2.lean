/- Walks: package ensemble: Put. -/
import Derived.Test.YtkcpfchfpnmkpaaDoorEns1
namespace Go.Proofs
open Go Go.RowKit Go.Proofs.YtkcpfchfpnmkpaaDoor

namespace YtkcpfchfpnmkpaaDoor
theorem encI_len {n : Int} (hn : -9223372036854775808 ≤ n ∧ n ≤ 9223372036854775807) : (encI n).length ≤ 10 := vb_len10 _ (zig_lt n hn)
def MbIn (m : Mb) : Prop := 0 ≤ m.id ∧ m.id ≤ 7 ∧ 0 ≤ m.role ∧ m.role ≤ 2 ∧ 0 ≤ m.weight ∧ m.weight ≤ 1000 ∧ 0 ≤ m.group ∧ m.group ≤ 7
theorem mbFits_in {last : Int} {m : Mb} (h : mbFits last m = true) (h0 : 0 ≤ last) : MbIn m := by
  unfold mbFits at h
  unfold MbIn
  split at h
  · cases h
  · split at h <;> simp at h <;> omega
theorem mbsFit_in : ∀ (l : List Mb) (last : Int), mbsFit last l = true → 0 ≤ last → ∀ m ∈ l, MbIn m := by
  intro l
  induction l with
  | nil => intro _ _ _ m hm; cases hm
  | cons a l ih =>
    intro last h h0 m hm
    simp only [mbsFit, Bool.and_eq_true] at h
    have ha := mbFits_in h.1 h0
    cases hm with
    | head => exact ha
    | tail _ hm => exact ih a.id h.2 ha.1 m hm
theorem ensCheck_in {ver : Int} {l : List Mb} (h : ensCheck ver l = 0) : l.length ≤ 7 ∧ 0 ≤ ver ∧ ver ≤ 4611686018427387904 ∧ ∀ m ∈ l, MbIn m := by
  unfold ensCheck at h
  split at h
  · cases h
  · split at h
    · cases h
    · split at h
      · cases h
      · rename_i h1 h2 h3
        exact ⟨by omega, by omega, by omega, mbsFit_in l 0 (by simpa using h2) (Int.le_refl _)⟩
/-- Where Put stands. -/
def PutR (W : World) (ver : Int) (l pre suf : List Mb) (ns : List Int) (wr : World) : Prop :=
  l = pre ++ suf ∧ ∃ acc : List UInt8, acc ++ (ns.flatMap encI ++ suf.flatMap mbBytes) = ensBytes ver l ∧ acc ≠ [] ∧ acc.length + 10 * ns.length ≤ 20 + 40 * pre.length ∧ WrP wr W.heap.size W.heap.size acc ∧ Below W.heap.size W wr
theorem ix0 (a b c d : Int) (W : World) : (Instr.index 115 (.agg #[.int .i64 a, .int .i64 b, .int .i64 c, .int .i64 d]) (.int .i64 0)).run Tryd.prog W = .ok (.int .i64 a) W := by kernel_rfl
theorem ix1 (a b c d : Int) (W : World) : (Instr.index 115 (.agg #[.int .i64 a, .int .i64 b, .int .i64 c, .int .i64 d]) (.int .i64 1)).run Tryd.prog W = .ok (.int .i64 b) W := by kernel_rfl
theorem ix2 (a b c d : Int) (W : World) : (Instr.index 115 (.agg #[.int .i64 a, .int .i64 b, .int .i64 c, .int .i64 d]) (.int .i64 2)).run Tryd.prog W = .ok (.int .i64 c) W := by kernel_rfl
theorem ix3 (a b c d : Int) (W : World) : (Instr.index 115 (.agg #[.int .i64 a, .int .i64 b, .int .i64 c, .int .i64 d]) (.int .i64 3)).run Tryd.prog W = .ok (.int .i64 d) W := by kernel_rfl
theorem index4 (j : Nat) (m : Mb) (n : Int) (hj : j < 4) (hv : (#[Value.int .i64 m.id, .int .i64 m.role, .int .i64 m.weight, .int .i64 m.group] : Array Value)[j]? = some (.int .i64 n)) (W : World) :
    (Instr.index 115 (.agg #[Value.int .i64 m.id, .int .i64 m.role, .int .i64 m.weight, .int .i64 m.group]) (.int .i64 j)).run Tryd.prog W = .ok (.int .i64 n) W := by
  have : j = 0 ∨ j = 1 ∨ j = 2 ∨ j = 3 := by omega
  rcases this with rfl | rfl | rfl | rfl <;> simp at hv <;> subst hv
  · exact ix0 _ _ _ _ W
  · exact ix1 _ _ _ _ W
  · exact ix2 _ _ _ _ W
  · exact ix3 _ _ _ _ W
end YtkcpfchfpnmkpaaDoor

set_option maxRecDepth 100000 in
set_option maxHeartbeats 3200000 in
theorem Tryd.ensPut_calls (ver : Int) (v : Value) (l : List Mb) (w : World) (h : Ms w v l) (hc : ensCheck ver l = 0) :
    Calls Tryd.prog 39 #[.agg #[.int .i64 ver, v]] w fun e w' => ∃ v', e = .returned (.tuple #[v', .int .i64 0]) ∧ NewBs w w' v' (ensBytes ver l) ∧ Below w.heap.size w w' := by
  obtain ⟨hl7, hv0, hv1, hin⟩ := ensCheck_in hc
  have HMS := Lib.hid h
  obtain ⟨a, cap, rfl, h1, h2, h3, h4⟩ := h
  have HM := Lib.hid h2
  unfold maxLen at h2
  have HC := Lib.hid hc
  have HIN := Lib.hid hin
  have HCS0 := Lib.hid h4
  clear h4 hc hin
  go_enter Tryd.func39, Tryd.ntmps39
  go_wp2_with (go_at_call 50; refine (Tryd.ensCheck_calls ver (.slice a l.length cap) l _ ?_).mono ?_)
  · exact Ms.below HMS.out ((Below.refl _ _).alloc (Nat.le_refl _) _)
  rintro e W ⟨rfl, hW⟩
  rw [HC.out]
  have hb0 : W.cell? ⟨w.heap.size, 0, none⟩ = some (.int .i64 ver) := (hW.cell (p := ⟨w.heap.size, 0, none⟩) (by simp)).trans (by go_simp)
  have hb1 : W.cell? ⟨w.heap.size, 1, none⟩ = some (.slice a l.length cap) := (hW.cell (p := ⟨w.heap.size, 1, none⟩) (by simp)).trans (by go_simp)
  have hsz : w.heap.size < W.heap.size := by have := hW.size; simp at this; omega
  have HW := Lib.hid (((Below.refl _ w).alloc (Nat.le_refl _) _).trans (hW.mono (by simp)))
  have HCS := Lib.hid (HCS0.out.below HW.out)
  clear hW
  have hB : W.heap.size ≤ W.heap.size := Nat.le_refl _
  go_wp2_with fail
  refine (Tryd.newWriter_calls W).mono ?_
  rintro e w1 ⟨rfl, hw1, hwb1⟩
  have hc0 := (hwb1.cell (p := ⟨w.heap.size, 0, none⟩) hsz).trans hb0
  have hc1 := (hwb1.cell (p := ⟨w.heap.size, 1, none⟩) hsz).trans hb1
  have HW1 := Lib.hid hw1
  have HB1 := Lib.hid hwb1
  clear hw1 hwb1
  go_wp2_with fail
  refine (Tryd.wInt_calls W.heap.size W.heap.size [] ver (by omega) w1 HW1.out HB1.out.size (by simp)).mono ?_
  rintro e w2 ⟨rfl, hw2, hwb2⟩
  replace hwb2 := HB1.out.trans hwb2
  replace hc0 := (hwb2.cell (p := ⟨w.heap.size, 0, none⟩) hsz).trans hb0
  replace hc1 := (hwb2.cell (p := ⟨w.heap.size, 1, none⟩) hsz).trans hb1
  have HW2 := Lib.hid hw2
  have HB2 := Lib.hid hwb2
  have hlv := encI_len (n := ver) (by omega)
  have hll := encI_len (n := l.length) (by omega)
  clear hw2 hwb2 HW1 HB1
  go_wp2_with fail
  refine (Tryd.wInt_calls W.heap.size W.heap.size ([] ++ encI ver) l.length (by omega) w2 HW2.out HB2.out.size (by simp; omega)).mono ?_
  rintro e w3 ⟨rfl, hw3, hwb3⟩
  replace hwb3 := HB2.out.trans hwb3
  replace hc0 := (hwb3.cell (p := ⟨w.heap.size, 0, none⟩) hsz).trans hb0
  replace hc1 := (hwb3.cell (p := ⟨w.heap.size, 1, none⟩) hsz).trans hb1
  have HW3 := Lib.hid hw3
  have HB3 := Lib.hid hwb3
  clear hw3 hwb3 HW2 HB2
  go_wp2_with fail
  go_loopw [28] (fun i wr => ∃ (pre suf : List Mb), i = .int .i64 pre.length ∧ Hid (PutR W ver l pre suf [] wr)) (fun i _ => 8 - (intOf i).toNat)
  case atStart => exact ⟨[], l, rfl, rfl, encI ver ++ encI l.length, by simp [ensBytes], by unfold encI; rw [vb]; split <;> simp, by simp; omega, by simpa using HW3.out, HB3.out⟩
  case round =>
    obtain ⟨pre, suf, rfl, HR⟩ := hrel
    obtain ⟨e1, acc, e2, e3, e4, e5, e6⟩ := HR.out
    cases suf with
    | nil =>
      rw [List.append_nil] at e1
      subst e1
      have hE : acc = ensBytes ver l := by simpa using e2
      subst hE
      have HW4 := Lib.hid e5
      have HB4 := Lib.hid e6
      have HE3 := Lib.hid e3
      have HE4 : Hid ((ensBytes ver l).length ≤ 140737488355328) := by show _ ≤ _; simp at e4; omega
      clear e2 e3 e4 e5 e6 HR
      go_wp2_with fail
      refine (Tryd.wDone_calls _ _ _ wr HW4.out HE3.out HE4.out).mono ?_
      rintro e w5 ⟨v', rfl, hn, hb⟩
      have HN := Lib.hid hn
      have HB := Lib.hid hb
      clear hn hb
      obtain ⟨a2, c2, rfl, -⟩ := HN.out.1
      go_wp2
      go_ret2
      have hsz2 := HB4.out.size
      refine ⟨_, rfl, ⟨HN.out.1, fun b hb => ?_⟩, HW.out.trans ((HB4.out.trans (HB.out.mono hsz2)).mono (by omega))⟩
      have := HN.out.2 b hb
      omega
    | cons m suf =>
      have hk : l[pre.length]? = some m := by rw [e1]; simp
      have hkl := lt_of_get hk
      have hkl' : (pre.length : Int) < (l.length : Int) := by omega
      obtain ⟨b, off, rfl, c0, c1, c2, c3⟩ := Ms.cells (a := a) (HCS.out.below e6) hk
      have hmi := HIN.out m (by rw [e1]; simp)
      obtain ⟨i1, i2, i3, i4, i5, i6, i7, i8⟩ := hmi
      have hrole : IntKind.i64.wrap m.role = m.role := by rw [IntKind.wrap_i64]; omega
      have hsz2 := e6.size
      have HR2 : Hid (PutR W ver l (pre ++ [m]) suf ([m.id, m.role, m.weight, m.group].drop 0) wr) :=
        ⟨by rw [e1]; simp, acc, by rw [← e2]; simp [mbBytes], e3, by simp at e4 ⊢; omega, e5, e6⟩
      clear e1 e2 e3 e4 e5 e6 hk HR
      go_wp2_with fail
      go_loopw [42] (fun i wr => ∃ (j : Nat), i = .int .i64 j ∧ j ≤ 4 ∧ Hid (PutR W ver l (pre ++ [m]) suf ([m.id, m.role, m.weight, m.group].drop j) wr)) (fun i _ => 4 - (intOf i).toNat)
      case atStart => exact ⟨0, rfl, by omega, by
        obtain ⟨g1, acc, g2, g3, g4, g5, g6⟩ := HR2.out
        obtain ⟨T, g5⟩ := g5
        exact ⟨g1, acc, g2, g3, g4, ⟨T, g5.alloc _⟩, g6.alloc hsz2 _⟩⟩
      case round =>
        obtain ⟨j, rfl, hj, HR⟩ := hrel
        obtain ⟨g1, acc, g2, g3, g4, g5, g6⟩ := HR.out
        clear HR HR2 c0 c1 c2 c3 HMS HCS0 HCS HW3 HB3
        by_cases hj4 : j = 4
        · subst hj4
          have HR : Hid (PutR W ver l (pre ++ [m]) suf [] wr) := ⟨g1, acc, g2, g3, g4, g5, g6⟩
          clear g1 g2 g3 g4 g5 g6
          go_wp2_with fail
          go_roundw
          case rel => exact ⟨pre ++ [m], suf, by simp, HR.out⟩
          case measure => simp [intOf]; omega
        · obtain ⟨n, hn, hnr, hv, hdr⟩ : ∃ n : Int, n = [m.id, m.role, m.weight, m.group].getD j 0 ∧ (-9223372036854775808 ≤ n ∧ n ≤ 9223372036854775807) ∧ (#[Value.int .i64 m.id, .int .i64 m.role, .int .i64 m.weight, .int .i64 m.group] : Array Value)[j]? = some (.int .i64 n) ∧ [m.id, m.role, m.weight, m.group].drop j = n :: [m.id, m.role, m.weight, m.group].drop (j + 1) := by
            refine ⟨_, rfl, ?_, ?_, ?_⟩ <;> (have : j = 0 ∨ j = 1 ∨ j = 2 ∨ j = 3 := by omega) <;> (rcases this with rfl | rfl | rfl | rfl) <;> simp <;> omega
          have hix := index4 j m n (by omega) hv
          rw [hdr] at g2 g4
          have hne := encI_len hnr
          have HAL : Hid (acc.length + 10 ≤ 140737488355328) := by show _ ≤ _; simp at g4; omega
          have HW4 := Lib.hid g5
          have HN : Hid (PutR W ver l (pre ++ [m]) suf (n :: [m.id, m.role, m.weight, m.group].drop (j + 1)) wr) := ⟨g1, acc, g2, g3, g4, g5, g6⟩
          have hj' : (j : Int) < 4 := by omega
          have hj3 : j < 4 := by omega
          have HG2 := Lib.hid g2
          have HG4 := Lib.hid g4
          have HG6 := Lib.hid g6
          have HG1 := Lib.hid g1
          have hsz3 := g6.size
          clear g2 g4 g5 g6 g1 hn hdr
          go_wp2_with fail
          refine (Tryd.wInt_calls W.heap.size W.heap.size acc n hnr wr HW4.out hsz3 HAL.out).mono ?_
          rintro e w5 ⟨rfl, hw5, hb5⟩
          have HW5 := Lib.hid hw5
          have HB5 := Lib.hid (HG6.out.trans hb5)
          clear hw5 hb5
          go_wp2_with fail
          go_roundw
          case rel => exact ⟨j + 1, by go_num, by omega, HG1.out, acc ++ encI n, by rw [← HG2.out]; simp, by simp [g3], by have := HG4.out; simp at this ⊢; omega, HW5.out, HB5.out⟩
          case measure => simp [intOf]; omega
end Go.Proofs
