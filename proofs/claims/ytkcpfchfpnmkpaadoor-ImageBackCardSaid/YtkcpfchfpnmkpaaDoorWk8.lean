/- Walks: the writer of package wire. -/
import Derived.Test.YtkcpfchfpnmkpaaDoorWk7
import Derived.Shelf.Bytes.WriteAt
namespace Go.Proofs
open Go Go.RowKit Go.Sort Go.Proofs.YtkcpfchfpnmkpaaDoor

namespace YtkcpfchfpnmkpaaDoor
/-- The writer at block g, made since block B, has put the bytes l. -/
def WrP (w : World) (B g : Nat) (l : List UInt8) : Prop := ∃ T, LibA.IsBuffer T (fun _ => none) 5 B g 0 (bv l) w
def WPost (w : World) (B g : Nat) (l : List UInt8) (e : Ending) (w' : World) : Prop := e = .returned (.tuple #[]) ∧ WrP w' B g l ∧ Below B w w'
/-- All blocks but the buffer's own and the rows of bytes are kept. -/
abbrev OK8 (g : Nat) (w w' : World) : Prop := Lib.OthersKept 5 (some g) w w'
def WPostK (w : World) (B g : Nat) (l : List UInt8) (e : Ending) (w' : World) : Prop := e = .returned (.tuple #[]) ∧ WrP w' B g l ∧ Below B w w' ∧ OK8 g w w'
theorem WPostK.post {w : World} {B g : Nat} {l : List UInt8} {e : Ending} {w' : World} (h : WPostK w B g l e w') : WPost w B g l e w' := ⟨h.1, h.2.1, h.2.2.1⟩
theorem WrP.lt {w : World} {B g : Nat} {l : List UInt8} (h : WrP w B g l) : B ≤ g ∧ g < w.heap.size := by
  obtain ⟨T, h⟩ := h
  exact ⟨h.1, h.lt⟩
theorem bv_one (x : UInt8) : bv [x] = [.int .u8 x.toNat] := rfl
theorem bv_bytes (l : List UInt8) : Lib.byteCells l = bv l := rfl
theorem xor_ones' (k a : Nat) (h : a < 2 ^ k) : a ^^^ (2 ^ k - 1) = 2 ^ k - 1 - a := by
  apply Nat.eq_of_testBit_eq
  intro i
  rw [Nat.testBit_xor, Nat.testBit_two_pow_sub_one, Nat.sub_sub, Nat.add_comm 1, Nat.testBit_two_pow_sub_succ h]
  by_cases hi : i < k
  · simp [hi]
  · have h2 := Nat.testBit_lt_two_pow (x := a) (i := i) (Nat.lt_of_lt_of_le h (Nat.pow_le_pow_right (n := 2) (by omega) (show k ≤ i by omega)))
    simp [hi, h2]
theorem zig_lt (n : Int) (hn : -9223372036854775808 ≤ n ∧ n ≤ 9223372036854775807) : zig n < 18446744073709551616 := by
  unfold zig; split <;> omega
theorem zig_val (n : Int) (hn : -9223372036854775808 ≤ n ∧ n ≤ 9223372036854775807) :
    bits .xor .u64 (IntKind.u64.wrap (IntKind.u64.wrap n * 2)) (IntKind.u64.wrap (n / 9223372036854775808)) = ((zig n : Nat) : Int) := by
  simp only [IntKind.wrap_u64]
  by_cases h : n < 0
  · have e1 : n % 18446744073709551616 * 2 % 18446744073709551616 = (((2 * n + 18446744073709551616).toNat : Nat) : Int) := by omega
    have e2 : n / 9223372036854775808 % 18446744073709551616 = ((18446744073709551615 : Nat) : Int) := by omega
    rw [e1, e2, u64_xor_nat _ _ (by omega) (by omega)]
    have := xor_ones' 64 (2 * n + 18446744073709551616).toNat (by omega)
    rw [show (2 : Nat) ^ 64 - 1 = 18446744073709551615 from rfl] at this
    rw [this]
    unfold zig
    rw [if_pos h]
    omega
  · have e1 : n % 18446744073709551616 * 2 % 18446744073709551616 = (((2 * n).toNat : Nat) : Int) := by omega
    have e2 : n / 9223372036854775808 % 18446744073709551616 = ((0 : Nat) : Int) := by omega
    rw [e1, e2, u64_xor_nat _ _ (by omega) (by omega), Nat.xor_zero]
    unfold zig
    rw [if_neg h]
    omega
theorem vb_len (m : Nat) : ∀ k, k < 128 ^ (m + 1) → (vb k).length ≤ m + 1 := by
  induction m with
  | zero => intro k hk; rw [vb]; rw [if_pos (by omega)]; simp
  | succ m ih =>
    intro k hk
    rw [vb]
    split
    · simp
    · have := ih (k / 128) (by rw [Nat.pow_succ] at hk; exact Nat.div_lt_of_lt_mul (by rw [Nat.mul_comm]; exact hk))
      simp only [List.length_cons]
      omega
theorem vb_len10 (k : Nat) (h : k < 18446744073709551616) : (vb k).length ≤ 10 := vb_len 9 k (Nat.lt_of_lt_of_le h (by decide))
theorem or_128n : ∀ m, m < 256 → m ||| 128 = m % 128 + 128 := by decide +kernel
theorem or_128 (k : Nat) : bits .or .u8 ((k : Int) % 256) 128 = (((UInt8.ofNat (k % 128 + 128)).toNat : Nat) : Int) := by
  rw [show (k : Int) % 256 = ((k % 256 : Nat) : Int) by omega, show (128 : Int) = ((128 : Nat) : Int) from rfl, u8_or_nat _ _ (by omega) (by omega), or_128n _ (by omega)]
  simp only [UInt8.toNat_ofNat']
  omega
theorem lo_byte (k : Nat) (h : k < 128) : (k : Int) = (((UInt8.ofNat k).toNat : Nat) : Int) := by
  simp only [UInt8.toNat_ofNat']; omega
end YtkcpfchfpnmkpaaDoor

theorem Tryd.newWriter_calls (w : World) :
    Calls Tryd.prog 33 #[] w fun e w' => e = .returned (.pointer (some ⟨w.heap.size, 0, none⟩)) ∧ WrP w' w.heap.size w.heap.size [] ∧ Below w.heap.size w w' := by
  go_enter Tryd.func33, Tryd.ntmps33
  go_wp2
  go_ret
  refine ⟨rfl, ⟨_, LibA.zero_isBuffer (Nat.le_refl _) (LibA.three_whole (heap_alloc_new w _))⟩, (Below.refl _ _).alloc (Nat.le_refl _) _⟩

theorem Tryd.bufByte_calls (B g : Nat) (l : List UInt8) (x : UInt8) (c : Int) (hc : c = x.toNat) (w : World) (h : WrP w B g l) (hB : B ≤ w.heap.size) (hl : l.length + 1 ≤ 140737488355328) :
    Calls Tryd.prog 52 #[.pointer (some ⟨g, 0, none⟩), .int .u8 c] w fun e w' => e = .returned .nilIface ∧ WrP w' B g (l ++ [x]) ∧ Below B w w' ∧ OK8 g w w' := by
  obtain ⟨T, h⟩ := h
  subst hc
  refine (Tryd.Buffer_WriteByte_at T _ B g 0 (bv l) x.toNat w h hB (oneCell_bv l) (by rw [bv_length]; exact hl)).mono ?_
  rintro e w' ⟨rfl, h1, h2, h3⟩
  exact ⟨rfl, ⟨T, by rw [bv_append, bv_one]; exact h1⟩, h2, h3⟩
theorem Tryd.bufString_calls (B g : Nat) (l : List UInt8) (s : ByteArray) (w : World) (h : WrP w B g l) (hB : B ≤ w.heap.size) (hl : l.length + s.size ≤ 140737488355328) :
    Calls Tryd.prog 53 #[.pointer (some ⟨g, 0, none⟩), .string s] w fun e w' => e = .returned (.tuple #[.int .i64 s.size, .nilIface]) ∧ WrP w' B g (l ++ s.data.toList) ∧ Below B w w' ∧ OK8 g w w' := by
  obtain ⟨T, h⟩ := h
  refine (Tryd.Buffer_WriteString_at T _ B g 0 (bv l) s w h hB (oneCell_bv l) (by rw [bv_length]; exact hl)).mono ?_
  rintro e w' ⟨rfl, h1, h2, h3⟩
  exact ⟨rfl, ⟨T, by rw [bv_append]; exact h1⟩, h2, h3⟩

set_option maxHeartbeats 800000 in
theorem Tryd.wByteK_calls (B g : Nat) (l : List UInt8) (x : UInt8) (c : Int) (hc : c = x.toNat) (w : World) (h : WrP w B g l) (hB : B ≤ w.heap.size) (hl : l.length + 1 ≤ 140737488355328) :
    Calls Tryd.prog 34 #[.pointer (some ⟨g, 0, none⟩), .int .u8 c] w (WPostK w B g (l ++ [x])) := by
  have H := Lib.hid h
  have HC := Lib.hid hc
  clear h hc
  go_enter Tryd.func34, Tryd.ntmps34
  go_wp2_with fail
  refine (Tryd.bufByte_calls B g l x c HC.out w H.out hB hl).mono ?_
  rintro e w1 ⟨rfl, h1, h2, h5⟩
  have H1 := Lib.hid h1
  have H2 := Lib.hid h2
  have H5 := Lib.hid h5
  clear h1 h2 h5
  go_wp2_with fail
  go_end0
  exact ⟨rfl, H1.out, H2.out, H5.out⟩

set_option maxRecDepth 100000 in
set_option maxHeartbeats 1600000 in
theorem Tryd.wIntK_calls (B g : Nat) (l : List UInt8) (n : Int) (hn : -9223372036854775808 ≤ n ∧ n ≤ 9223372036854775807) (w : World) (h : WrP w B g l) (hB : B ≤ w.heap.size) (hl : l.length + 10 ≤ 140737488355328) :
    Calls Tryd.prog 35 #[.pointer (some ⟨g, 0, none⟩), .int .i64 n] w (WPostK w B g (l ++ encI n)) := by
  have H := Lib.hid h
  have hz := zig_val n hn
  have hzl := zig_lt n hn
  have HE : Hid (encI n = vb (zig n)) := rfl
  obtain ⟨z, hzz⟩ : ∃ z, zig n = z := ⟨_, rfl⟩
  rw [hzz] at hz hzl HE
  have H10 := Lib.hid (vb_len10 z hzl)
  have HZ : Hid (z < 18446744073709551616) := hzl
  clear h hzz hzl
  go_enter Tryd.func35, Tryd.ntmps35
  go_wp2_with fail
  go_loopw [4] (fun u wr => ∃ (k : Nat) (d : List UInt8), u = .int .u64 k ∧ Hid (k < 18446744073709551616) ∧ Hid (d ++ vb k = vb z) ∧ Hid (WrP wr B g (l ++ d)) ∧ Hid (Below B w wr ∧ OK8 g w wr)) (fun u _ => (intOf u).toNat)
  case atStart => exact ⟨z, [], rfl, HZ, by simp [Hid], by rw [List.append_nil]; exact H, Below.refl _ _, Lib.OthersKept.refl _ _ _⟩
  case round =>
    obtain ⟨k, d, rfl, hk, HD, HW, HBB⟩ := hrel
    have HB := Lib.hid HBB.out.1
    have HO5 := Lib.hid HBB.out.2
    clear HBB
    by_cases h127 : 127 < k
    · have h127' : (127 : Int) < (k : Int) := by omega
      have HV : Hid (vb k = UInt8.ofNat (k % 128 + 128) :: vb (k / 128)) := by simp only [Hid]; rw [vb, if_neg (by omega)]
      have HO := Lib.hid (or_128 k)
      have HL : Hid ((l ++ d).length + 1 ≤ 140737488355328) := by
        have h1 := H10.out
        rw [← HD.out, List.length_append, HV.out, List.length_cons] at h1
        simp only [Hid, List.length_append]
        omega
      go_wp2_with fail
      refine (Tryd.bufByte_calls B g (l ++ d) (UInt8.ofNat (k % 128 + 128)) _ HO.out wr HW.out (Nat.le_trans hB HB.out.size) HL.out).mono ?_
      rintro e w1 ⟨rfl, h1, h2, h5⟩
      have H1 := Lib.hid h1
      have H2 := Lib.hid h2
      have H5 := Lib.hid h5
      clear h1 h2 h5
      go_wp2_with fail
      go_roundw
      case rel => exact ⟨k / 128, d ++ [UInt8.ofNat (k % 128 + 128)], by simp, by show k / 128 < _; have := hk.out; omega, by show _ = _; rw [← HD.out, HV.out]; simp, by show WrP _ _ _ _; rw [← List.append_assoc]; exact H1.out, HB.out.trans H2.out, HO5.out.trans H5.out⟩
      case measure => simp [intOf]; omega
    · have h127' : (k : Int) ≤ 127 := by omega
      have HV : Hid (vb k = [UInt8.ofNat k]) := by simp only [Hid]; rw [vb, if_pos (by omega)]
      have HO := Lib.hid (lo_byte k (by omega))
      have HL : Hid ((l ++ d).length + 1 ≤ 140737488355328) := by
        have h1 := H10.out
        rw [← HD.out, List.length_append, HV.out, List.length_cons] at h1
        simp only [Hid, List.length_append]
        omega
      go_wp2_with fail
      refine (Tryd.bufByte_calls B g (l ++ d) (UInt8.ofNat k) _ HO.out wr HW.out (Nat.le_trans hB HB.out.size) HL.out).mono ?_
      rintro e w1 ⟨rfl, h1, h2, h5⟩
      have H1 := Lib.hid h1
      have H2 := Lib.hid h2
      have H5 := Lib.hid h5
      clear h1 h2 h5
      go_wp2_with fail
      go_end0
      exact ⟨rfl, by rw [HE.out, ← HD.out, HV.out, ← List.append_assoc]; exact H1.out, HB.out.trans H2.out, HO5.out.trans H5.out⟩

set_option maxHeartbeats 1600000 in
theorem Tryd.wTextK_calls (B g : Nat) (l : List UInt8) (s : ByteArray) (w : World) (h : WrP w B g l) (hB : B ≤ w.heap.size) (hl : l.length + 10 + s.size ≤ 140737488355328) :
    Calls Tryd.prog 36 #[.pointer (some ⟨g, 0, none⟩), .string s] w (WPostK w B g (l ++ encB s.data.toList)) := by
  have H := Lib.hid h
  have HE : Hid (encB s.data.toList = encI s.size ++ s.data.toList) := by
    show encI _ ++ _ = encI _ ++ _
    rw [show (s.data.toList.length : Int) = (s.size : Int) from by rw [Array.length_toList]; rfl]
  clear h
  go_enter Tryd.func36, Tryd.ntmps36
  go_wp2_with fail
  refine (Tryd.wIntK_calls B g l s.size (by omega) w H.out hB (by omega)).mono ?_
  rintro e w1 ⟨rfl, h1, h2, h5⟩
  have H1 := Lib.hid h1
  have H2 := Lib.hid h2
  have H5 := Lib.hid h5
  have hlen : Hid ((l ++ encI s.size).length + s.size ≤ 140737488355328) := by
    have := vb_len10 (zig s.size) (zig_lt _ (by omega))
    simp only [Hid, List.length_append, encI]; omega
  clear h1 h2 h5
  go_wp2_with fail
  refine (Tryd.bufString_calls B g _ s w1 H1.out (Nat.le_trans hB H2.out.size) hlen.out).mono ?_
  rintro e w2 ⟨rfl, h1, h2, h5⟩
  have H3 := Lib.hid h1
  have H4 := Lib.hid h2
  have H6 := Lib.hid h5
  clear h1 h2 h5
  go_wp2_with fail
  go_end0
  exact ⟨rfl, by rw [HE.out, ← List.append_assoc]; exact H3.out, H2.out.trans H4.out, H5.out.trans H6.out⟩

theorem Tryd.wByte_calls (B g : Nat) (l : List UInt8) (x : UInt8) (c : Int) (hc : c = x.toNat) (w : World) (h : WrP w B g l) (hB : B ≤ w.heap.size) (hl : l.length + 1 ≤ 140737488355328) :
    Calls Tryd.prog 34 #[.pointer (some ⟨g, 0, none⟩), .int .u8 c] w (WPost w B g (l ++ [x])) := (Tryd.wByteK_calls B g l x c hc w h hB hl).mono fun _ _ h => h.post
theorem Tryd.wInt_calls (B g : Nat) (l : List UInt8) (n : Int) (hn : -9223372036854775808 ≤ n ∧ n ≤ 9223372036854775807) (w : World) (h : WrP w B g l) (hB : B ≤ w.heap.size) (hl : l.length + 10 ≤ 140737488355328) :
    Calls Tryd.prog 35 #[.pointer (some ⟨g, 0, none⟩), .int .i64 n] w (WPost w B g (l ++ encI n)) := (Tryd.wIntK_calls B g l n hn w h hB hl).mono fun _ _ h => h.post
end Go.Proofs
