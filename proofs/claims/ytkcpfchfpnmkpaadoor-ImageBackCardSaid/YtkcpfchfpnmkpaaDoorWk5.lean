/- Walks: package wire: NewReader, number, four, Sum, Frame, Unframe. -/
import Derived.Test.YtkcpfchfpnmkpaaDoorWk4
import Derived.Test.YtkcpfchfpnmkpaaDoorCrc
namespace Go.Proofs
open Go Go.RowKit Go.Proofs.YtkcpfchfpnmkpaaDoor

namespace YtkcpfchfpnmkpaaDoor
theorem num_val (a b c d : Nat) (ha : a < 256) (hb : b < 256) (hc : c < 256) (hd : d < 256) :
    bits .or .u32 (bits .or .u32 (bits .or .u32 ((a : Int) % 4294967296) ((b : Int) % 4294967296 * 256 % 4294967296)) ((c : Int) % 4294967296 * 65536 % 4294967296)) ((d : Int) % 4294967296 * 16777216 % 4294967296) = ((a + b * 256 + c * 65536 + d * 16777216 : Nat) : Int) := by
  rw [show (a : Int) % 4294967296 = (a : Int) by omega, show (b : Int) % 4294967296 * 256 % 4294967296 = ((b * 256 : Nat) : Int) by omega,
    show (c : Int) % 4294967296 * 65536 % 4294967296 = ((c * 65536 : Nat) : Int) by omega, show (d : Int) % 4294967296 * 16777216 % 4294967296 = ((d * 16777216 : Nat) : Int) by omega]
  rw [u32_or_nat _ _ (by omega) (by omega), Nat.or_comm, nat_join 8 _ _ (by omega) (by omega)]
  rw [u32_or_nat _ _ (by omega) (by omega), Nat.or_comm, nat_join 16 _ _ (by omega) (by omega)]
  rw [u32_or_nat _ _ (by omega) (by omega), Nat.or_comm, nat_join 24 _ _ (by omega) (by omega)]
  congr 1
  omega
theorem newRowB (w : World) (vs : List Value) (t : TypeId) (v : Value) (n : Nat) (l : List UInt8) (hv : v = .slice (some ⟨w.heap.size, 0, none⟩) n n) (hn : n = l.length) (hm : n ≤ maxLen) (h : vs = bv l) :
    NewBs w (w.alloc (.cells vs.toArray t)) v l := by
  subst hv hn h
  refine ⟨⟨_, _, rfl, Nat.le_refl _, hm, by simp, ?_⟩, by simp [Value.ownBlock]⟩
  intro i v hi
  exact ⟨_, _, rfl, by rw [World.cell?_alloc_at _ _ _ _ rfl]; simpa using hi⟩
def tab (i : Nat) : List Value := (List.range 16).map fun j => .int .u32 (if j < i then crcBits 4 j else 0 : Nat)
theorem tab_zero : tab 0 = List.replicate 16 (.int .u32 0) := by simp [tab, List.range, List.range.loop]
theorem tab_set (i : Nat) (hi : i < 16) : (tab i).set i (.int .u32 (crcBits 4 i)) = tab (i + 1) := by
  apply List.ext_getElem?
  intro j
  rw [List.getElem?_set]
  by_cases hj : j < 16
  · by_cases e : i = j
    · subst e
      simp [tab, hj]
    · rw [if_neg e]
      simp only [tab, List.getElem?_map, List.getElem?_range hj, Option.map_some]
      by_cases h : j < i
      · simp [h, show j < i + 1 by omega]
      · simp [h, show ¬ j < i + 1 by omega]
  · have h1 : (tab i)[j]? = none := by simp [tab]; omega
    have h2 : (tab (i + 1))[j]? = none := by simp [tab]; omega
    rw [h1, h2, if_neg (by omega)]
theorem tab_get0 (j : Nat) (hj : j < 16) : (tab j)[j]? = some (.int .u32 0) := by simp [tab, hj]
theorem bit_step (x : Nat) (hx : x < 4294967296) : bits .xor .u32 ((x : Int) / 2) (3988292384 * bits .and .u32 (x : Int) 1 % 4294967296) = ((crcBit x : Nat) : Int) := by
  have h1 := u32_and_nat x 1 hx (by omega)
  rw [nat_mask1] at h1
  rw [show bits .and .u32 (x : Int) 1 = ((x % 2 : Nat) : Int) from h1]
  have ho : x % 2 = 0 ∨ x % 2 = 1 := by omega
  rw [show (x : Int) / 2 = ((x / 2 : Nat) : Int) by omega]
  unfold crcBit
  rcases ho with ho | ho
  · rw [ho, show (3988292384 * ((0 : Nat) : Int) % 4294967296) = ((0 : Nat) : Int) by omega, u32_xor_nat _ _ (by omega) (by omega), Nat.xor_zero]
    simp
  · rw [ho, show (3988292384 * ((1 : Nat) : Int) % 4294967296) = ((3988292384 : Nat) : Int) by omega, u32_xor_nat _ _ (by omega) (by omega)]
    simp
theorem and_15 (c : Nat) (hc : c < 4294967296) : bits .and .u32 (c : Int) 15 = ((c % 16 : Nat) : Int) := by
  have h1 := u32_and_nat c 15 hc (by omega)
  rw [nat_mask4] at h1
  exact h1
theorem nib_step (c : Nat) (hc : c < 4294967296) : bits .xor .u32 ((c : Int) / 16) ((crcBits 4 (c % 16) : Nat) : Int) = ((crcBits 4 c : Nat) : Int) := by
  rw [show (c : Int) / 16 = ((c / 16 : Nat) : Int) by omega, u32_xor_nat _ _ (by omega) (crcBits_lt _ _ (by omega)), nib]
theorem crcBits_snoc (m k : Nat) : crcBits (m + 1) k = crcBit (crcBits m k) := by rw [crcBits_add]; rfl
theorem crc_end (l : List UInt8) : bits .xor .u32 IntKind.u32.max ((crcFold l : Nat) : Int) = ((crc l : Nat) : Int) := by
  have h := crcFold_lt l
  have h1 := u32_xor_nat 4294967295 (crcFold l) (by omega) h
  rw [show IntKind.u32.max = ((4294967295 : Nat) : Int) from by decide, h1, Nat.xor_comm]
  congr 1
  unfold crc
  have : crcFold l ^^^ (2 ^ 32 - 1) = 2 ^ 32 - 1 - crcFold l := by
    apply Nat.eq_of_testBit_eq
    intro i
    rw [Nat.testBit_xor, Nat.testBit_two_pow_sub_one, Nat.sub_sub, Nat.add_comm 1, Nat.testBit_two_pow_sub_succ (by omega)]
    by_cases hi : i < 32
    · simp [hi]
    · have h2 := Nat.testBit_lt_two_pow (x := crcFold l) (i := i) (Nat.lt_of_lt_of_le h (Nat.pow_le_pow_right (n := 2) (by omega) (show 32 ≤ i by omega)))
      simp [hi, h2]
  exact this
theorem tab_get (j : Nat) (hj : j < 16) : (tab 16)[j]? = some (.int .u32 (crcBits 4 j)) := by simp [tab, hj]
end YtkcpfchfpnmkpaaDoor

set_option maxHeartbeats 800000 in
theorem Tryd.newReader_calls (v : Value) (l : List UInt8) (w : World) (h : Bs w v l) (hl : l.length ≤ 140737488355328) :
    Calls Tryd.prog 70 #[v] w fun e w' => ∃ g, e = .returned (.pointer (some ⟨g, 0, none⟩)) ∧ w.heap.size ≤ g ∧ RdP w' g (some l) ∧ Below w.heap.size w w' := by
  have H := Lib.hid h
  clear h
  go_enter Tryd.func70, Tryd.ntmps70
  go_wp2_with fail
  refine (Tryd.clone_calls v l _ H.out hl).mono ?_
  rintro e w1 ⟨v1, rfl, hn, hb⟩
  obtain ⟨⟨a1, c1, rfl, q1, q2, q3, q4⟩, hf⟩ := hn
  have HN : Hid (NewBs w w1 (.slice a1 l.length c1) l) := ⟨⟨a1, c1, rfl, q1, q2, q3, q4⟩, hf⟩
  have HB := Lib.hid hb
  clear hb q4 q3 hf
  go_wp2_with fail
  go_ret
  have hsz := HB.out.size
  refine ⟨w1.heap.size, rfl, hsz, ⟨.slice a1 l.length c1, by simp [go_sem], by simp [go_sem], by simp [go_sem], by simp [go_sem], ?_, ?_⟩, HB.out.alloc hsz _⟩
  · intro k hk
    exact (HN.out.2 k hk).2
  · exact HN.out.1.grown (World.grownBy_alloc _ _ none) (by cases (Value.slice a1 l.length c1).ownBlock <;> simp)

set_option maxHeartbeats 800000 in
theorem Tryd.number_calls (v : Value) (l : List UInt8) (w : World) (h : Bs w v l) (hl : 4 ≤ l.length) :
    Calls Tryd.prog 84 #[v] w fun e w' => e = .returned (.int .u32 (un4 l)) ∧ ∃ n, w' = w.drewN n := by
  obtain ⟨a, c, rfl, h1, h2, h3, h4⟩ := h
  obtain ⟨x0, g0⟩ := get_some l 0 (by omega)
  obtain ⟨x1, g1⟩ := get_some l 1 (by omega)
  obtain ⟨x2, g2⟩ := get_some l 2 (by omega)
  obtain ⟨x3, g3⟩ := get_some l 3 (by omega)
  obtain ⟨b, off, rfl, c0⟩ := h4 0 _ (bv_of_get g0)
  obtain ⟨b', off', e', c1⟩ := h4 1 _ (bv_of_get g1)
  cases e'
  obtain ⟨b', off', e', c2⟩ := h4 2 _ (bv_of_get g2)
  cases e'
  obtain ⟨b', off', e', c3⟩ := h4 3 _ (bv_of_get g3)
  cases e'
  have hu : Hid (un4 l = x0.toNat + x1.toNat * 256 + x2.toNat * 65536 + x3.toNat * 16777216) := by simp [Hid, un4, List.getD, g0, g1, g2, g3]
  clear g0 g1 g2 g3 h4 h3
  rw [Nat.add_zero] at c0
  have b0 : (0 : Int) < (l.length : Int) := by omega
  have b1 : (1 : Int) < (l.length : Int) := by omega
  have b2 : (2 : Int) < (l.length : Int) := by omega
  have b3 : (3 : Int) < (l.length : Int) := by omega
  go_enter Tryd.func84, Tryd.ntmps84
  go_wp2
  go_quiet (fail)
  go_wp2
  go_ret
  exact ⟨ret_int (by rw [hu.out]; exact num_val _ _ _ _ x0.toNat_lt x1.toNat_lt x2.toNat_lt x3.toNat_lt), _, rfl⟩

theorem Tryd.four_calls (n : Nat) (hn : n < 4294967296) (w : World) :
    Calls Tryd.prog 55 #[.int .u32 n] w fun e w' => ∃ v, e = .returned v ∧ NewBs w w' v (le4 n) ∧ Below w.heap.size w w' := by
  have hn' : (n : Int) < 4294967296 := by omega
  go_enter Tryd.func55, Tryd.ntmps55
  go_wp2
  go_ret
  refine ⟨_, rfl, YtkcpfchfpnmkpaaDoor.newRowB _ _ _ _ _ _ rfl rfl (by decide) ?_, (Below.refl _ _).alloc (Nat.le_refl _) _⟩
  simp only [le4, bv, List.map_cons, List.map_nil, UInt8.toNat_ofNat']
  congr 2 <;> first | omega | (congr 2 <;> first | omega | (congr 2 <;> first | omega | (congr 2; omega)))

set_option maxRecDepth 100000 in
set_option maxHeartbeats 1600000 in
theorem Tryd.sum_calls (v : Value) (l : List UInt8) (w : World) (h : Bs w v l) :
    Calls Tryd.prog 56 #[v] w fun e w' => e = .returned (.int .u32 (crc l)) ∧ Below w.heap.size w w' := by
  obtain ⟨a, c, rfl, h1, h2, h3, h4⟩ := h
  unfold maxLen at h2
  have H4 := Lib.hid h4
  clear h3 h4
  go_enter Tryd.func56, Tryd.ntmps56
  go_wp2
  go_loopw [9] (fun i wr => ∃ k : Nat, k ≤ 16 ∧ i = .int .i64 k ∧ wr = w.alloc (.cells (tab k).toArray 128)) (fun i _ => 16 - (intOf i).toNat)
  case atStart => exact ⟨0, by omega, rfl, by rw [tab_zero]; rfl⟩
  case round =>
    obtain ⟨k, hk, rfl, rfl⟩ := hrel
    by_cases hlt : k < 16
    · have e0 : (k : Int) < 16 := by omega
      go_wp2
      go_loop [5, 14] (fun c i => ∃ m : Nat, m ≤ 4 ∧ i = .int .i64 m ∧ ∃ x : Nat, x < 4294967296 ∧ c = .int .u32 x ∧ Hid (x = crcBits m k)) (fun _ i => 4 - (intOf i).toNat)
      case atStart => exact ⟨0, by omega, rfl, k, by omega, rfl, rfl⟩
      case round =>
        obtain ⟨m, hm, rfl, x, hx, rfl, HX⟩ := hrel
        by_cases hlt4 : m < 4
        · have e1 : (m : Int) < 4 := by omega
          have HB := Lib.hid (bit_step x hx)
          go_wp2
          go_round
          case rel => exact ⟨m + 1, by omega, by go_num, _, crcBit_lt x hx, by rw [HB.out], by rw [HX.out]; exact (crcBits_snoc m k).symm⟩
          case measure => simp [intOf]; omega
        · have ht := tab_get0 k hlt
          go_wp2
          go_roundw
          case rel => exact ⟨k + 1, by omega, by go_num, by rw [HX.out, show m = 4 by omega, tab_set k hlt]⟩
          case measure => simp [intOf]; omega
    · have hk16 : k = 16 := by omega
      subst hk16
      go_wp2
      go_loopw [6, 29] (fun c i wr => ∃ m n : Nat, m ≤ l.length ∧ i = .int .i64 m ∧ wr = (w.alloc (.cells (tab 16).toArray 128)).drewN n ∧ ∃ x : Nat, x < 4294967296 ∧ c = .int .u32 x ∧ Hid (x = crcFold (l.take m))) (fun _ i _ => l.length - (intOf i).toNat)
      case atStart => exact ⟨0, 0, by omega, rfl, rfl, 4294967295, by omega, rfl, rfl⟩
      case round =>
        obtain ⟨m, n, hm, rfl, rfl, x, hx, rfl, HX⟩ := hrel
        by_cases hlt4 : m < l.length
        · have e1 : (m : Int) < (l.length : Int) := by omega
          obtain ⟨y, hy⟩ := get_some l m hlt4
          obtain ⟨b, off, rfl, g1⟩ := H4.out m _ (bv_of_get hy)
          have g2 : (w.alloc (.cells (tab 16).toArray 128)).cell? ⟨b, off + m, none⟩ = some (.int .u8 y.toNat) := by
            rw [World.cell?_alloc_past _ _ _ (World.block_lt_of_cell? _ _ g1)]; exact g1
          have hy8 : (y.toNat : Int) < 256 := by have := y.toNat_lt; omega
          have HN : Hid (crcFold (l.take (m + 1)) = crcBits 4 (crcBits 4 (x ^^^ y.toNat))) := by rw [take_snoc hy, crcFold_snoc, crcByte_nib, ← HX.out]; rfl
          have hxy := u32_xor_nat x y.toNat hx (by omega)
          have hc1 : x ^^^ y.toNat < 4294967296 := Nat.xor_lt_two_pow (n := 32) hx (by omega)
          clear hy HX
          generalize x ^^^ y.toNat = c1 at *
          have ha1 := and_15 c1 hc1
          have ht1 := tab_get (c1 % 16) (by omega)
          have hn1 := nib_step c1 hc1
          have hc2 := crcBits_lt 4 c1 hc1
          have hq1 : c1 % 16 < 16 := by omega
          generalize crcBits 4 (c1 % 16) = t1 at *
          generalize c1 % 16 = q1 at *
          generalize crcBits 4 c1 = c2 at *
          have ha2 := and_15 c2 hc2
          have ht2 := tab_get (c2 % 16) (by omega)
          have hn2 := nib_step c2 hc2
          have hc3 := crcBits_lt 4 c2 hc2
          have hq2 : c2 % 16 < 16 := by omega
          generalize crcBits 4 (c2 % 16) = t2 at *
          generalize c2 % 16 = q2 at *
          generalize crcBits 4 c2 = c3 at *
          go_wp2
          go_roundw
          case rel => exact ⟨m + 1, _, by omega, by go_num, rfl, c3, hc3, rfl, HN.out.symm⟩
          case measure => simp [intOf]; omega
        · go_wp2
          have hml : l.take m = l := List.take_of_length_le (by omega)
          have hx2 := HX.out
          rw [hml] at hx2
          subst hx2
          go_ret
          exact ⟨ret_int (crc_end l), (((Below.refl _ _).alloc (Nat.le_refl _) _).trans ⟨rfl, rfl, rfl, Nat.le_refl _, fun _ _ => rfl⟩)⟩
