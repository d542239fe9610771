/- Walks: the reader of package wire: Count, Bytes, Text, Whole, NewReader; bytes.Clone. -/
import Derived.Test.YtkcpfchfpnmkpaaDoorWk3
import Derived.Test.YtkcpfchfpnmkpaaDoorShelf
import Derived.Test.YtkcpfchfpnmkpaaDoorConv
namespace Go.Proofs
open Go Go.RowKit Go.Proofs.YtkcpfchfpnmkpaaDoor

namespace YtkcpfchfpnmkpaaDoor
theorem dec_lt (l : List UInt8) : ∀ k u r, k ≤ 9 → dec k l = some (u, r) → u * 128 ^ k < 18446744073709551616 := by
  induction l with
  | nil => intro k u r _ h; simp [dec] at h
  | cons c l ih =>
    intro k u r hk h
    simp only [dec] at h
    split at h
    · rename_i h1
      simp only [Option.map_eq_some_iff] at h
      obtain ⟨⟨u', r'⟩, hd, he⟩ := h
      have := ih (k + 1) u' r' (by omega) hd
      simp only [Prod.mk.injEq] at he
      obtain ⟨rfl, rfl⟩ := he
      have h8 : 2 ^ (64 - 7 * (k + 1)) * 128 ^ (k + 1) = 18446744073709551616 := by
        rw [← pow_128, ← Nat.pow_add, show 64 - 7 * (k + 1) + 7 * (k + 1) = 64 by omega]
      rw [← h8] at this
      have h9 := Nat.lt_of_mul_lt_mul_right this
      have h10 : (u' + 1) * 128 ^ (k + 1) ≤ 2 ^ (64 - 7 * (k + 1)) * 128 ^ (k + 1) := Nat.mul_le_mul_right _ h9
      rw [h8, Nat.add_mul, Nat.one_mul] at h10
      have h11 : c.toNat % 128 * 128 ^ k ≤ 127 * 128 ^ k := Nat.mul_le_mul_right _ (by omega)
      have h12 : 128 ^ (k + 1) = 128 * 128 ^ k := by rw [Nat.pow_succ, Nat.mul_comm]
      have h13 : u' * 128 ^ (k + 1) = 128 * u' * 128 ^ k := by rw [h12, ← Nat.mul_assoc, Nat.mul_comm u']
      have h14 : 0 < 128 ^ k := Nat.pos_of_ne_zero (by simp)
      rw [Nat.add_mul]
      omega
    · split at h
      · simp at h
      · rename_i h1 h2
        simp only [Option.some.injEq, Prod.mk.injEq] at h
        obtain ⟨rfl, rfl⟩ := h
        have := val_lt 0 c.toNat k (Nat.pos_of_ne_zero (by simp)) hk (by omega)
        omega
theorem rdInt_range (r : Rd) : -9223372036854775808 ≤ (rdInt r).1 ∧ (rdInt r).1 ≤ 9223372036854775807 := by
  cases r with
  | none => simp [rdInt]
  | some l =>
    simp only [rdInt]
    cases h : dec 0 l with
    | none => simp
    | some x =>
      have := dec_lt l 0 x.1 x.2 (by omega) h
      simp only [unzig]
      split <;> omega
def CountP (w : World) (g : Nat) (x : Nat × Rd) (e : Ending) (w' : World) : Prop := e = .returned (.int .i64 x.1) ∧ RdP w' g x.2 ∧ w.grownBy w' (some g)
theorem rdCount_le (most : Nat) (r : Rd) : (rdCount most r).1 ≤ most := by
  unfold rdCount; split
  · simp
  · simp; omega
/-- A new slice of bytes: its block is none of those that were there. -/
def NewBs (w w' : World) (v : Value) (l : List UInt8) : Prop := Bs w' v l ∧ ∀ b, v.ownBlock = some b → w.heap.size ≤ b ∧ b < w'.heap.size
end YtkcpfchfpnmkpaaDoor

set_option maxHeartbeats 800000 in
theorem Tryd.count_calls (most : Nat) (g : Nat) (r : Rd) (w : World) (h : RdP w g r) (hm : most ≤ 2147483648) :
    Calls Tryd.prog 72 #[.pointer (some ⟨g, 0, none⟩), .int .i64 most] w (CountP w g (rdCount most r)) := by
  have H := Lib.hid h
  have hr := rdInt_range r
  have HC : Hid (rdCount most r = if (rdInt r).1 < 0 ∨ (most : Int) < (rdInt r).1 then (0, none) else ((rdInt r).1.toNat, (rdInt r).2)) := rfl
  clear h
  go_enter Tryd.func72, Tryd.ntmps72
  go_wp2_with fail
  refine (Tryd.rInt_calls g r w H.out).mono ?_
  rintro e w1 ⟨rfl, hr1, hg1⟩
  have HR := Lib.hid hr1
  have HG := Lib.hid hg1
  clear hr1 hg1
  generalize (rdInt r).2 = r2 at *
  generalize (rdInt r).1 = n at *
  by_cases hneg : n < 0
  · rw [if_pos (.inl hneg)] at HC
    go_wp2_with (go_at_call 86; refine (Tryd.fail_calls _ _ _ HR.out).mono ?_; rintro e w' ⟨rfl, hr, hg⟩)
    go_ret
    rw [HC.out]
    exact ⟨rfl, hr, grown_tr HG.out hg⟩
  · by_cases hbig : (most : Int) < n
    · rw [if_pos (.inr hbig)] at HC
      go_wp2_with (go_at_call 86; refine (Tryd.fail_calls _ _ _ HR.out).mono ?_; rintro e w' ⟨rfl, hr, hg⟩)
      go_ret
      rw [HC.out]
      exact ⟨rfl, hr, grown_tr HG.out hg⟩
    · rw [if_neg (by omega)] at HC
      obtain ⟨m, rfl⟩ := Int.eq_ofNat_of_zero_le (show 0 ≤ n by omega)
      have e1 : decide ((most : Int) < (m : Int)) = false := by simp; omega
      have e2 : decide (most < m) = false := by simp; omega
      go_wp2_with (go_at_call 86; fail)
      go_ret
      rw [HC.out]
      exact ⟨ret_int (by simp), HR.out, HG.out⟩

theorem Tryd.clone_calls (v : Value) (l : List UInt8) (w : World) (h : Bs w v l) (hl : l.length ≤ 140737488355328) :
    Calls Tryd.prog 57 #[v] w fun e w' => ∃ v', e = .returned v' ∧ NewBs w w' v' l ∧ Below w.heap.size w w' := by
  obtain ⟨a, c, rfl, h1, h2, h3, h4⟩ := h
  cases a with
  | none =>
    refine (Tryd.bytes_Clone_nil l.length c w).mono ?_
    rintro e w' ⟨rfl, rfl⟩
    have hn : l = [] := by
      cases l with
      | nil => rfl
      | cons x l => simp at h3; subst h3; simp at h1
    subst hn
    exact ⟨_, rfl, ⟨Bs.nil _, by simp [Value.ownBlock]⟩, Below.refl _ _⟩
  | some ad =>
    refine (Tryd.bytes_Clone_at ad l.length c (l.map fun x => (x.toNat : Int)) w (by simp) hl ?_).mono ?_
    · intro i hi
      obtain ⟨b, off, e, hc⟩ := h4 i _ (bv_get l i hi)
      obtain rfl := Option.some.inj e
      rw [addr_add, hc]
      simp [hi]
    · rintro e w' ⟨v', rfl, ho, hne, hb⟩
      refine ⟨v', rfl, ⟨?_, fun b hb' => ho.lt b hb'⟩, hb⟩
      have hbv : (l.map fun x => (x.toNat : Int)).map (Value.int .u8) = bv l := by simp [bv]
      rw [hbv] at ho
      obtain ⟨hx, ⟨rfl, hn⟩ | ⟨g, cap, cur, rfl, hg1, hg2, hg3, hg4, hg5, hg6⟩⟩ := ho
      · exact absurd rfl hne
      · refine ⟨some ⟨g, 0, none⟩, cap, rfl, hg3, hg4, by simp, ?_⟩
        intro i x hi
        refine ⟨g, 0, rfl, ?_⟩
        rw [Nat.mul_one] at hg6
        rw [← hg6, List.getElem?_take] at hi
        split at hi
        · simp only [World.cell?, hg2]
          simpa using hi
        · simp at hi

namespace YtkcpfchfpnmkpaaDoor
def BytesP (w : World) (g : Nat) (x : List UInt8 × Rd) (e : Ending) (w' : World) : Prop :=
  ∃ v, e = .returned v ∧ NewBs w w' v x.1 ∧ RdP w' g x.2 ∧ w.grownBy w' (some g)
def TextP (w : World) (g : Nat) (x : List UInt8 × Rd) (e : Ending) (w' : World) : Prop :=
  e = .returned (.string ⟨x.1.toArray⟩) ∧ RdP w' g x.2 ∧ w.grownBy w' (some g)
theorem rdTake_le (n : Nat) (r : Rd) : (rdTake n r).1.length ≤ n := by
  unfold rdTake; split
  · split
    · simp; omega
    · simp
  · simp
theorem takeI_nat (n : Nat) (r : Rd) : takeI (n : Int) r = rdTake n r := by simp [takeI]; omega
theorem RdP.below {w w' : World} {g : Nat} {r : Rd} (h : RdP w g r) (hb : Below w.heap.size w w') : RdP w' g r :=
  h.grown (grown_of_below hb) (by simp) (fun sv _ => by cases sv.ownBlock <;> simp)
theorem grown_bel {a b c : World} {row : Option Nat} (h1 : a.grownBy b row) (h2 : Below b.heap.size b c) : a.grownBy c row := grown_tr h1 (grown_none (grown_of_below h2))
end YtkcpfchfpnmkpaaDoor

set_option maxHeartbeats 800000 in
theorem Tryd.bytes_calls (most : Nat) (g : Nat) (r : Rd) (w : World) (h : RdP w g r) (hm : most ≤ 2147483648) :
    Calls Tryd.prog 74 #[.pointer (some ⟨g, 0, none⟩), .int .i64 most] w (BytesP w g (rdBytes most r)) := by
  have H := Lib.hid h
  have hle := rdCount_le most r
  have HC : Hid (rdBytes most r = rdTake (rdCount most r).1 (rdCount most r).2) := rfl
  clear h
  go_enter Tryd.func74, Tryd.ntmps74
  go_wp2_with fail
  refine (Tryd.count_calls most g r w H.out hm).mono ?_
  rintro e w1 ⟨rfl, hr1, hg1⟩
  have HR := Lib.hid hr1
  have HG := Lib.hid hg1
  clear hr1 hg1
  generalize (rdCount most r).2 = r2 at *
  generalize (rdCount most r).1 = n at *
  go_wp2_with fail
  refine (Tryd.take_calls n g r2 w1 HR.out (by omega)).mono ?_
  rintro e w2 ⟨v, rfl, hb, hr2, hne, hg2⟩
  rw [takeI_nat] at hb hr2
  have HB := Lib.hid hb
  have HR2 := Lib.hid hr2
  have HG2 := Lib.hid (grown_tr HG.out hg2)
  clear hb hr2 hg2 hne
  go_wp2_with fail
  refine (Tryd.clone_calls v _ w2 HB.out (by have := rdTake_le n r2; omega)).mono ?_
  rintro e w3 ⟨v3, rfl, hn3, hb3⟩
  have HN3 := Lib.hid hn3
  have HB3 := Lib.hid hb3
  clear hn3 hb3
  go_wp2_with fail
  go_ret
  rw [HC.out]
  exact ⟨_, rfl, ⟨HN3.out.1, fun b hb => ⟨Nat.le_trans HG2.out.size (HN3.out.2 b hb).1, (HN3.out.2 b hb).2⟩⟩, HR2.out.below HB3.out, grown_bel HG2.out HB3.out⟩

set_option maxHeartbeats 800000 in
theorem Tryd.text_calls (most : Nat) (g : Nat) (r : Rd) (w : World) (h : RdP w g r) (hm : most ≤ 2147483648) :
    Calls Tryd.prog 73 #[.pointer (some ⟨g, 0, none⟩), .int .i64 most] w (TextP w g (rdBytes most r)) := by
  have H := Lib.hid h
  have hle := rdCount_le most r
  have HC : Hid (rdBytes most r = rdTake (rdCount most r).1 (rdCount most r).2) := rfl
  clear h
  go_enter Tryd.func73, Tryd.ntmps73
  go_wp2_with fail
  refine (Tryd.count_calls most g r w H.out hm).mono ?_
  rintro e w1 ⟨rfl, hr1, hg1⟩
  have HR := Lib.hid hr1
  have HG := Lib.hid hg1
  clear hr1 hg1
  generalize (rdCount most r).2 = r2 at *
  generalize (rdCount most r).1 = n at *
  go_wp2_with fail
  refine (Tryd.take_calls n g r2 w1 HR.out (by omega)).mono ?_
  rintro e w2 ⟨v, rfl, hb, hr2, hne, hg2⟩
  rw [takeI_nat] at hb hr2
  have HB := Lib.hid hb
  have HR2 := Lib.hid hr2
  have HG2 := Lib.hid (grown_tr HG.out hg2)
  clear hr2 hg2 hne
  have hcv := convert_bytes hb 30 9 5 Tryd.underlying30 Tryd.underlying5 Tryd.underlying9
  clear hb HB
  go_wp2_with fail
  go_ret
  rw [HC.out]
  exact ⟨rfl, HR2.out, HG2.out⟩

theorem Tryd.whole_calls (g : Nat) (r : Rd) (w : World) (h : RdP w g r) :
    Calls Tryd.prog 78 #[.pointer (some ⟨g, 0, none⟩)] w fun e w' => e = .returned (.bool (r == some [])) ∧ w = w' := by
  have h' := h
  obtain ⟨sv, h0, h1, f0, f1, hne, hb⟩ := h
  obtain ⟨a, c, rfl, h11, h12, h13, h14⟩ := hb
  have HH := Lib.hid h'
  clear h' hne h14 h13
  cases r with
  | none =>
    go_enter Tryd.func78, Tryd.ntmps78
    go_wp2_with (go_at_call 76; refine (Tryd.good_calls _ _ _ HH.out).mono ?_; rintro e w' ⟨rfl, rfl⟩)
    go_ret
    exact ⟨rfl, rfl⟩
  | some l =>
    simp only [Option.getD] at h0 h11
    cases l with
    | nil =>
      go_enter Tryd.func78, Tryd.ntmps78
      go_wp2_with (go_at_call 76; refine (Tryd.good_calls _ _ _ HH.out).mono ?_; rintro e w' ⟨rfl, rfl⟩)
      go_ret
      exact ⟨rfl, rfl⟩
    | cons x l =>
      have e1 : (((x :: l).length : Int) == 0) = false := by simp; omega
      have e2 : ((l.length : Int) + 1 == 0) = false := by simp; omega
      go_enter Tryd.func78, Tryd.ntmps78
      go_wp2_with (go_at_call 76; refine (Tryd.good_calls _ _ _ HH.out).mono ?_; rintro e w' ⟨rfl, rfl⟩)
      go_ret
      exact ⟨rfl, rfl⟩
end Go.Proofs
