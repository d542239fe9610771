/- Plain laws: numbers, frames and images as bytes and back. -/
import Derived.Test.YtkcpfchfpnmkpaaDoorCrc
namespace Go.Proofs.YtkcpfchfpnmkpaaDoor

/-! the checksum tells two loads that differ in one byte -/
theorem crcBit_inj (a b : Nat) (ha : a < 4294967296) (hb : b < 4294967296) (h : crcBit a = crcBit b) : a = b := by
  have key : ∀ x, x < 2147483648 → 2147483648 ≤ (x ^^^ 0xEDB88320) := by
    intro x hx
    apply Nat.le_of_not_lt
    intro hlt
    have h2 := Nat.xor_lt_two_pow (n := 31) hx hlt
    rw [← Nat.xor_assoc, Nat.xor_self, Nat.zero_xor] at h2
    omega
  have can : ∀ x y, x ^^^ 0xEDB88320 = y ^^^ 0xEDB88320 → x = y := by
    intro x y h
    have h2 := congrArg (· ^^^ 0xEDB88320) h
    simp only [Nat.xor_assoc, Nat.xor_self, Nat.xor_zero] at h2
    exact h2
  simp only [crcBit] at h
  split at h <;> split at h
  · have := can _ _ h
    omega
  · have := key (a / 2) (by omega); omega
  · have := key (b / 2) (by omega); omega
  · omega
theorem crcBits_inj (k : Nat) : ∀ a b, a < 4294967296 → b < 4294967296 → crcBits k a = crcBits k b → a = b := by
  induction k with
  | zero => intro a b _ _ h; exact h
  | succ k ih => intro a b ha hb h; exact crcBit_inj a b ha hb (ih _ _ (crcBit_lt a ha) (crcBit_lt b hb) h)
theorem xor_can (a b c : Nat) (h : a ^^^ c = b ^^^ c) : a = b := by
  have h2 := congrArg (· ^^^ c) h
  simp only [Nat.xor_assoc, Nat.xor_self, Nat.xor_zero] at h2
  exact h2
theorem u8x_lt (a : Nat) (x : UInt8) (ha : a < 4294967296) : a ^^^ x.toNat < 4294967296 := Nat.xor_lt_two_pow (n := 32) ha (by have := x.toNat_lt; omega)
theorem crcByte_inj (a b : Nat) (x : UInt8) (ha : a < 4294967296) (hb : b < 4294967296) (h : crcByte a x = crcByte b x) : a = b :=
  xor_can _ _ _ (crcBits_inj 8 _ _ (u8x_lt a x ha) (u8x_lt b x hb) h)
theorem crcByte_injx (a : Nat) (x y : UInt8) (ha : a < 4294967296) (h : crcByte a x = crcByte a y) : x = y := by
  have h2 := crcBits_inj 8 _ _ (u8x_lt a x ha) (u8x_lt a y ha) h
  rw [Nat.xor_comm a, Nat.xor_comm a] at h2
  exact UInt8.toNat_inj.1 (xor_can _ _ _ h2)
theorem foldl_inj (l : List UInt8) : ∀ a b, a < 4294967296 → b < 4294967296 → l.foldl crcByte a = l.foldl crcByte b → a = b := by
  induction l with
  | nil => intro a b _ _ h; exact h
  | cons x l ih => intro a b ha hb h; exact crcByte_inj a b x ha hb (ih _ _ (crcByte_lt a x ha) (crcByte_lt b x hb) h)
theorem crc_one (p s : List UInt8) (x y : UInt8) (h : crc (p ++ x :: s) = crc (p ++ y :: s)) : x = y := by
  have h1 := crcFold_lt (p ++ x :: s)
  have h2 := crcFold_lt (p ++ y :: s)
  have h3 : crcFold (p ++ x :: s) = crcFold (p ++ y :: s) := by unfold crc at h; omega
  simp only [crcFold, List.foldl_append, List.foldl_cons] at h3
  have h4 := crcFold_lt p
  exact crcByte_injx _ x y h4 (foldl_inj s _ _ (crcByte_lt _ x h4) (crcByte_lt _ y h4) h3)

/-! frames -/
theorem u8_eq {x : UInt8} {n : Nat} (h : n % 256 = x.toNat) : UInt8.ofNat n = x := by
  apply UInt8.toNat_inj.1
  rw [UInt8.toNat_ofNat']
  exact h
theorem le4_length (n : Nat) : (le4 n).length = 4 := rfl
theorem un4_le4 (n : Nat) (h : n < 4294967296) (r : List UInt8) : un4 (le4 n ++ r) = n := by
  simp only [un4, le4, List.cons_append, List.getD_cons_zero, List.getD_cons_succ, UInt8.toNat_ofNat']
  omega
theorem le4_un4 (l : List UInt8) (h : 4 ≤ l.length) : le4 (un4 l) = l.take 4 := by
  match l, h with
  | a :: b :: c :: d :: r, _ =>
    have ha := a.toNat_lt
    have hb := b.toNat_lt
    have hc := c.toNat_lt
    have hd := d.toNat_lt
    simp only [un4, le4, List.getD_cons_zero, List.getD_cons_succ, List.take_succ_cons, List.take_zero]
    rw [u8_eq (x := a) (by omega), u8_eq (x := b) (by omega), u8_eq (x := c) (by omega), u8_eq (x := d) (by omega)]
theorem un4_lt' (l : List UInt8) : un4 l < 4294967296 := by
  unfold un4
  have h0 := (l.getD 0 0).toNat_lt
  have h1 := (l.getD 1 0).toNat_lt
  have h2 := (l.getD 2 0).toNat_lt
  have h3 := (l.getD 3 0).toNat_lt
  omega
theorem frame_iff (b load : List UInt8) : (unframe b = some load ∧ b.length = 8 + load.length) ↔ frame load = some b := by
  constructor
  · rintro ⟨h, hl⟩
    unfold unframe at h
    split at h
    · cases h
    · split at h
      · cases h
      · rename_i h8 hc
        have hload := Option.some.inj h
        have hn : un4 b = load.length := by
          have := congrArg List.length hload
          rw [List.length_take, List.length_drop] at this
          omega
        have hd : b.drop 8 = load := by
          rw [← hload, List.take_of_length_le]
          rw [List.length_drop]; omega
        have hcr : crc load = un4 (b.drop 4) := by
          rw [hload] at hc
          have : ¬ crc load ≠ un4 (b.drop 4) := fun e => hc (.inr (.inr e))
          simpa using this
        unfold frame
        rw [if_pos (by omega)]
        congr 1
        rw [← hn, hcr, le4_un4 b (by omega), le4_un4 (b.drop 4) (by rw [List.length_drop]; omega), ← hd]
        rw [show b.drop 8 = (b.drop 4).drop 4 by rw [List.drop_drop], List.append_assoc, List.take_append_drop, List.take_append_drop]
  · intro h
    unfold frame at h
    split at h
    · rename_i hlen
      have hb := Option.some.inj h
      subst hb
      have h8 : (le4 load.length ++ le4 (crc load) ++ load).length = 8 + load.length := by simp [le4_length]; omega
      have hu : un4 (le4 load.length ++ le4 (crc load) ++ load) = load.length := by rw [List.append_assoc]; exact un4_le4 _ (by omega) _
      have hd4 : (le4 load.length ++ le4 (crc load) ++ load).drop 4 = le4 (crc load) ++ load := by rw [List.append_assoc]; exact List.drop_left' rfl
      have hd8 : (le4 load.length ++ le4 (crc load) ++ load).drop 8 = load := List.drop_left' rfl
      refine ⟨?_, h8⟩
      unfold unframe
      rw [hu, hd4, hd8, un4_le4 _ (crc_lt load), h8, List.take_length, if_neg (by omega), if_neg]
      simp; omega
    · cases h
theorem frame_parts {load b : List UInt8} (h : frame load = some b) : b = le4 load.length ++ (le4 (crc load) ++ load) ∧ load.length ≤ 1048576 := by
  unfold frame at h
  split at h
  · rename_i hl
    exact ⟨by rw [← Option.some.inj h, List.append_assoc], hl⟩
  · cases h
theorem frame_len {load b : List UInt8} (h : frame load = some b) : b.length = 8 + load.length ∧ un4 b = load.length := by
  obtain ⟨rfl, hl⟩ := frame_parts h
  exact ⟨by simp [le4_length]; omega, un4_le4 _ (by omega) _⟩
theorem un4_pre (a b : List UInt8) (h : a.take 4 = b.take 4) : un4 a = un4 b := by
  have e : ∀ (l : List UInt8) (i : Nat), i < 4 → l.getD i 0 = (l.take 4).getD i 0 := by
    intro l i hi
    rw [List.getD_eq_getElem?_getD, List.getD_eq_getElem?_getD, List.getElem?_take, if_pos hi]
  unfold un4
  rw [e a 0 (by omega), e a 1 (by omega), e a 2 (by omega), e a 3 (by omega), h, ← e b 0 (by omega), ← e b 1 (by omega), ← e b 2 (by omega), ← e b 3 (by omega)]
/-- Cut off, or with bytes behind it, it is no frame. -/
theorem frame_pre {l1 l2 b more : List UInt8} (h1 : frame l1 = some b) (h2 : frame l2 = some (b ++ more)) : more = [] := by
  obtain ⟨a1, a2⟩ := frame_len h1
  obtain ⟨b1, b2⟩ := frame_len h2
  have : un4 (b ++ more) = un4 b := un4_pre _ _ (by rw [List.take_append_of_le_length (by omega)])
  rw [List.length_append] at b1
  exact List.eq_nil_of_length_eq_zero (by omega)
/-- One byte turned: it is no frame. -/
theorem frame_one {l1 l2 p s : List UInt8} {x y : UInt8} (h1 : frame l1 = some (p ++ x :: s)) (h2 : frame l2 = some (p ++ y :: s)) : x = y := by
  obtain ⟨a1, a2⟩ := frame_len h1
  obtain ⟨b1, b2⟩ := frame_len h2
  have hlen : l1.length = l2.length := by simp at a1 b1; omega
  obtain ⟨c1, _⟩ := frame_parts h1
  obtain ⟨c2, _⟩ := frame_parts h2
  rw [hlen] at c1
  by_cases hp4 : p.length < 4
  · have e1 : (p ++ x :: s)[p.length]? = some x := by simp
    have e2 : (p ++ y :: s)[p.length]? = some y := by simp
    rw [c1, List.getElem?_append_left (by rw [le4_length]; exact hp4)] at e1
    rw [c2, List.getElem?_append_left (by rw [le4_length]; exact hp4)] at e2
    rw [e1] at e2
    exact Option.some.inj e2
  · by_cases hp8 : p.length < 8
    · have e : l1 = l2 := by
        have d1 : (p ++ x :: s).drop 8 = l1 := by rw [c1, ← List.append_assoc]; exact List.drop_left' rfl
        have d2 : (p ++ y :: s).drop 8 = l2 := by rw [c2, ← List.append_assoc]; exact List.drop_left' rfl
        rw [← d1, ← d2, List.drop_append, List.drop_append]
        congr 1
        obtain ⟨k, hk⟩ : ∃ k, 8 - p.length = k + 1 := ⟨7 - p.length, by omega⟩
        rw [hk, List.drop_succ_cons, List.drop_succ_cons]
      rw [e] at h1
      rw [h1] at h2
      have := Option.some.inj h2
      simpa using this
    · obtain ⟨q, r, hq, hp⟩ : ∃ q r : List UInt8, q.length = 8 ∧ p = q ++ r := ⟨p.take 8, p.drop 8, by rw [List.length_take]; omega, by rw [List.take_append_drop]⟩
      subst hp
      have d1 : l1 = r ++ x :: s := by
        have : ((q ++ r) ++ x :: s).drop 8 = l1 := by rw [c1, ← List.append_assoc]; exact List.drop_left' rfl
        rw [← this, List.append_assoc]; exact (List.drop_left' hq)
      have d2 : l2 = r ++ y :: s := by
        have : ((q ++ r) ++ y :: s).drop 8 = l2 := by rw [c2, ← List.append_assoc]; exact List.drop_left' rfl
        rw [← this, List.append_assoc]; exact (List.drop_left' hq)
      have t1 : q = le4 l2.length ++ le4 (crc l1) := by
        have : ((q ++ r) ++ x :: s).take 8 = le4 l2.length ++ le4 (crc l1) := by rw [c1, ← List.append_assoc]; exact List.take_left' rfl
        rw [← this, List.append_assoc]; exact (List.take_left' hq).symm
      have t2 : q = le4 l2.length ++ le4 (crc l2) := by
        have : ((q ++ r) ++ y :: s).take 8 = le4 l2.length ++ le4 (crc l2) := by rw [c2, ← List.append_assoc]; exact List.take_left' rfl
        rw [← this, List.append_assoc]; exact (List.take_left' hq).symm
      have t3 : le4 (crc l1) = le4 (crc l2) := List.append_cancel_left (t1.symm.trans t2)
      have t4 : crc l1 = crc l2 := by
        have u1 := un4_le4 (crc l1) (crc_lt l1) []
        have u2 := un4_le4 (crc l2) (crc_lt l2) []
        rw [← u1, ← u2, t3]
      rw [d1, d2] at t4
      exact crc_one _ _ _ _ t4

/-! numbers -/
theorem unzig_zig (n : Int) : unzig (zig n) = n := by unfold unzig zig; split <;> split <;> omega
theorem zig_unzig (u : Nat) : zig (unzig u) = u := by unfold unzig zig; split <;> split <;> omega
def In64 (n : Int) : Prop := -9223372036854775808 ≤ n ∧ n ≤ 9223372036854775807
theorem zig_lt64 {n : Int} (h : In64 n) : zig n < 2 ^ (64 - 7 * 0) := by obtain ⟨h1, h2⟩ := h; unfold zig; simp; split <;> omega
theorem dec_vb : ∀ (u k : Nat) (r : List UInt8), k ≤ 9 → u < 2 ^ (64 - 7 * k) → (k = 0 ∨ u ≠ 0) → dec k (vb u ++ r) = some (u, r) := by
  intro u
  induction u using Nat.strongRecOn with
  | _ u ih =>
    intro k r hk hu h0
    rw [vb]
    split
    · rename_i hs
      have e : (UInt8.ofNat u).toNat = u := by rw [UInt8.toNat_ofNat']; omega
      simp only [List.cons_append, List.nil_append, dec, e]
      rw [if_neg (by omega), if_neg, Nat.mod_eq_of_lt hs]
      rintro (⟨h1, h2⟩ | ⟨h1, h2⟩)
      · omega
      · subst h2; simp at hu; omega
    · rename_i hs
      have hk9 : k < 9 := by
        apply Nat.lt_of_le_of_ne hk
        intro e; subst e; simp at hu; omega
      have e : (UInt8.ofNat (u % 128 + 128)).toNat = u % 128 + 128 := by rw [UInt8.toNat_ofNat']; omega
      simp only [List.cons_append, dec, e]
      have h2 : u / 128 < 2 ^ (64 - 7 * (k + 1)) := by
        apply Nat.div_lt_of_lt_mul
        rw [show (128 : Nat) = 2 ^ 7 from rfl, ← Nat.pow_add, show 7 + (64 - 7 * (k + 1)) = 64 - 7 * k by omega]
        exact hu
      rw [if_pos (by omega), ih (u / 128) (by omega) (k + 1) r (by omega) h2 (.inr (by omega))]
      simp only [Option.map_some, Option.some.injEq, Prod.mk.injEq, and_true]
      omega
theorem dec_inv : ∀ (l : List UInt8) (k u : Nat) (r : List UInt8), k ≤ 9 → dec k l = some (u, r) → l = vb u ++ r ∧ (0 < k → u ≠ 0) := by
  intro l
  induction l with
  | nil => intro k u r _ h; simp [dec] at h
  | cons c l ih =>
    intro k u r hk h
    have hc := c.toNat_lt
    simp only [dec] at h
    split at h
    · rename_i h1
      simp only [Option.map_eq_some_iff] at h
      obtain ⟨⟨u', r'⟩, hd, he⟩ := h
      obtain ⟨i1, i2⟩ := ih (k + 1) u' r' (by omega) hd
      have i3 := i2 (by omega)
      simp only [Prod.mk.injEq] at he
      obtain ⟨rfl, rfl⟩ := he
      refine ⟨?_, by omega⟩
      rw [vb, if_neg (by omega), List.cons_append, show (c.toNat % 128 + 128 * u') / 128 = u' by omega, ← i1]
      rw [u8_eq (x := c) (by omega)]
    · split at h
      · cases h
      · rename_i h1 h2
        simp only [Option.some.injEq, Prod.mk.injEq] at h
        obtain ⟨rfl, rfl⟩ := h
        have hle : c.toNat ≤ 127 := by
          by_cases h9 : k < 9
          · omega
          · have : ¬ 1 < c.toNat := fun e => h2 (.inr ⟨e, by omega⟩)
            omega
        refine ⟨?_, ?_⟩
        · rw [vb, if_pos (by omega), u8_eq (x := c) (by omega)]; rfl
        · intro hk0 e
          exact h2 (.inl ⟨by omega, hk0⟩)
theorem rdInt_enc (n : Int) (h : In64 n) (r : List UInt8) : rdInt (some (encI n ++ r)) = (n, some r) := by
  simp only [rdInt, encI]
  rw [dec_vb (zig n) 0 r (by omega) (zig_lt64 h) (.inl rfl)]
  simp only [unzig_zig]
theorem rdInt_inv {rd : Rd} {r : List UInt8} (h : (rdInt rd).2 = some r) : rd = some (encI (rdInt rd).1 ++ r) := by
  cases rd with
  | none => simp [rdInt] at h
  | some l =>
    simp only [rdInt] at h ⊢
    cases hd : dec 0 l with
    | none => rw [hd] at h; cases h
    | some x =>
      rw [hd] at h
      obtain ⟨u, r'⟩ := x
      simp only [Option.some.injEq] at h
      subst h
      simp only [encI, zig_unzig]
      rw [← (dec_inv l 0 u r' (by omega) hd).1]
theorem rdCount_enc (most n : Nat) (h : n ≤ most) (hm : most ≤ 2147483648) (r : List UInt8) : rdCount most (some (encI (n : Int) ++ r)) = (n, some r) := by
  unfold rdCount
  rw [rdInt_enc (n : Int) (by unfold In64; omega) r]
  simp only
  rw [if_neg (by omega)]
  simp
theorem rdCount_inv {most : Nat} {rd : Rd} {r : List UInt8} (h : (rdCount most rd).2 = some r) : rd = some (encI ((rdCount most rd).1 : Int) ++ r) := by
  unfold rdCount at h ⊢
  split at h
  · cases h
  · rename_i hc
    rw [if_neg hc]
    simp only at h ⊢
    rw [show (((rdInt rd).1.toNat : Nat) : Int) = (rdInt rd).1 by omega]
    exact rdInt_inv h
theorem rdTake_enc (l r : List UInt8) : rdTake l.length (some (l ++ r)) = (l, some r) := by
  simp [rdTake]
theorem rdTake_inv {n : Nat} {rd : Rd} {r : List UInt8} (h : (rdTake n rd).2 = some r) : rd = some ((rdTake n rd).1 ++ r) ∧ (rdTake n rd).1.length = n := by
  cases rd with
  | none => simp [rdTake] at h
  | some l =>
    simp only [rdTake] at h ⊢
    split at h
    · rename_i hl
      simp only [Option.some.injEq] at h
      rw [if_pos hl]
      subst h
      exact ⟨by simp, by simp; omega⟩
    · cases h
theorem rdBytes_enc (most : Nat) (l : List UInt8) (h : l.length ≤ most) (hm : most ≤ 2147483648) (r : List UInt8) : rdBytes most (some (encB l ++ r)) = (l, some r) := by
  unfold rdBytes encB
  rw [List.append_assoc, rdCount_enc most l.length h hm (l ++ r)]
  exact rdTake_enc l r
theorem rdBytes_inv {most : Nat} {rd : Rd} {r : List UInt8} (h : (rdBytes most rd).2 = some r) : rd = some (encB (rdBytes most rd).1 ++ r) := by
  unfold rdBytes at h ⊢
  obtain ⟨h1, h2⟩ := rdTake_inv h
  have h3 := rdCount_inv h1
  unfold encB
  rw [h2, List.append_assoc]
  exact h3
end Go.Proofs.YtkcpfchfpnmkpaaDoor
