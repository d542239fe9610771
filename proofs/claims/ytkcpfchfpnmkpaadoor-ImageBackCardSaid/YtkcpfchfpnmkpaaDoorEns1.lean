/- Walks: package ensemble: Check and its inner function. -/
import Derived.Test.YtkcpfchfpnmkpaaDoorWk10
namespace Go.Proofs
open Go Go.RowKit Go.Proofs.YtkcpfchfpnmkpaaDoor

namespace YtkcpfchfpnmkpaaDoor
def mbVal (m : Mb) : List Value := [.int .i64 m.id, .int .u8 m.role, .int .i64 m.weight, .int .i64 m.group]
theorem flat_get {α β : Type} (f : α → List β) (c : Nat) (hf : ∀ x, (f x).length = c) : ∀ (l : List α) (k : Nat) (m : α) (j : Nat), l[k]? = some m → j < c → (l.flatMap f)[k * c + j]? = (f m)[j]? := by
  intro l
  induction l with
  | nil => intro k m j h; simp at h
  | cons a l ih =>
    intro k m j h hj
    rw [List.flatMap_cons, List.getElem?_append]
    cases k with
    | zero =>
      simp at h; subst h
      rw [if_pos (by rw [hf]; omega), Nat.zero_mul, Nat.zero_add]
    | succ k =>
      rw [if_neg (by rw [hf, Nat.succ_mul]; omega), hf, show (k + 1) * c + j - c = k * c + j by rw [Nat.succ_mul]; omega]
      exact ih k m j (by simpa using h) hj
/-- A slice of members. -/
def Ms (w : World) (v : Value) (l : List Mb) : Prop := Sl w v l.length (l.flatMap mbVal)
theorem Ms.cells {w : World} {a : Option Addr} {l : List Mb} (h : Cs w a (l.flatMap mbVal)) {k : Nat} {m : Mb} (hk : l[k]? = some m) :
    ∃ b off, a = some ⟨b, off, none⟩ ∧ w.cell? ⟨b, off + k * 4, none⟩ = some (.int .i64 m.id) ∧ w.cell? ⟨b, off + k * 4 + 1, none⟩ = some (.int .u8 m.role) ∧
      w.cell? ⟨b, off + k * 4 + 2, none⟩ = some (.int .i64 m.weight) ∧ w.cell? ⟨b, off + k * 4 + 3, none⟩ = some (.int .i64 m.group) := by
  have g : ∀ j, j < 4 → (l.flatMap mbVal)[k * 4 + j]? = (mbVal m)[j]? := fun j hj => flat_get mbVal 4 (fun _ => rfl) l k m j hk hj
  obtain ⟨b, off, rfl, h0⟩ := h _ _ (g 0 (by omega))
  obtain ⟨b1, off1, e1, h1⟩ := h _ _ (g 1 (by omega))
  obtain ⟨b2, off2, e2, h2⟩ := h _ _ (g 2 (by omega))
  obtain ⟨b3, off3, e3, h3⟩ := h _ _ (g 3 (by omega))
  cases e1; cases e2; cases e3
  exact ⟨b, off, rfl, by simpa using h0, by simpa [Nat.add_assoc] using h1, by simpa [Nat.add_assoc] using h2, by simpa [Nat.add_assoc] using h3⟩
theorem Ms.below {w w' : World} {v : Value} {l : List Mb} (h : Ms w v l) (hb : Below w.heap.size w w') : Ms w' v l := Sl.below h hb
end YtkcpfchfpnmkpaaDoor

set_option maxHeartbeats 1600000 in
theorem Tryd.fits_calls (m : Mb) (last : Int) (b : Nat) (w : World) (hc : w.cell? ⟨b, 0, none⟩ = some (.int .i64 last)) :
    Calls Tryd.prog 63 #[.agg #[.int .i64 m.id, .int .u8 m.role, .int .i64 m.weight, .int .i64 m.group], .pointer (some ⟨b, 0, none⟩)] w fun e w' => e = .returned (.bool (mbFits last m)) ∧ Below w.heap.size w w' := by
  have hb := World.block_lt_of_cell? w _ hc
  go_enter Tryd.func63, Tryd.ntmps63
  go_wp2
  all_goals (
    go_ret
    refine ⟨congrArg (fun x => Ending.returned (Value.bool x)) ?_, (Below.refl _ _).alloc (Nat.le_refl _) _⟩
    clear hc hb
    try simp only [beq_iff_eq, beq_eq_false_iff_ne, ne_eq] at *
    rw [Bool.eq_iff_iff]
    unfold mbFits
    first
      | (simp_all; done)
      | (simp_all; omega)
      | (split <;> simp_all <;> omega))

namespace YtkcpfchfpnmkpaaDoor
theorem mbFits_weight {last : Int} {m : Mb} (h : mbFits last m = true) : 0 ≤ m.weight ∧ m.weight ≤ 1000 := by
  unfold mbFits at h
  split at h
  · cases h
  · split at h <;> simp at h <;> omega
theorem weight_snoc (l : List Mb) (m : Mb) : weight (l ++ [m]) = weight l + m.weight := by simp [weight]
/-- Where Check stands: pre is seen, suf is to come. -/
def ChkR (w : World) (box : Obj) (l pre suf : List Mb) (last : Int) (wr : World) : Prop :=
  l = pre ++ suf ∧ mbsFit 0 l = mbsFit last suf ∧ 0 ≤ weight pre ∧ weight pre ≤ 1000 * pre.length ∧ wr.cell? ⟨w.heap.size + 1, 0, none⟩ = some (.int .i64 last) ∧ wr.frozen? ⟨w.heap.size + 1, 0, none⟩ = false ∧ Below (w.heap.size + 1) (w.alloc box) wr
end YtkcpfchfpnmkpaaDoor

set_option maxRecDepth 100000 in
set_option maxHeartbeats 3200000 in
theorem Tryd.ensCheck_calls (ver : Int) (v : Value) (l : List Mb) (w : World) (h : Ms w v l) :
    Calls Tryd.prog 50 #[.agg #[.int .i64 ver, v]] w fun e w' => e = .returned (.int .i64 (ensCheck ver l)) ∧ Below w.heap.size w w' := by
  obtain ⟨a, cap, rfl, h1, h2, h3, h4⟩ := h
  have HCS := Lib.hid h4
  have HM := Lib.hid h2
  unfold maxLen at h2
  clear h4
  by_cases hlen : 7 < l.length
  · have hlen' : (7 : Int) < (l.length : Int) := by omega
    have HE : Hid (ensCheck ver l = 3) := by simp [Hid, ensCheck, hlen]
    go_enter Tryd.func50, Tryd.ntmps50
    go_wp2
    go_ret
    exact ⟨by rw [HE.out]; rfl, (Below.refl _ _).alloc (Nat.le_refl _) _⟩
  · have hlen' : (l.length : Int) ≤ 7 := by omega
    have HE : Hid (ensCheck ver l = if mbsFit 0 l = false then 140 else if weight l = 0 ∨ ver < 0 ∨ 4611686018427387904 < ver then 140 else 0) := by simp only [Hid, ensCheck, hlen, if_false]
    go_enter Tryd.func50, Tryd.ntmps50
    go_wp2_with fail
    go_loopw [4, 16] (fun u i wr => ∃ (pre suf : List Mb) (last : Int), u = .int .i64 (weight pre) ∧ i = .int .i64 pre.length ∧ Hid (ChkR w (.cells #[.int .i64 ver, .slice a l.length cap] 27) l pre suf last wr)) (fun u i _ => 8 - (intOf i).toNat)
    case atStart => exact ⟨[], l, 0, rfl, rfl, rfl, rfl, by simp [weight], by simp [weight], by go_simp, by go_simp, ((Below.refl (w.heap.size + 1) (w.alloc (.cells #[.int .i64 ver, .slice a l.length cap] 27))).alloc (by simp) _)⟩
    case round =>
      obtain ⟨pre, suf, last, rfl, rfl, HR⟩ := hrel
      obtain ⟨e1, e2, e3, e4, e5, e6, e7⟩ := HR.out
      have e8 : Below w.heap.size w wr := ((Below.refl _ _).alloc (Nat.le_refl _) _).trans (e7.mono (by omega))
      have e9 : wr.cell? ⟨w.heap.size, 0, none⟩ = some (.int .i64 ver) := (e7.cell (p := ⟨w.heap.size, 0, none⟩) (Nat.lt_succ_self _)).trans (by go_simp)
      cases suf with
      | nil =>
        rw [List.append_nil] at e1
        subst e1
        have e2' : mbsFit 0 l = true := e2
        have HE2 : Hid (ensCheck ver l = if weight l = 0 ∨ ver < 0 ∨ 4611686018427387904 < ver then 140 else 0) := by simp [Hid, HE.out, e2']
        have E8 := Lib.hid e8
        clear e8 e7 e2 e2' HR HE
        go_wp2_with fail
        all_goals (
          go_ret
          refine ⟨?_, E8.out⟩
          rw [HE2.out]
          refine congrArg (fun x => Ending.returned (Value.int .i64 x)) ?_
          clear e5 e6 e9 E8 HE2 HCS HM
          first
            | (rw [if_pos (by simp_all)]; done)
            | (rw [if_neg (by simp_all <;> omega)]; done)
            | (rw [if_pos (by simp_all <;> omega)]; done))
      | cons m suf =>
        have hk : l[pre.length]? = some m := by rw [e1]; simp
        have hkl := lt_of_get hk
        have hkl' : (pre.length : Int) < (l.length : Int) := by omega
        obtain ⟨b, off, rfl, c0, c1, c2, c3⟩ := Ms.cells (HCS.out.below e8) hk
        have hb1 := World.block_lt_of_cell? wr _ e5
        simp only at hb1
        have HR1 := Lib.hid e1
        have HR2 := Lib.hid e2
        have HB := Lib.hid e7
        have HB8 := Lib.hid e8
        have HPL : Hid (pre.length ≤ 7) := by show pre.length ≤ 7; omega
        clear e1 e2 e7 e8 e9 hk HR
        go_wp2_with fail
        refine (Tryd.fits_calls m last (w.heap.size + 1) _ ?_).mono ?_
        · exact (((Below.refl wr.heap.size wr).alloc (Nat.le_refl _) _).cell (p := ⟨w.heap.size + 1, 0, none⟩) hb1).trans e5
        rintro e w1 ⟨rfl, hbw⟩
        have k0 : w1.cell? ⟨w.heap.size + 1, 0, none⟩ = some (.int .i64 last) := (hbw.cell (p := ⟨w.heap.size + 1, 0, none⟩) (by simp; omega)).trans ((((Below.refl wr.heap.size wr).alloc (Nat.le_refl _) _).cell (p := ⟨w.heap.size + 1, 0, none⟩) hb1).trans e5)
        have kf : w1.frozen? ⟨w.heap.size + 1, 0, none⟩ = false := (World.frozen?_of_block (hbw.block (w.heap.size + 1) (by simp; omega))).trans ((World.frozen?_of_block (((Below.refl wr.heap.size wr).alloc (Nat.le_refl _) _).block (w.heap.size + 1) hb1)).trans e6)
        have m0 : w1.cell? ⟨wr.heap.size, 0, none⟩ = some (.int .i64 m.id) := (hbw.cell (p := ⟨wr.heap.size, 0, none⟩) (by simp)).trans (by go_simp)
        have m2 : w1.cell? ⟨wr.heap.size, 2, none⟩ = some (.int .i64 m.weight) := (hbw.cell (p := ⟨wr.heap.size, 2, none⟩) (by simp)).trans (by go_simp)
        have HBW := Lib.hid (HB.out.trans (((Below.refl (w.heap.size + 1) wr).alloc (by omega) _).trans (hbw.mono (by simp; omega))))
        clear hbw e5 e6 c0 c1 c2 c3
        cases hf : mbFits last m with
        | false =>
          have HE2 : Hid (ensCheck ver l = 140) := by simp [Hid, HE.out, HR2.out, mbsFit, hf]
          go_wp2_with fail
          go_ret
          exact ⟨by rw [HE2.out]; rfl, ((Below.refl _ _).alloc (Nat.le_refl _) _).trans (HBW.out.mono (by omega))⟩
        | true =>
          obtain ⟨hw0, hw1⟩ := mbFits_weight hf
          have hsum : IntKind.i64.wrap (weight pre + m.weight) = weight pre + m.weight := by rw [IntKind.wrap_i64]; have := HPL.out; omega
          have HF := Lib.hid hf
          clear hf
          go_wp2_with fail
          go_roundw
          case rel =>
            refine ⟨pre ++ [m], suf, m.id, by rw [weight_snoc], by simp, ?_, ?_, ?_, ?_, ?_, ?_, ?_⟩
            · rw [HR1.out]; simp
            · rw [HR2.out]; simp [mbsFit, HF.out]
            · rw [weight_snoc]; omega
            · rw [weight_snoc]; simp; omega
            · exact World.cell?_setCell_same' _ _ _ (by rw [k0]; rfl)
            · rw [World.frozen?_setCell]; exact kf
            · exact HBW.out.setCell (p := ⟨w.heap.size + 1, 0, none⟩) (Nat.le_refl _) _
          case measure => simp [intOf]; have := HPL.out; omega
end Go.Proofs
