/- Walks: the reader of package wire. -/
import Derived.Test.YtkcpfchfpnmkpaaDoorWk1
import Derived.Test.YtkcpfchfpnmkpaaDoorSpec
import Derived.RegionTactic
import Derived.BigRegion
namespace Go.Proofs
open Go Go.RowKit Go.Proofs.YtkcpfchfpnmkpaaDoor

/-- A slice's row lies below block g. -/
def YtkcpfchfpnmkpaaDoor.LtB (v : Value) (g : Nat) : Prop := ∀ k, v.ownBlock = some k → k < g
theorem YtkcpfchfpnmkpaaDoor.LtB.ne {v : Value} {g : Nat} (h : LtB v g) : v.ownBlock ≠ some g := fun e => Nat.lt_irrefl _ (h _ e)
theorem YtkcpfchfpnmkpaaDoor.LtB.eq {v v' : Value} {g : Nat} (h : LtB v g) (e : v'.ownBlock = v.ownBlock) : LtB v' g := fun k hk => h k (e ▸ hk)
/-- The reader at block g holds what is left. -/
def YtkcpfchfpnmkpaaDoor.RdP (w : World) (g : Nat) (r : Rd) : Prop :=
  ∃ sv, w.cell? ⟨g, 0, none⟩ = some sv ∧ w.cell? ⟨g, 1, none⟩ = some (.bool r.isSome) ∧ w.frozen? ⟨g, 0, none⟩ = false ∧ w.frozen? ⟨g, 1, none⟩ = false ∧
    LtB sv g ∧ Bs w sv (r.getD [])

theorem Tryd.fail_calls (g : Nat) (r : Rd) (w : World) (h : RdP w g r) :
    Calls Tryd.prog 86 #[.pointer (some ⟨g, 0, none⟩)] w fun e w' => e = .returned (.tuple #[]) ∧ RdP w' g none ∧ w.grownBy w' (some g) := by
  obtain ⟨sv, h0, h1, f0, f1, hne, hb⟩ := h
  clear hb hne
  go_enter Tryd.func86, Tryd.ntmps86
  go_wp2
  first | go_end0 | refine bodyPost_ret (results_none rfl _ _ _) rfl ?_
  refine ⟨rfl, ⟨.slice none 0 0, by simp [go_sem, h0, h1], by simp [go_sem, h0, h1], by simp [go_sem, f0], by simp [go_sem, f1], (fun k hk => by simp [Value.ownBlock] at hk), ⟨none, 0, rfl, by simp, by simp, by simp, by intro i v h; simp [bv] at h⟩⟩, grown_setCell (grown_setCell (grown_refl _ _) _) _⟩

theorem Tryd.good_calls (g : Nat) (r : Rd) (w : World) (h : RdP w g r) :
    Calls Tryd.prog 76 #[.pointer (some ⟨g, 0, none⟩)] w fun e w' => e = .returned (.bool r.isSome) ∧ w = w' := by
  obtain ⟨sv, h0, h1, f0, f1, hne, hb⟩ := h
  clear hb hne
  go_enter Tryd.func76, Tryd.ntmps76
  go_wp2
  go_ret
  exact ⟨rfl, rfl⟩

theorem YtkcpfchfpnmkpaaDoor.RdP.set {w : World} {g : Nat} {sv : Value} {gd : Bool} {v' : Value} {l' : List UInt8} (h0 : w.cell? ⟨g, 0, none⟩ = some sv) (h1 : w.cell? ⟨g, 1, none⟩ = some (.bool gd)) (hg : gd = true)
    (f0 : w.frozen? ⟨g, 0, none⟩ = false) (f1 : w.frozen? ⟨g, 1, none⟩ = false) (hne : LtB v' g) (hb : Bs w v' l') : RdP (w.setCell ⟨g, 0, none⟩ v') g (some l') := by
  refine ⟨v', by simp [go_sem, h0], by simp [go_sem, h1, hg], by simp [go_sem, f0], by simp [go_sem, f1], hne, ?_⟩
  exact hb.grown (grown_setCell (grown_refl _ _) _) (.inr hne.ne)
theorem YtkcpfchfpnmkpaaDoor.RdP.grown {w w' : World} {g : Nat} {r : Rd} (h : RdP w g r) {row : Option Nat} (hg : w.grownBy w' row) (hne : row ≠ some g) (hne2 : ∀ sv, w.cell? ⟨g, 0, none⟩ = some sv → sv.ownBlock = none ∨ sv.ownBlock ≠ row) : RdP w' g r := by
  obtain ⟨sv, h0, h1, f0, f1, hn, hb⟩ := h
  have hlt : g < w.heap.size := World.block_lt_of_cell? w ⟨g, 0, none⟩ h0
  have hbk := hg.block g hlt (fun e => hne e.symm)
  exact ⟨sv, (World.cell?_of_block hbk).trans h0, (World.cell?_of_block hbk).trans h1, (World.frozen?_of_block hbk).trans f0, (World.frozen?_of_block hbk).trans f1, hn, hb.grown hg (hne2 sv h0)⟩
/-- A step on a block made after the reader. -/
theorem YtkcpfchfpnmkpaaDoor.RdP.keep {w w' : World} {g k : Nat} {r : Rd} (h : RdP w g r) (hg : w.grownBy w' (some k)) (hk : g < k) : RdP w' g r := by
  refine h.grown hg (by simp; omega) ?_
  obtain ⟨sv, h0, h1, f0, f1, hn, hb⟩ := h
  intro sv2 e
  rw [h0] at e
  cases e
  refine .inr (fun e => ?_)
  have := hn _ e
  omega

/-- What a call of take leaves: the bytes, the reader, the frame. -/
def YtkcpfchfpnmkpaaDoor.TakeP (w : World) (g : Nat) (x : List UInt8 × Rd) (e : Ending) (w' : World) : Prop :=
  ∃ v, e = .returned v ∧ Bs w' v x.1 ∧ RdP w' g x.2 ∧ v.ownBlock ≠ some g ∧ w.grownBy w' (some g)

set_option maxHeartbeats 800000 in
theorem Tryd.take_calls (n : Int) (g : Nat) (r : Rd) (w : World) (h : RdP w g r) (hn : -9223372036854775808 ≤ n ∧ n ≤ 9223372036854775807) :
    Calls Tryd.prog 85 #[.pointer (some ⟨g, 0, none⟩), .int .i64 n] w (TakeP w g (takeI n r)) := by
  have h' := h
  obtain ⟨sv, h0, h1, f0, f1, hne, hb⟩ := h
  cases r with
  | none =>
    have HF : Hid (TakeP w g (takeI n none) (.returned (.slice none 0 0)) w) :=
      ⟨_, rfl, by simp only [takeI, rdTake, ite_self]; exact Bs.nil w, by simpa only [takeI, rdTake, ite_self] using h', by simp [Value.ownBlock], grown_refl _ _⟩
    clear hb h' hne
    go_enter Tryd.func85, Tryd.ntmps85
    go_wp2
    go_ret
    exact HF.out
  | some l =>
    obtain ⟨a, c, rfl, h11, h12, h13, h14⟩ := hb
    simp only [Option.getD] at h11 h14 hne h0
    have HM := Lib.hid h12
    unfold maxLen at h12
    have HB := Lib.hid h14
    have HH := Lib.hid h'
    have HN := Lib.hid hne
    clear h14 h' hne
    by_cases hneg : n < 0
    · have HT : Hid (takeI n (some l) = ([], none)) := by simp [Hid, takeI, hneg]
      go_enter Tryd.func85, Tryd.ntmps85
      go_wp2_with (go_at_call 86; refine (Tryd.fail_calls _ _ _ HH.out).mono ?_; rintro e w' ⟨rfl, hr, hg⟩)
      go_wp2
      go_ret
      rw [HT.out]
      exact ⟨_, rfl, Bs.nil _, hr, by simp [Value.ownBlock], hg⟩
    · by_cases hlt : (l.length : Int) < n
      · have HT : Hid (takeI n (some l) = ([], none)) := by simp [Hid, takeI, hneg, rdTake]; omega
        go_enter Tryd.func85, Tryd.ntmps85
        go_wp2_with (go_at_call 86; refine (Tryd.fail_calls _ _ _ HH.out).mono ?_; rintro e w' ⟨rfl, hr, hg⟩)
        go_wp2
        go_ret
        rw [HT.out]
        exact ⟨_, rfl, Bs.nil _, hr, by simp [Value.ownBlock], hg⟩
      · obtain ⟨m, rfl⟩ := Int.eq_ofNat_of_zero_le (show 0 ≤ n by omega)
        have hm : m ≤ l.length := by omega
        have e1 : decide ((l.length : Int) < (m : Int)) = false := by simp; omega
        have e2 : decide (l.length < m) = false := by simp; omega
        have HT : Hid (takeI (m : Int) (some l) = (l.take m, some (l.drop m))) := by simp [Hid, takeI, hneg, rdTake, hm]
        have hb2 : Bs w (.slice a m m) (l.take m) := Bs.take HB.out hm (Nat.le_refl _) (by have := HM.out; omega) (fun e => by have := h13 e; omega)
        have ho : (Value.slice a m m).ownBlock ≠ some g := by rw [own_slice]; exact HN.out.ne
        have HB2 := Lib.hid hb2
        have HO := Lib.hid ho
        clear hb2 ho
        go_enter Tryd.func85, Tryd.ntmps85
        go_wp2
        · go_ret
          rw [HT.out]
          exact ⟨_, rfl, HB2.out.grown (grown_setCell (grown_refl _ _) _) (.inr HO.out),
            RdP.set h0 h1 rfl f0 f1 (HN.out.eq own_slice) (Bs.drop_end hm h11 (by assumption) h13), HO.out, grown_setCell (grown_refl _ _) _⟩
        · go_ret
          rw [HT.out]
          exact ⟨_, rfl, HB2.out.grown (grown_setCell (grown_refl _ _) _) (.inr HO.out),
            RdP.set h0 h1 rfl f0 f1 (HN.out.eq own_map) (Bs.drop HB.out hm h11 HM.out (by assumption) h13), HO.out, grown_setCell (grown_refl _ _) _⟩
end Go.Proofs
