/- Walks: package wire: Frame, Unframe. -/
import Derived.Test.YtkcpfchfpnmkpaaDoorWk5
import Derived.StillTailTactics
import Derived.Deep.RegionWith
import Derived.Deep.DeepCutAuto
import Derived.Lib.QuietBelow
namespace Go.Proofs
open Go Go.RowKit Go.Sort Go.Proofs.YtkcpfchfpnmkpaaDoor

namespace YtkcpfchfpnmkpaaDoor
def UnframeP (w : World) (l : List UInt8) (e : Ending) (w' : World) : Prop :=
  Below w.heap.size w w' ∧ ((unframe l = none ∧ e = .returned (.tuple #[.slice none 0 0, .int .i64 0, .int .i64 4])) ∨
    ∃ load v, unframe l = some load ∧ e = .returned (.tuple #[v, .int .i64 (8 + (load.length : Int)), .int .i64 0]) ∧ NewBs w w' v load)
theorem un4_lt (l : List UInt8) : un4 l < 4294967296 := by
  unfold un4
  have h0 := (l.getD 0 0).toNat_lt
  have h1 := (l.getD 1 0).toNat_lt
  have h2 := (l.getD 2 0).toNat_lt
  have h3 := (l.getD 3 0).toNat_lt
  omega
theorem belowD (w : World) (n : Nat) : Below w.heap.size w (w.drewN n) := ⟨rfl, rfl, rfl, Nat.le_refl _, fun _ _ => rfl⟩
theorem quietB {P : Program} {f : FuncId} {args : Array Value} {w : World} {v : Value} (h : ∀ W, Below w.heap.size w W → Calls P f args W fun e w' => e = .returned v ∧ Below W.heap.size W w') :
    ∀ d os, Calls P f args (grow (redrawn w d) os) fun e w'' => e = .returned v ∧ ∃ p : Regrown, w'' = grow (redrawn w p.d) p.os := fun d os => Calls.regrown_of (h _ (below_regrown w d os))
theorem belowDr {P : Program} {f : FuncId} {args : Array Value} {w : World} {v : Value} (h : Calls P f args w fun e w' => e = .returned v ∧ ∃ n, w' = w.drewN n) : Calls P f args w fun e w' => e = .returned v ∧ Below w.heap.size w w' :=
  h.mono fun _ _ ⟨he, n, hn⟩ => ⟨he, by subst hn; exact belowD w n⟩
theorem size1 {P : Program} (e : TypeId) (i : TypeInfo) (hi : P.info? e = some i) (hs : i.size = 1) (w : World) : (sizeOf e).run P w = .ok 1 w := by
  simp [sizeOf, typeInfo, hi, hs]
end YtkcpfchfpnmkpaaDoor
theorem Tryd.slice_lh (b off len cap : Nat) (lo hi : Int) (h0 : 0 ≤ lo) (h1 : lo ≤ hi) (h2 : hi ≤ cap) (h3 : ¬ (cap : Int) = lo) (w : World) :
    (Instr.slice 30 (.slice (some ⟨b, off, none⟩) len cap) (some (.int .i64 lo)) (some (.int .i64 hi)) none).run Tryd.prog w = .ok (.slice (some ⟨b, off + lo.toNat, none⟩) (hi.toNat - lo.toNat) (cap - lo.toNat)) w := by
  rw [run_slice_lh w _ _ _ _ (by kernel_rfl) _ _ _ _ h0 h1 h2]
  simp [go_sem, Go.sliced, h0, h1, h2, h3]
  intro h; omega
theorem Tryd.slice_lh_end (b off len cap : Nat) (lo : Int) (h0 : 0 ≤ lo) (h3 : (cap : Int) = lo) (w : World) :
    (Instr.slice 30 (.slice (some ⟨b, off, none⟩) len cap) (some (.int .i64 lo)) (some (.int .i64 lo)) none).run Tryd.prog w = .ok (.slice (some ⟨b, off, none⟩) 0 0) w := by
  rw [run_slice_lh w _ _ _ _ (by kernel_rfl) _ _ _ _ h0 (Int.le_refl _) (by omega)]
  have h4 : cap = lo.toNat := by omega
  simp [go_sem, Go.sliced, h4]
theorem Tryd.slice_l (b off len cap : Nat) (lo : Int) (h0 : 0 ≤ lo) (h1 : lo ≤ len) (h3 : ¬ (cap : Int) = lo) (w : World) :
    (Instr.slice 30 (.slice (some ⟨b, off, none⟩) len cap) (some (.int .i64 lo)) none none).run Tryd.prog w = .ok (.slice (some ⟨b, off + lo.toNat, none⟩) (len - lo.toNat) (cap - lo.toNat)) w := by
  rw [run_slice_l w _ _ _ _ (by kernel_rfl) _ _ h0 h1]
  simp [go_sem, Go.sliced, h0, h1, h3]
  intro h; omega

set_option maxRecDepth 100000 in
set_option maxHeartbeats 1600000 in
theorem Tryd.unframe_calls (v : Value) (l : List UInt8) (w : World) (h : Bs w v l) (hl : l.length ≤ 140737488355328) :
    Calls Tryd.prog 68 #[v] w (UnframeP w l) := by
  have HV := Lib.hid h
  obtain ⟨a, c, rfl, h1, h2, h3, h4⟩ := h
  have HM := Lib.hid h2
  unfold maxLen at h2
  by_cases hs : l.length < 8
  · have HF : Hid (UnframeP w l (.returned (.tuple #[.slice none 0 0, .int .i64 0, .int .i64 4])) w) := ⟨Below.refl _ _, .inl ⟨by simp [unframe, hs], rfl⟩⟩
    clear h4 h3
    go_enter Tryd.func68, Tryd.ntmps68
    go_wp2_with fail
    go_ret3
    exact HF.out
  · obtain ⟨x0, g0⟩ := get_some l 0 (by omega)
    obtain ⟨b, off, rfl, c0⟩ := h4 0 _ (bv_of_get g0)
    have H4 := Lib.hid h4
    have hu := un4_lt l
    have HU : Hid (unframe l = if 1048576 < un4 l ∨ l.length - 8 < un4 l ∨ crc ((l.drop 8).take (un4 l)) ≠ un4 (l.drop 4) then none else some ((l.drop 8).take (un4 l))) := by
      simp [Hid, unframe, hs]
    clear h4 g0 c0 h3
    go_enter Tryd.func68, Tryd.ntmps68
    go_wp2_with fail
    refine (Tryd.number_calls _ l w HV.out (by omega)).mono ?_
    rintro e w1 ⟨rfl, n1, rfl⟩
    have HV1 := Lib.hid (HV.out.below (belowD w n1))
    obtain ⟨n, hn⟩ : ∃ n, un4 l = n := ⟨_, rfl⟩
    rw [hn] at hu HU ⊢
    clear hn
    by_cases hbig : 1048576 < n
    · rw [if_pos (.inl hbig)] at HU
      have e1 : (1048576 : Int) < (n : Int) := by omega
      go_wp2_with fail
      go_quiet (fail)
      go_wp2_with fail
      go_ret3
      exact ⟨by rw [World.drewN_drewN]; exact belowD _ _, .inl ⟨HU.out, rfl⟩⟩
    · by_cases hbig2 : l.length - 8 < n
      · rw [if_pos (.inr (.inl hbig2))] at HU
        have e1 : decide ((1048576 : Int) < (n : Int)) = false := by simp; omega
        have e2 : (l.length : Int) - 8 < (n : Int) := by omega
        go_wp2_with fail
        go_quiet (fail)
        go_wp2_with fail
        go_ret3
        exact ⟨by rw [World.drewN_drewN]; exact belowD _ _, .inl ⟨HU.out, rfl⟩⟩
      · have e1 : decide ((1048576 : Int) < (n : Int)) = false := by simp; omega
        have e2 : decide ((l.length : Int) - 8 < (n : Int)) = false := by simp; omega
        have hb0 : Bs w (.slice (some ⟨b, off, none⟩) n c) (l.take n) := Bs.take H4.out (by omega) (by omega) HM.out (by simp)
        have h18 : ∃ o8, Bs w (.slice (some ⟨b, o8, none⟩) n (c - 8)) ((l.drop 8).take n) ∧
            ∀ W, (Instr.slice 30 (.slice (some ⟨b, off, none⟩) l.length c) (some (.int .i64 8)) (some (.int .i64 (8 + (n : Int)))) none).run Tryd.prog W = .ok (.slice (some ⟨b, o8, none⟩) n (c - 8)) W := by
          by_cases hc8 : c = 8
          · obtain rfl : n = 0 := by omega
            subst hc8
            refine ⟨off, ?_, fun W => Tryd.slice_lh_end b off l.length 8 8 (by omega) rfl W⟩
            rw [List.take_zero]
            exact ⟨_, 0, rfl, Nat.le_refl _, by simp, by simp, by intro i v h; simp [bv] at h⟩
          · refine ⟨off + 8, ?_, ?_⟩
            · obtain ⟨a', c', e', q1, q2, q3, q4⟩ := Bs.drop (m := 8) H4.out (by omega) h1 HM.out hc8 (by simp)
              have ha : some (⟨b, off + 8, none⟩ : Addr) = a' ∧ c - 8 = c' := by
                simp only [Option.map_some, addr_add, Value.slice.injEq] at e'
                exact ⟨e'.1, e'.2.2⟩
              obtain ⟨rfl, rfl⟩ := ha
              exact Bs.take q4 (by rw [List.length_drop]; omega) (by omega) q2 q3
            · intro W
              have := Tryd.slice_lh b off l.length c 8 (8 + (n : Int)) (by omega) (by omega) (by omega) (by omega) W
              rw [this, show (8 + (n : Int)).toNat - (8 : Int).toNat = n by omega]
              rfl
        obtain ⟨o8, hb1, sl1⟩ := h18
        have hb2 : Bs w (.slice (some ⟨b, off + 4, none⟩) (l.length - 4) (c - 4)) (l.drop 4) := by
          have := Bs.drop (m := 4) H4.out (by omega) h1 HM.out (by omega) (by simp)
          simpa only [Option.map_some, addr_add] using this
        have hS := quietB (w := w.drewN n1) (fun W hW => Tryd.sum_calls _ _ W (hb1.below ((belowD w n1).trans hW)))
        have hN := quietB (w := w.drewN n1) (fun W hW => belowDr (Tryd.number_calls _ _ W (hb2.below ((belowD w n1).trans hW)) (by rw [List.length_drop]; omega)))
        have HC := Lib.hid (fun W hW => Tryd.clone_calls _ _ W (hb1.below hW) (by rw [List.length_take, List.length_drop]; omega))
        have hlen : Hid (((l.drop 8).take n).length = n) := by simp only [Hid, List.length_take, List.length_drop]; omega
        clear hb1 hb2 hb0
        obtain ⟨cr, hcr⟩ : ∃ x, crc ((l.drop 8).take n) = x := ⟨_, rfl⟩
        obtain ⟨u2, hu2⟩ : ∃ x, un4 (l.drop 4) = x := ⟨_, rfl⟩
        obtain ⟨ld, hld⟩ : ∃ x, (l.drop 8).take n = x := ⟨_, rfl⟩
        rw [hcr, hu2, hld] at HU
        rw [hcr] at hS
        rw [hu2] at hN
        rw [hld] at HC hlen
        clear hcr hu2 hld
        have sl2 : ∀ W, (Instr.slice 30 (.slice (some ⟨b, off, none⟩) l.length c) (some (.int .i64 4)) none none).run Tryd.prog W = .ok (.slice (some ⟨b, off + 4, none⟩) (l.length - 4) (c - 4)) W := by
          intro W
          exact Tryd.slice_l b off l.length c 4 (by omega) (by omega) (by omega) W
        have w1 : IntKind.i64.wrap ((l.length : Int) - 8) = (l.length : Int) - 8 := IntWalk.i64_in _ (by omega)
        have w2 : IntKind.i64.wrap (8 + (n : Int)) = 8 + (n : Int) := IntWalk.i64_in _ (by omega)
        by_cases hcu : cr = u2
        · subst hcu
          rw [if_neg (by simp; omega)] at HU
          go_wp2_with fail
          refine wp_region_quiet_below (by kernel_rfl) (by kernel_rfl) ?_
          repeat (quiet_step (first | exact hS _ _ | exact hN _ _))
          refine wpQuiet_nil ?_
          rintro _ ⟨⟨dq, osq⟩, rfl⟩
          have hB := (belowD w n1).trans (below_regrown (w.drewN n1) dq osq)
          obtain ⟨W2, hW2⟩ : ∃ W, grow (redrawn (w.drewN n1) dq) osq = W := ⟨_, rfl⟩
          simp only [hW2] at hB ⊢
          clear hW2 hS hN
          go_wp2_with fail
          refine (HC.out W2 hB).mono ?_
          rintro e w3 ⟨v3, rfl, hn3, hb3⟩
          go_wp2_with fail
          go_ret3
          exact ⟨hB.trans (hb3.mono hB.size), .inr ⟨ld, v3, HU.out, by rw [hlen.out]; rfl, hn3.1, fun b hb => ⟨Nat.le_trans hB.size (hn3.2 b hb).1, (hn3.2 b hb).2⟩⟩⟩
        · have e3 : ((cr : Int) == (u2 : Int)) = false := by simp; omega
          have e4 : ((cr : Int) != (u2 : Int)) = true := by simp; omega
          have e5 : (cr == u2) = false := by simp [hcu]
          rw [if_pos (.inr (.inr hcu))] at HU
          go_wp2_with fail
          refine wp_region_quiet_below (by kernel_rfl) (by kernel_rfl) ?_
          repeat (quiet_step (first | exact hS _ _ | exact hN _ _))
          refine wpQuiet_nil ?_
          rintro _ ⟨⟨dq, osq⟩, rfl⟩
          have hB := (belowD w n1).trans (below_regrown (w.drewN n1) dq osq)
          obtain ⟨W2, hW2⟩ : ∃ W, grow (redrawn (w.drewN n1) dq) osq = W := ⟨_, rfl⟩
          simp only [hW2] at hB ⊢
          clear hW2 hS hN
          go_wp2_with fail
          go_ret3
          exact ⟨hB, .inl ⟨HU.out, rfl⟩⟩
end Go.Proofs
