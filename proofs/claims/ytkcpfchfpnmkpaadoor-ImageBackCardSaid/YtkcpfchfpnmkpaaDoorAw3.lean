/- Walks: the law's own functions: awake. -/
import Derived.Test.YtkcpfchfpnmkpaaDoorAw2
import Derived.Deep.RegionHeld3
namespace Go.Proofs
open Go Go.RowKit Go.Sort Go.Proofs.YtkcpfchfpnmkpaaDoor

namespace YtkcpfchfpnmkpaaDoor
def From (w w' : World) : Prop := RowKit.Below w.heap.size w w'
theorem From.refl (w : World) : From w w := Below.refl _ _
theorem From.keep {a b c : World} (h : From a b) (hb : Below b.heap.size b c) : From a c := h.trans (hb.mono h.size)
theorem From.drew {a b : World} (h : From a b) : From a b.drew := h.trans ⟨rfl, rfl, rfl, Nat.le_refl _, fun _ _ => rfl⟩
theorem From.drewN {a b : World} (h : From a b) (n : Nat) : From a (b.drewN n) := h.trans ⟨rfl, rfl, rfl, Nat.le_refl _, fun _ _ => rfl⟩
end YtkcpfchfpnmkpaaDoor

theorem Tryd.sameSmall_calls (n1 s1 m1 n2 s2 m2 : Value) (w : World) (h1 : ImV w n1 s1 m1 smallIm) (h2 : ImV w n2 s2 m2 smallIm) :
    Calls Tryd.prog 12 #[.agg (imA n1 s1 m1 smallIm), .agg (imA n2 s2 m2 smallIm)] w (SameP w true) :=
  (Tryd.same_calls smallIm smallIm n1 s1 m1 n2 s2 m2 w h1 h2).mono fun e w' ⟨he, h⟩ => ⟨by rw [he, decide_eq_true rfl], h⟩
theorem Tryd.want_calls (v1 v2 : Value) (w : World) (h1 : Bs w v1 wantL) (h2 : Bs w v2 wantL) :
    Calls Tryd.prog 13 #[v1, v2] w fun e w' => e = .returned (.bool true) ∧ ∃ n, w' = w.drewN n :=
  (Tryd.sameBytes_calls v1 v2 wantL wantL w h1 h2).mono fun e w' ⟨he, h⟩ => ⟨by rw [he, beq_self_eq_true], h⟩

set_option maxRecDepth 1000000 in
set_option maxHeartbeats 3200000 in
theorem Tryd.awake_calls (w : World) : Calls Tryd.prog 5 #[] w (SameP w true) := by
  go_enter Tryd.func5, Tryd.ntmps5
  go_wp2_with fail
  refine (Tryd.small_calls w).mono ?_
  rintro e w1 ⟨a1, b1, c1, d1, e1, f1, rfl, hv1, hb1⟩
  have HV1 := Lib.hid hv1
  have HB1 := Lib.hid hb1
  clear hv1 hb1
  go_wp2_with fail
  refine (Tryd.putL_calls smallIm _ _ _ w1 HV1.out in_small).mono ?_
  rintro e w2 ⟨v2, rfl, ho2, hb2⟩
  have hsb := small_back
  obtain ⟨c0, hc0⟩ : ∃ c0, (putS smallIm).1 = c0 := ⟨_, rfl⟩
  rw [hc0] at ho2 hsb
  have e20 : (putS smallIm).2 = 0 := by rw [hsb.1]
  rw [e20]
  have HGS := Lib.hid hsb.2
  have hlen0 : c0.length ≤ 1048584 := (put_len hsb.1).2
  have HO2 := Lib.hid ho2.bs
  have HB2 := Lib.hid (HB1.out.trans (hb2.mono HB1.out.size))
  obtain ⟨av2, cv2, rfl, -⟩ := ho2.bs
  clear ho2 hb2 hsb hc0 e20
  go_wp2_with fail
  refine (Tryd.got_calls _ c0 w2 HO2.out (by omega)).mono ?_
  rw [HGS.out]
  rintro e w3 ⟨a3, b3, c3, d3, e3, f3, rfl, ho3, hb3⟩
  have HB3 := Lib.hid (HB2.out.trans (hb3.mono HB2.out.size))
  have HV3 := Lib.hid ho3.v
  clear ho3 hb3
  obtain ⟨W4, hW4⟩ : ∃ W4, w3.alloc (.cells #[.slice a3 smallIm.nodes.length b3, .slice c3 smallIm.sits.length d3, .int .i64 smallIm.ver, .slice e3 smallIm.mems.length f3, .int .i64 smallIm.lo, .int .i64 smallIm.hi] 29) = W4 := ⟨_, rfl⟩
  have hb4 : RowKit.Below w3.heap.size w3 W4 := by rw [← hW4]; exact (Below.refl _ _).alloc (Nat.le_refl _) _
  have hx4 : W4.heap[w3.heap.size]? = some (.cells #[.slice a3 smallIm.nodes.length b3, .slice c3 smallIm.sits.length d3, .int .i64 smallIm.ver, .slice e3 smallIm.mems.length f3, .int .i64 smallIm.lo, .int .i64 smallIm.hi] 29 (0, 0)) := by rw [← hW4]; exact heap_alloc_new w3 _
  go_wp2_with fail
  obtain ⟨W5, hW5⟩ : ∃ W5, W4.alloc (.cells #[.string ⟨#[47]⟩, .slice none 0 0, .int .i64 0, .int .i64 0, .int .i64 0, .int .i64 0, .int .i64 0, .int .i64 0, .int .i64 0, .int .i64 0, .int .i64 0, .int .i64 0] 42) = W5 := ⟨_, rfl⟩
  rw [hW5]
  have hb5 : RowKit.Below W4.heap.size W4 W5 := by rw [← hW5]; exact (Below.refl _ _).alloc (Nat.le_refl _) _
  have hx5 : W5.heap[W4.heap.size]? = some (.cells #[.string ⟨#[47]⟩, .slice none 0 0, .int .i64 0, .int .i64 0, .int .i64 0, .int .i64 0, .int .i64 0, .int .i64 0, .int .i64 0, .int .i64 0, .int .i64 0, .int .i64 0] 42 (0, 0)) := by rw [← hW5]; exact heap_alloc_new W4 _
  have hs4 : w3.heap.size < W4.heap.size := Lib.lt_of_heap hx4
  have hs5 : W4.heap.size < W5.heap.size := Lib.lt_of_heap hx5
  have hx45 := (hb5.block w3.heap.size hs4).trans hx4
  have HX5 := Lib.hid hx5
  have HX45 := Lib.hid hx45
  have HB5 := Lib.hid ((HB3.out.trans (hb4.mono HB3.out.size)).trans (hb5.mono (by have := HB3.out.size; omega)))
  have HV5 := Lib.hid ((HV3.out.below hb4).below hb5)
  have HO5 := Lib.hid (hb4.trans (hb5.mono (by omega)))
  clear hW4 hW5 hb4 hb5 hx4 hx5 hx45
  refine (Tryd.config_calls W5).mono ?_
  rintro e w6 ⟨am, cm, rfl, hm6, hb6⟩
  have hx6 := (hb6.block W4.heap.size hs5).trans HX5.out
  have hx46 := (hb6.block w3.heap.size (by omega)).trans HX45.out
  have HV6 : Hid (ImV w6 (.slice (some ⟨W4.heap.size, 0, none⟩) 1 1) (.slice none 0 0) (.slice am 1 cm) oneIm) := by
    refine ⟨⟨[.slice none 0 0], rfl, Sl.at_block hx6 (by decide), ?_⟩, (RowO.nil w6 0 0 51 3 |> fun h => own_sl h.1), own_sl hm6.1⟩
    intro i x d hx hd
    match i, hx, hd with
    | 0, hx, hd => simp [oneIm] at hx hd; subst hx hd; exact Bs.nil _
    | i + 1, hx, hd => simp [oneIm] at hx
  have HB6 := Lib.hid (HB5.out.trans (hb6.mono HB5.out.size))
  have HX46 := Lib.hid hx46
  have HVX6 := Lib.hid (HV5.out.below hb6)
  have hs6 := hb6.size
  clear hm6 hb6 hx6 hx46
  go_wp2_with fail
  have hput := Tryd.putL_calls oneIm (.slice (some ⟨W4.heap.size, 0, none⟩) 1 1) (.slice none 0 0) (.slice am 1 cm) w6 HV6.out in_one
  simp only [imA, oneIm] at hput
  refine hput.mono ?_
  clear hput
  rintro e w7 ⟨v7, rfl, ho7, hb7⟩
  have hop := one_put
  simp only [oneIm] at hop
  obtain ⟨⟨c7, ec7⟩, hc7⟩ : ∃ x, putS ⟨[rootNd], [], 0, oneMb, 0, 0⟩ = x := ⟨_, rfl⟩
  rw [hc7] at ho7 hop ⊢
  obtain ⟨h71, h72, h73⟩ := hop
  simp only at h71 h72 h73 ho7
  subst h71
  have HC7 := Lib.hid h73
  have HL7 := Lib.hid h72
  have HO7 := Lib.hid ho7.bs
  obtain ⟨av7, cv7, e7, hcap7, -⟩ := ho7.bs
  rw [h72] at e7 hcap7
  subst e7
  have hx7 := (hb7.block w3.heap.size (by omega)).trans HX46.out
  have HX7 := Lib.hid hx7
  have HB7 := Lib.hid (HB6.out.trans (hb7.mono HB6.out.size))
  have HVX7 := Lib.hid (HVX6.out.below hb7)
  have hs7 := hb7.size
  clear ho7 hb7 hc7 h72 h73 hx7
  go_wp2_with fail
  obtain ⟨W8, hW8⟩ : ∃ W8, w7.alloc (.cells #[.int .u8 1, .int .u8 2, .int .u8 2, .int .u8 47, .int .u8 0, .int .u8 0, .int .u8 0, .int .u8 0, .int .u8 0, .int .u8 0, .int .u8 0, .int .u8 0, .int .u8 0, .int .u8 0, .int .u8 12, .int .u8 0, .int .u8 2, .int .u8 2, .int .u8 2, .int .u8 2, .int .u8 0, .int .u8 0, .int .u8 0] 5) = W8 := ⟨_, rfl⟩
  rw [hW8]
  have hb8 : RowKit.Below w7.heap.size w7 W8 := by rw [← hW8]; exact (Below.refl _ _).alloc (Nat.le_refl _) _
  have hx8 : W8.heap[w7.heap.size]? = some (.cells (bv wantL).toArray 5 (0, 0)) := by rw [← hW8]; exact heap_alloc_new w7 _
  have HWT8 : Hid (Bs W8 (.slice (some ⟨w7.heap.size, 0, none⟩) 23 23) wantL) := Bs.at_block (l := wantL) hx8 (by decide)
  have HB8 := Lib.hid (HB7.out.trans (hb8.mono HB7.out.size))
  have HVX8 := Lib.hid (HVX7.out.below hb8)
  have HO8 := Lib.hid (HO7.out.below hb8)
  have hx78 := (hb8.block w3.heap.size (by omega)).trans HX7.out
  have HX8 := Lib.hid hx78
  have hs8 := hb8.size
  clear hW8 hb8 hx8 hx78
  have hput := Tryd.putL_calls zeroIm (.slice none 0 0) (.slice none 0 0) (.slice none 0 0) W8 (ImO.zero W8 0).v in_zero
  simp only [imA, zeroIm] at hput
  refine hput.mono ?_
  clear hput
  rintro e w9 ⟨v9, rfl, ho9, hb9⟩
  have hpz := put_zero
  simp only [zeroIm] at hpz
  rw [hpz] at ho9 ⊢
  obtain ⟨av9, cv9, rfl, -⟩ := ho9.bs
  have HB9 := Lib.hid (HB8.out.trans (hb9.mono HB8.out.size))
  have HWT9 := Lib.hid (HWT8.out.below hb9)
  have HO9 := Lib.hid (HO8.out.below hb9)
  have HVX9 := Lib.hid (HVX8.out.below hb9)
  have hx9 := (hb9.block w3.heap.size (by omega)).trans HX8.out
  have HX9 := Lib.hid hx9
  have hs9 := hb9.size
  clear ho9 hb9 hpz
  go_wp2_with fail
  have hx10 : ∀ w', From w9 w' → w'.heap[w3.heap.size]? = some (.cells #[.slice a3 smallIm.nodes.length b3, .slice c3 smallIm.sits.length d3, .int .i64 smallIm.ver, .slice e3 smallIm.mems.length f3, .int .i64 smallIm.lo, .int .i64 smallIm.hi] 29 (0, 0)) := fun w' h => (h.block w3.heap.size (Lib.lt_of_heap HX9.out)).trans HX9.out
  have k0 : ∀ w', From w9 w' → w'.cell? ⟨w3.heap.size, 0, none⟩ = some (.slice a3 smallIm.nodes.length b3) := fun w' h => by rw [Lib.cell_of_heap (hx10 w' h)]; rfl
  have k1 : ∀ w', From w9 w' → w'.cell? ⟨w3.heap.size, 1, none⟩ = some (.slice c3 smallIm.sits.length d3) := fun w' h => by rw [Lib.cell_of_heap (hx10 w' h)]; rfl
  have k2 : ∀ w', From w9 w' → w'.cell? ⟨w3.heap.size, 2, none⟩ = some (.int .i64 smallIm.ver) := fun w' h => by rw [Lib.cell_of_heap (hx10 w' h)]; rfl
  have k3 : ∀ w', From w9 w' → w'.cell? ⟨w3.heap.size, 3, none⟩ = some (.slice e3 smallIm.mems.length f3) := fun w' h => by rw [Lib.cell_of_heap (hx10 w' h)]; rfl
  have k4 : ∀ w', From w9 w' → w'.cell? ⟨w3.heap.size, 4, none⟩ = some (.int .i64 smallIm.lo) := fun w' h => by rw [Lib.cell_of_heap (hx10 w' h)]; rfl
  have k5 : ∀ w', From w9 w' → w'.cell? ⟨w3.heap.size, 5, none⟩ = some (.int .i64 smallIm.hi) := fun w' h => by rw [Lib.cell_of_heap (hx10 w' h)]; rfl
  clear hx10
  clear hx9
  obtain ⟨b7, o7, kc, rfl, hkc, hbd⟩ : ∃ b7 o7 kc, av7 = some ⟨b7, o7, none⟩ ∧ (∀ W, (Instr.slice 30 (.slice (some ⟨b7, o7, none⟩) 31 cv7) (some (.int .i64 8)) none none).run Tryd.prog W = .ok (.slice (some ⟨b7, o7 + 8, none⟩) 23 kc) W) ∧ Bs w9 (.slice (some ⟨b7, o7 + 8, none⟩) 23 kc) wantL := by
    obtain ⟨a', cap', e, q1, q2, q3, q4⟩ := HO9.out
    injection e with e1 e2 e3
    subst e1 e3
    have hd := Bs.drop (m := 8) q4 (by omega) q1 q2 (by omega) q3
    rw [HC7.out, ← e2] at hd
    obtain ⟨x, hx⟩ := get_some c7 0 (by omega)
    obtain ⟨b, off, rfl, hc⟩ := q4 0 _ (bv_of_get hx)
    refine ⟨b, off, cv7 - 8, rfl, fun W => ?_, ?_⟩
    · exact Tryd.slice_l b off 31 cv7 8 (by omega) (by omega) (by omega) W
    · simpa [addr_add] using hd
  have HBD := Lib.hid hbd
  clear hbd hcap7 hlen0
  have hF0 := From.refl w9
  have hw31 : IntKind.i64.wrap 31 = 31 := by rw [IntKind.wrap_i64]; rfl
  go_region_held3 (fun w' => From w9 w') (first | exact From.refl _ | exact From.drew (by assumption) | assumption | (refine From.keep ?_ ?_ <;> assumption))
    (first
      | (go_at_call 16; refine (Tryd.small_calls _).mono ?_; rintro e Wn ⟨a4, b4, c4, d4, e4, f4, rfl, hv4, hb4⟩; have hF4 : From w9 Wn := From.keep (by assumption) hb4; have HV4 := Lib.hid hv4; clear hv4)
      | (go_at_call 12; refine (Tryd.sameSmall_calls _ _ _ _ _ _ _ (HVX9.out.below hF4) HV4.out).mono ?_; rintro e Wm ⟨rfl, hb5⟩; have hF5 : From w9 Wm := From.keep hF4 hb5)
      | (go_at_call 13; refine (Tryd.want_calls _ _ _ (HBD.out.below hF5) (HWT9.out.below hF5)).mono ?_; rintro e Wk ⟨rfl, nk, rfl⟩; have hF6 : From w9 (Wm.drewN nk) := From.drewN hF5 nk))
  have HF6 := Lib.hid hF6
  clear k0 k1 k2 k3 k4 k5 hkc hF0 hF4 hF5 hF6 hb4 hb5 hw31
  go_wp2_with fail
  go_ret
  exact ⟨rfl, HB9.out.trans (HF6.out.mono HB9.out.size)⟩
end Go.Proofs
