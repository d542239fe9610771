/- Walks: package image: read. -/
import Derived.Test.YtkcpfchfpnmkpaaDoorRead3
namespace Go.Proofs
open Go Go.RowKit Go.Sort Go.Proofs.YtkcpfchfpnmkpaaDoor

set_option maxRecDepth 100000 in
set_option maxHeartbeats 6400000 in
theorem Tryd.read_calls (v : Value) (b : List UInt8) (w : World) (h : Bs w v b) (hl : b.length ≤ 140737488355328) :
    Calls Tryd.prog 60 #[v] w (ReadP w b) := by
  have H := Lib.hid h
  obtain ⟨a, c, rfl, h1, h2, h3, h4⟩ := h
  unfold maxLen at h2
  clear h4 h3
  go_enter Tryd.func60, Tryd.ntmps60
  go_wp2_with fail
  refine (Tryd.unframe_calls _ b _ (H.out.below ((Below.refl _ _).alloc (Nat.le_refl _) _)) hl).mono ?_
  rintro e w1 ⟨hb1, hu⟩
  have hsz1 := hb1.size
  simp at hsz1
  have HB1 : Hid (Below (w.heap.size + 1) (w.alloc zWh) w1) := hb1.mono (by simp)
  have HW1 : Hid (Below w.heap.size w w1) := ((Below.refl _ w).alloc (Nat.le_refl _) zWh).trans (HB1.out.mono (by omega))
  clear hb1
  rcases hu with ⟨hu, rfl⟩ | ⟨load, v1, hu, rfl, hn⟩
  · have HF : Hid (ReadP w b (.panicked brk) w1) := ⟨HW1.out, .inl ⟨getS_none hu, rfl⟩⟩
    clear hu
    go_wp2_with fail
    refine (Tryd.must_bad _).mono ?_
    rintro e w' ⟨rfl, rfl⟩
    go_wp2_with fail
    exact ⟨rfl, HF.out⟩
  · obtain ⟨av, cv, rfl, -⟩ := hn.1
    have HN := Lib.hid hn.1
    have HU := Lib.hid hu
    clear hn hu
    by_cases hlen : b.length = 8 + load.length
    · have e1 : ((8 : Int) + (load.length : Int) == (b.length : Int)) = true := by simp; omega
      have HG := Lib.hid (getS_fin HU.out hlen)
      have hll : load.length ≤ 140737488355328 := by omega
      clear hlen
      go_wp2_with fail
      refine (Tryd.must_ok _).mono ?_
      rintro e w' ⟨rfl, rfl⟩
      clear e1
      go_wp2_with fail
      refine (Tryd.newReader_calls _ load _ HN.out hll).mono ?_
      rintro e w2 ⟨g, rfl, hg, hr, hb2⟩
      have HR := Lib.hid hr
      have HB2 := Lib.hid (HB1.out.trans (hb2.mono (by omega)))
      clear hr hb2 HB1 HW1
      have hgw : w.heap.size < g := by omega
      go_wp2_with fail
      refine (Tryd.rByte_calls g (some load) w2 HR.out).mono ?_
      rintro e w3 ⟨rfl, hr3, hg3⟩
      have hsz3 := hg3.size
      have HB3 := Lib.hid (HB2.out.trans (grown_below hg3 hgw (by have := HB2.out.size; simp at this; omega)))
      obtain ⟨⟨x1, r1⟩, hx1⟩ : ∃ x, rdByte (some load) = x := ⟨_, rfl⟩
      rw [hx1] at hr3 ⊢
      rw [hx1] at HG
      have HR3 := Lib.hid hr3
      clear hr3 hg3 hx1 HR HB2
      have HW3 : Hid (Below w.heap.size w w3) := ((Below.refl _ w).alloc (Nat.le_refl _) zWh).trans (HB3.out.mono (by omega))
      by_cases hx : x1 = 1
      · have e1 : ((x1.toNat : Int) == 1) = true := by rw [hx]; rfl
        go_wp2_with fail
        refine (Tryd.must_ok _).mono ?_
        rintro e w' ⟨rfl, rfl⟩
        clear e1
        have HR3a := Lib.hid (HR3.out.below ((Below.refl _ _).alloc (Nat.le_refl _) zWh))
        have HB3a := Lib.hid (HB3.out.alloc (by have := HB3.out.size; simp at this; omega) zWh)
        go_wp2_with fail
        refine (Tryd.count_calls 500 g r1 _ HR3a.out (by omega)).mono ?_
        rintro e w4 ⟨rfl, hr4, hg4⟩
        obtain ⟨bx, hbx⟩ : ∃ bx, w3.heap.size = bx := ⟨_, rfl⟩
        have hgb : g < bx := by
          obtain ⟨sv, c0, _⟩ := HR3.out
          have := World.block_lt_of_cell? w3 _ c0
          rw [← hbx]; exact this
        have hsz4 := hg4.size
        simp at hsz4
        rw [hbx] at hsz4 ⊢
        have hwh : w4.heap[bx]? = some (.cells #[.slice none 0 0, .slice none 0 0, .int .i64 0, .slice none 0 0, .int .i64 0, .int .i64 0] 94 (0, 0)) := by
          refine (hg4.block bx (by simp; omega) (by simp; omega)).trans ?_
          rw [← hbx]; exact heap_alloc_new w3 _
        obtain ⟨⟨N, r4⟩, hx4⟩ : ∃ x, rdCount 500 r1 = x := ⟨_, rfl⟩
        have hN : N ≤ 500 := by have := rdCount_le 500 r1; rw [hx4] at this; exact this
        rw [hx4] at hr4 ⊢
        have HX4 := Lib.hid hx4
        have HS4 : Hid (RdN w g bx w4.heap.size N (rdNds N r4) [] r4 (.slice none 0 0) w4) :=
          ⟨Nat.zero_le _, by simp, hr4, ⟨hwh, NdsO.nil _ _ _, SgsO.nil _ _ _, HB3a.out.trans (grown_below hg4 hgw (by simp; omega)), Nat.le_refl _, Nat.le_refl _⟩⟩
        have hbB : bx < w4.heap.size := by omega
        obtain ⟨B, hB⟩ : ∃ B, w4.heap.size = B := ⟨_, rfl⟩
        rw [hB] at hbB HS4
        clear hr4 hg4 hx4 hwh HR3a HB3a HR3 HB3 HW3 hbx hsz4 hsz3 hsz1 hB
        go_wp2_with fail
        go_loopw [35] (fun i wr => ∃ (l : List Nd) (r : Rd) (nv : Value), i = .int .i64 l.length ∧ Hid (RdN w g bx B N (rdNds N r4) l r nv wr)) (fun i _ => 501 - (intOf i).toNat)
        case atStart => exact ⟨[], r4, _, rfl, HS4⟩
        case round =>
          obtain ⟨l, r, nv, rfl, HR⟩ := hrel
          obtain ⟨k1, k2, k3, k4⟩ := HR.out
          have K2 := Lib.hid k2
          have K3 := Lib.hid k3
          have K4 := Lib.hid k4
          have hBw : B ≤ wr.heap.size := k4.bM
          clear k2 k3 k4 HR HS4
          by_cases hlN : l.length = N
          · have HALL : Hid (rdNds N r4 = (l, r)) := by
              have := K2.out
              rw [hlN, Nat.sub_self] at this
              show _ = _
              simpa [rdNds] using this
            have hlN2 : (l.length : Int) = N := by omega
            clear K2
            go_wp2_with fail
            refine (Tryd.count_calls 200 g r _ K3.out (by omega)).mono ?_
            rintro e w5 ⟨rfl, hr5, hg5⟩
            have hst5 := (K4.out.step hg5 (.inl (by omega)) (by omega) hgw).top
            obtain ⟨⟨N2, r5⟩, hx5⟩ : ∃ x, rdCount 200 r = x := ⟨_, rfl⟩
            have hN2 : N2 ≤ 200 := by have := rdCount_le 200 r; rw [hx5] at this; exact this
            rw [hx5] at hr5 ⊢
            have HX5 := Lib.hid hx5
            have HS5 : Hid (RdG w g bx B N2 nv l (rdSgs N2 r5) [] r5 (.slice none 0 0) w5) := ⟨Nat.zero_le _, by simp, hr5, hst5⟩
            clear hr5 hg5 hst5 hx5 K3 K4 hlN hlN2 hBw
            go_wp2_with fail
            go_loopw [83] (fun i wr => ∃ (l2 : List Sg) (r : Rd) (sv : Value), i = .int .i64 l2.length ∧ Hid (RdG w g bx B N2 nv l (rdSgs N2 r5) l2 r sv wr)) (fun i _ => 201 - (intOf i).toNat)
            case atStart => exact ⟨[], r5, _, rfl, HS5⟩
            case round =>
              obtain ⟨l2, r, sv, rfl, HR⟩ := hrel
              obtain ⟨k1, k2, k3, k4⟩ := HR.out
              have K2 := Lib.hid k2
              have K3 := Lib.hid k3
              have K4 := Lib.hid k4
              have hBw : B ≤ wr.heap.size := k4.bM
              clear k2 k3 k4 HR HS5
              by_cases hlN : l2.length = N2
              · have HALL2 : Hid (rdSgs N2 r5 = (l2, r)) := by
                  have := K2.out
                  rw [hlN, Nat.sub_self] at this
                  show _ = _
                  simpa [rdSgs] using this
                have hlN2 : (l2.length : Int) = N2 := by omega
                have hwbx : w.heap.size < bx := by omega
                clear K2
                go_wp2_with fail
                clear hlN hlN2
                refine (Tryd.bytes_calls 1048576 g r _ K3.out (by omega)).mono ?_
                rintro e w6 ⟨vc, rfl, hn6, hr6, hg6⟩
                have hB6 : B ≤ w6.heap.size := Nat.le_trans hBw hg6.size
                have HF6 := Lib.hid (K4.out.toF.step hg6 (by omega) (by omega) hgw)
                obtain ⟨⟨cf, r6⟩, hx6⟩ : ∃ x, rdBytes 1048576 r = x := ⟨_, rfl⟩
                have hcl : cf.length ≤ 1048576 := by
                  have h1 := rdCount_le 1048576 r
                  have h2 := rdTake_le (rdCount 1048576 r).1 (rdCount 1048576 r).2
                  have h3 : rdTake (rdCount 1048576 r).1 (rdCount 1048576 r).2 = (cf, r6) := hx6
                  rw [h3] at h2
                  exact Nat.le_trans h2 h1
                rw [hx6] at hr6 hn6
                have HX6 := Lib.hid hx6
                have HN6 := Lib.hid hn6.1
                have HR6 := Lib.hid hr6
                clear hn6 hr6 hg6 hx6 K3 K4
                obtain ⟨ac, cc, rfl, -⟩ := HN6.out
                go_wp2_with fail
                refine (Tryd.ensGet_calls _ cf w6 HN6.out (by omega)).mono ?_
                intro e w7 h7
                obtain ⟨ver, am, nm, cm, ec, rfl, hb7, hcase⟩ := EnsGetP.one h7
                have HF7 := Lib.hid (HF6.out.stepN hb7)
                have hwx := HF7.out.wh
                have HR7 := Lib.hid (HR6.out.below hb7)
                have HCASE := Lib.hid hcase
                have x2 : w7.cell? ⟨bx, 2, none⟩ = some (.int .i64 0) := by rw [Lib.cell_of_heap hwx]; rfl
                have x3 : w7.cell? ⟨bx, 3, none⟩ = some (.slice none 0 0) := by rw [Lib.cell_of_heap hwx]; rfl
                have xf : ∀ i, w7.frozen? ⟨bx, i, none⟩ = false := fun i => Lib.frozen_of_heap hwx i
                have xf2 := xf 2
                have xf3 := xf 3
                clear h7 hb7 hcase hwx xf
                have HF8 := Lib.hid ((HF7.out.set 2 (.int .i64 ver) ver (.slice none 0 0) 0 0 rfl hbB hwbx).set 3 (.slice am nm cm) ver (.slice am nm cm) 0 0 rfl hbB hwbx)
                have HR8 := Lib.hid ((HR7.out.keep (Lib.grownBy_setCell w7 bx 2 (.int .i64 ver)) hgb).keep (Lib.grownBy_setCell _ bx 3 (.slice am nm cm)) hgb)
                go_wp2_with fail
                refine (Tryd.rInt_calls g r6 _ HR8.out).mono ?_
                rintro e w9 ⟨rfl, hr9, hg9⟩
                have HF9 := Lib.hid (HF8.out.step hg9 (by omega) (by omega) hgw)
                obtain ⟨⟨lo, r9⟩, hx9⟩ : ∃ x, rdInt r6 = x := ⟨_, rfl⟩
                rw [hx9] at hr9 ⊢
                have HR9 := Lib.hid hr9
                have HX9 := Lib.hid hx9
                have HG9 := Lib.hid hg9
                clear hr9 hg9 hx9 x2 x3 xf2 xf3
                go_wp2_with fail
                refine (Tryd.rInt_calls g r9 _ HR9.out).mono ?_
                rintro e w10 ⟨rfl, hr10, hg10⟩
                have HF10 := Lib.hid (HF9.out.step hg10 (by omega) (by omega) hgw)
                obtain ⟨⟨hi, r10⟩, hx10⟩ : ∃ x, rdInt r9 = x := ⟨_, rfl⟩
                rw [hx10] at hr10 ⊢
                have HR10 := Lib.hid hr10
                have HX10 := Lib.hid hx10
                have HG10 := Lib.hid hg10
                have hwx := HF10.out.wh
                have x4 : w10.cell? ⟨bx, 4, none⟩ = some (.int .i64 0) := by rw [Lib.cell_of_heap hwx]; rfl
                have x5 : w10.cell? ⟨bx, 5, none⟩ = some (.int .i64 0) := by rw [Lib.cell_of_heap hwx]; rfl
                have xf4 : w10.frozen? ⟨bx, 4, none⟩ = false := Lib.frozen_of_heap hwx _
                have xf5 : w10.frozen? ⟨bx, 5, none⟩ = false := Lib.frozen_of_heap hwx _
                have HF11 := Lib.hid ((HF10.out.set 4 (.int .i64 lo) ver (.slice am nm cm) lo 0 rfl hbB hwbx).set 5 (.int .i64 hi) ver (.slice am nm cm) lo hi rfl hbB hwbx)
                have HR11 := Lib.hid ((HR10.out.keep (Lib.grownBy_setCell w10 bx 4 (.int .i64 lo)) hgb).keep (Lib.grownBy_setCell _ bx 5 (.int .i64 hi)) hgb)
                obtain ⟨W11, hW11⟩ : ∃ W11, (w10.setCell ⟨bx, 4, none⟩ (.int .i64 lo)).setCell ⟨bx, 5, none⟩ (.int .i64 hi) = W11 := ⟨_, rfl⟩
                rw [hW11] at HF11 HR11
                have HW11 := Lib.hid hW11
                have HRAW : Hid (rdRaw r1 = ⟨l, l2, cf, lo, hi, r10⟩) := by
                  show _ = _
                  simp only [rdRaw, HX4.out, HALL.out, HX5.out, HALL2.out, HX6.out, HX9.out, hx10]
                have HBW : Hid (RowKit.Below w.heap.size w W11) := by
                  have := HF11.out.bel
                  exact ((Below.refl _ w).alloc (Nat.le_refl _) zWh).trans (this.mono (by omega))
                clear hr10 hg10 hx10 hwx hW11
                rcases HCASE.out with ⟨hen, rfl⟩ | ⟨ml, hen, rfl, hml⟩
                · have HF : Hid (ReadP w b (.panicked brk) W11) := ⟨HBW.out, .inl ⟨by rw [HG.out, HRAW.out]; exact fin_ens hen, rfl⟩⟩
                  clear hen
                  go_wp2_with fail
                  rw [HW11.out]
                  refine (Tryd.must_bad _).mono ?_
                  rintro e w' ⟨rfl, rfl⟩
                  go_wp2_with fail
                  exact ⟨rfl, HF.out⟩
                · have HMB : Hid (MbsO W11 B W11.heap.size (.slice am nm cm) ml) := by
                    have h1 : RowO w7 B w7.heap.size 78 4 (.slice am nm cm) ml.length (ml.flatMap mbVal) := ⟨own_base hml hB6, fun k hk => (hml.lt k hk).2⟩
                    have hgB : g < B := by omega
                    have h2 := (RowO.keep h1 (Lib.grownBy_setCell w7 bx 2 (.int .i64 ver)) (Away.out (.inl hbB))).keep (Lib.grownBy_setCell _ bx 3 (.slice am nm cm)) (Away.out (.inl hbB))
                    have h3 := (h2.keep HG9.out (Away.out (.inl hgB))).keep HG10.out (Away.out (.inl hgB))
                    have h4 := (h3.keep (Lib.grownBy_setCell w10 bx 4 (.int .i64 lo)) (Away.out (.inl hbB))).keep (Lib.grownBy_setCell _ bx 5 (.int .i64 hi)) (Away.out (.inl hbB))
                    rw [HW11.out] at h4
                    refine h4.mono ?_
                    have s1 := HG9.out.size
                    have s2 := HG10.out.size
                    have s3 : W11.heap.size = w10.heap.size := by rw [← HW11.out]; simp [World.setCell]
                    simp [World.setCell] at s1
                    omega
                  have HEN := Lib.hid hen
                  clear hen hml HG9 HG10 HF6 HF7 HF8 HF9 HF10 HR6 HR7 HR8 HR9 HR10 HCASE HN6 k1
                  go_wp2_with fail
                  rw [HW11.out]
                  refine (Tryd.whole_calls g r10 W11 HR11.out).mono ?_
                  rintro e w' ⟨rfl, rfl⟩
                  clear x4 x5 xf4 xf5 HW11
                  by_cases hwh : r10 = some []
                  · subst hwh
                    have hbt : ((some [] : Rd) == some []) = true := rfl
                    rw [hbt]
                    clear hbt
                    have hND := HF11.out.nd.nds
                    have hSG := HF11.out.sg.sgs
                    have hMB := HMB.out.ms
                    have HNDs := Lib.hid hND
                    have HSGs := Lib.hid hSG
                    have HMBs := Lib.hid hMB
                    obtain ⟨_, _, ⟨an, cn, rfl, -⟩, -⟩ := hND
                    obtain ⟨as', cs', rfl, -⟩ := hSG
                    obtain ⟨am', cm', he, -⟩ := hMB
                    clear he
                    have hwx := HF11.out.wh
                    have c0 : W11.cell? ⟨bx, 0, none⟩ = some (.slice an l.length cn) := by rw [Lib.cell_of_heap hwx]; rfl
                    have c1 : W11.cell? ⟨bx, 1, none⟩ = some (.slice as' l2.length cs') := by rw [Lib.cell_of_heap hwx]; rfl
                    have c2 : W11.cell? ⟨bx, 2, none⟩ = some (.int .i64 ver) := by rw [Lib.cell_of_heap hwx]; rfl
                    have c3 : W11.cell? ⟨bx, 3, none⟩ = some (.slice am nm cm) := by rw [Lib.cell_of_heap hwx]; rfl
                    have c4 : W11.cell? ⟨bx, 4, none⟩ = some (.int .i64 lo) := by rw [Lib.cell_of_heap hwx]; rfl
                    have c5 : W11.cell? ⟨bx, 5, none⟩ = some (.int .i64 hi) := by rw [Lib.cell_of_heap hwx]; rfl
                    clear hwx
                    go_wp2_with fail
                    refine (Tryd.right_calls ⟨l, l2, ver, ml, lo, hi⟩ _ _ _ W11 HNDs.out HSGs.out HMBs.out).mono ?_
                    rintro e W12 ⟨rfl, hb12⟩
                    have HF12 := Lib.hid (HF11.out.stepN hb12)
                    have HMB12 := Lib.hid ((RowO.keep HMB.out (grown_of_below hb12) Away.no).mono hb12.size)
                    have HBW12 := Lib.hid (HBW.out.trans (hb12.mono HBW.out.size))
                    obtain ⟨q, hq⟩ : ∃ q, right ⟨l, l2, ver, ml, lo, hi⟩ = q := ⟨_, rfl⟩
                    rw [hq]
                    have HQ := Lib.hid hq
                    clear hb12 hq c0 c1 c2 c3 c4 c5 HNDs HSGs HMBs HF11 HMB HR11
                    cases q with
                    | false =>
                      have HF : Hid (ReadP w b (.panicked brk) W12) := ⟨HBW12.out, .inl ⟨by rw [HG.out, HRAW.out]; exact fin_right HEN.out HQ.out, rfl⟩⟩
                      go_wp2_with fail
                      refine (Tryd.must_bad _).mono ?_
                      rintro e w' ⟨rfl, rfl⟩
                      go_wp2_with fail
                      exact ⟨rfl, HF.out⟩
                    | true =>
                      have HGS : Hid (getS b = some ⟨l, l2, ver, ml, lo, hi⟩) := by show _ = _; rw [HG.out, HRAW.out]; exact fin_ok HEN.out hx rfl HQ.out
                      have hz : W12.heap[w.heap.size]? = some (.cells #[.slice none 0 0, .slice none 0 0, .int .i64 0, .slice none 0 0, .int .i64 0, .int .i64 0] 94 (0, 0)) :=
                        (HF12.out.bel.block w.heap.size (by omega)).trans (heap_alloc_new w _)
                      have HZ := Lib.hid hz
                      obtain ⟨W13, hW13⟩ : ∃ W13, W12.setRow w.heap.size #[.slice an l.length cn, .slice as' l2.length cs', .int .i64 ver, .slice am nm cm, .int .i64 lo, .int .i64 hi] = W13 := ⟨_, rfl⟩
                      have hg13 : W12.grownBy W13 (some w.heap.size) := by rw [← hW13]; exact grown_setRow _ _ _
                      have hz13 : W13.heap[w.heap.size]? = some (.cells #[.slice an l.length cn, .slice as' l2.length cs', .int .i64 ver, .slice am nm cm, .int .i64 lo, .int .i64 hi] 94 (0, 0)) := by rw [← hW13]; exact setRow_heap _ _ _ _ _ _ hz
                      have hwB : w.heap.size < B := by omega
                      have hBl : w.heap.size ≤ B := by omega
                      have hs13 := hg13.size
                      have HFIN : Hid (ReadP w b (.returned (.agg #[.slice an l.length cn, .slice as' l2.length cs', .int .i64 ver, .slice am nm cm, .int .i64 lo, .int .i64 hi])) W13) := by
                        refine ⟨HBW12.out.trans (grown_below hg13 (Nat.le_refl _) HBW12.out.size), .inr ⟨⟨l, l2, ver, ml, lo, hi⟩, _, _, _, HGS.out, rfl, ?_, ?_, ?_⟩⟩
                        · exact ((HF12.out.nd.keep hg13 (Away.out (.inl hwB)) (Away.out (.inl hwB))).mono hs13).base hBl
                        · exact ((RowO.keep HF12.out.sg hg13 (Away.out (.inl hwB))).mono hs13).base hBl
                        · exact ((RowO.keep HMB12.out hg13 (Away.out (.inl hwB))).mono hs13).base hBl
                      have HW13 := Lib.hid hW13
                      have HZ13 := Lib.hid hz13
                      have HWH := Lib.hid HF12.out.wh
                      clear hW13 hg13 hz13 hz hs13
                      go_wp2_with fail
                      refine (Tryd.must_ok _).mono ?_
                      rintro e w' ⟨rfl, rfl⟩
                      go_wp2_with (first | ((with_reducible show wpList _ _ _ (⟨some 135, Op.load 94 (.tmp 7), _, _, _, _⟩ :: _) _ _); refine wpList_load_row rfl 94 _ rfl bx rfl 94 _ (0, 0) _ HWH.out Tryd.underlying94 rfl infoWh ?_) | ((with_reducible show wpList _ _ _ (⟨none, Op.store 94 (.tmp 2) (.tmp 135), _, _, _, _⟩ :: _) _ _); refine wpList_store_row rfl 94 _ _ rfl w.heap.size #[.slice an l.length cn, .slice as' l2.length cs', .int .i64 ver, .slice am nm cm, .int .i64 lo, .int .i64 hi] rfl rfl 94 _ HZ.out infoWh rfl (wh_one _ _ _ _ _ _ _ _ _ _ _ _) ?_; rw [HW13.out]))
                      refine bodyPost_ret (v := .agg #[.slice an l.length cn, .slice as' l2.length cs', .int .i64 ver, .slice am nm cm, .int .i64 lo, .int .i64 hi]) (results_cell_row rfl _ _ w.heap.size 94 _ (0, 0) _ rfl HZ13.out Tryd.underlying94 rfl infoWh) rfl ?_
                      exact HFIN.out
                  · have hbt : (r10 == some []) = false := by simpa using hwh
                    have HF : Hid (ReadP w b (.panicked brk) W11) := ⟨HBW.out, .inl ⟨by rw [HG.out, HRAW.out]; exact fin_rest hwh, rfl⟩⟩
                    rw [hbt]
                    go_wp2_with fail
                    refine (Tryd.must_bad _).mono ?_
                    rintro e w' ⟨rfl, rfl⟩
                    go_wp2_with fail
                    exact ⟨rfl, HF.out⟩
              · have hlN' : l2.length < N2 := by omega
                have hlNi : (l2.length : Int) < (N2 : Int) := by omega
                go_wp2_with fail
                refine (Tryd.rInt_calls g r _ K3.out).mono ?_
                rintro e v1 ⟨rfl, hr1, hg1⟩
                have hs1 := hg1.size
                have hst1 := K4.out.step hg1 (.inl (by omega)) (by omega) hgw
                obtain ⟨⟨n1, ra⟩, hxa⟩ : ∃ x, rdInt r = x := ⟨_, rfl⟩
                rw [hxa] at hr1 ⊢
                have HXA := Lib.hid hxa
                have HR1 := Lib.hid hr1
                have HS1 := Lib.hid hst1
                clear hr1 hg1 hst1 hxa
                go_wp2_with fail
                refine (Tryd.rInt_calls g ra _ HR1.out).mono ?_
                rintro e v2 ⟨rfl, hr2, hg2⟩
                have hs2 := hg2.size
                have hst2 := HS1.out.step hg2 (.inl (by omega)) (by omega) hgw
                obtain ⟨⟨n2, rb⟩, hxb⟩ : ∃ x, rdInt ra = x := ⟨_, rfl⟩
                rw [hxb] at hr2 ⊢
                have HXB := Lib.hid hxb
                have HR2 := Lib.hid hr2
                have HS2 := Lib.hid hst2
                clear hr2 hg2 hst2 hxb
                go_wp2_with fail
                refine (Tryd.rInt_calls g rb _ HR2.out).mono ?_
                rintro e v3 ⟨rfl, hr3, hg3⟩
                have hs3 := hg3.size
                have hst3 := HS2.out.step hg3 (.inl (by omega)) (by omega) hgw
                obtain ⟨⟨n3, rc⟩, hxc⟩ : ∃ x, rdInt rb = x := ⟨_, rfl⟩
                rw [hxc] at hr3 ⊢
                have HSG : Hid (rdSg r = (⟨n1, n2, n3⟩, rc)) := by simp [Hid, rdSg, HXA.out, HXB.out, hxc]
                obtain ⟨V4, hV4⟩ : ∃ V4, v3.alloc (.cells #[.int .i64 n1, .int .i64 n2, .int .i64 n3] 51) = V4 := ⟨_, rfl⟩
                have hb4 : RowKit.Below v3.heap.size v3 V4 := by rw [← hV4]; exact (Below.refl _ _).alloc (Nat.le_refl _) _
                have hs4 := hb4.size
                have hblk : V4.heap[v3.heap.size]? = some (.cells #[.int .i64 n1, .int .i64 n2, .int .i64 n3] 51 (0, 0)) := by rw [← hV4]; exact heap_alloc_new v3 _
                have HR4 := Lib.hid (hr3.below hb4)
                have HS4' := Lib.hid (hst3.stepN hb4)
                have HV4 := Lib.hid hV4
                have HBK := Lib.hid hblk
                clear hr3 hg3 hst3 hxc HR1 HR2 HS1 HS2 hV4 hb4 hblk HXA HXB
                go_wp2_with fail
                rw [HV4.out]
                refine (Tryd.good_calls g rc _ HR4.out).mono ?_
                rintro e w' ⟨rfl, rfl⟩
                cases rc with
                | none =>
                  have HF : Hid (ReadP w b (.panicked brk) V4) := by
                    have hst := HS4'.out
                    have hsz := hst.bel.size
                    simp at hsz
                    refine ⟨((Below.refl _ w).alloc (Nat.le_refl _) zWh).trans (hst.bel.mono (by omega)), .inl ⟨?_, rfl⟩⟩
                    rw [HG.out]
                    apply fin_rest
                    rw [rest_sgs ?_]
                    · simp
                    · rw [HX4.out]
                      simp only
                      rw [HALL.out]
                      simp only
                      rw [HX5.out]
                      simp only
                      rw [K2.out]
                      simp only
                      obtain ⟨q, hq⟩ : ∃ q, N2 - l2.length = q + 1 := ⟨N2 - l2.length - 1, by omega⟩
                      rw [hq]
                      simp only [rdSgs, HSG.out, rdSgs_none]
                  go_wp2_with fail
                  refine (Tryd.must_bad _).mono ?_
                  rintro e w' ⟨rfl, rfl⟩
                  go_wp2_with fail
                  exact ⟨rfl, HF.out⟩
                | some rest =>
                  have hwx := HS4'.out.wh
                  have z0 : V4.cell? ⟨v3.heap.size, 0, none⟩ = some (.int .i64 n1) := by rw [Lib.cell_of_heap HBK.out]; rfl
                  have z1 : V4.cell? ⟨v3.heap.size, 1, none⟩ = some (.int .i64 n2) := by rw [Lib.cell_of_heap HBK.out]; rfl
                  have z2 : V4.cell? ⟨v3.heap.size, 2, none⟩ = some (.int .i64 n3) := by rw [Lib.cell_of_heap HBK.out]; rfl
                  have x0 : V4.cell? ⟨bx, 1, none⟩ = some sv := by rw [Lib.cell_of_heap hwx]; rfl
                  obtain ⟨W6, hW6⟩ : ∃ W6, V4.alloc (.cells #[.int .i64 n1, .int .i64 n2, .int .i64 n3] 51) = W6 := ⟨_, rfl⟩
                  have HW6 := Lib.hid hW6
                  have hb6 : RowKit.Below V4.heap.size V4 W6 := by rw [← hW6]; exact (Below.refl _ _).alloc (Nat.le_refl _) _
                  have hsz6 := hb6.size
                  have HST6 := Lib.hid (HS4'.out.stepN hb6)
                  have HRP6 := Lib.hid (HR4.out.below hb6)
                  have HCE : Hid (∀ j u, (sgVal ⟨n1, n2, n3⟩)[j]? = some u → W6.cell? ((⟨V4.heap.size, 0, none⟩ : Addr).add j) = some u) := by
                    rw [← hW6]; exact cells_new V4 (sgVal ⟨n1, n2, n3⟩) 51
                  have hl1 : l2.length ≤ 1000000 := by omega
                  have hMW6 : wr.heap.size ≤ W6.heap.size := by omega
                  have hwbx : w.heap.size < bx := by omega
                  clear hW6 hb6 hsz6 hwx
                  go_wp2_with fail
                  refine (Tryd.must_ok _).mono ?_
                  rintro e w' ⟨rfl, rfl⟩
                  go_wp2_with (at_builtin; rw [HW6.out]; refine Tryd.append_sg rfl _ _ rfl B wr.heap.size sv ⟨V4.heap.size, 0, none⟩ 1 l2 ⟨n1, n2, n3⟩ rfl rfl HST6.out.sg HCE.out hl1 hBw hMW6 ?_; intro v' w7 hn7 hg7 ht7; obtain ⟨hs8, hbx7⟩ := RdS.pushSg HST6.out hn7 hg7 ht7 hbB hwbx; have HS8 := Lib.hid hs8; have HRP7 := Lib.hid (RdP.row HRP6.out hg7 (fun k hk => (ht7 k hk).1) (by omega)); obtain ⟨a9, c9, rfl, -⟩ := hn7.sgs; have q1 : w7.cell? ⟨bx, 1, none⟩ = some sv := (by rw [Lib.cell_of_heap hbx7]; rfl); have q2 : w7.frozen? ⟨bx, 1, none⟩ = false := Lib.frozen_of_heap hbx7 _; clear hn7 hg7 ht7 hs8 hbx7 x0)
                  refine ⟨⟨l2 ++ [⟨n1, n2, n3⟩], some rest, .slice a9 (l2.length + 1) c9, by simp, ?_, ?_, ?_, ?_⟩, by simp [intOf]; omega⟩
                  · simp; omega
                  · rw [K2.out, show N2 - l2.length = (N2 - (l2.length + 1)) + 1 by omega]
                    simp [rdSgs, HSG.out]
                  · have := HRP7.out.keep (Lib.grownBy_setCell w7 bx 1 (.slice a9 (l2.length + 1) c9)) hgb
                    exact this
                  · have := HS8.out
                    simp only [List.length_append, List.length_cons, List.length_nil] at this
                    rw [show (w7.setCell ⟨bx, 1, none⟩ (.slice a9 (l2.length + 1) c9)).heap.size = w7.heap.size by simp [World.setCell]]
                    exact this
          · have hlN' : l.length < N := by omega
            have hlNi : (l.length : Int) < (N : Int) := by omega
            go_wp2_with fail
            refine (Tryd.text_calls 200 g r _ K3.out (by omega)).mono ?_
            rintro e v1 ⟨rfl, hr1, hg1⟩
            have hs1 := hg1.size
            have hst1 := K4.out.step hg1 (.inl (by omega)) (by omega) hgw
            obtain ⟨⟨p, ra⟩, hxa⟩ : ∃ x, rdBytes 200 r = x := ⟨_, rfl⟩
            rw [hxa] at hr1 ⊢
            have HXA := Lib.hid hxa
            have HR1 := Lib.hid hr1
            have HS1 := Lib.hid hst1
            clear hr1 hg1 hst1 hxa
            go_wp2_with fail
            refine (Tryd.bytesT_calls 1000 g ra v1 HR1.out (by omega)).mono ?_
            rintro e v2 ⟨vd, rfl, hn2, hr2, hg2, ht2⟩
            have hs2 := hg2.size
            have hst2 := HS1.out.step hg2 (.inl (by omega)) (by omega) hgw
            obtain ⟨⟨d, rb⟩, hxb⟩ : ∃ x, rdBytes 1000 ra = x := ⟨_, rfl⟩
            rw [hxb] at hr2 hn2
            have HXB := Lib.hid hxb
            obtain ⟨M, hM⟩ : ∃ M, wr.heap.size = M := ⟨_, rfl⟩
            obtain ⟨bn, hbn⟩ : ∃ bn, v2.heap.size = bn := ⟨_, rfl⟩
            rw [hM] at hst2 hs1 hBw
            rw [hbn] at hs2
            have hda : DataO v2 B bn vd d := ⟨hn2.1, fun k hk => by have := hn2.2 k hk; exact ⟨by omega, by omega, ht2 k hk⟩⟩
            obtain ⟨ad, cd, rfl, -⟩ := hn2.1
            obtain ⟨pp, hpp⟩ : ∃ pp : ByteArray, ⟨p.toArray⟩ = pp := ⟨_, rfl⟩
            rw [hpp]
            have HPP := Lib.hid hpp
            have hbw := below_of_grown (World.grownBy_alloc v2 (ndBox pp (.slice ad d.length cd)) none)
            have HA0 : Hid (RdA w g bx B M bn nv l pp (.slice ad d.length cd) d (rdI 0 rb).1 (rdI 0 rb).2 ((v2.alloc (ndBox pp (.slice ad d.length cd))).alloc (.cells #[.int .i64 0, .int .i64 0, .int .i64 0, .int .i64 0, .int .i64 0, .int .i64 0, .int .i64 0, .int .i64 0] 89))) := by
              refine ⟨(hr2.below hbw).below ((Below.refl _ _).alloc (Nat.le_refl _) _), (hst2.alloc _).alloc _, (hda.keep (grown_of_below hbw) Away.no).keep (World.grownBy_alloc _ _ none) Away.no, ?_, ?_⟩
              · refine (Below.heap_alloc _ _ bn (by simp; omega)).trans ?_
                rw [← hbn]; exact heap_alloc_new v2 _
              · have := heap_alloc_new (v2.alloc (ndBox pp (.slice ad d.length cd))) (.cells #[.int .i64 0, .int .i64 0, .int .i64 0, .int .i64 0, .int .i64 0, .int .i64 0, .int .i64 0, .int .i64 0] 89)
                rw [show (v2.alloc (ndBox pp (.slice ad d.length cd))).heap.size = bn + 1 by simp [hbn]] at this
                exact this
            clear hr2 hg2 hst2 hxb hn2 ht2 hda hbw HS1 HR1 hpp
            have hlM : M ≤ bn := by omega
            go_wp2_with fail
            clear hbn hM
            go_loopw [42] (fun i wr => ∃ (j : Nat), i = .int .i64 j ∧ j ≤ 8 ∧ Hid (RdA w g bx B M bn nv l pp (.slice ad d.length cd) d (rdI j rb).1 (rdI j rb).2 wr)) (fun i _ => 9 - (intOf i).toNat)
            case atStart => exact ⟨0, rfl, by omega, HA0⟩
            case round =>
              obtain ⟨j, rfl, hj, HR⟩ := hrel
              clear HA0
              by_cases hj8 : j = 8
              · subst hj8
                obtain ⟨a0, a1, a2, a3, a4, a5, a6, a7, hnd⟩ : ∃ a0 a1 a2 a3 a4 a5 a6 a7, rdNd r = (⟨pp, d, a0, a1, a2, a3, a4, a5, a6, a7, d.length, 0⟩, (rdI 8 rb).2) ∧ (rdI 8 rb).1 = [a0, a1, a2, a3, a4, a5, a6, a7] := by
                  refine ⟨_, _, _, _, _, _, _, _, ?_, rfl⟩
                  simp only [rdNd, HXA.out, HXB.out, HPP.out, rdI]
                obtain ⟨hnd, hys⟩ := hnd
                rw [hys] at HR
                obtain ⟨rz, hrz⟩ : ∃ rz, (rdI 8 rb).2 = rz := ⟨_, rfl⟩
                rw [hrz] at HR hnd
                have HND := Lib.hid hnd
                have HRD := Lib.hid HR.out.rd
                clear hnd hys hrz
                go_wp2_with fail
                refine (Tryd.good_calls g rz _ HRD.out).mono ?_
                rintro e v4 ⟨rfl, rfl⟩
                cases rz with
                | none =>
                  have HF : Hid (ReadP w b (.panicked brk) wr) := by
                    have hst := HR.out.st
                    have hsz := hst.bel.size
                    simp at hsz
                    refine ⟨((Below.refl _ w).alloc (Nat.le_refl _) zWh).trans (hst.bel.mono (by omega)), .inl ⟨?_, rfl⟩⟩
                    rw [HG.out]
                    apply fin_rest
                    rw [rest_nds ?_]
                    · simp
                    · rw [HX4.out]
                      simp only
                      rw [K2.out]
                      simp only
                      obtain ⟨q, hq⟩ : ∃ q, N - l.length = q + 1 := ⟨N - l.length - 1, by omega⟩
                      rw [hq]
                      simp only [rdNds, HND.out, rdNds_none]
                  clear HR HRD
                  go_wp2_with fail
                  refine (Tryd.must_bad _).mono ?_
                  rintro e w' ⟨rfl, rfl⟩
                  go_wp2_with fail
                  exact ⟨rfl, HF.out⟩
                | some rest =>
                  have hnb := HR.out.nb
                  have har := HR.out.ar
                  have hwx := HR.out.st.wh
                  have y0 : wr.cell? ⟨bn + 1, 0, none⟩ = some (.int .i64 a0) := by rw [Lib.cell_of_heap har]; rfl
                  have y1 : wr.cell? ⟨bn + 1, 1, none⟩ = some (.int .i64 a1) := by rw [Lib.cell_of_heap har]; rfl
                  have y2 : wr.cell? ⟨bn + 1, 2, none⟩ = some (.int .i64 a2) := by rw [Lib.cell_of_heap har]; rfl
                  have y3 : wr.cell? ⟨bn + 1, 3, none⟩ = some (.int .i64 a3) := by rw [Lib.cell_of_heap har]; rfl
                  have y4 : wr.cell? ⟨bn + 1, 4, none⟩ = some (.int .i64 a4) := by rw [Lib.cell_of_heap har]; rfl
                  have y5 : wr.cell? ⟨bn + 1, 5, none⟩ = some (.int .i64 a5) := by rw [Lib.cell_of_heap har]; rfl
                  have y6 : wr.cell? ⟨bn + 1, 6, none⟩ = some (.int .i64 a6) := by rw [Lib.cell_of_heap har]; rfl
                  have y7 : wr.cell? ⟨bn + 1, 7, none⟩ = some (.int .i64 a7) := by rw [Lib.cell_of_heap har]; rfl
                  have z1 : wr.cell? ⟨bn, 1, none⟩ = some (.slice ad d.length cd) := by rw [Lib.cell_of_heap hnb]; rfl
                  have HTH : Hid (wr.there bn 2 (statA a0 a1 a2 a3 a4 a5 a6 a7 d.length 0).size) := there_box hnb 2 10 (Nat.le_refl 12)
                  obtain ⟨W5, hW5⟩ : ∃ W5, wr.setCells bn 2 (statA a0 a1 a2 a3 a4 a5 a6 a7 d.length 0).toList = W5 := ⟨_, rfl⟩
                  have hg5 : wr.grownBy W5 (some bn) := by rw [← hW5]; exact grown_setCells bn _ 2 wr wr (grown_refl _ _)
                  have hn5 := stat_store a0 a1 a2 a3 a4 a5 a6 a7 d.length 0 hnb
                  rw [hW5] at hn5
                  have HN5 := Lib.hid hn5
                  have HST5 := Lib.hid (HR.out.st.step hg5 (.inr hlM) (by have := HR.out.st.bM; omega) (by omega))
                  have HRP5 := Lib.hid (HR.out.rd.keep hg5 (by omega))
                  have HDA5 := Lib.hid (HR.out.da.keep hg5 (Away.out (.inr (Nat.le_refl _))))
                  have HW5 := Lib.hid hW5
                  have x0 : W5.cell? ⟨bx, 0, none⟩ = some nv := by rw [Lib.cell_of_heap HST5.out.wh]; rfl
                  clear hW5 hg5 hn5
                  obtain ⟨W6, hW6⟩ : ∃ W6, W5.alloc (.cells #[.string pp, .slice ad d.length cd, .int .i64 a0, .int .i64 a1, .int .i64 a2, .int .i64 a3, .int .i64 a4, .int .i64 a5, .int .i64 a6, .int .i64 a7, .int .i64 d.length, .int .i64 0] 42) = W6 := ⟨_, rfl⟩
                  have HW6 := Lib.hid hW6
                  have hb6 : RowKit.Below W5.heap.size W5 W6 := by rw [← hW6]; exact (Below.refl _ _).alloc (Nat.le_refl _) _
                  have hbn5 := Lib.lt_of_heap HN5.out
                  have hsz6 := hb6.size
                  have HST6 := Lib.hid (HST5.out.stepN hb6)
                  have HRP6 := Lib.hid (HRP5.out.below hb6)
                  have HDA6 : Hid (DataO W6 B W6.heap.size (.slice ad d.length cd) d) := (HDA5.out.keep (grown_of_below hb6) Away.no).mono (by omega)
                  have HCE : Hid (∀ j u, (ndVal ⟨pp, d, a0, a1, a2, a3, a4, a5, a6, a7, d.length, 0⟩ (.slice ad d.length cd))[j]? = some u → W6.cell? ((⟨W5.heap.size, 0, none⟩ : Addr).add j) = some u) := by
                    rw [← hW6]; exact cells_new W5 (ndVal ⟨pp, d, a0, a1, a2, a3, a4, a5, a6, a7, d.length, 0⟩ (.slice ad d.length cd)) 42
                  have hl1 : l.length ≤ 1000000 := by omega
                  have hMW6 : M ≤ W6.heap.size := by omega
                  have hwbx : w.heap.size < bx := by omega
                  clear hW6 hb6 hbn5 hsz6
                  have hbxn : ¬ bx = bn := by have := HR.out.st.bM; omega
                  have hbnx : ¬ bn = bx := by omega
                  clear hnb har hwx HRD
                  go_wp2_with fail
                  refine (Tryd.must_ok _).mono ?_
                  rintro e w' ⟨rfl, rfl⟩
                  go_wp2_with (first | ((with_reducible show wpList _ _ _ (⟨some 76, Op.load 42 (.tmp 8), _, _, _, _⟩ :: _) _ _); refine wpList_load_row rfl 42 _ rfl bn rfl 42 _ (0, 0) _ HN5.out Tryd.underlying42 rfl infoNode ?_) | ((with_reducible show wpList _ _ _ (⟨none, Op.store 40 (.tmp 73) (.tmp 72), _, _, _, _⟩ :: _) _ _); refine wpList_store_mid rfl 40 _ _ rfl bn 2 (statA a0 a1 a2 a3 a4 a5 a6 a7 d.length 0) rfl rfl HTH.out infoStat (statA_one _ _ _ _ _ _ _ _ _ _) ?_; rw [HW5.out]) | (at_builtin; rw [HW6.out]; refine Tryd.append_nd rfl _ _ rfl B M nv ⟨W5.heap.size, 0, none⟩ 1 l ⟨pp, d, a0, a1, a2, a3, a4, a5, a6, a7, d.length, 0⟩ (.slice ad d.length cd) rfl rfl HST6.out.nd HDA6.out HCE.out hl1 hBw hMW6 ?_; intro v' w7 hn7 hg7 ht7; obtain ⟨hs8, hbx7⟩ := RdS.pushNd HST6.out hn7 hg7 ht7 hbB hwbx; have HS8 := Lib.hid hs8; have HRP7 := Lib.hid (RdP.row HRP6.out hg7 (fun k hk => (ht7 k hk).1) (by omega)); obtain ⟨_, _, ⟨a9, c9, rfl, -⟩, -⟩ := hn7.nds; have q1 : w7.cell? ⟨bx, 0, none⟩ = some nv := (by rw [Lib.cell_of_heap hbx7]; rfl); have q2 : w7.frozen? ⟨bx, 0, none⟩ = false := Lib.frozen_of_heap hbx7 _; clear hn7 hg7 ht7 hs8 hbx7 x0))
                  refine ⟨⟨l ++ [⟨pp, d, a0, a1, a2, a3, a4, a5, a6, a7, d.length, 0⟩], some rest, .slice a9 (l.length + 1) c9, by simp, ?_, ?_, ?_, ?_⟩, by simp [intOf]; omega⟩
                  · simp; omega
                  · rw [K2.out, show N - l.length = (N - (l.length + 1)) + 1 by omega]
                    simp [rdNds, HND.out]
                  · have := HRP7.out.keep (Lib.grownBy_setCell w7 bx 0 (.slice a9 (l.length + 1) c9)) hgb
                    exact this
                  · have := HS8.out
                    simp only [List.length_append, List.length_cons, List.length_nil] at this
                    rw [show (w7.setCell ⟨bx, 0, none⟩ (.slice a9 (l.length + 1) c9)).heap.size = w7.heap.size by simp [World.setCell]]
                    exact this
              · have hj' : (j : Int) < 8 := by omega
                have hj1 : j < 8 := by omega
                have HRD := Lib.hid HR.out.rd
                go_wp2_with fail
                refine (Tryd.rInt_calls g _ _ HRD.out).mono ?_
                rintro e v3 ⟨rfl, hr3, hg3⟩
                have HA3 := Lib.hid (HR.out.read hr3 hg3 hgw hgb hbB hlM)
                have hly := rdI_len j rb
                have hA4 := HA3.out.set (rdInt (rdI j rb).2).1 (by omega) hgw hgb hbB hlM
                rw [hly] at hA4
                have HA4 := Lib.hid hA4
                have har := HA3.out.ar
                have hsz8 := arr8_size (rdI j rb).1 (by omega)
                obtain ⟨cv, hcv⟩ : ∃ cv, (arr8 (rdI j rb).1)[j]? = some cv := ⟨_, Array.getElem?_eq_getElem (by omega)⟩
                have hc : v3.cell? ⟨bn + 1, j, none⟩ = some cv := by rw [Lib.cell_of_heap har]; exact hcv
                have hf : v3.frozen? ⟨bn + 1, j, none⟩ = false := Lib.frozen_of_heap har _
                clear hr3 hg3 hly hA4 har hsz8 hcv HR HRD HA3
                obtain ⟨n, hn⟩ : ∃ n, (rdInt (rdI j rb).2).1 = n := ⟨_, rfl⟩
                rw [hn] at HA4 ⊢
                have HNN := Lib.hid hn
                clear hn
                go_wp2_with fail
                go_roundw
                case rel => exact ⟨j + 1, by go_num, by omega, by simp only [rdI, HNN.out]; exact HA4⟩
                case measure => simp [intOf]; omega
      · have e1 : ((x1.toNat : Int) == 1) = false := by
          simp only [beq_eq_false_iff_ne]
          intro e; apply hx; apply UInt8.toNat_inj.1; show x1.toNat = 1; omega
        have HF : Hid (ReadP w b (.panicked brk) w3) := ⟨HW3.out, .inl ⟨by rw [HG.out]; exact fin_c hx, rfl⟩⟩
        go_wp2_with fail
        refine (Tryd.must_bad _).mono ?_
        rintro e w' ⟨rfl, rfl⟩
        go_wp2_with fail
        exact ⟨rfl, HF.out⟩
    · have e1 : ((8 : Int) + (load.length : Int) == (b.length : Int)) = false := by simp; omega
      have HF : Hid (ReadP w b (.panicked brk) w1) := ⟨HW1.out, .inl ⟨getS_len HU.out hlen, rfl⟩⟩
      go_wp2_with fail
      refine (Tryd.must_bad _).mono ?_
      rintro e w' ⟨rfl, rfl⟩
      go_wp2_with fail
      exact ⟨rfl, HF.out⟩
end Go.Proofs
