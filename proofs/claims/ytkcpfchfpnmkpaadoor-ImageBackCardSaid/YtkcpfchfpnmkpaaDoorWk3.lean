/- Walks: the reader of package wire: Byte, Int. -/
import Derived.Test.YtkcpfchfpnmkpaaDoorWk2
import Derived.Test.YtkcpfchfpnmkpaaDoorBits
namespace Go.Proofs
open Go Go.RowKit Go.Proofs.YtkcpfchfpnmkpaaDoor

def YtkcpfchfpnmkpaaDoor.ByteP (w : World) (g : Nat) (x : UInt8 × Rd) (e : Ending) (w' : World) : Prop := e = .returned (.int .u8 x.1.toNat) ∧ RdP w' g x.2 ∧ w.grownBy w' (some g)
def YtkcpfchfpnmkpaaDoor.IntP (w : World) (g : Nat) (x : Int × Rd) (e : Ending) (w' : World) : Prop := e = .returned (.int .i64 x.1) ∧ RdP w' g x.2 ∧ w.grownBy w' (some g)

theorem rdByte_take (r : Rd) : ((takeI 1 r).1 = [] ∧ rdByte r = (0, none) ∧ (takeI 1 r).2 = none) ∨ ∃ c, (takeI 1 r).1 = [c] ∧ rdByte r = (c, (takeI 1 r).2) := by
  cases r with
  | none => left; simp [takeI, rdTake, rdByte]
  | some l =>
    cases l with
    | nil => left; simp [takeI, rdTake, rdByte]
    | cons c l => right; exact ⟨c, by simp [takeI, rdTake], by simp [takeI, rdTake, rdByte]⟩

set_option maxHeartbeats 800000 in
theorem Tryd.rByte_calls (g : Nat) (r : Rd) (w : World) (h : RdP w g r) :
    Calls Tryd.prog 71 #[.pointer (some ⟨g, 0, none⟩)] w (ByteP w g (rdByte r)) := by
  have H := Lib.hid h
  have HT := Lib.hid (rdByte_take r)
  clear h
  go_enter Tryd.func71, Tryd.ntmps71
  go_wp2_with fail
  refine (Tryd.take_calls 1 g r w H.out (by omega)).mono ?_
  rintro e w' ⟨v, rfl, hb, hr, hne, hg⟩
  obtain ⟨a, c, rfl, h1, h2, h3, h4⟩ := hb
  rcases HT.out with ⟨e1, e2, e3⟩ | ⟨x, e1, e2⟩
  · rw [e1] at h1 h4 hne
    rw [e1]
    rw [e3] at hr
    have HR := Lib.hid hr
    have HG := Lib.hid hg
    have HE := Lib.hid e2
    clear hr hg hne h4 e1 e2 e3 h1 h2
    go_wp2
    go_ret
    rw [HE.out]
    exact ⟨rfl, HR.out, HG.out⟩
  · rw [e1] at h1 h4 hne
    rw [e1]
    obtain ⟨b, off, rfl, hc⟩ := h4 0 (.int .u8 x.toNat) (by simp [bv])
    have HR := Lib.hid hr
    have HG := Lib.hid hg
    have HE := Lib.hid e2
    clear hr hg hne h4 e1 e2 h2
    rw [Nat.add_zero] at hc
    go_wp2
    go_ret
    rw [HE.out]
    exact ⟨rfl, HR.out, HG.out⟩

set_option maxHeartbeats 1600000 in
theorem Tryd.rInt_calls (g : Nat) (r : Rd) (w : World) (h : RdP w g r) :
    Calls Tryd.prog 75 #[.pointer (some ⟨g, 0, none⟩)] w (IntP w g (rdInt r)) := by
  have h' := h
  obtain ⟨sv, h0, h1, f0, f1, hne, hb⟩ := h
  cases r with
  | none =>
    have HT : Hid (IntP w g (rdInt none) (.returned (.int .i64 0)) w) := ⟨rfl, h', grown_refl _ _⟩
    clear h' hb
    go_enter Tryd.func75, Tryd.ntmps75
    go_wp2
    go_ret
    exact HT.out
  | some l =>
    obtain ⟨a, c, rfl, h11, h12, h13, h14⟩ := hb
    simp only [Option.getD] at h11 h14 hne h0
    unfold maxLen at h12
    have HB := Lib.hid h14
    have HH := Lib.hid h'
    clear h14 h' hne
    go_enter Tryd.func75, Tryd.ntmps75
    go_wp2_with (go_at_call 76; refine (Tryd.good_calls _ _ _ HH.out).mono ?_; rintro e w' ⟨rfl, rfl⟩)
    go_loop [3, 4] (fun u kk => ∃ k : Nat, k ≤ 9 ∧ k ≤ l.length ∧ kk = .int .i64 k ∧ ∃ v : Nat, u = .int .u64 v ∧ v < 128 ^ k ∧ DecAt l k v) (fun _ kk => 10 - (intOf kk).toNat)
    case atStart => exact ⟨0, by omega, by omega, rfl, 0, rfl, by omega, by simp [DecAt]⟩
    case round =>
      obtain ⟨k, hk9, hkl, rfl, v, rfl, hv, HD⟩ := hrel
      by_cases hlt : k < l.length
      · obtain ⟨x, hx⟩ := get_some l k hlt
        obtain ⟨b, off, rfl, g1⟩ := HB.out k _ (bv_of_get hx)
        have b1 : (k : Int) < (l.length : Int) := by omega
        have hc : x.toNat < 256 := x.toNat_lt
        have HG := Lib.hid (fun h1 h2 => HD.go hx h1 h2)
        have HBAD := Lib.hid (fun h1 h2 => HD.bad hx h1 h2)
        have HFIN := Lib.hid (fun h1 h2 => HD.fin hx h1 h2)
        clear hx
        generalize x.toNat = cc at *
        clear h13 HD
        by_cases h127 : 127 < cc
        · by_cases h9 : k < 9
          · have e0 : (k : Int) < 9 := by omega
            have HO := Lib.hid (rint_or v cc k hv hc (by omega) (.inl h9))
            have HG' := Lib.hid (HG.out h127 h9)
            clear HG
            go_wp2
            go_round
            case rel => exact ⟨k + 1, by omega, by omega, by go_num, _, by rw [HO.out], val_lt' v cc k hv, HG'.out⟩
            case measure => simp [intOf]; omega
          · obtain rfl : k = 9 := by omega
            have HR : Hid (rdInt (some l) = (0, none)) := HBAD.out (by omega) (.inr ⟨by omega, rfl⟩)
            go_wp2_with (first | (go_at_call 85; fail) | (go_at_call 86; refine (Tryd.fail_calls _ _ _ HH.out).mono ?_; rintro e w' ⟨rfl, hr, hg⟩))
            go_ret
            rw [HR.out]
            exact ⟨rfl, hr, hg⟩
        · have h127' : cc ≤ 127 := by omega
          by_cases hbad : (cc = 0 ∧ 0 < k) ∨ (1 < cc ∧ k = 9)
          · have HR : Hid (rdInt (some l) = (0, none)) := HBAD.out (by omega) hbad
            rcases hbad with ⟨rfl, h0⟩ | ⟨h0, rfl⟩
            · go_wp2_with (first | (go_at_call 85; fail) | (go_at_call 86; refine (Tryd.fail_calls _ _ _ HH.out).mono ?_; rintro e w' ⟨rfl, hr, hg⟩))
              go_ret
              rw [HR.out]
              exact ⟨rfl, hr, hg⟩
            · have z1 : (cc == 0) = false := by simp; omega
              have z2 : ((cc : Int) == 0) = false := by simp; omega
              go_wp2_with (first | (go_at_call 85; fail) | (go_at_call 86; refine (Tryd.fail_calls _ _ _ HH.out).mono ?_; rintro e w' ⟨rfl, hr, hg⟩))
              go_ret
              rw [HR.out]
              exact ⟨rfl, hr, hg⟩
          · have HR := Lib.hid (HFIN.out (by omega) hbad)
            have HV := Lib.hid (rint_fin v cc k hv hc (by omega) (by omega))
            have HT := Lib.hid (takeI_succ hlt)
            clear HFIN HBAD HG
            by_cases hz : cc = 0
            · have hk0 : (k : Int) ≤ 0 := by omega
              have z0 : (cc : Int) ≤ 0 := by omega
              have z1 : (cc == 0) = true := by simp [hz]
              have z2 : ((cc : Int) == 0) = true := by simp; omega
              clear hz
              go_wp2_with (first | (go_at_call 85; refine (Tryd.take_calls _ _ _ _ HH.out (by omega)).mono ?_; rintro e w' ⟨tv, rfl, tb, hr, tn, hg⟩) | (go_at_call 86; fail))
              all_goals
                obtain rfl : k = 0 := by omega
                have hT : takeI 1 (some l) = _ := HT.out
                go_ret
                rw [HR.out]
                rw [hT] at hr
                exact ⟨ret_int (by have := HV.out; simpa using this), hr, hg⟩
            · by_cases h9 : k = 9
              · subst h9
                have z1 : (cc == 0) = false := by simp [hz]
                have z2 : ((cc : Int) == 0) = false := by simp; omega
                have z4 : cc ≤ 1 := by omega
                go_wp2_with (first | (go_at_call 85; refine (Tryd.take_calls _ _ _ _ HH.out (by omega)).mono ?_; rintro e w' ⟨tv, rfl, tb, hr, tn, hg⟩) | (go_at_call 86; fail))
                have hT : takeI 10 (some l) = _ := HT.out
                go_ret
                rw [HR.out]
                rw [hT] at hr
                exact ⟨ret_int (by have := HV.out; simpa using this), hr, hg⟩
              · have z1 : (cc == 0) = false := by simp [hz]
                have z2 : ((cc : Int) == 0) = false := by simp; omega
                have z3 : ((k : Int) == 9) = false := by simp; omega
                go_wp2_with (first | (go_at_call 85; refine (Tryd.take_calls _ _ _ _ HH.out (by omega)).mono ?_; rintro e w' ⟨tv, rfl, tb, hr, tn, hg⟩) | (go_at_call 86; fail))
                all_goals
                  go_ret
                  rw [HR.out]
                  rw [HT.out] at hr
                  exact ⟨ret_int HV.out, hr, hg⟩
      · have HR : Hid (rdInt (some l) = (0, none)) := HD.short hlt
        go_wp2_with (first | (go_at_call 85; fail) | (go_at_call 86; refine (Tryd.fail_calls _ _ _ HH.out).mono ?_; rintro e w' ⟨rfl, hr, hg⟩))
        go_ret
        rw [HR.out]
        exact ⟨rfl, hr, hg⟩
end Go.Proofs
