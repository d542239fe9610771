/- Walks: the parts of a path: the iterator. -/
import Derived.Test.YtkcpfchfpnmkpaaDoorPath2
import Derived.RangeFuncNested
import Derived.RangeFuncBound
import Derived.RangeFuncCalls
import Derived.RangeFuncLeaves
import Derived.Shelf.Abstract
import Derived.Shelf.RegionOpen
import Derived.OwnWalkIn
import Derived.TacticsInMore
import Derived.LoopNIn
import Derived.LoopIn
namespace Go.Proofs
open Go Go.RowKit Go.Shelf Go.Proofs.YtkcpfchfpnmkpaaDoor
attribute [local go_sem] Oper.semAt_some

namespace YtkcpfchfpnmkpaaDoor
def toB (l : List UInt8) : ByteArray := ⟨l.toArray⟩
/-- The parts that a path still has. -/
def partsP (p : ByteArray) : List ByteArray := if p.data.toList = [] ∨ p.data.toList = [47] then [] else (partsOf (p.data.toList.drop 1)).map toB
def sizeAt (w : World) (b : Nat) : Nat := match w.cell? ⟨b, 0, none⟩ with | some (.string s) => s.size | _ => 0
theorem sizeAt_of {w : World} {b : Nat} {s : ByteArray} {t : TypeId} (h : w.heap[b]? = some (.cells #[.string s] t (0, 0))) : sizeAt w b = s.size := by
  have : w.cell? ⟨b, 0, none⟩ = some (.string s) := by rw [Lib.cell_of_heap h]; rfl
  simp [sizeAt, this]
def IterR (J Jx : List ByteArray → World → Prop) (p q : ByteArray) (wr : World) : Prop :=
  (∃ pre, pre ++ partsP q = partsP p ∧ J pre wr) ∨ ((q.data.toList = [] ∨ q.data.toList = [47]) ∧ ∃ pre, pre <+: partsP p ∧ Jx pre wr)
theorem partsOf_none {l a : List UInt8} (h : cut47 l = (a, none)) : partsOf l = [a] := by
  rw [partsOf]; split
  · rw [h]
  · rename_i r e; rw [h] at e; cases e
theorem partsOf_some {l a r : List UInt8} (h : cut47 l = (a, some r)) : partsOf l = a :: partsOf r := by
  rw [partsOf]; split
  · rename_i e; rw [h] at e; cases e
  · rename_i r2 e; rw [h] at e; cases e; rw [h]
theorem cut47_len : ∀ (l : List UInt8), l.length = (cut47 l).1.length + (match (cut47 l).2 with | none => 0 | some r => r.length + 1) := by
  intro l
  induction l with
  | nil => rfl
  | cons c l ih =>
    simp only [cut47]
    split
    · simp
    · simp only [List.length_cons]; omega
end YtkcpfchfpnmkpaaDoor

set_option maxRecDepth 100000 in
set_option maxHeartbeats 3200000 in
theorem Tryd.parts1_in (F : Fence) (hF : F = Fence.wide) (n : Nat) (hn : 1 ≤ n) (l pb : Nat) (p : ByteArray) (hp : p.size ≤ 200) (J Jx : List ByteArray → World → Prop)
    (hJ : ∀ s A B, J s A → A.grownBy B (some pb) → J s B) (hJx : ∀ s A B, Jx s A → A.grownBy B (some pb) → Jx s B)
    (hY : ∀ pre x W, J pre W → YieldAt F (n - 1) Tryd.prog l #[.string x] W fun e W' =>
      (e = .returned (.bool true) ∧ J (pre ++ [x]) W' ∧ W'.heap[pb]? = W.heap[pb]?) ∨ (e = .returned (.bool false) ∧ Jx (pre ++ [x]) W' ∧ W'.heap[pb]? = W.heap[pb]?))
    (W : World) (hb : W.heap[pb]? = some (.cells #[.string p] 9 (0, 0))) (h0 : J [] W) :
    CallsIn F n Tryd.prog 79 #[.func (.yield l) #[] #[], .pointer (some ⟨pb, 0, none⟩)] W fun e W' => (∃ v, e = .returned v) ∧
      (J (partsP p) W' ∨ ∃ pre, pre <+: partsP p ∧ Jx pre W') := by
  subst hF
  have hfree : ∀ f, Fence.wide.fn f := fun _ => trivial
  refine callsIn_of_wp Tryd.func79 rfl trivial ?_
  simp only [Tryd.ntmps79, List.size_toArray, List.length_cons, List.length_nil, Nat.reduceAdd, Nat.reduceSub, Array.replicate_succ, Array.replicate_zero, List.push_toArray, List.append_toArray, List.nil_append, List.cons_append]
  gi_wp2
  gi_loopw [3] (fun _ wr => ∃ (q : ByteArray), wr.heap[pb]? = some (.cells #[.string q] 9 (0, 0)) ∧ q.size ≤ 200 ∧ Hid (IterR J Jx p q wr)) (fun _ wr => sizeAt wr pb)
  case atStart => exact ⟨p, hb, hp, .inl ⟨[], rfl, h0⟩⟩
  case round =>
    obtain ⟨q, hq, hq2, HI⟩ := hrel
    have HJ := Lib.hid hJ
    have HJx := Lib.hid hJx
    have HY := Lib.hid hY
    clear hJ hJx hY hb h0
    have hc : wr.cell? ⟨pb, 0, none⟩ = some (.string q) := by rw [Lib.cell_of_heap hq]; rfl
    have hsq := sizeAt_of hq
    by_cases hE : q.data.toList = [] ∨ q.data.toList = [47]
    · have HF : Hid (J (partsP p) wr ∨ ∃ pre, pre <+: partsP p ∧ Jx pre wr) := by
        rcases HI.out with ⟨pre, h1, h2⟩ | h
        · rw [partsP, if_pos hE, List.append_nil] at h1
          exact .inl (h1 ▸ h2)
        · exact .inr h.2
      have hE' : q.toList = [] ∨ q.toList = [47] := by rw [ByteArray.toList_eq]; exact hE
      clear hE HI
      rcases hE' with hE' | hE'
      · gi_wp2
        go_end0
        exact ⟨⟨_, rfl⟩, HF.out⟩
      · gi_wp2
        go_end0
        exact ⟨⟨_, rfl⟩, HF.out⟩
    · obtain ⟨pre, hpre, hjp⟩ : ∃ pre, pre ++ partsP q = partsP p ∧ J pre wr := HI.out.resolve_right (fun h => hE h.1)
      have hE1 : q.toList.isEmpty = false := by rw [ByteArray.toList_eq]; cases hl : q.data.toList with
        | nil => exact absurd (.inl hl) hE
        | cons => rfl
      have hE2 : (q.toList == [47]) = false := by rw [ByteArray.toList_eq]; simpa using fun e => hE (.inr e)
      have hE3 : ¬ q.toList = [] := by rw [ByteArray.toList_eq]; exact fun e => hE (.inl e)
      have hsz : q.data.toList.length = q.size := by rw [Array.length_toList]; rfl
      have hq1 : (1 : Int) ≤ q.size := by
        cases hl : q.data.toList with
        | nil => exact absurd (.inl hl) hE
        | cons c t => rw [hl] at hsz; simp at hsz; omega
      have HPP : Hid (pre ++ (partsOf (q.data.toList.drop 1)).map toB = partsP p) := by rw [partsP, if_neg hE] at hpre; exact hpre
      have hx : (q.extract 1 q.size).data.toList = q.data.toList.drop 1 := by
        rw [ba_extract]
        exact List.take_of_length_le (by rw [List.length_drop]; omega)
      obtain ⟨x, hxx⟩ : ∃ x, q.extract 1 q.size = x := ⟨_, rfl⟩
      rw [hxx] at hx
      have hxl : x.data.toList.length + 1 = q.size := by rw [hx, List.length_drop]; omega
      have hxs : x.size ≤ 1000 := by
        have h1 : x.data.toList.length = x.size := by rw [Array.length_toList]; rfl
        omega
      obtain ⟨⟨nm, rs⟩, hcut⟩ : ∃ c, cut47 x.data.toList = c := ⟨_, rfl⟩
      have hlen := cut47_len x.data.toList
      rw [hcut] at hlen
      rw [← hx] at HPP
      have HCUT := Lib.hid hcut
      have HJP := Lib.hid hjp
      clear hE HI hpre hjp
      gi_wp2
      refine (callsIn_wide.2 (Tryd.cut_calls x wr hxs)).mono ?_
      rintro e w1 ⟨rfl, nd, hw1⟩
      rw [hcut]
      have hq1' : w1.heap[pb]? = some (.cells #[.string q] 9 (0, 0)) := by rw [hw1]; exact hq
      have HJ1 : Hid (J pre w1) := HJ.out _ _ _ HJP.out (by rw [hw1]; exact grown_drewN (grown_refl _ _) _)
      have HSQ := Lib.hid hsq
      clear hw1 hq hc hcut hx hsq
      obtain ⟨fn, tmps, assign, body, hy, hR⟩ := HY.out pre (toB nm) w1 HJ1.out
      have hy1 : (Instr.yield l #[.string ⟨nm.toArray⟩]).run Tryd.prog w1 = _ := hy
      have HR := Lib.hid hR
      clear hy hR
      cases rs with
      | none =>
        have HPN : Hid (pre ++ [toB nm] = partsP p) := by rw [← HPP.out, partsOf_none HCUT.out]; rfl
        simp only [Option.getD, Option.isSome]
        gi_wp2
        refine HR.out.mono ?_
        rintro e W3 (⟨rfl, hJ3, hk3⟩ | ⟨rfl, hJx3, hk3⟩)
        · have hc3 : W3.cell? ⟨pb, 0, none⟩ = some (.string q) := by rw [Lib.cell_of_heap (hk3.trans hq1')]; rfl
          have HJ3 : Hid (J (partsP p) W3) := HPN.out ▸ hJ3
          have hlen' : x.data.toList.length = nm.length + 0 := hlen
          have hnm : (nm.length : Int) + 1 = q.size := by omega
          have hnm2 : nm.length + 1 = q.size := by omega
          clear hJ3
          gi_wp2
          refine bodyPost_ret (results_none rfl _ _ _) rfl ?_
          exact ⟨⟨_, rfl⟩, .inl HJ3.out⟩
        · have HJ3 : Hid (Jx (partsP p) W3) := HPN.out ▸ hJx3
          clear hJx3
          gi_wp2
          refine bodyPost_ret (results_none rfl _ _ _) rfl ?_
          exact ⟨⟨_, rfl⟩, .inr ⟨_, List.prefix_refl _, HJ3.out⟩⟩
      | some r =>
        have hpn : pre ++ [toB nm] ++ (partsOf r).map toB = partsP p := by rw [← HPP.out, partsOf_some HCUT.out]; simp
        have HPN := Lib.hid hpn
        clear hpn
        simp only [Option.getD, Option.isSome]
        gi_wp2
        refine HR.out.mono ?_
        rintro e W3 (⟨rfl, hJ3, hk3⟩ | ⟨rfl, hJx3, hk3⟩)
        · have hq3 := hk3.trans hq1'
          have hc3 : W3.cell? ⟨pb, 0, none⟩ = some (.string q) := by rw [Lib.cell_of_heap hq3]; rfl
          have hf3 : W3.frozen? ⟨pb, 0, none⟩ = false := Lib.frozen_of_heap hq3 _
          have hlen' : x.data.toList.length = nm.length + (r.length + 1) := hlen
          have hnm : ¬ (nm.length : Int) + 1 = q.size := by omega
          have hnm2 : ¬ nm.length + 1 = q.size := by omega
          have hW4 := Lib.heap_setCell_same (i := 0) hq3 (.string (⟨#[47]⟩ ++ ⟨r.toArray⟩))
          have HJ4 : Hid (J (pre ++ [toB nm]) (W3.setCell ⟨pb, 0, none⟩ (.string (⟨#[47]⟩ ++ ⟨r.toArray⟩)))) := HJ.out _ _ _ hJ3 (Lib.grownBy_setCell _ _ _ _)
          have hdat : ((⟨#[47]⟩ : ByteArray) ++ ⟨r.toArray⟩).data.toList = 47 :: r := by simp
          have hsz4 : ((⟨#[47]⟩ : ByteArray) ++ ⟨r.toArray⟩).size = r.length + 1 := by have := congrArg List.length hdat; rw [Array.length_toList] at this; exact this
          clear hJ3
          cases r with
          | nil =>
            obtain ⟨fn2, tmps2, assign2, body2, hy2, hR2⟩ := HY.out (pre ++ [toB nm]) (toB []) _ HJ4.out
            have hy3 : (Instr.yield l #[.string ⟨#[]⟩]).run Tryd.prog (W3.setCell ⟨pb, 0, none⟩ (.string (⟨#[47]⟩ ++ ⟨#[]⟩))) = _ := hy2
            have HR2 := Lib.hid hR2
            have hpf : pre ++ [toB nm] ++ [toB []] = partsP p := by rw [← HPN.out, partsOf_none (l := []) rfl]; rfl
            have HPF := Lib.hid hpf
            clear hy2 hR2 hpf
            gi_wp2
            refine HR2.out.mono ?_
            rintro e W5 (⟨rfl, hJ5, hk5⟩ | ⟨rfl, hJ5, hk5⟩)
            · have HJ5 := Lib.hid hJ5
              have HK5 := Lib.hid (hk5.trans hW4)
              clear hJ5 hk5
              gi_wp2
              refine ⟨⟨_, HK5.out, ?_, .inl ⟨pre ++ [toB nm] ++ [toB []], ?_, HJ5.out⟩⟩, ?_⟩
              · rw [hsz4]; simp
              · rw [partsP, if_pos (.inr hdat), List.append_nil]; exact HPF.out
              · rw [sizeAt_of HK5.out, HSQ.out, hsz4]; simp at hlen'; simp; omega
            · have HJ5 := Lib.hid hJ5
              have HK5 := Lib.hid (hk5.trans hW4)
              clear hJ5 hk5
              gi_wp2
              refine ⟨⟨_, HK5.out, ?_, .inr ⟨.inr hdat, pre ++ [toB nm] ++ [toB []], ?_, HJ5.out⟩⟩, ?_⟩
              · rw [hsz4]; simp
              · rw [HPF.out]; exact List.prefix_refl _
              · rw [sizeAt_of HK5.out, HSQ.out, hsz4]; simp at hlen'; simp; omega
          | cons c r =>
            have hrl : (c :: r).length + 2 ≤ q.size := by omega
            have hov : ¬ 9223372036854775807 < 1 + (r.length + 1) := by simp at hrl; omega
            gi_wp2
            refine ⟨⟨_, hW4, by rw [hsz4]; omega, .inl ⟨pre ++ [toB nm], ?_, HJ4.out⟩⟩, ?_⟩
            · rw [partsP, hdat, if_neg (by simp)]; exact HPN.out
            · rw [sizeAt_of hW4, HSQ.out, hsz4]; omega
        · have HJ3 : Hid (∃ pre', pre' <+: partsP p ∧ Jx pre' W3) := ⟨_, ⟨_, HPN.out⟩, hJx3⟩
          clear hJx3
          gi_wp2
          refine bodyPost_ret (results_none rfl _ _ _) rfl ?_
          exact ⟨⟨_, rfl⟩, .inr HJ3.out⟩
end Go.Proofs
