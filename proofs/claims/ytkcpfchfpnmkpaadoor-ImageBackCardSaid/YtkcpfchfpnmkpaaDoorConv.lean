/- Strings and bytes, turned into each other. -/
import Derived.Test.YtkcpfchfpnmkpaaDoorMem
import Derived.Laws.BytesString
import Derived.Laws.BytesArg
import Derived.Lib.ConvBytes
namespace Go.Proofs.YtkcpfchfpnmkpaaDoor
open Go Go.RowKit

theorem Cs.add {w : World} {ad : Addr} {vs : List Value} (h : Cs w (some ad) vs) : ∀ j v, vs[j]? = some v → w.cell? (ad.add j) = some v := by
  intro j v hj
  obtain ⟨b, off, e, hc⟩ := h j v hj
  obtain rfl := Option.some.inj e
  rw [addr_add]
  exact hc
theorem strOf (l : List UInt8) : strOfNums (l.map fun x => (x.toNat : Int)) = ⟨l.toArray⟩ := by
  simp [strOfNums, Function.comp_def]
theorem convert_bytes {P : Program} {w : World} {v : Value} {l : List UInt8} (h : Bs w v l) (src dst e : TypeId) (hs : P.underlying src = some (.slice e)) (he : P.underlying e = some (.int .u8)) (hd : P.underlying dst = some .string) :
    (convert src dst v).run P w = .ok (.string ⟨l.toArray⟩) w := by
  obtain ⟨a, c, rfl, h1, h2, h3, h4⟩ := h
  cases a with
  | none =>
    have hn : l = [] := by
      cases l with
      | nil => rfl
      | cons x l => simp at h3; subst h3; simp at h1
    subst hn
    exact run_convert_bytes_nil w src e hs he _ c dst hd
  | some ad =>
    have hl : (loadCells ad l.length).run P w = .ok ((l.map fun x => (x.toNat : Int)).map (Value.int .u8)).toArray w := by
      have := run_loadCells_list (P := P) w ad (bv l) h4.add
      rw [bv_length] at this
      simpa [bv, Function.comp_def] using this
    rw [run_convert_bytes_string w src dst e _ _ c hs he hd, run_bytesToString w ad l.length c _ hl, foldl_push_bytes]
    simp [ByteArray.empty, ByteArray.emptyWithCapacity, Function.comp_def]
    rfl
end Go.Proofs.YtkcpfchfpnmkpaaDoor
