/- Plain facts on the small images. -/
import Derived.Test.YtkcpfchfpnmkpaaDoorAw1
namespace Go.Proofs
open Go Go.RowKit Go.Proofs.YtkcpfchfpnmkpaaDoor
namespace YtkcpfchfpnmkpaaDoor
def oneIm : Im := ⟨[rootNd], [], 0, oneMb, 0, 0⟩
def wantL : List UInt8 := [1, 2, 2, 47, 0, 0, 0, 0, 0, 0, 0, 0, 0, 0, 12, 0, 2, 2, 2, 2, 0, 0, 0]
theorem put_right {x : Im} (hi : ImIn x) (hr : right x = true) : putS x = (le4 (imBytes x).length ++ le4 (crc (imBytes x)) ++ imBytes x, 0) := by
  have hl := imBytes_len hi hr
  unfold bigIm at hl
  unfold putS frame
  rw [if_pos hr, if_pos (by omega)]
theorem vb_small (u : Nat) (h : u < 128) : vb u = [UInt8.ofNat u] := by rw [vb, if_pos h]
theorem encI_small (n : Int) (h0 : 0 ≤ n) (h : n < 64) : encI n = [UInt8.ofNat (n.toNat * 2)] := by
  unfold encI zig
  rw [if_neg (by omega), vb_small _ (by omega)]
theorem in_small : ImIn smallIm := by
  refine ⟨?_, ?_, by unfold In64 smallIm; simp, by unfold In64 smallIm; simp⟩
  · intro n hn
    simp only [smallIm, List.mem_cons, List.not_mem_nil, or_false] at hn
    rcases hn with rfl | rfl <;> (intro y hy; simp [Nd.stat8, rootNd, aNd] at hy; unfold In64; omega)
  · intro s hs
    simp only [smallIm, List.mem_cons, List.not_mem_nil, or_false] at hs
    subst hs
    unfold SgIn In64; simp
theorem in_one : ImIn oneIm := by
  refine ⟨?_, ?_, by unfold In64 oneIm; simp, by unfold In64 oneIm; simp⟩
  · intro n hn
    simp only [oneIm, List.mem_cons, List.not_mem_nil, or_false] at hn
    subst hn
    intro y hy; simp [Nd.stat8, rootNd] at hy; unfold In64; omega
  · intro s hs
    simp [oneIm] at hs
theorem in_zero : ImIn zeroIm := by
  refine ⟨?_, ?_, by unfold In64 zeroIm; simp, by unfold In64 zeroIm; simp⟩ <;> (intro n hn; simp [zeroIm] at hn)
theorem path_root : pathOk [47] = true := by decide
theorem path_a : pathOk [47, 97] = true := by
  have h : partsOf [97] = [[97]] := by
    rw [partsOf]; split <;> rename_i h
    · simp [cut47]
    · simp [cut47] at h
  simp only [pathOk, h]; decide
theorem right_small : right smallIm = true := by
  have h1 : ndOk rootNd = true := by
    unfold ndOk
    rw [show pathOk rootNd.path.data.toList = true from path_root]; decide
  have h2 : ndOk aNd = true := by
    unfold ndOk
    rw [show pathOk aNd.path.data.toList = true from path_a]; decide
  unfold right smallIm
  simp only [List.all_cons, List.all_nil, h1, h2]
  decide
theorem right_one : right oneIm = true := by
  have h1 : ndOk rootNd = true := by
    unfold ndOk
    rw [show pathOk rootNd.path.data.toList = true from path_root]; decide
  unfold right oneIm
  simp only [List.all_cons, List.all_nil, h1]
  decide
theorem put_zero : putS zeroIm = ([], 4) := by
  unfold putS
  rw [if_neg (by decide)]
theorem norm_small : normIm smallIm = smallIm := by decide
theorem small_back : putS smallIm = ((putS smallIm).1, 0) ∧ gotS (putS smallIm).1 = (smallIm, 0) := by
  have h := put_right in_small right_small
  have h2 : putS smallIm = ((putS smallIm).1, 0) := by rw [h]
  refine ⟨h2, ?_⟩
  have h3 := put_get in_small h2
  rw [norm_small] at h3
  rw [gotS, h3]
theorem one_bytes : imBytes oneIm = wantL := by
  simp only [imBytes, oneIm, ndBytes, encB, ensBytes, mbBytes, oneMb, rootNd, Nd.stat8, List.flatMap_cons, List.flatMap_nil, List.length_cons, List.length_nil]
  simp [encI_small, wantL]
theorem one_put : (putS oneIm).2 = 0 ∧ (putS oneIm).1.length = 31 ∧ (putS oneIm).1.drop 8 = wantL := by
  have h := put_right in_one right_one
  rw [h, one_bytes]
  refine ⟨rfl, rfl, rfl⟩
end YtkcpfchfpnmkpaaDoor
end Go.Proofs
