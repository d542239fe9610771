/- Plain facts on the order of bytes and on what makes an image right. -/
import Derived.Test.YtkcpfchfpnmkpaaDoorImg1
namespace Go.Proofs
open Go Go.RowKit Go.Proofs.YtkcpfchfpnmkpaaDoor

namespace YtkcpfchfpnmkpaaDoor
theorem lessB_irrefl : ∀ l, lessB l l = false := by
  intro l
  induction l with
  | nil => rfl
  | cons a l ih => simp [lessB, UInt8.lt_irrefl, ih]
theorem less_eq : ∀ a b : List UInt8, Op.bytesLess a b = lessB a b := by
  intro a
  induction a with
  | nil => intro b; cases b <;> rfl
  | cons x a ih =>
    intro b
    cases b with
    | nil => rfl
    | cons y b =>
      simp only [Op.bytesLess, lessB, ih]
      by_cases h1 : x < y
      · simp [h1]
      · by_cases h2 : y < x
        · have : ¬ x = y := fun e => by subst e; exact h1 h2
          simp [h1, h2, this]
        · have : x = y := by
            apply UInt8.toNat_inj.1
            rw [UInt8.lt_iff_toNat_lt] at h1 h2
            omega
          subst this
          simp [h1]
theorem less_total : ∀ a b : List UInt8, (lessB a b || a == b) = !lessB b a := by
  intro a
  induction a with
  | nil => intro b; cases b <;> rfl
  | cons x a ih =>
    intro b
    cases b with
    | nil => rfl
    | cons y b =>
      have := ih b
      simp only [lessB]
      by_cases h1 : x < y
      · have h2 : ¬ y < x := by rw [UInt8.lt_iff_toNat_lt] at *; omega
        simp [h1, h2]
      · by_cases h2 : y < x
        · have : ¬ x = y := fun e => by subst e; exact h1 h2
          simp [h1, h2, this]
        · have : x = y := by
            apply UInt8.toNat_inj.1
            rw [UInt8.lt_iff_toNat_lt] at h1 h2
            omega
          subst this
          simpa [h1] using ih b
/-- What is left to be asked of nodes, the last one's path known. -/
def ndGo : Option ByteArray → List Nd → Bool
  | _, [] => true
  | none, x :: l => ndOk x && ndGo (some x.path) l
  | some p, x :: l => ndOk x && (lessB p.data.toList x.path.data.toList && ndGo (some x.path) l)
theorem ndGo_some : ∀ (l : List Nd) (x : Nd), (l.all ndOk && ndsRise (x :: l)) = ndGo (some x.path) l := by
  intro l
  induction l with
  | nil => intro x; rfl
  | cons y l ih =>
    intro x
    simp only [ndGo, ndsRise, List.all_cons, ← ih y]
    cases ndOk y <;> cases lessB x.path.data.toList y.path.data.toList <;> simp
theorem ndGo_none (l : List Nd) : (l.all ndOk && ndsRise l) = ndGo none l := by
  cases l with
  | nil => rfl
  | cons x l =>
    simp only [ndGo, List.all_cons, Bool.and_assoc, ← ndGo_some l x]
end YtkcpfchfpnmkpaaDoor
end Go.Proofs
