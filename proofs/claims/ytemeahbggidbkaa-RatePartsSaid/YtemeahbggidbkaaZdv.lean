/- A number of steps by nought. -/
import Derived.Test.YtemeahbggidbkaaNm2
namespace Go.Proofs.Ytemeahbggidbkaa.Fl
open Go.Proofs.Ytemeahbggidbkaa.Own
open Ieee (double)

theorem ofI_zero : ofI 0 = 0 := by decide +kernel
theorem sv_pos {x : Nat} (h : 0 < sv x) : sgn x = false ∧ rung x ≠ 0 := by
  unfold sv at h
  cases hs : sgn x <;> rw [hs] at h
  · refine ⟨rfl, fun h0 => ?_⟩
    rw [h0, show V 0 = 0 from rfl] at h; simp at h
  · simp at h; omega
theorem sv_neg {x : Nat} (h : sv x < 0) : sgn x = true ∧ rung x ≠ 0 := by
  unfold sv at h
  cases hs : sgn x <;> rw [hs] at h
  · simp at h; omega
  · refine ⟨rfl, fun h0 => ?_⟩
    rw [h0, show V 0 = 0 from rfl] at h; simp at h
theorem div_zero {x : Nat} (hn : isNaN x = false) (h0 : rung x ≠ 0) : double.div x 0 = some (double.write (.infinity (sgn x))) := by
  have hz : double.read 0 = .number false 0 (-1074) := by decide +kernel
  unfold Ieee.Format.div
  rw [hz]
  by_cases hf : fin x = true
  · obtain ⟨m, i, e, _, hm⟩ := read_fin hf
    have hm0 : m ≠ 0 := fun h => h0 (hm.1 h)
    rw [e]
    simp [Ieee.Datum.quotient, hm0]
  · have h1 := of_decide_eq_false hn
    have h2 : ¬ rung x < 9218868437227405312 := fun h => hf (decide_eq_true h)
    rw [read_inf (by omega)]
    simp [Ieee.Datum.quotient]
theorem part_zero (d : Int) : (d = 0 ∧ double.div (ofI d) (ofI 0) = none) ∨ (0 < d ∧ double.div (ofI d) (ofI 0) = some 9218868437227405312) ∨ (d < 0 ∧ double.div (ofI d) (ofI 0) = some 18442240474082181120) := by
  rcases Int.lt_trichotomy d 0 with h | h | h
  · right; right
    refine ⟨h, ?_⟩
    have h1 := (ofInt_rd d).mono (ofInt_rd (-1)) (by
      rw [Rat.intCast_le_intCast]; omega)
    have h2 : sv (double.write (.number (decide ((-1 : Int) < 0)) (-1 : Int).natAbs 0)) < 0 := by decide +kernel
    obtain ⟨a, b⟩ := sv_neg (x := ofI d) (Int.lt_of_le_of_lt h1 h2)
    rw [ofI_zero, div_zero (x := ofI d) (ofInt_rd d).nan b, a]
    decide +kernel
  · left; subst h; exact ⟨rfl, by decide +kernel⟩
  · right; left
    refine ⟨h, ?_⟩
    have h1 := (ofInt_rd 1).mono (ofInt_rd d) (by
      rw [Rat.intCast_le_intCast]; omega)
    have h2 : 0 < sv (double.write (.number (decide ((1 : Int) < 0)) (1 : Int).natAbs 0)) := by decide +kernel
    obtain ⟨a, b⟩ := sv_pos (x := ofI d) (Int.lt_of_lt_of_le h2 h1)
    rw [ofI_zero, div_zero (x := ofI d) (ofInt_rd d).nan b, a]
    decide +kernel
/-- what a share by nought is like -/
theorem zero_share {d : Int} {r : Nat} (h : Is (double.div (ofI d) (ofI 0)) r) : isNaN r = true ∨ isNaN r = false ∧ flt 4607182418800017408 r = true ∨ isNaN r = false ∧ flt 4607182418800017408 r = false ∧ flt r 13830554455654793216 = true := by
  have of : ∀ k, double.div (ofI d) (ofI 0) = some k → r = k := fun k e => by
    rcases h.2 with a | ⟨a, _⟩
    · rw [e] at a; cases a; rfl
    · rw [e] at a; cases a
  rcases part_zero d with ⟨_, e⟩ | ⟨_, e⟩ | ⟨_, e⟩
  · left
    rcases h.2 with a | ⟨_, a⟩
    · rw [e] at a; cases a
    · exact a
  · right; left; have := of _ e; subst this; exact ⟨by decide +kernel, by decide +kernel⟩
  · right; right; have := of _ e; subst this; exact ⟨by decide +kernel, by decide +kernel, by decide +kernel⟩
end Go.Proofs.Ytemeahbggidbkaa.Fl
