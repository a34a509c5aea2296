/- What a step count is: whole numbers and floats. -/
import Derived.Test.YtemeahbggidbkaaBt
namespace Go.Proofs.Ytemeahbggidbkaa.Fl
open Ieee

theorem near_int {r n : Nat} (h : Near r (n : Rat)) (hn : n < 9007199254740992) : rvr r = (n : Rat) := by
  obtain ⟨e, k, rfl, hk, hb, he, hl⟩ := h
  have he2 : e = 0 ∨ 4503599627370496 ≤ k := by
    rcases he with he | he
    · exact .inl he
    · exact .inr he.1
  have h1074 : e ≤ 1074 := by
    rcases he with he | he
    · omega
    · apply Nat.le_of_not_lt
      intro hlt
      have h1 := p2_le (show (1074 : Int) - e ≤ -1 by omega)
      have h2 := Rat.mul_le_mul_of_nonneg_left h1 (Rat.natCast_nonneg (a := n))
      have h3 : (n : Rat) < p2 53 := by
        have := p2_nat 53
        have e2 : p2 53 = ((9007199254740992 : Nat) : Rat) := this
        rw [e2]; exact Rat.natCast_lt_natCast.2 hn
      have h4 := Rat.mul_lt_mul_of_pos_right h3 (p2_pos (-1))
      rw [← p2_add] at h4
      have h5 : (53 : Int) + -1 = 52 := rfl
      rw [h5] at h4
      have h6 := he.2
      grind
  have hx : (n : Rat) * p2 (1074 - e) = ((n * 2 ^ (1074 - e) : Nat) : Rat) := by
    rw [Rat.natCast_mul, ← p2_nat]
    congr 2; omega
  rw [hx] at hk
  have h7 : k = n * 2 ^ (1074 - e) := Nat.le_antisymm (hk.mono (Rhe.self _) (by grind)) ((Rhe.self _).mono hk (by grind))
  rw [rvr_split e k hb he2, h7, ← hx, Rat.mul_assoc, ← p2_add]
  have h8 : (1074 : Int) - e + (e - 1074) = 0 := by omega
  rw [h8, p2_zero, Rat.mul_one]

theorem rd_int {n : Nat} {z : Nat} (h : Rd (n : Rat) z) (hn : n < 9007199254740992) : fin z = true ∧ fv z = (n : Rat) := by
  have hb : (n : Rat) ≤ top := by
    have h1 : (n : Rat) < p2 53 := by
      have := p2_nat 53
      have e2 : p2 53 = ((9007199254740992 : Nat) : Rat) := this
      rw [e2]; exact Rat.natCast_lt_natCast.2 hn
    have h2 := p2_le (show (53 : Int) ≤ 1023 by decide)
    have h3 := top_bd
    grind
  have h0 := Rat.natCast_nonneg (a := n)
  have hf := h.fin hb (by grind)
  refine ⟨hf, ?_⟩
  obtain ⟨s, r, rfl, hr, h5⟩ := h
  have hr' := of_decide_eq_true hf
  rw [rung_word s (by omega)] at hr'
  have hm : min r 9218868437227405312 = r := by omega
  unfold fv
  rw [rung_word s (by omega), sgn_word s (by omega), hm]
  cases s
  · simp only [sg] at hr ⊢
    exact near_int hr hn
  · simp only [sg, if_true] at *
    have hn0 : (n : Rat) = 0 := by grind
    rw [hn0] at hr ⊢
    have e : -(0 : Rat) = 0 := by decide
    rw [e] at hr
    have := near_zero hr
    subst this
    rw [rvr_zero]; decide

theorem ofNat_rd (n : Nat) : Rd (n : Rat) (double.write (.number (decide ((n : Int) < 0)) (n : Int).natAbs 0)) := ofInt_rd n

theorem flt_of {x y : Nat} (h : flt x y = true) : isNaN x = false ∧ isNaN y = false ∧ sv x < sv y := by
  unfold flt at h
  simp only [Bool.and_eq_true, Bool.not_eq_true', decide_eq_true_eq] at h
  exact ⟨h.1.1, h.1.2, h.2⟩

/-- a rate below a whole number of steps -/
theorem below_int {x : Nat} {m : Int} (hx : x < 18446744073709551616) (h0 : flt 0 x = true) (h1 : flt x (double.write (.number (decide (m < 0)) m.natAbs 0)) = true) :
    ∃ n : Nat, (double.read x).toInt .zero = some (n : Int) ∧ (n : Int) < m ∧ fin x = true ∧ (n : Rat) ≤ fv x ∧ fv x < (n : Rat) + 1 := by
  obtain ⟨_, nx, l0⟩ := flt_of h0
  obtain ⟨_, _, l1⟩ := flt_of h1
  have hrd := ofInt_rd m
  have z0 : sv 0 = 0 := by decide
  rw [z0] at l0
  have hs : sgn x = false := by
    unfold sv at l0
    cases hs : sgn x
    · rfl
    · rw [hs] at l0; simp only [if_true] at l0; omega
  have hf : fin x = true := by
    refine decide_eq_true ?_
    have h2 := of_decide_eq_false nx
    by_cases c : rung x = 9218868437227405312
    · exfalso
      have h3 := (rung_rd hrd).1
      have h4 := V_le h3
      unfold sv at l1
      rw [hs, c] at l1
      simp only [Bool.false_eq_true, if_false] at l1
      split at l1 <;> omega
    · omega
  obtain ⟨n, e, a, b⟩ := toInt_floor hf hs
  refine ⟨n, e, ?_, hf, a, b⟩
  have hlt : fv x < (m : Rat) := by
    apply Rat.not_le.1
    intro hle
    have := hrd.mono (rd_self hx hf) hle
    omega
  have h6 : ((n : Int) : Rat) < (m : Rat) := by
    have e2 : ((n : Int) : Rat) = (n : Rat) := rfl
    rw [e2]; grind
  exact Rat.intCast_lt_intCast.1 h6

/-- as a float a whole part is not above its number -/
theorem whole_le {x n : Nat} (hx : x < 18446744073709551616) (hf : fin x = true) (h : (n : Rat) ≤ fv x) : flt x (double.write (.number (decide ((n : Int) < 0)) (n : Int).natAbs 0)) = false := by
  have := (ofNat_rd n).mono (rd_self hx hf) h
  unfold flt
  rw [decide_eq_false (show ¬ sv x < _ by omega)]; simp

/-- one more is above it -/
theorem whole_more {x n z : Nat} (hn : n < 4503599627370496) (h : fv x < (n : Rat) + 1) (hz : double.add (double.write (.number (decide ((n : Int) < 0)) (n : Int).natAbs 0)) c1 = some z) : fle z x = false := by
  obtain ⟨f1, v1⟩ := rd_int (ofNat_rd n) (by omega)
  have c1f : fin c1 = true := by decide
  obtain ⟨z', hz', hr⟩ := add_fin f1 c1f
  rw [hz] at hz'; cases hz'
  rw [v1, fv_one] at hr
  have e : (n : Rat) + 1 = ((n + 1 : Nat) : Rat) := by rw [Rat.natCast_add]; rfl
  rw [e] at hr h
  obtain ⟨f2, v2⟩ := rd_int hr (by omega)
  rw [← v2] at h
  have := (sv_lt_fv _ _).2 h
  unfold fle
  rw [decide_eq_false (show ¬ sv z ≤ sv x by omega)]; simp
end Go.Proofs.Ytemeahbggidbkaa.Fl
