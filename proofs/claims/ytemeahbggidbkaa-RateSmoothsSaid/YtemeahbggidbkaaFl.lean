/- Floats of 64 bits, alone: how words are read and ordered, and what the nearest word to a number is. No condition. -/
import Ieee.Arith
namespace Go.Proofs.Ytemeahbggidbkaa.Fl
open Ieee

/-- powers of two -/
def p2 (i : Int) : Rat := (2 : Rat) ^ i

theorem two_ne : (2 : Rat) ≠ 0 := by decide
theorem p2_pos (i : Int) : 0 < p2 i := Rat.zpow_pos (by decide)
theorem p2_add (i j : Int) : p2 (i + j) = p2 i * p2 j := Rat.zpow_add two_ne i j
theorem p2_zero : p2 0 = 1 := Rat.zpow_zero 2
theorem p2_nat (n : Nat) : p2 (n : Int) = ((2 ^ n : Nat) : Rat) := by
  unfold p2; rw [Rat.zpow_natCast, Rat.natCast_pow]; rfl
theorem p2_one : p2 1 = 2 := Rat.zpow_one 2
theorem p2_le {i j : Int} (h : i ≤ j) : p2 i ≤ p2 j := by
  have e : j = i + ((j - i).toNat : Nat) := by omega
  rw [e, p2_add, p2_nat]
  have h1 : (1 : Rat) ≤ ((2 ^ (j - i).toNat : Nat) : Rat) := by
    have := Rat.natCast_le_natCast.2 (Nat.one_le_two_pow (n := (j - i).toNat))
    exact this
  have h2 := Rat.mul_le_mul_of_nonneg_left h1 (Rat.le_of_lt (p2_pos i))
  grind
theorem p2_lt {i j : Int} (h : i < j) : p2 i < p2 j := by
  have h1 := p2_le (show i + 1 ≤ j by omega)
  rw [p2_add, p2_one] at h1
  have := p2_pos i
  grind

theorem p2_cancel (i : Int) : p2 i * p2 (-i) = 1 := by
  rw [← p2_add, Int.add_right_neg, p2_zero]

/-- 'k' is x rounded to a whole number, ties to even. -/
structure Rhe (k : Nat) (x : Rat) : Prop where
  lo : 2 * x ≤ 2 * (k : Rat) + 1
  hi : 2 * (k : Rat) ≤ 2 * x + 1
  el : 2 * x = 2 * (k : Rat) + 1 → k % 2 = 0
  eh : 2 * (k : Rat) = 2 * x + 1 → k % 2 = 0

theorem Rhe.mono {k k' : Nat} {x x' : Rat} (h : Rhe k x) (h' : Rhe k' x') (hx : x ≤ x') : k ≤ k' := by
  apply Nat.le_of_not_lt
  intro hlt
  have h1 : ((k' + 1 : Nat) : Rat) ≤ (k : Rat) := Rat.natCast_le_natCast.2 hlt
  rw [Rat.natCast_add] at h1
  have h2 := h.hi; have h3 := h'.lo
  have h1' : (k' : Rat) + 1 ≤ (k : Rat) := h1
  have e1 : 2 * (k : Rat) = 2 * x + 1 := by grind
  have e2 : 2 * x' = 2 * (k' : Rat) + 1 := by grind
  have e3 : (k : Rat) = (k' : Rat) + 1 := by grind
  have e4 : ((k' + 1 : Nat) : Rat) = (k : Rat) := by rw [Rat.natCast_add, e3]; rfl
  have e5 := Rat.natCast_inj.1 e4
  have := h.eh e1; have := h'.el e2
  omega

theorem Rhe.self (k : Nat) : Rhe k (k : Rat) := ⟨by grind, by grind, by grind, by grind⟩

theorem cut_nat (neg : Bool) (n drop : Nat) (g : Nat) (hg : g = 1 <<< min drop (n.log2 + 2)) (k : Nat) (hk : k = Toward.even.cut neg n drop) :
    2 * n ≤ (2 * k + 1) * g ∧ 2 * k * g ≤ 2 * n + g ∧ (2 * n = (2 * k + 1) * g → k % 2 = 0) ∧ (2 * k * g = 2 * n + g → k % 2 = 0) := by
  have hpos : 0 < g := by rw [hg, Nat.one_shiftLeft]; exact Nat.two_pow_pos _
  unfold Toward.cut at hk
  simp only [← hg] at hk
  have hdm := Nat.div_add_mod n g
  have hlt := Nat.mod_lt n hpos
  generalize n / g = low at *
  generalize n % g = rest at *
  have hn : n = g * low + rest := hdm.symm
  by_cases h1 : g < 2 * rest
  · have hk' : k = low + 1 := by rw [hk]; simp [h1]
    subst hk'
    have e1 : (2 * (low + 1) + 1) * g = 2 * (g * low) + 3 * g := by grind
    have e2 : 2 * (low + 1) * g = 2 * (g * low) + 2 * g := by grind
    rw [e1, e2]
    generalize g * low = gl at *
    refine ⟨by omega, by omega, fun _ => by omega, fun _ => by omega⟩
  · by_cases h2 : g = 2 * rest
    · by_cases h3 : low % 2 = 1
      · have hk' : k = low + 1 := by rw [hk]; simp [h2, h3]
        subst hk'
        have e1 : (2 * (low + 1) + 1) * g = 2 * (g * low) + 3 * g := by grind
        have e2 : 2 * (low + 1) * g = 2 * (g * low) + 2 * g := by grind
        rw [e1, e2]
        generalize g * low = gl at *
        refine ⟨by omega, by omega, fun _ => by omega, fun _ => by omega⟩
      · have hk' : k = low := by rw [hk]; simp [h1, h3]
        subst hk'
        have e1 : (2 * k + 1) * g = 2 * (g * k) + g := by grind
        have e2 : 2 * k * g = 2 * (g * k) := by grind
        rw [e1, e2]
        generalize g * k = gl at *
        refine ⟨by omega, by omega, fun _ => by omega, fun _ => by omega⟩
    · have hk' : k = low := by
        rw [hk]
        have : (g == 2 * rest) = false := by simpa using h2
        simp [h1, this]
      subst hk'
      have e1 : (2 * k + 1) * g = 2 * (g * k) + g := by grind
      have e2 : 2 * k * g = 2 * (g * k) := by grind
      rw [e1, e2]
      generalize g * k = gl at *
      refine ⟨by omega, by omega, fun _ => by omega, fun _ => by omega⟩

theorem cut_nat' (neg : Bool) (n drop : Nat) (k : Nat) (hk : k = Toward.even.cut neg n drop) :
    2 * n ≤ (2 * k + 1) * 2 ^ drop ∧ 2 * k * 2 ^ drop ≤ 2 * n + 2 ^ drop ∧ (2 * n = (2 * k + 1) * 2 ^ drop → k % 2 = 0) ∧ (2 * k * 2 ^ drop = 2 * n + 2 ^ drop → k % 2 = 0) := by
  by_cases hd : drop ≤ n.log2 + 2
  · have := cut_nat neg n drop (2 ^ drop) (by rw [Nat.min_eq_left hd, Nat.one_shiftLeft]) k hk
    exact this
  · have hl : n < 2 ^ (n.log2 + 1) := Nat.lt_log2_self
    have hp : 2 ^ (n.log2 + 1) * 2 ≤ 2 ^ drop := by
      rw [← Nat.pow_succ]; exact Nat.pow_le_pow_right (by decide) (by omega)
    have hk0 : k = 0 := by
      rw [hk]
      unfold Toward.cut
      have hm : min drop (n.log2 + 2) = n.log2 + 2 := by omega
      simp only [hm, Nat.one_shiftLeft]
      have hp2 : 2 ^ (n.log2 + 2) = 2 ^ (n.log2 + 1) * 2 := Nat.pow_succ ..
      have hdiv : n / 2 ^ (n.log2 + 2) = 0 := Nat.div_eq_of_lt (by omega)
      have hmod : n % 2 ^ (n.log2 + 2) = n := Nat.mod_eq_of_lt (by omega)
      rw [hdiv, hmod]
      have h1 : ¬ (2 ^ (n.log2 + 2) < 2 * n) := by omega
      simp [h1]
    rw [hk0]
    refine ⟨by omega, by omega, fun _ => rfl, fun _ => rfl⟩

theorem cut_rhe (neg : Bool) (n drop : Nat) : Rhe (Toward.even.cut neg n drop) ((n : Rat) * p2 (-(drop : Int))) := by
  obtain ⟨h1, h2, h3, h4⟩ := cut_nat' neg n drop _ rfl
  generalize Toward.even.cut neg n drop = k at *
  have hp := p2_pos (-(drop : Int))
  have hc : ((2 ^ drop : Nat) : Rat) * p2 (-(drop : Int)) = 1 := by rw [← p2_nat, p2_cancel]
  generalize hP : p2 (-(drop : Int)) = P at *
  have c1 : ((2 * n : Nat) : Rat) ≤ (((2 * k + 1) * 2 ^ drop : Nat) : Rat) := Rat.natCast_le_natCast.2 h1
  have c2 : ((2 * k * 2 ^ drop : Nat) : Rat) ≤ ((2 * n + 2 ^ drop : Nat) : Rat) := Rat.natCast_le_natCast.2 h2
  have s2 : ((2 : Nat) : Rat) = 2 := rfl
  have s1 : ((1 : Nat) : Rat) = 1 := rfl
  have hinj : ∀ a b : Nat, (a : Rat) = (b : Rat) → a = b := fun a b h => Rat.natCast_inj.1 h
  have h3' : ((2 * n : Nat) : Rat) = (((2 * k + 1) * 2 ^ drop : Nat) : Rat) → k % 2 = 0 := fun h => h3 (hinj _ _ h)
  have h4' : ((2 * k * 2 ^ drop : Nat) : Rat) = ((2 * n + 2 ^ drop : Nat) : Rat) → k % 2 = 0 := fun h => h4 (hinj _ _ h)
  clear h1 h2 h3 h4
  generalize hG : 2 ^ drop = G at *
  simp only [Rat.natCast_mul, Rat.natCast_add, s2, s1] at c1 c2 h3' h4'
  have d1 := Rat.mul_le_mul_of_nonneg_right c1 (Rat.le_of_lt hp)
  have d2 := Rat.mul_le_mul_of_nonneg_right c2 (Rat.le_of_lt hp)
  have r1 : (2 * (k : Rat) + 1) * G * P = 2 * (k : Rat) + 1 := by rw [Rat.mul_assoc, hc, Rat.mul_one]
  have r2 : 2 * (k : Rat) * G * P = 2 * (k : Rat) := by rw [Rat.mul_assoc, hc, Rat.mul_one]
  have r3 : (2 * (n : Rat) + G) * P = 2 * ((n : Rat) * P) + 1 := by rw [Rat.add_mul, hc, Rat.mul_assoc]
  rw [r1, Rat.mul_assoc] at d1
  rw [r2, r3] at d2
  clear c1 c2 hinj
  refine ⟨d1, d2, fun h => h3' ?_, fun h => h4' ?_⟩
  · have e : 2 * ((n : Rat) * P) * G = (2 * (k : Rat) + 1) * G := by rw [h]
    have e2 : 2 * ((n : Rat) * P) * G = 2 * (n : Rat) := by
      rw [Rat.mul_assoc, Rat.mul_assoc, Rat.mul_comm P, hc, Rat.mul_one]
    rw [← e2, e]
  · have e : 2 * (k : Rat) * G = (2 * ((n : Rat) * P) + 1) * G := by rw [h]
    have e2 : (2 * ((n : Rat) * P) + 1) * G = 2 * (n : Rat) + G := by
      rw [Rat.add_mul, Rat.mul_assoc, Rat.mul_assoc, Rat.mul_comm P, hc, Rat.mul_one, Rat.one_mul]
    rw [e, e2]

/-- what a rung stands for, in units of the last place of a subnormal number -/
def V (r : Nat) : Nat := if r < 4503599627370496 then r else (4503599627370496 + r % 4503599627370496) * 2 ^ (r / 4503599627370496 - 1)

theorem V_split (e k : Nat) (hk : k ≤ 9007199254740992) (he : e = 0 ∨ 4503599627370496 ≤ k) : V (e * 4503599627370496 + k) = k * 2 ^ e := by
  unfold V
  by_cases h1 : k < 4503599627370496
  · have : e = 0 := by omega
    subst this
    rw [if_pos (by omega)]; omega
  · rw [if_neg (by omega)]
    by_cases h2 : k = 9007199254740992
    · subst h2
      have a : (e * 4503599627370496 + 9007199254740992) % 4503599627370496 = 0 := by omega
      have b : (e * 4503599627370496 + 9007199254740992) / 4503599627370496 - 1 = e + 1 := by omega
      rw [a, b, Nat.pow_succ]
      omega
    · have a : (e * 4503599627370496 + k) % 4503599627370496 = k - 4503599627370496 := by omega
      have b : (e * 4503599627370496 + k) / 4503599627370496 - 1 = e := by omega
      have c : 4503599627370496 + (k - 4503599627370496) = k := by omega
      rw [a, b, c]

theorem rung_split (r : Nat) : ∃ e k, r = e * 4503599627370496 + k ∧ k < 9007199254740992 ∧ (e = 0 ∨ 4503599627370496 ≤ k) :=
  ⟨r / 4503599627370496 - 1, r - (r / 4503599627370496 - 1) * 4503599627370496, by omega, by omega, by omega⟩

theorem V_succ (r : Nat) : V r < V (r + 1) := by
  obtain ⟨e, k, rfl, hk, he⟩ := rung_split r
  rw [V_split e k (by omega) he, Nat.add_assoc, V_split e (k + 1) (by omega) (by omega)]
  have := Nat.two_pow_pos e
  rw [Nat.add_mul]; omega

theorem V_lt {r r' : Nat} (h : r < r') : V r < V r' := by
  induction r' with
  | zero => omega
  | succ n ih =>
    have := V_succ n
    by_cases h2 : r = n
    · subst h2; exact this
    · have := ih (by omega); omega

theorem V_le {r r' : Nat} (h : r ≤ r') : V r ≤ V r' := by
  by_cases e : r = r'
  · subst e; exact Nat.le_refl _
  · exact Nat.le_of_lt (V_lt (by omega))

theorem V_lt_iff {r r' : Nat} : V r < V r' ↔ r < r' :=
  ⟨fun h => by
    apply Nat.lt_of_not_le
    intro hle; have := V_le hle; omega, V_lt⟩

theorem V_inj {r r' : Nat} (h : V r = V r') : r = r' := by
  by_cases h1 : r < r'
  · have := V_lt h1; omega
  · by_cases h2 : r' < r
    · have := V_lt h2; omega
    · omega

theorem V_zero : V 0 = 0 := rfl

/-- 'r' is the rung nearest to the number 'q' -/
def Near (r : Nat) (q : Rat) : Prop := ∃ e k : Nat, r = e * 4503599627370496 + k ∧ Rhe k (q * p2 (1074 - e)) ∧ k ≤ 9007199254740992 ∧
  (e = 0 ∨ (4503599627370496 ≤ k ∧ p2 52 ≤ q * p2 (1074 - e))) ∧ q * p2 (1074 - e) < p2 53

theorem Near.mono {r r' : Nat} {q q' : Rat} (h : Near r q) (h' : Near r' q') (hq : q ≤ q') : r ≤ r' := by
  obtain ⟨e, k, hr, hk, hb, he, hl⟩ := h
  obtain ⟨e', k', hr', hk', hb', he', hl'⟩ := h'
  by_cases e1 : e = e'
  · subst e1
    have := hk.mono hk' (Rat.mul_le_mul_of_nonneg_right hq (Rat.le_of_lt (p2_pos _)))
    omega
  · by_cases e2 : e < e'
    · have : 4503599627370496 ≤ k' := by omega
      omega
    · exfalso
      have h0 : e ≠ 0 := by omega
      have h1 : p2 52 ≤ q * p2 (1074 - e) := by
        rcases he with he | he
        · exact absurd he h0
        · exact he.2
      have h2 := Rat.mul_le_mul_of_nonneg_right hq (Rat.le_of_lt (p2_pos (1074 - e)))
      have h3 : p2 (1074 - (e' : Int)) = p2 (1074 - (e : Int)) * p2 ((e : Int) - e') := by
        rw [← p2_add]; congr 1; omega
      have h4 : p2 1 ≤ p2 ((e : Int) - e') := p2_le (by omega)
      rw [p2_one] at h4
      rw [h3, ← Rat.mul_assoc] at hl'
      have h5 : p2 53 = p2 52 * 2 := by
        rw [← p2_one, ← p2_add]; rfl
      rw [h5] at hl'
      have h6 := p2_pos 52
      generalize q' * p2 (1074 - (e : Int)) = t at *
      generalize q * p2 (1074 - (e : Int)) = s at *
      generalize p2 ((e : Int) - e') = c at *
      generalize p2 52 = P at *
      have h7 : P ≤ t := by grind
      have h8 : 2 * P ≤ c * P := Rat.mul_le_mul_of_nonneg_right h4 (Rat.le_of_lt h6)
      have h9 : P * c ≤ t * c := Rat.mul_le_mul_of_nonneg_right h7 (by grind)
      grind

theorem Near.uniq {r r' : Nat} {q : Rat} (h : Near r q) (h' : Near r' q) : r = r' :=
  Nat.le_antisymm (h.mono h' (by grind)) (h'.mono h (by grind))

/-- the number of a rung -/
def rvr (r : Nat) : Rat := (V r : Rat) * p2 (-1074)

theorem rvr_nonneg (r : Nat) : 0 ≤ rvr r := Rat.mul_nonneg Rat.natCast_nonneg (Rat.le_of_lt (p2_pos _))

theorem rvr_le {r r' : Nat} (h : r ≤ r') : rvr r ≤ rvr r' :=
  Rat.mul_le_mul_of_nonneg_right (Rat.natCast_le_natCast.2 (V_le h)) (Rat.le_of_lt (p2_pos _))

theorem rvr_lt {r r' : Nat} (h : r < r') : rvr r < rvr r' :=
  Rat.mul_lt_mul_of_pos_right (Rat.natCast_lt_natCast.2 (V_lt h)) (p2_pos _)

theorem rvr_zero : rvr 0 = 0 := by unfold rvr; rw [V_zero]; exact Rat.zero_mul _

theorem rvr_split (e k : Nat) (hk : k ≤ 9007199254740992) (he : e = 0 ∨ 4503599627370496 ≤ k) : rvr (e * 4503599627370496 + k) = (k : Rat) * p2 ((e : Int) - 1074) := by
  unfold rvr
  rw [V_split e k hk he, Rat.natCast_mul, ← p2_nat, Rat.mul_assoc, ← p2_add]; rfl

theorem near_self (r : Nat) : Near r (rvr r) := by
  obtain ⟨e, k, rfl, hk, he⟩ := rung_split r
  have h1 : rvr (e * 4503599627370496 + k) * p2 (1074 - e) = (k : Rat) := by
    rw [rvr_split e k (by omega) he, Rat.mul_assoc, ← p2_add]
    have : (e : Int) - 1074 + (1074 - e) = 0 := by omega
    rw [this, p2_zero, Rat.mul_one]
  refine ⟨e, k, rfl, by rw [h1]; exact Rhe.self k, by omega, ?_, ?_⟩
  · rcases he with he | he
    · exact .inl he
    · refine .inr ⟨he, ?_⟩
      rw [h1]
      exact Rat.natCast_le_natCast.2 he
  · rw [h1]
    exact Rat.natCast_lt_natCast.2 hk

theorem Near.exact {r r0 : Nat} {q : Rat} (h : Near r q) (hq : q = rvr r0) : r = r0 := by
  subst hq; exact h.uniq (near_self r0)

/-- how far a number is from its nearest rung -/
theorem Near.err {r : Nat} {q : Rat} (h : Near r q) (hq : 0 ≤ q) : rvr r ≤ q + q * p2 (-53) + p2 (-1075) ∧ q ≤ rvr r + q * p2 (-53) + p2 (-1075) := by
  obtain ⟨e, k, rfl, hk, hb, he, hl⟩ := h
  have he2 : e = 0 ∨ 4503599627370496 ≤ k := by
    rcases he with he | he
    · exact .inl he
    · exact .inr he.1
  rw [rvr_split e k hb he2]
  have hx : q = q * p2 (1074 - e) * p2 ((e : Int) - 1074) := by
    rw [Rat.mul_assoc, ← p2_add]
    have : (1074 - (e : Int)) + ((e : Int) - 1074) = 0 := by omega
    rw [this, p2_zero, Rat.mul_one]
  have hU := p2_pos ((e : Int) - 1074)
  have a1 := Rat.mul_le_mul_of_nonneg_right hk.lo (Rat.le_of_lt hU)
  have a2 := Rat.mul_le_mul_of_nonneg_right hk.hi (Rat.le_of_lt hU)
  have hh : p2 ((e : Int) - 1074) ≤ 2 * (q * p2 (-53)) + 2 * p2 (-1075) := by
    have n1 : 0 ≤ q * p2 (-53) := Rat.mul_nonneg hq (Rat.le_of_lt (p2_pos _))
    have n2 := p2_pos (-1075)
    rcases he with he | he
    · subst he
      have : p2 (((0 : Nat) : Int) - 1074) = 2 * p2 (-1075) := by rw [← p2_one, ← p2_add]; rfl
      rw [this]; grind
    · have b := Rat.mul_le_mul_of_nonneg_right (Rat.mul_le_mul_of_nonneg_right he.2 (Rat.le_of_lt hU)) (Rat.le_of_lt (p2_pos (-53)))
      rw [← hx] at b
      have c : p2 52 * p2 ((e : Int) - 1074) * p2 (-53) * 2 = p2 ((e : Int) - 1074) := by
        rw [← p2_one, ← p2_add, ← p2_add, ← p2_add]; congr 1; omega
      grind
  generalize q * p2 (1074 - e) = x at *
  generalize p2 ((e : Int) - 1074) = U at *
  generalize p2 (-1075) = t at *
  generalize q * p2 (-53) = s at *
  subst hx
  constructor <;> grind

theorem nearest_near (neg : Bool) (mag : Nat) (place : Int) : ∃ r, double.nearest neg mag place = double.word neg (min r 9218868437227405312) ∧ Near r ((mag : Rat) * p2 place) := by
  unfold Format.nearest
  by_cases hm : mag = 0
  · subst hm
    refine ⟨0, by simp, ?_⟩
    have : ((0 : Nat) : Rat) * p2 place = rvr 0 := by rw [rvr_zero]; exact Rat.zero_mul _
    rw [this]; exact near_self 0
  · rw [if_neg hm]
    have hinf : double.infRung = 9218868437227405312 := by decide
    have hlp : double.leastPlace = -1074 := by decide
    have hbin : double.binade = 4503599627370496 := by decide
    have hfb : ((double.fractionBits : Nat) : Int) = 52 := rfl
    simp only [hinf, hlp, hbin, hfb]
    generalize hlast : max (place + (mag.log2 : Int) - 52) (-1074) = last
    have hl1 : -1074 ≤ last := by omega
    obtain ⟨e, he⟩ : ∃ e : Nat, last = (e : Int) - 1074 := ⟨(last + 1074).toNat, by omega⟩
    have hte : (last - -1074).toNat = e := by omega
    rw [hte]
    have hcut := cut_rhe neg (mag <<< (place - last).toNat) (last - place).toNat
    generalize hk : Toward.even.cut neg (mag <<< (place - last).toNat) (last - place).toNat = k at *
    have hval : ((mag <<< (place - last).toNat : Nat) : Rat) * p2 (-((last - place).toNat : Int)) = (mag : Rat) * p2 place * p2 (1074 - e) := by
      rw [Nat.shiftLeft_eq, Rat.natCast_mul, ← p2_nat, Rat.mul_assoc, ← p2_add, Rat.mul_assoc, ← p2_add]
      congr 2; omega
    rw [hval] at hcut
    have hlow : p2 (mag.log2 : Int) ≤ (mag : Rat) := by
      rw [p2_nat]; exact Rat.natCast_le_natCast.2 (Nat.log2_self_le hm)
    have hhigh : (mag : Rat) < p2 ((mag.log2 : Int) + 1) := by
      have : ((mag.log2 : Int) + 1) = ((mag.log2 + 1 : Nat) : Int) := rfl
      rw [this, p2_nat]; exact Rat.natCast_lt_natCast.2 Nat.lt_log2_self
    have hx53 : (mag : Rat) * p2 place * p2 (1074 - e) < p2 53 := by
      rw [Rat.mul_assoc, ← p2_add]
      have h1 := Rat.mul_lt_mul_of_pos_right hhigh (p2_pos (place + (1074 - e)))
      rw [← p2_add] at h1
      have h2 := p2_le (show (mag.log2 : Int) + 1 + (place + (1074 - e)) ≤ 53 by omega)
      grind
    have hx52 : e ≠ 0 → p2 52 ≤ (mag : Rat) * p2 place * p2 (1074 - e) := by
      intro h0
      rw [Rat.mul_assoc, ← p2_add]
      have h1 := Rat.mul_le_mul_of_nonneg_right hlow (Rat.le_of_lt (p2_pos (place + (1074 - e))))
      rw [← p2_add] at h1
      have h2 : (mag.log2 : Int) + (place + (1074 - e)) = 52 := by omega
      rw [h2] at h1; exact h1
    refine ⟨e * 4503599627370496 + k, rfl, e, k, rfl, hcut, ?_, ?_, hx53⟩
    · have h53 : p2 53 = ((9007199254740992 : Nat) : Rat) := by
        have := p2_nat 53; exact this
      rw [h53] at hx53
      have := hcut.mono (Rhe.self 9007199254740992) (Rat.le_of_lt hx53)
      exact this
    · by_cases h0 : e = 0
      · exact .inl h0
      · refine .inr ⟨?_, hx52 h0⟩
        have h52 : p2 52 = ((4503599627370496 : Nat) : Rat) := by
          have := p2_nat 52; exact this
        have h3 := hx52 h0
        rw [h52] at h3
        exact (Rhe.self 4503599627370496).mono hcut h3

/-! ## words -/

def sgn (w : Nat) : Bool := w / 9223372036854775808 % 2 == 1
def rung (w : Nat) : Nat := w % 9223372036854775808
def isNaN (w : Nat) : Bool := decide (9218868437227405312 < rung w)
def fin (w : Nat) : Bool := decide (rung w < 9218868437227405312)

def sg (s : Bool) (q : Rat) : Rat := if s then -q else q

/-- the number that a finite word stands for -/
def fv (w : Nat) : Rat := sg (sgn w) (rvr (rung w))

theorem read_eq (w : Nat) : double.read w =
    if rung w < 4503599627370496 then .number (sgn w) (rung w) (-1074)
    else if rung w < 9218868437227405312 then .number (sgn w) (4503599627370496 + rung w % 4503599627370496) (-1074 + (rung w / 4503599627370496 - 1 : Nat))
    else if rung w = 9218868437227405312 then .infinity (sgn w)
    else .nan (sgn w) (rung w - 9218868437227405312) := by
  have hinf : double.infRung = 9218868437227405312 := by decide
  have hlp : double.leastPlace = -1074 := by decide
  have hbin : double.binade = 4503599627370496 := by decide
  have hsw : double.signWeight = 9223372036854775808 := by decide
  unfold Format.read
  simp only [hinf, hlp, hbin, hsw]
  rfl

theorem word_eq (s : Bool) (r : Nat) : double.word s r = if s then 9223372036854775808 + r else r := by
  have hsw : double.signWeight = 9223372036854775808 := by decide
  unfold Format.word
  simp only [hsw]

theorem rung_word (s : Bool) {r : Nat} (h : r < 9223372036854775808) : rung (double.word s r) = r := by
  rw [word_eq]; unfold rung; cases s <;> simp <;> omega

theorem sgn_word (s : Bool) {r : Nat} (h : r < 9223372036854775808) : sgn (double.word s r) = s := by
  rw [word_eq]; unfold sgn
  cases s
  · have : r / 9223372036854775808 = 0 := by omega
    simp [this]
  · have : (9223372036854775808 + r) / 9223372036854775808 = 1 := by omega
    simp [this]

theorem word_lt (s : Bool) {r : Nat} (h : r < 9223372036854775808) : double.word s r < 18446744073709551616 := by
  rw [word_eq]; cases s <;> simp <;> omega

/-- a finite word reads as a number -/
theorem read_fin {w : Nat} (h : fin w = true) : ∃ m i, double.read w = .number (sgn w) m i ∧ (m : Rat) * p2 i = rvr (rung w) ∧ (m = 0 ↔ rung w = 0) := by
  have h' : rung w < 9218868437227405312 := of_decide_eq_true h
  rw [read_eq]
  by_cases h1 : rung w < 4503599627370496
  · rw [if_pos h1]
    refine ⟨_, _, rfl, ?_, Iff.rfl⟩
    unfold rvr V; rw [if_pos h1]
  · rw [if_neg h1, if_pos h']
    refine ⟨_, _, rfl, ?_, by constructor <;> omega⟩
    unfold rvr V; rw [if_neg h1, Rat.natCast_mul, ← p2_nat, Rat.mul_assoc, ← p2_add, Int.add_comm]

theorem read_inf {w : Nat} (h : rung w = 9218868437227405312) : double.read w = .infinity (sgn w) := by
  rw [read_eq, if_neg (by omega), if_neg (by omega), if_pos h]

theorem read_nan {w : Nat} (h : isNaN w = true) : ∃ f, double.read w = .nan (sgn w) f := by
  have h' : 9218868437227405312 < rung w := of_decide_eq_true h
  rw [read_eq, if_neg (by omega), if_neg (by omega), if_neg (by omega)]
  exact ⟨_, rfl⟩

/-! ## exact arithmetic of data -/

def dv : Datum → Rat
  | .number s m i => sg s ((m : Rat) * p2 i)
  | _ => 0

theorem fv_dv {w : Nat} (h : fin w = true) : fv w = dv (double.read w) := by
  obtain ⟨m, i, e, hv, _⟩ := read_fin h
  rw [e]; unfold fv; rw [← hv]; rfl

theorem sg_neg (q : Rat) (s : Bool) : sg (!s) q = - sg s q := by cases s <;> simp [sg]

theorem signed_val (s : Bool) (m up : Nat) (b : Int) : ((signed s m up : Int) : Rat) * p2 b = sg s ((m : Rat) * p2 (b + up)) := by
  have h : ((m <<< up : Nat) : Rat) * p2 b = (m : Rat) * p2 (b + up) := by
    rw [Nat.shiftLeft_eq, Rat.natCast_mul, ← p2_nat, Rat.mul_assoc, ← p2_add]
    congr 2; omega
  have hc : (((m <<< up : Nat) : Int) : Rat) = ((m <<< up : Nat) : Rat) := rfl
  cases s
  · simp only [signed, sg]; rw [← h]; rfl
  · simp only [signed, sg, if_true]; rw [Rat.intCast_neg, hc, Rat.neg_mul, h]

theorem natAbs_val (t : Int) : ((t.natAbs : Nat) : Rat) = if t < 0 then -(t : Rat) else (t : Rat) := by
  by_cases h : t < 0
  · rw [if_pos h]
    have : (t.natAbs : Int) = -t := by omega
    have e : ((t.natAbs : Nat) : Rat) = ((t.natAbs : Int) : Rat) := rfl
    rw [e, this, Rat.intCast_neg]
  · rw [if_neg h]
    have : (t.natAbs : Int) = t := by omega
    have e : ((t.natAbs : Nat) : Rat) = ((t.natAbs : Int) : Rat) := rfl
    rw [e, this]

theorem sum_number (s t : Bool) (m n : Nat) (i j : Int) :
    ∃ u k b, Datum.sum (.number s m i) (.number t n j) = some (.number u k b) ∧
      sg u ((k : Rat) * p2 b) = sg s ((m : Rat) * p2 i) + sg t ((n : Rat) * p2 j) := by
  unfold Datum.sum
  refine ⟨_, _, _, rfl, ?_⟩
  generalize hb : min i j = b
  have h1 := signed_val s m (i - b).toNat b
  have h2 := signed_val t n (j - b).toNat b
  have e1 : b + ((i - b).toNat : Int) = i := by omega
  have e2 : b + ((j - b).toNat : Int) = j := by omega
  rw [e1] at h1; rw [e2] at h2
  rw [← h1, ← h2, ← Rat.add_mul, ← Rat.intCast_add]
  generalize signed s m (i - b).toNat + signed t n (j - b).toNat = T
  rw [natAbs_val]
  by_cases h0 : T = 0
  · subst h0
    simp [sg]
  · rw [if_neg h0]
    by_cases hn : T < 0
    · rw [if_pos hn, decide_eq_true hn]; simp only [sg, if_true]; rw [Rat.neg_mul, Rat.neg_neg]
    · rw [if_neg hn, decide_eq_false hn]; simp only [sg]; rfl

theorem product_number (s t : Bool) (m n : Nat) (i j : Int) :
    ∃ u k b, Datum.product (.number s m i) (.number t n j) = some (.number u k b) ∧
      sg u ((k : Rat) * p2 b) = sg s ((m : Rat) * p2 i) * sg t ((n : Rat) * p2 j) := by
  refine ⟨_, _, _, rfl, ?_⟩
  have : ((m * n : Nat) : Rat) * p2 (i + j) = ((m : Rat) * p2 i) * ((n : Rat) * p2 j) := by
    rw [Rat.natCast_mul, p2_add]; grind
  rw [this]
  cases s <;> cases t <;> simp [sg] <;> grind

/-! ## rounding to a word -/

/-- 'z' is the word nearest to the number 'q' (of which sign a zero is, is left open) -/
def Rd (q : Rat) (z : Nat) : Prop := ∃ s r, z = double.word s (min r 9218868437227405312) ∧ Near r (sg s q) ∧ 0 ≤ sg s q

theorem write_number (s : Bool) (m : Nat) (i : Int) : Rd (sg s ((m : Rat) * p2 i)) (double.write (.number s m i)) := by
  obtain ⟨r, h, hn⟩ := nearest_near s m i
  have e : sg s (sg s ((m : Rat) * p2 i)) = (m : Rat) * p2 i := by cases s <;> simp [sg]
  refine ⟨s, r, h, ?_, ?_⟩
  · rw [e]; exact hn
  · rw [e]; exact Rat.mul_nonneg Rat.natCast_nonneg (Rat.le_of_lt (p2_pos _))

theorem add_fin {x y : Nat} (hx : fin x = true) (hy : fin y = true) : ∃ z, double.add x y = some z ∧ Rd (fv x + fv y) z := by
  rw [fv_dv hx, fv_dv hy]
  obtain ⟨m, i, e, _⟩ := read_fin hx
  obtain ⟨n, j, e', _⟩ := read_fin hy
  unfold Format.add
  rw [e, e']
  obtain ⟨u, k, b, h, hv⟩ := sum_number (sgn x) (sgn y) m n i j
  rw [h]
  refine ⟨_, rfl, ?_⟩
  unfold dv; rw [← hv]; exact write_number u k b

theorem sub_fin {x y : Nat} (hx : fin x = true) (hy : fin y = true) : ∃ z, double.sub x y = some z ∧ Rd (fv x - fv y) z := by
  rw [fv_dv hx, fv_dv hy]
  obtain ⟨m, i, e, _⟩ := read_fin hx
  obtain ⟨n, j, e', _⟩ := read_fin hy
  unfold Format.sub
  rw [e, e']
  unfold Datum.opposite
  obtain ⟨u, k, b, h, hv⟩ := sum_number (sgn x) (!sgn y) m n i j
  simp only
  rw [h]
  refine ⟨_, rfl, ?_⟩
  unfold dv; rw [sg_neg] at hv; rw [Rat.sub_eq_add_neg, ← hv]; exact write_number u k b

theorem mul_fin {x y : Nat} (hx : fin x = true) (hy : fin y = true) : ∃ z, double.mul x y = some z ∧ Rd (fv x * fv y) z := by
  rw [fv_dv hx, fv_dv hy]
  obtain ⟨m, i, e, _⟩ := read_fin hx
  obtain ⟨n, j, e', _⟩ := read_fin hy
  unfold Format.mul
  rw [e, e']
  obtain ⟨u, k, b, h, hv⟩ := product_number (sgn x) (sgn y) m n i j
  rw [h]
  refine ⟨_, rfl, ?_⟩
  unfold dv; rw [← hv]; exact write_number u k b

theorem rung_rd {q : Rat} {z : Nat} (h : Rd q z) : rung z ≤ 9218868437227405312 ∧ z < 18446744073709551616 := by
  obtain ⟨s, r, rfl, _, _⟩ := h
  rw [rung_word s (by omega)]
  exact ⟨by omega, word_lt s (by omega)⟩

/-- the greatest finite number -/
def top : Rat := rvr 9218868437227405311

theorem Rd.fin {q : Rat} {z : Nat} (h : Rd q z) (h1 : q ≤ top) (h2 : -top ≤ q) : fin z = true := by
  obtain ⟨s, r, rfl, hn, h0⟩ := h
  have hq : sg s q ≤ rvr 9218868437227405311 := by
    have : rvr 9218868437227405311 = top := rfl
    rw [this]
    cases s
    · simp only [sg]; exact h1
    · simp only [sg, if_true]; grind
  have := hn.mono (near_self _) hq
  unfold Fl.fin
  rw [rung_word s (by omega)]
  exact decide_eq_true (by omega)

theorem sg_mul (s : Bool) (q : Rat) : sg s (sg s q) = q := by cases s <;> simp [sg]

/-- how far a rounded number is from the exact one -/
theorem Rd.err {q : Rat} {z : Nat} (h : Rd q z) (hf : Fl.fin z = true) : fv z ≤ q + q.abs * p2 (-53) + p2 (-1075) ∧ q ≤ fv z + q.abs * p2 (-53) + p2 (-1075) := by
  obtain ⟨s, r, rfl, hn, h0⟩ := h
  unfold Fl.fin at hf
  have hr := of_decide_eq_true hf
  rw [rung_word s (by omega)] at hr
  have hr2 : min r 9218868437227405312 = r := by omega
  rw [hr2]
  unfold fv
  rw [rung_word s (by omega), sgn_word s (by omega)]
  obtain ⟨e1, e2⟩ := hn.err h0
  cases s
  · simp only [sg] at *
    have : q.abs = q := Rat.abs_of_nonneg h0
    rw [this]
    simp only [Bool.false_eq_true, if_false] at *
    exact ⟨e1, e2⟩
  · simp only [sg, if_true] at *
    have : q.abs = -q := Rat.abs_of_nonpos (by grind)
    rw [this]
    constructor <;> grind

/-! ## order -/

/-- the number of a word in units of the last place, an infinity as the number behind the greatest one -/
def sv (w : Nat) : Int := if sgn w then -(V (rung w) : Int) else (V (rung w) : Int)

theorem fv_sv (w : Nat) : fv w = (sv w : Rat) * p2 (-1074) := by
  unfold fv sv rvr sg
  cases sgn w
  · simp only [Bool.false_eq_true, if_false]; rfl
  · simp only [if_true]; rw [Rat.intCast_neg, Rat.neg_mul]; rfl

theorem V_inf_pos : (0 : Int) < (V 9218868437227405312 : Int) := by
  have := V_lt (show 0 < 9218868437227405312 by decide); rw [V_zero] at this; omega

theorem cmp_eq {a b c d : Int} (h1 : a < b ↔ c < d) (h2 : b < a ↔ d < c) : compare a b = compare c d := by
  by_cases x : a < b
  · rw [Int.compare_eq_lt.2 x, Int.compare_eq_lt.2 (h1.1 x)]
  · by_cases y : b < a
    · rw [Int.compare_eq_gt.2 y, Int.compare_eq_gt.2 (h2.1 y)]
    · have e : a = b := by omega
      have e' : c = d := by
        have := mt h1.2 x; have := mt h2.2 y; omega
      subst e; subst e'
      rw [Int.compare_eq_eq.2 rfl, Int.compare_eq_eq.2 rfl]

theorem scale_lt {a b c d : Int} {i j : Int} (h1 : (a : Rat) * p2 i = (c : Rat) * p2 j) (h2 : (b : Rat) * p2 i = (d : Rat) * p2 j) : a < b ↔ c < d := by
  rw [← Rat.intCast_lt_intCast, ← Rat.intCast_lt_intCast, ← Rat.mul_lt_mul_right (p2_pos i), h1, h2, Rat.mul_lt_mul_right (p2_pos j)]

theorem order_ok {x y : Nat} (hx : isNaN x = false) (hy : isNaN y = false) : double.order x y = some (compare (sv x) (sv y)) := by
  have hx' : rung x ≤ 9218868437227405312 := by have := of_decide_eq_false hx; omega
  have hy' : rung y ≤ 9218868437227405312 := by have := of_decide_eq_false hy; omega
  unfold Format.order
  by_cases fx : rung x = 9218868437227405312
  · rw [read_inf fx]
    by_cases fy : rung y = 9218868437227405312
    · rw [read_inf fy]
      unfold sv; rw [fx, fy]
      have hV := V_inf_pos
      generalize (V 9218868437227405312 : Int) = Z at *
      cases sgn x <;> cases sgn y <;> simp [Datum.order]
      · exact (Int.compare_eq_gt.2 (by omega)).symm
      · exact (Int.compare_eq_lt.2 (by omega)).symm
    · obtain ⟨n, j, e, _⟩ := read_fin (w := y) (decide_eq_true (by omega))
      rw [e]
      have h1 := V_lt (show rung y < 9218868437227405312 by omega)
      unfold sv; rw [fx]
      generalize V 9218868437227405312 = Z at *
      generalize V (rung y) = Y at *
      cases sgn x <;> cases sgn y <;> simp [Datum.order]
      all_goals first
        | exact (Int.compare_eq_gt.2 (by omega)).symm
        | exact (Int.compare_eq_lt.2 (by omega)).symm
  · obtain ⟨m, i, e, hv, _⟩ := read_fin (w := x) (decide_eq_true (by omega))
    rw [e]
    by_cases fy : rung y = 9218868437227405312
    · rw [read_inf fy]
      have h1 := V_lt (show rung x < 9218868437227405312 by omega)
      unfold sv; rw [fy]
      generalize V 9218868437227405312 = Z at *
      generalize V (rung x) = X at *
      cases sgn x <;> cases sgn y <;> simp [Datum.order]
      all_goals first
        | exact (Int.compare_eq_gt.2 (by omega)).symm
        | exact (Int.compare_eq_lt.2 (by omega)).symm
    · obtain ⟨n, j, e', hv', _⟩ := read_fin (w := y) (decide_eq_true (by omega))
      rw [e']
      simp only [Datum.order]
      congr 1
      generalize hb : min i j = b
      have s1 := signed_val (sgn x) m (i - b).toNat b
      have s2 := signed_val (sgn y) n (j - b).toNat b
      have e1 : b + ((i - b).toNat : Int) = i := by omega
      have e2 : b + ((j - b).toNat : Int) = j := by omega
      rw [e1, hv] at s1; rw [e2, hv'] at s2
      have t1 : sg (sgn x) (rvr (rung x)) = (sv x : Rat) * p2 (-1074) := fv_sv x
      have t2 : sg (sgn y) (rvr (rung y)) = (sv y : Rat) * p2 (-1074) := fv_sv y
      rw [t1] at s1; rw [t2] at s2
      exact cmp_eq (scale_lt s1 s2) (scale_lt s2 s1)

theorem order_nan {x y : Nat} (h : isNaN x = true ∨ isNaN y = true) : double.order x y = none := by
  unfold Format.order
  rcases h with h | h
  · obtain ⟨f, e⟩ := read_nan h
    rw [e]; cases double.read y <;> rfl
  · obtain ⟨f, e⟩ := read_nan h
    rw [e]; cases double.read x <;> rfl

/-! the six comparisons -/
def flt (x y : Nat) : Bool := !isNaN x && !isNaN y && decide (sv x < sv y)
def fle (x y : Nat) : Bool := !isNaN x && !isNaN y && decide (sv x ≤ sv y)
def feq (x y : Nat) : Bool := !isNaN x && !isNaN y && decide (sv x = sv y)

theorem nan_cases (x y : Nat) : (isNaN x = true ∨ isNaN y = true) ∨ (isNaN x = false ∧ isNaN y = false) := by
  cases isNaN x <;> cases isNaN y <;> simp

theorem order_lt (x y : Nat) : (double.order x y == some .lt) = flt x y := by
  rcases nan_cases x y with h | ⟨h1, h2⟩
  · rw [order_nan h]; unfold flt; rcases h with h | h <;> simp [h]
  · rw [order_ok h1 h2]; unfold flt; rw [h1, h2]
    by_cases h : sv x < sv y
    · rw [Int.compare_eq_lt.2 h]; simp [h]
    · have : compare (sv x) (sv y) ≠ .lt := fun e => h (Int.compare_eq_lt.1 e)
      simp [h, this]

theorem order_gt (x y : Nat) : (double.order x y == some .gt) = flt y x := by
  rcases nan_cases x y with h | ⟨h1, h2⟩
  · rw [order_nan h]; unfold flt; rcases h with h | h <;> simp [h]
  · rw [order_ok h1 h2]; unfold flt; rw [h1, h2]
    by_cases h : sv y < sv x
    · rw [Int.compare_eq_gt.2 h]; simp [h]
    · have : compare (sv x) (sv y) ≠ .gt := fun e => h (Int.compare_eq_gt.1 e)
      simp [h, this]

theorem order_eq (x y : Nat) : (double.order x y == some .eq) = feq x y := by
  rcases nan_cases x y with h | ⟨h1, h2⟩
  · rw [order_nan h]; unfold feq; rcases h with h | h <;> simp [h]
  · rw [order_ok h1 h2]; unfold feq; rw [h1, h2]
    by_cases h : sv x = sv y
    · rw [Int.compare_eq_eq.2 h]; simp [h]
    · have : compare (sv x) (sv y) ≠ .eq := fun e => h (Int.compare_eq_eq.1 e)
      simp [h, this]

theorem fle_eq (x y : Nat) : (flt x y || feq x y) = fle x y := by
  unfold flt feq fle
  cases isNaN x <;> cases isNaN y <;> simp
  by_cases h : sv x < sv y
  · simp [h, Int.le_of_lt h]
  · by_cases h2 : sv x = sv y
    · simp [h2]
    · simp [h, h2]; omega

theorem fge_eq (x y : Nat) : (flt y x || feq x y) = fle y x := by
  unfold flt feq fle
  cases isNaN x <;> cases isNaN y <;> simp
  by_cases h : sv y < sv x
  · simp [h, Int.le_of_lt h]
  · by_cases h2 : sv x = sv y
    · simp [h2]
    · simp [h, h2]; omega

theorem feq_self (x : Nat) : feq x x = !isNaN x := by unfold feq; cases isNaN x <;> simp

theorem fin_nan {x : Nat} (h : fin x = true) : isNaN x = false := by
  have := of_decide_eq_true h; exact decide_eq_false (by omega)

theorem sv_lt_fv (x y : Nat) : sv x < sv y ↔ fv x < fv y := by
  rw [fv_sv, fv_sv, Rat.mul_lt_mul_right (p2_pos _), Rat.intCast_lt_intCast]

theorem sv_le_fv (x y : Nat) : sv x ≤ sv y ↔ fv x ≤ fv y := by
  rw [← Int.not_lt, sv_lt_fv, Rat.not_lt]

theorem Rd.nan {q : Rat} {z : Nat} (h : Rd q z) : isNaN z = false := by
  have := (rung_rd h).1; exact decide_eq_false (by omega)

theorem near_zero {r : Nat} (h : Near r 0) : r = 0 := h.exact rvr_zero.symm

theorem Rd.mono {q q' : Rat} {z z' : Nat} (h : Rd q z) (h' : Rd q' z') (hq : q ≤ q') : sv z ≤ sv z' := by
  obtain ⟨s, r, rfl, hn, h0⟩ := h
  obtain ⟨s', r', rfl, hn', h0'⟩ := h'
  unfold sv
  rw [rung_word s (by omega), rung_word s' (by omega), sgn_word s (by omega), sgn_word s' (by omega)]
  cases s <;> cases s' <;> simp only [sg, if_true, Bool.false_eq_true, if_false] at *
  · have := hn.mono hn' hq
    have := V_le (show min r 9218868437227405312 ≤ min r' 9218868437227405312 by omega); omega
  · have e : q = 0 := by grind
    have e' : q' = 0 := by grind
    subst e; subst e'
    have := near_zero hn
    have := near_zero (by simpa using hn')
    subst r; subst r'
    simp [V_zero]
  · omega
  · have := hn'.mono hn (by grind)
    have := V_le (show min r' 9218868437227405312 ≤ min r 9218868437227405312 by omega); omega

theorem word_sgn_rung {x : Nat} (hx : x < 18446744073709551616) : double.word (sgn x) (rung x) = x := by
  rw [word_eq]
  have h : x / 9223372036854775808 = 0 ∨ x / 9223372036854775808 = 1 := by omega
  unfold sgn rung
  rcases h with h | h <;> rw [h] <;> simp <;> omega

theorem rd_self {x : Nat} (hx : x < 18446744073709551616) (hf : fin x = true) : Rd (fv x) x := by
  have hr := of_decide_eq_true hf
  refine ⟨sgn x, rung x, ?_, ?_, ?_⟩
  · rw [show min (rung x) 9218868437227405312 = rung x by omega, word_sgn_rung hx]
  · unfold fv; rw [sg_mul]; exact near_self _
  · unfold fv; rw [sg_mul]; exact rvr_nonneg _

/-! ## whole numbers -/

theorem ofInt_rd (n : Int) : Rd (n : Rat) (double.write (.number (decide (n < 0)) n.natAbs 0)) := by
  have h := write_number (decide (n < 0)) n.natAbs 0
  have e : sg (decide (n < 0)) ((n.natAbs : Rat) * p2 0) = (n : Rat) := by
    rw [p2_zero, Rat.mul_one, natAbs_val]
    by_cases hn : n < 0 <;> simp [hn, sg]
  rw [e] at h; exact h

theorem cutz (s : Bool) (n drop : Nat) : ((Toward.zero.cut s n drop : Nat) : Rat) ≤ (n : Rat) * p2 (-(drop : Int)) ∧ (n : Rat) * p2 (-(drop : Int)) < (Toward.zero.cut s n drop : Nat) + 1 := by
  have hk : Toward.zero.cut s n drop = n / 2 ^ drop := by
    unfold Toward.cut
    simp only [Bool.toNat_false, Nat.add_zero, Nat.one_shiftLeft]
    by_cases hd : drop ≤ n.log2 + 2
    · rw [Nat.min_eq_left hd]
    · have hl : n < 2 ^ (n.log2 + 1) := Nat.lt_log2_self
      have a : 2 ^ (n.log2 + 1) ≤ 2 ^ (n.log2 + 2) := Nat.pow_le_pow_right (by decide) (by omega)
      have b : 2 ^ (n.log2 + 2) ≤ 2 ^ drop := Nat.pow_le_pow_right (by decide) (by omega)
      rw [show min drop (n.log2 + 2) = n.log2 + 2 by omega, Nat.div_eq_of_lt (by omega), Nat.div_eq_of_lt (by omega)]
  rw [hk]
  have hpos := Nat.two_pow_pos drop
  have h1 : n / 2 ^ drop * 2 ^ drop ≤ n := Nat.div_mul_le_self _ _
  have h2 : n < (n / 2 ^ drop + 1) * 2 ^ drop := by
    have := Nat.lt_div_mul_add (a := n) hpos
    rw [Nat.add_mul]; omega
  have hp := p2_pos (-(drop : Int))
  have hc : ((2 ^ drop : Nat) : Rat) * p2 (-(drop : Int)) = 1 := by rw [← p2_nat, p2_cancel]
  generalize n / 2 ^ drop = k at *
  have c1 := Rat.natCast_le_natCast.2 h1
  have c2 := Rat.natCast_lt_natCast.2 h2
  rw [Rat.natCast_mul] at c1 c2
  have d1 := Rat.mul_le_mul_of_nonneg_right c1 (Rat.le_of_lt hp)
  have d2 := Rat.mul_lt_mul_of_pos_right c2 hp
  rw [Rat.mul_assoc, hc, Rat.mul_one] at d1 d2
  rw [Rat.natCast_add] at d2
  exact ⟨d1, d2⟩

theorem toInt_floor {x : Nat} (hf : fin x = true) (hs : sgn x = false) : ∃ n : Nat, (double.read x).toInt .zero = some (n : Int) ∧ (n : Rat) ≤ fv x ∧ fv x < (n : Rat) + 1 := by
  obtain ⟨m, i, e, hv, _⟩ := read_fin hf
  rw [e, hs]
  obtain ⟨h1, h2⟩ := cutz false (m <<< i.toNat) (-i).toNat
  have hval : ((m <<< i.toNat : Nat) : Rat) * p2 (-((-i).toNat : Int)) = fv x := by
    unfold fv; rw [hs]; simp only [sg]
    rw [Nat.shiftLeft_eq, Rat.natCast_mul, ← p2_nat, Rat.mul_assoc, ← p2_add]
    simp only [Bool.false_eq_true, if_false]
    rw [← hv]; congr 2; omega
  rw [hval] at h1 h2
  refine ⟨_, ?_, h1, h2⟩
  simp [Datum.toInt, Datum.integral, signed]

/-! ## the order of rates -/

def key (w : Nat) : Nat := if isNaN w then 18446744073709551615 else if sgn w then 9223372036854775807 - rung w else 9223372036854775808 + rung w

def cmp (a b : Nat) : Int := if key a < key b then -1 else if key b < key a then 1 else 0

/-- are floats the same, to the bit, or both no numbers? -/
def same (a b : Nat) : Bool := if isNaN a || isNaN b then isNaN a && isNaN b else decide (a = b)

theorem key_lt_nan {w : Nat} (h : isNaN w = false) : key w < 18446744073709551615 := by
  have := of_decide_eq_false h
  unfold key; rw [h]; cases sgn w <;> simp <;> omega

theorem key_nan {w : Nat} (h : isNaN w = true) : key w = 18446744073709551615 := by unfold key; rw [h]; simp

theorem sv_lt_key {a b : Nat} (ha : isNaN a = false) (hb : isNaN b = false) (h : sv a < sv b) : key a < key b := by
  have h1 := of_decide_eq_false ha
  have h2 := of_decide_eq_false hb
  unfold sv at h
  unfold key; rw [ha, hb]
  generalize sgn a = s at *
  generalize sgn b = t at *
  cases s <;> cases t <;> simp only [if_true, Bool.false_eq_true, if_false] at *
  · have := V_lt_iff.1 (show V (rung a) < V (rung b) by omega); omega
  · omega
  · omega
  · have := V_lt_iff.1 (show V (rung b) < V (rung a) by omega); omega

/-- numbers that are alike and have unlike keys are unlike noughts -/
theorem sv_eq_key {a b : Nat} (ha : isNaN a = false) (hb : isNaN b = false) (h : sv a = sv b) :
    key a = key b ∧ sgn a = sgn b ∧ rung a = rung b ∨ key a < key b ∧ sgn a = true ∧ sgn b = false ∨ key b < key a ∧ sgn a = false ∧ sgn b = true := by
  have h1 := of_decide_eq_false ha
  have h2 := of_decide_eq_false hb
  unfold sv at h
  unfold key; rw [ha, hb]
  generalize sgn a = s at *
  generalize sgn b = t at *
  cases s <;> cases t <;> simp only [if_true, Bool.false_eq_true, if_false] at *
  · have := V_inj (show V (rung a) = V (rung b) by omega)
    refine .inl ⟨by omega, trivial, this⟩
  · refine .inr (.inr ⟨by omega, trivial, trivial⟩)
  · refine .inr (.inl ⟨by omega, trivial, trivial⟩)
  · have := V_inj (show V (rung a) = V (rung b) by omega)
    refine .inl ⟨by omega, trivial, this⟩

theorem key_eq {a b : Nat} (ha : a < 18446744073709551616) (hb : b < 18446744073709551616) : key a = key b ↔ same a b = true := by
  unfold same
  rcases hna : isNaN a <;> rcases hnb : isNaN b
  · simp only [Bool.or_self, Bool.false_eq_true, if_false, decide_eq_true_eq]
    constructor
    · intro h
      have h1 := of_decide_eq_false hna
      have h2 := of_decide_eq_false hnb
      unfold key at h; rw [hna, hnb] at h
      have ea := word_sgn_rung ha
      have eb := word_sgn_rung hb
      cases sa : sgn a <;> cases sb : sgn b <;> rw [sa, sb] at h <;> simp only [if_true, Bool.false_eq_true, if_false] at h
      · rw [← ea, ← eb, sa, sb]; congr 1; omega
      · omega
      · omega
      · rw [← ea, ← eb, sa, sb]; congr 1; omega
    · intro h; rw [h]
  · have := key_lt_nan hna
    rw [key_nan hnb]; simp; omega
  · have := key_lt_nan hnb
    rw [key_nan hna]; simp; omega
  · rw [key_nan hna, key_nan hnb]; simp

theorem cmp_zero {a b : Nat} (ha : a < 18446744073709551616) (hb : b < 18446744073709551616) : cmp a b = 0 ↔ same a b = true := by
  rw [← key_eq ha hb]; unfold cmp
  by_cases h1 : key a < key b
  · simp [h1]; omega
  · by_cases h2 : key b < key a
    · simp [h1, h2]; omega
    · simp [h1, h2]; omega

theorem cmp_neg (a b : Nat) : cmp a b = -cmp b a := by
  unfold cmp
  by_cases h1 : key a < key b
  · have : ¬ key b < key a := by omega
    simp [h1, this]
  · by_cases h2 : key b < key a
    · simp [h1, h2]
    · simp [h1, h2]

theorem cmp_pos_iff (a b : Nat) : 0 < cmp a b ↔ key b < key a := by
  unfold cmp
  by_cases h1 : key a < key b
  · simp [h1]; omega
  · by_cases h2 : key b < key a <;> simp [h1, h2]

theorem cmp_neg_iff (a b : Nat) : cmp a b < 0 ↔ key a < key b := by
  unfold cmp
  by_cases h1 : key a < key b
  · simp [h1]
  · by_cases h2 : key b < key a <;> simp [h1, h2]

theorem cmp_range (a b : Nat) : cmp a b = -1 ∨ cmp a b = 0 ∨ cmp a b = 1 := by
  unfold cmp
  by_cases h1 : key a < key b
  · simp [h1]
  · by_cases h2 : key b < key a <;> simp [h1, h2]

/-- what the reference reckons -/
def rcmp (a b : Nat) : Int :=
  if same a b then 0 else if isNaN a then 1 else if isNaN b then -1
  else if feq a b then (if sgn a then -1 else 1) else if flt a b then -1 else 1

theorem rcmp_eq {a b : Nat} (ha : a < 18446744073709551616) (hb : b < 18446744073709551616) : rcmp a b = cmp a b := by
  unfold rcmp
  by_cases hs : same a b = true
  · rw [if_pos hs, (cmp_zero ha hb).2 hs]
  · rw [if_neg hs]
    have hk : key a ≠ key b := fun h => hs ((key_eq ha hb).1 h)
    rcases hna : isNaN a
    · rcases hnb : isNaN b
      · simp only [Bool.false_eq_true, if_false]
        unfold feq flt; rw [hna, hnb]
        by_cases e : sv a = sv b
        · rcases sv_eq_key hna hnb e with h | ⟨h, h1, h2⟩ | ⟨h, h1, h2⟩
          · exact absurd h.1 hk
          · unfold cmp; simp [e, h, h1]
          · have : ¬ key a < key b := by omega
            unfold cmp; simp [e, h, h1, this]
        · by_cases l : sv a < sv b
          · have := sv_lt_key hna hnb l
            unfold cmp; simp [e, l, this]
          · have h := sv_lt_key hnb hna (show sv b < sv a by omega)
            have : ¬ key a < key b := by omega
            unfold cmp; simp [e, l, h, this]
      · have h := key_lt_nan hna
        unfold cmp; rw [key_nan hnb]; simp [h]
    · have hb' : isNaN b = false := by
        cases hnb : isNaN b
        · rfl
        · exact absurd (by rw [key_nan hna, key_nan hnb]) hk
      have h := key_lt_nan hb'
      unfold cmp; rw [key_nan hna]
      have : ¬ 18446744073709551615 < key b := by omega
      simp [h, this]

theorem flt_cmp {a b : Nat} (h : flt a b = true) : cmp a b = -1 := by
  unfold flt at h
  simp only [Bool.and_eq_true, Bool.not_eq_true', decide_eq_true_eq] at h
  have := sv_lt_key h.1.1 h.1.2 h.2
  unfold cmp; rw [if_pos this]

end Go.Proofs.Ytemeahbggidbkaa.Fl
