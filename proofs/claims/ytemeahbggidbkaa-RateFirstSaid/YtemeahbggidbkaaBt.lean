/- Bounds on what rounding takes, the opposite of a float, and the constants of RateBetween. No condition. -/
import Derived.Test.YtemeahbggidbkaaFl
namespace Go.Proofs.Ytemeahbggidbkaa.Fl
open Ieee

/-- 'a' is within 'd' of 'b' -/
structure By (a b d : Rat) : Prop where
  up : a ≤ b + d
  dn : b ≤ a + d

theorem p2_double (i : Int) : 2 * p2 i = p2 (i + 1) := by rw [p2_add, p2_one, Rat.mul_comm]

theorem abs_le {q B : Rat} (h1 : q ≤ B) (h2 : -B ≤ q) : q.abs ≤ B := by
  by_cases h : 0 ≤ q
  · rw [Rat.abs_of_nonneg h]; exact h1
  · rw [Rat.abs_of_nonpos (by grind)]; grind

theorem Rd.by8 {q N : Rat} {z : Nat} (h : Rd q z) (hN : 1 ≤ N) (h1 : q ≤ 8 * N) (h2 : -(8 * N) ≤ q) (hT : 8 * N ≤ top) : Fl.fin z = true ∧ By (fv z) q (N * p2 (-49)) := by
  have hf := h.fin (by grind) (by grind)
  refine ⟨hf, ?_⟩
  obtain ⟨a, b⟩ := h.err hf
  have h3 := Rat.mul_le_mul_of_nonneg_right (abs_le h1 h2) (Rat.le_of_lt (p2_pos (-53)))
  have e1 : 8 * N * p2 (-53) = N * p2 (-50) := by
    have : p2 (-50) = 2 * (2 * (2 * p2 (-53))) := by rw [p2_double, p2_double, p2_double]; rfl
    rw [this]; grind
  have e2 : N * p2 (-49) = 2 * (N * p2 (-50)) := by
    have : p2 (-49) = 2 * p2 (-50) := by rw [p2_double]; rfl
    rw [this]; grind
  have h4 := p2_le (show (-1075 : Int) ≤ -50 by decide)
  have h5 := Rat.mul_le_mul_of_nonneg_right hN (Rat.le_of_lt (p2_pos (-50)))
  rw [e1] at h3
  constructor <;> grind

theorem Rd.by1 {q : Rat} {z : Nat} (h : Rd q z) (hf : Fl.fin z = true) (h1 : q ≤ 1) (h2 : 0 ≤ q) : By (fv z) q (p2 (-52)) := by
  obtain ⟨a, b⟩ := h.err hf
  rw [Rat.abs_of_nonneg h2] at a b
  have h3 := Rat.mul_le_mul_of_nonneg_right h1 (Rat.le_of_lt (p2_pos (-53)))
  have e2 : p2 (-52) = 2 * p2 (-53) := by rw [p2_double]; rfl
  have h4 := p2_le (show (-1075 : Int) ≤ -53 by decide)
  constructor <;> grind

/-- what is smoothed -/
theorem smooth_by {O X w N L H a1 a2 a3 y : Rat} (hN : 1 ≤ N) (o1 : O ≤ N) (o2 : -N ≤ O) (oL : L ≤ O) (oH : O ≤ H) (xL : L ≤ X) (xH : X ≤ H)
    (w0 : 0 < w) (w1 : w < 1) (h1 : By a1 (1 - w) (p2 (-52))) (h2 : By a2 (O * a1) (N * p2 (-49))) (h3 : By a3 (X * w) (N * p2 (-49))) (h4 : By y (a2 + a3) (N * p2 (-49))) :
    y ≤ H + 4 * (N * p2 (-49)) ∧ L ≤ y + 4 * (N * p2 (-49)) := by
  have hp : p2 (-52) ≤ p2 (-49) := p2_le (by decide)
  have hp0 := p2_pos (-52)
  have k1 : O * (a1 - (1 - w)) ≤ N * p2 (-49) ∧ -(N * p2 (-49)) ≤ O * (a1 - (1 - w)) := by
    have b1 := h1.up
    have b2 := h1.dn
    generalize he : a1 - (1 - w) = e at *
    have c1 : e ≤ p2 (-52) := by grind
    have c2 : -p2 (-52) ≤ e := by grind
    generalize p2 (-52) = u at *
    generalize p2 (-49) = v at *
    have d1 : N * u ≤ N * v := Rat.mul_le_mul_of_nonneg_left hp (by grind)
    by_cases e0 : 0 ≤ e
    · have d2 := Rat.mul_le_mul_of_nonneg_right o1 e0
      have d3 := Rat.mul_le_mul_of_nonneg_right o2 e0
      have d4 := Rat.mul_le_mul_of_nonneg_left c1 (show 0 ≤ N by grind)
      constructor <;> grind
    · have e0' : 0 ≤ -e := by grind
      have d2 := Rat.mul_le_mul_of_nonneg_right o1 e0'
      have d3 := Rat.mul_le_mul_of_nonneg_right o2 e0'
      have d4 := Rat.mul_le_mul_of_nonneg_left (show -e ≤ u by grind) (show 0 ≤ N by grind)
      constructor <;> grind
  have w1' : 0 ≤ 1 - w := by grind
  have m1 := Rat.mul_le_mul_of_nonneg_right oH w1'
  have m2 := Rat.mul_le_mul_of_nonneg_right xH (Rat.le_of_lt w0)
  have m3 := Rat.mul_le_mul_of_nonneg_right oL w1'
  have m4 := Rat.mul_le_mul_of_nonneg_right xL (Rat.le_of_lt w0)
  have u2 := h2.up; have v2 := h2.dn; have u3 := h3.up; have v3 := h3.dn; have u4 := h4.up; have v4 := h4.dn
  generalize N * p2 (-49) = D at *
  clear h1 h2 h3 h4 hp hp0
  have e1 : O * (a1 - (1 - w)) = O * a1 - O * (1 - w) := by grind
  rw [e1] at k1
  obtain ⟨k1, k2⟩ := k1
  have g1 : H * (1 - w) + H * w = H := by grind
  have g2 : L * (1 - w) + L * w = L := by grind
  generalize O * a1 = z1 at *
  generalize O * (1 - w) = z2 at *
  generalize X * w = z3 at *
  generalize H * (1 - w) = z4 at *
  generalize H * w = z5 at *
  generalize L * (1 - w) = z6 at *
  generalize L * w = z7 at *
  constructor <;> grind

/-- the room -/
theorem room_by {c t D L H P1 P2 P3 P4 R : Rat} (c0 : 0 < c) (c1 : c ≤ 1) (D0 : 0 ≤ D)
    (h1 : By P1 (H - L) D) (h2 : By P2 (P1 * c) D) (h3 : By P3 (H + t) D) (h4 : By P4 (P3 * c) D) (h5 : By R (P2 + P4) D) :
    By R (c * (2 * H - L + t)) (5 * D) := by
  have a1 := Rat.mul_le_mul_of_nonneg_right h1.up (Rat.le_of_lt c0)
  have a2 := Rat.mul_le_mul_of_nonneg_right h1.dn (Rat.le_of_lt c0)
  have a3 := Rat.mul_le_mul_of_nonneg_right h3.up (Rat.le_of_lt c0)
  have a4 := Rat.mul_le_mul_of_nonneg_right h3.dn (Rat.le_of_lt c0)
  have a5 := Rat.mul_le_mul_of_nonneg_right c1 D0
  have u2 := h2.up; have v2 := h2.dn; have u4 := h4.up; have v4 := h4.dn; have u5 := h5.up; have v5 := h5.dn
  clear h1 h2 h3 h4 h5
  constructor <;> grind

/-- the slack is greater than all that rounding takes -/
theorem slack {c t N L H A R rm : Rat} (N1 : 1 ≤ N) (c0 : p2 (-30) ≤ c) (t0 : 0 < t) (t1 : t ≤ 1)
    (hR : By R (c * (2 * H - L + t)) (5 * (N * p2 (-49)))) (r1 : R ≤ rm) (r2 : -R ≤ rm)
    (hA : H ≤ A ∧ -H ≤ A ∧ (N - 1 ≤ A ∨ N - 1 ≤ L ∨ N - 1 ≤ -L) ∨ L ≤ A ∧ -L ≤ A ∧ (N - 1 ≤ A ∨ N - 1 ≤ H ∨ N - 1 ≤ -H)) :
    8 * (N * p2 (-49)) ≤ rm + c + A * c := by
  have cp : 0 < c := by have := p2_pos (-30); grind
  have hD : 64 * (N * p2 (-49)) ≤ c * N := by
    have h1 := Rat.mul_le_mul_of_nonneg_right c0 (show 0 ≤ N by grind)
    have h2 : 64 * p2 (-49) ≤ p2 (-30) := by
      have : 64 * p2 (-49) = p2 (-43) := by
        have : p2 (-43) = 2 * (2 * (2 * (2 * (2 * (2 * p2 (-49)))))) := by simp only [p2_double]; rfl
        rw [this]; grind
      rw [this]; exact p2_le (by decide)
    have h3 := Rat.mul_le_mul_of_nonneg_left h2 (show 0 ≤ N by grind)
    grind
  have D0 : 0 ≤ N * p2 (-49) := Rat.mul_nonneg (by grind) (Rat.le_of_lt (p2_pos _))
  have u := hR.up; have v := hR.dn
  have ct := Rat.mul_le_mul_of_nonneg_left t1 (Rat.le_of_lt cp)
  have ct0 := Rat.mul_nonneg (Rat.le_of_lt cp) (Rat.le_of_lt t0)
  generalize N * p2 (-49) = D at *
  have e : c * (2 * H - L + t) = 2 * (c * H) - c * L + c * t := by grind
  rw [e] at u v
  have cm := fun {a b : Rat} (h : a ≤ b) => Rat.mul_le_mul_of_nonneg_left h (Rat.le_of_lt cp)
  have e2 : c * (N - 1) = c * N - c := by grind
  clear hR e
  rcases hA with ⟨h1, h2, h3⟩ | ⟨h1, h2, h3⟩
  · have k1 := cm h1; have k2 := cm h2
    rw [Rat.mul_neg] at k2
    rcases h3 with h3 | h3 | h3
    · have k3 := cm h3; rw [e2] at k3; clear cm; grind
    · have k3 := cm h3; rw [e2] at k3; clear cm; grind
    · have k3 := cm h3; rw [e2, Rat.mul_neg] at k3; clear cm; grind
  · have k1 := cm h1; have k2 := cm h2
    rw [Rat.mul_neg] at k2
    rcases h3 with h3 | h3 | h3
    · have k3 := cm h3; rw [e2] at k3; clear cm; grind
    · have k3 := cm h3; rw [e2] at k3; clear cm; grind
    · have k3 := cm h3; rw [e2, Rat.mul_neg] at k3; clear cm; grind

/-! ## the opposite of a float -/

def neg (b : Nat) : Nat := b ^^^ 9223372036854775808

theorem neg_word (s : Bool) {r : Nat} (h : r < 9223372036854775808) : neg (double.word s r) = double.word (!s) r := by
  rw [word_eq, word_eq]
  unfold neg
  have hx : 9223372036854775808 + r = 9223372036854775808 ^^^ r := by
    have h1 := Nat.two_pow_add_eq_or_of_lt (i := 63) (b := r) h 1
    have h2 : (9223372036854775808 : Nat) &&& r = 0 := by
      have h3 : (9223372036854775808 : Nat) = 2 ^ 63 := by decide
      rw [h3]
      apply Nat.eq_of_testBit_eq
      intro i
      rw [Nat.testBit_and, Nat.testBit_two_pow, Nat.zero_testBit]
      by_cases hi : 63 = i
      · subst hi
        rw [Nat.testBit_lt_two_pow h]; rfl
      · simp [hi]
    have h4 : (9223372036854775808 : Nat) + r = 9223372036854775808 ||| r := by
      rw [Nat.mul_one] at h1; exact h1
    rw [h4]
    apply Nat.eq_of_testBit_eq
    intro i
    have h5 : ((9223372036854775808 : Nat) &&& r).testBit i = (0 : Nat).testBit i := by rw [h2]
    rw [Nat.testBit_and, Nat.zero_testBit] at h5
    rw [Nat.testBit_or, Nat.testBit_xor]
    generalize Nat.testBit 9223372036854775808 i = a at *
    generalize Nat.testBit r i = b at *
    cases a <;> cases b <;> simp at *
  cases s
  · simp only [Bool.not_false, if_true, Bool.false_eq_true, if_false]
    rw [hx, Nat.xor_comm]
  · simp only [Bool.not_true, if_true, Bool.false_eq_true, if_false]
    rw [hx, Nat.xor_comm, ← Nat.xor_assoc, Nat.xor_self, Nat.zero_xor]

theorem rung_lt (b : Nat) : rung b < 9223372036854775808 := Nat.mod_lt _ (by decide)

theorem neg_lt {b : Nat} (h : b < 18446744073709551616) : neg b < 18446744073709551616 := by
  rw [← word_sgn_rung h, neg_word _ (rung_lt b)]; exact word_lt _ (rung_lt b)

theorem neg_rung {b : Nat} (h : b < 18446744073709551616) : rung (neg b) = rung b := by
  have e : rung (neg b) = rung (neg (double.word (sgn b) (rung b))) := by rw [word_sgn_rung h]
  rw [e, neg_word _ (rung_lt b), rung_word _ (rung_lt b)]

theorem neg_sgn {b : Nat} (h : b < 18446744073709551616) : sgn (neg b) = !sgn b := by
  have e : sgn (neg b) = sgn (neg (double.word (sgn b) (rung b))) := by rw [word_sgn_rung h]
  rw [e, neg_word _ (rung_lt b), sgn_word _ (rung_lt b)]

theorem neg_fv {b : Nat} (h : b < 18446744073709551616) : fv (neg b) = -fv b := by
  unfold fv; rw [neg_rung h, neg_sgn h, sg_neg]

theorem neg_fin {b : Nat} (h : b < 18446744073709551616) : fin (neg b) = fin b := by
  unfold fin; rw [neg_rung h]

/-! ## constants -/

theorem rvr_bd {r : Nat} (h : 4503599627370496 ≤ r) : p2 ((r / 4503599627370496 : Nat) - 1023) ≤ rvr r ∧ rvr r < p2 ((r / 4503599627370496 : Nat) - 1022) := by
  have hV : rvr r = ((4503599627370496 + r % 4503599627370496 : Nat) : Rat) * p2 ((r / 4503599627370496 - 1 : Nat) - 1074) := by
    unfold rvr V
    rw [if_neg (by omega), Rat.natCast_mul, ← p2_nat, Rat.mul_assoc, ← p2_add]; rfl
  rw [hV]
  have h1 : p2 52 ≤ ((4503599627370496 + r % 4503599627370496 : Nat) : Rat) := by
    have := p2_nat 52
    have e : p2 52 = ((2 ^ 52 : Nat) : Rat) := this
    rw [e]; exact Rat.natCast_le_natCast.2 (by omega)
  have h2 : ((4503599627370496 + r % 4503599627370496 : Nat) : Rat) < p2 53 := by
    have := p2_nat 53
    have e : p2 53 = ((2 ^ 53 : Nat) : Rat) := this
    rw [e]; exact Rat.natCast_lt_natCast.2 (by omega)
  have hp := p2_pos ((r / 4503599627370496 - 1 : Nat) - 1074)
  have a := Rat.mul_le_mul_of_nonneg_right h1 (Rat.le_of_lt hp)
  have b := Rat.mul_lt_mul_of_pos_right h2 hp
  rw [← p2_add] at a b
  have hd : 1 ≤ r / 4503599627370496 := by omega
  have e1 : (52 : Int) + (((r / 4503599627370496 - 1 : Nat) : Int) - 1074) = ((r / 4503599627370496 : Nat) : Int) - 1023 := by omega
  have e2 : (53 : Int) + (((r / 4503599627370496 - 1 : Nat) : Int) - 1074) = ((r / 4503599627370496 : Nat) : Int) - 1022 := by omega
  rw [e1] at a; rw [e2] at b
  exact ⟨a, b⟩

/-- 1e-9, 1e-300, 1e300, 1 -/
def cS : Nat := 4472406533629990549
def cT : Nat := 118622047889322841
def cM : Nat := 9094988921128908188
def cMn : Nat := 18318360957983683996
def c1 : Nat := 4607182418800017408

theorem fv_pos {w : Nat} (h : w < 9223372036854775808) : fv w = rvr w := by
  have a : rung w = w := Nat.mod_eq_of_lt h
  have b : sgn w = false := by unfold sgn; rw [Nat.div_eq_of_lt h]; rfl
  unfold fv; rw [a, b]; rfl

theorem cS_bd : p2 (-30) ≤ fv cS ∧ fv cS ≤ 1 := by
  have h : fv cS = rvr 4472406533629990549 := fv_pos (by decide)
  rw [h]
  obtain ⟨a, b⟩ := rvr_bd (r := 4472406533629990549) (by decide)
  have e : (4472406533629990549 / 4503599627370496 : Nat) = 993 := by decide
  rw [e] at a b
  refine ⟨a, ?_⟩
  have := p2_le (show ((993 : Nat) : Int) - 1022 ≤ 0 by decide)
  rw [p2_zero] at this
  grind

theorem cT_bd : 0 < fv cT ∧ fv cT ≤ 1 := by
  have h : fv cT = rvr 118622047889322841 := fv_pos (by decide)
  rw [h]
  obtain ⟨a, b⟩ := rvr_bd (r := 118622047889322841) (by decide)
  have e : (118622047889322841 / 4503599627370496 : Nat) = 26 := by decide
  rw [e] at a b
  have h0 := p2_pos (((26 : Nat) : Int) - 1023)
  have := p2_le (show ((26 : Nat) : Int) - 1022 ≤ 0 by decide)
  rw [p2_zero] at this
  constructor <;> grind

theorem cM_bd : fv cM ≤ p2 997 := by
  have h : fv cM = rvr 9094988921128908188 := fv_pos (by decide)
  rw [h]
  obtain ⟨a, b⟩ := rvr_bd (r := 9094988921128908188) (by decide)
  have e : (9094988921128908188 / 4503599627370496 : Nat) = 2019 := by decide
  rw [e] at b
  exact Rat.le_of_lt b

theorem cMn_eq : fv cMn = -fv cM := by
  have : cMn = neg cM := by decide
  rw [this]; exact neg_fv (by decide)

theorem fv_one : fv c1 = 1 := by
  have h : fv c1 = rvr 4607182418800017408 := fv_pos (by decide)
  rw [h]
  have := rvr_split 1022 4503599627370496 (by decide) (by decide)
  have e : (1022 * 4503599627370496 + 4503599627370496 : Nat) = 4607182418800017408 := by decide
  rw [e] at this
  rw [this]
  have e2 := p2_nat 52
  have e3 : ((4503599627370496 : Nat) : Rat) = p2 52 := e2.symm
  rw [e3, ← p2_add]; exact p2_zero

theorem top_bd : p2 1023 ≤ top := by
  obtain ⟨a, _⟩ := rvr_bd (r := 9218868437227405311) (by decide)
  have e : (9218868437227405311 / 4503599627370496 : Nat) = 2046 := by decide
  rw [e] at a
  exact a

theorem eight_top {N : Rat} (h : N ≤ p2 998) : 8 * N ≤ top := by
  have h1 : 8 * p2 998 = p2 1001 := by
    have : p2 1001 = 2 * (2 * (2 * p2 998)) := by simp only [p2_double]; rfl
    rw [this]; grind
  have h2 := p2_le (show (1001 : Int) ≤ 1023 by decide)
  have h3 := top_bd
  grind

end Go.Proofs.Ytemeahbggidbkaa.Fl
