/- What RateBetween reckons, step by step. -/
import Derived.Test.YtemeahbggidbkaaNm2
namespace Go.Proofs.Ytemeahbggidbkaa.Fl
open Go.Proofs.Ytemeahbggidbkaa.Own
open Ieee (double)

theorem abs_fv {x : Nat} (hx : x < 18446744073709551616) (hf : fin x = true) :
    fin (absW x) = true ∧ fv x ≤ fv (absW x) ∧ -fv x ≤ fv (absW x) ∧ (fv (absW x) = fv x ∨ fv (absW x) = -fv x) := by
  have z0 : fv 0 = 0 := by
    rw [fv_sv, show sv 0 = 0 by decide]; exact Rat.zero_mul _
  have nx : isNaN x = false := by
    have := of_decide_eq_true hf; exact decide_eq_false (by omega)
  have nz : isNaN 0 = false := by decide
  have hs : flt x 0 = decide (fv x < 0) := by
    unfold flt
    rw [nx, nz, Bool.eq_iff_iff]
    simp only [Bool.not_false, Bool.true_and, decide_eq_true_eq]
    rw [sv_lt_fv, z0]
  unfold absW
  rw [hs]
  by_cases h : fv x < 0
  · rw [if_pos (by simpa using h), neg_fv hx, neg_fin hx]
    exact ⟨hf, by grind, by grind, .inr rfl⟩
  · rw [if_neg (by simpa using h)]
    exact ⟨hf, by grind, by grind, .inl rfl⟩

theorem rd_lt {q : Rat} {z : Nat} (h : Rd q z) : z < 18446744073709551616 := by
  obtain ⟨s, r, rfl, _, _⟩ := h
  exact word_lt _ (by omega)
theorem st_sub {x y : Nat} {N : Rat} (hN : 1 ≤ N) (hT : N ≤ p2 998) (hx : fin x = true) (hy : fin y = true) (h1 : fv x - fv y ≤ 8 * N) (h2 : -(8 * N) ≤ fv x - fv y) :
    ∃ z, double.sub x y = some z ∧ z < 18446744073709551616 ∧ fin z = true ∧ By (fv z) (fv x - fv y) (N * p2 (-49)) := by
  obtain ⟨z, hz, hr⟩ := sub_fin hx hy
  obtain ⟨a, b⟩ := hr.by8 hN h1 h2 (eight_top hT)
  exact ⟨z, hz, rd_lt hr, a, b⟩
theorem st_add {x y : Nat} {N : Rat} (hN : 1 ≤ N) (hT : N ≤ p2 998) (hx : fin x = true) (hy : fin y = true) (h1 : fv x + fv y ≤ 8 * N) (h2 : -(8 * N) ≤ fv x + fv y) :
    ∃ z, double.add x y = some z ∧ z < 18446744073709551616 ∧ fin z = true ∧ By (fv z) (fv x + fv y) (N * p2 (-49)) := by
  obtain ⟨z, hz, hr⟩ := add_fin hx hy
  obtain ⟨a, b⟩ := hr.by8 hN h1 h2 (eight_top hT)
  exact ⟨z, hz, rd_lt hr, a, b⟩
theorem st_mul {x y : Nat} {N : Rat} (hN : 1 ≤ N) (hT : N ≤ p2 998) (hx : fin x = true) (hy : fin y = true) (h1 : fv x * fv y ≤ 8 * N) (h2 : -(8 * N) ≤ fv x * fv y) :
    ∃ z, double.mul x y = some z ∧ z < 18446744073709551616 ∧ fin z = true ∧ By (fv z) (fv x * fv y) (N * p2 (-49)) := by
  obtain ⟨z, hz, hr⟩ := mul_fin hx hy
  obtain ⟨a, b⟩ := hr.by8 hN h1 h2 (eight_top hT)
  exact ⟨z, hz, rd_lt hr, a, b⟩
/-- a factor between 0 and 1 takes nothing out of a bound -/
theorem by_one {a c B : Rat} (c0 : 0 ≤ c) (c1 : c ≤ 1) (h1 : a ≤ B) (h2 : -B ≤ a) : a * c ≤ B ∧ -B ≤ a * c := by
  have hB : 0 ≤ B := by grind
  have k1 := Rat.mul_le_mul_of_nonneg_right h1 c0
  have k2 := Rat.mul_le_mul_of_nonneg_right h2 c0
  have k3 := Rat.mul_le_mul_of_nonneg_left c1 hB
  constructor <;> grind
theorem d_small {N : Rat} (hN : 1 ≤ N) : 0 ≤ N * p2 (-49) ∧ 64 * (N * p2 (-49)) ≤ N := by
  have h2 : 64 * p2 (-49) ≤ 1 := by
    have : 64 * p2 (-49) = p2 (-43) := by
      have : p2 (-43) = 2 * (2 * (2 * (2 * (2 * (2 * p2 (-49)))))) := by simp only [p2_double]; rfl
      rw [this]; grind
    rw [this]; have := p2_le (show (-43 : Int) ≤ 0 by decide); rw [p2_zero] at this; exact this
  have h3 := Rat.mul_le_mul_of_nonneg_left h2 (show 0 ≤ N by grind)
  exact ⟨Rat.mul_nonneg (by grind) (Rat.le_of_lt (p2_pos _)), by grind⟩

theorem cS_fin : fin cS = true := by decide
theorem cT_fin : fin cT = true := by decide
theorem cM_fin : fin cM = true := by decide

/-- the words that stand for the bounds -/
structure Bnd (lo hi : Nat) (s3 b3 : Nat) : Prop where
  ex : ∃ t1 t2 t3 t4 t5 s1 s2 m1 u1 u2 m2, double.sub hi lo = some t1 ∧ double.mul t1 cS = some t2 ∧ double.add hi cT = some t3 ∧ double.mul t3 cS = some t4 ∧ double.add t2 t4 = some t5 ∧
    double.sub lo (absW t5) = some s1 ∧ double.sub s1 cS = some s2 ∧ double.mul (absW lo) cS = some m1 ∧ double.sub s2 m1 = some s3 ∧
    double.add hi (absW t5) = some u1 ∧ double.add u1 cS = some u2 ∧ double.mul (absW hi) cS = some m2 ∧ double.add u2 m2 = some b3

set_option maxHeartbeats 4000000 in
theorem bounds {lo hi : Nat} {N : Rat} (hlo : lo < 18446744073709551616) (hhi : hi < 18446744073709551616) (flo : fin lo = true) (fhi : fin hi = true) (hle : fv lo ≤ fv hi) (hN : 1 ≤ N) (hT : N ≤ p2 998)
    (l1 : fv lo ≤ N - 1) (l2 : -(N - 1) ≤ fv lo) (h1 : fv hi ≤ N - 1) (hmax : N - 1 = fv lo ∨ N - 1 = -fv lo ∨ N - 1 = fv hi ∨ N - 1 = -fv hi) :
    ∃ s3 b3, Bnd lo hi s3 b3 ∧ fin s3 = true ∧ fin b3 = true ∧ fv s3 ≤ fv lo - 4 * (N * p2 (-49)) ∧ fv hi + 4 * (N * p2 (-49)) ≤ fv b3 := by
  obtain ⟨D0, D1⟩ := d_small hN
  have hD : ∃ D, N * p2 (-49) = D := ⟨_, rfl⟩
  obtain ⟨D, hD⟩ := hD
  obtain ⟨cS1, cS2⟩ := cS_bd
  have cS0 : 0 ≤ fv cS := by have := p2_pos (-30); grind
  obtain ⟨cT1, cT2⟩ := cT_bd
  obtain ⟨t1, e1, _, f1, y1⟩ := st_sub hN hT fhi flo (by grind) (by grind)
  obtain ⟨y1u, y1d⟩ := y1
  rw [hD] at y1u y1d D0 D1
  obtain ⟨k1, k2⟩ := by_one cS0 cS2 (show fv t1 ≤ 3 * N by grind) (show -(3 * N) ≤ fv t1 by grind)
  obtain ⟨t2, e2, _, f2, y2⟩ := st_mul hN hT f1 cS_fin (by grind) (by grind)
  obtain ⟨y2u, y2d⟩ := y2
  rw [hD] at y2u y2d
  obtain ⟨t3, e3, _, f3, y3⟩ := st_add hN hT fhi cT_fin (by grind) (by grind)
  obtain ⟨y3u, y3d⟩ := y3
  rw [hD] at y3u y3d
  obtain ⟨k3, k4⟩ := by_one cS0 cS2 (show fv t3 ≤ 2 * N by grind) (show -(2 * N) ≤ fv t3 by grind)
  obtain ⟨t4, e4, _, f4, y4⟩ := st_mul hN hT f3 cS_fin (by grind) (by grind)
  obtain ⟨y4u, y4d⟩ := y4
  rw [hD] at y4u y4d
  obtain ⟨t5, e5, g5, f5, y5⟩ := st_add hN hT f2 f4 (by grind) (by grind)
  obtain ⟨y5u, y5d⟩ := y5
  rw [hD] at y5u y5d
  have hroom := room_by (c := fv cS) (t := fv cT) (D := D) (L := fv lo) (H := fv hi) (by have := p2_pos (-30); grind) cS2 D0 ⟨y1u, y1d⟩ ⟨y2u, y2d⟩ ⟨y3u, y3d⟩ ⟨y4u, y4d⟩ ⟨y5u, y5d⟩
  obtain ⟨fr, r1, r2, r3⟩ := abs_fv g5 f5
  have b5 : fv t5 ≤ 5 * N + 3 * D ∧ -(5 * N + 3 * D) ≤ fv t5 := by constructor <;> grind
  have br : fv (absW t5) ≤ 5 * N + 3 * D ∧ 0 ≤ fv (absW t5) := by constructor <;> grind
  clear y1u y1d y2u y2d y3u y3d y4u y4d y5u y5d k1 k2 k3 k4 b5
  obtain ⟨fl, a1, a2, a3⟩ := abs_fv hlo flo
  obtain ⟨fh, b1, b2, b3⟩ := abs_fv hhi fhi
  have ml : fv (absW lo) ≤ N - 1 ∧ 0 ≤ fv (absW lo) := by constructor <;> grind
  have mh : fv (absW hi) ≤ N - 1 ∧ 0 ≤ fv (absW hi) := by constructor <;> grind
  have sl := slack (c := fv cS) (t := fv cT) (N := N) (L := fv lo) (H := fv hi) (A := fv (absW lo)) (R := fv t5) (rm := fv (absW t5)) hN cS1 cT1 cT2 (by rw [hD]; exact hroom) r1 r2
    (.inr ⟨a1, a2, by grind⟩)
  have sh := slack (c := fv cS) (t := fv cT) (N := N) (L := fv lo) (H := fv hi) (A := fv (absW hi)) (R := fv t5) (rm := fv (absW t5)) hN cS1 cT1 cT2 (by rw [hD]; exact hroom) r1 r2
    (.inl ⟨b1, b2, by grind⟩)
  rw [hD] at sl sh
  clear hroom r3 a3 b3 hmax
  obtain ⟨q1, q2⟩ := by_one cS0 cS2 (show fv (absW lo) ≤ N - 1 by grind) (show -(N - 1) ≤ fv (absW lo) by grind)
  obtain ⟨q3, q4⟩ := by_one cS0 cS2 (show fv (absW hi) ≤ N - 1 by grind) (show -(N - 1) ≤ fv (absW hi) by grind)
  obtain ⟨m1, e6, _, f6, y6⟩ := st_mul hN hT fl cS_fin (by grind) (by grind)
  obtain ⟨m2, e7, _, f7, y7⟩ := st_mul hN hT fh cS_fin (by grind) (by grind)
  obtain ⟨y6u, y6d⟩ := y6
  obtain ⟨y7u, y7d⟩ := y7
  rw [hD] at y6u y6d y7u y7d
  obtain ⟨s1, e8, _, f8, y8⟩ := st_sub hN hT flo fr (by grind) (by grind)
  obtain ⟨y8u, y8d⟩ := y8
  rw [hD] at y8u y8d
  obtain ⟨s2, e9, _, f9, y9⟩ := st_sub hN hT f8 cS_fin (by grind) (by grind)
  obtain ⟨y9u, y9d⟩ := y9
  rw [hD] at y9u y9d
  obtain ⟨s3, e10, _, f10, y10⟩ := st_sub hN hT f9 f6 (by grind) (by grind)
  obtain ⟨y10u, y10d⟩ := y10
  rw [hD] at y10u y10d
  obtain ⟨u1, e11, _, f11, y11⟩ := st_add hN hT fhi fr (by grind) (by grind)
  obtain ⟨y11u, y11d⟩ := y11
  rw [hD] at y11u y11d
  obtain ⟨u2, e12, _, f12, y12⟩ := st_add hN hT f11 cS_fin (by grind) (by grind)
  obtain ⟨y12u, y12d⟩ := y12
  rw [hD] at y12u y12d
  obtain ⟨b3, e13, _, f13, y13⟩ := st_add hN hT f12 f7 (by grind) (by grind)
  obtain ⟨y13u, y13d⟩ := y13
  rw [hD] at y13u y13d
  refine ⟨s3, b3, ⟨t1, t2, t3, t4, t5, s1, s2, m1, u1, u2, m2, e1, e2, e3, e4, e5, e8, e9, e6, e10, e11, e12, e7, e13⟩, f10, f13, ?_, ?_⟩
  · rw [hD]; grind
  · rw [hD]; grind

theorem in_bounds {x : Nat} (n : isNaN x = false) (g1 : flt cM x = false) (g2 : flt x cMn = false) : fin x = true ∧ fv x ≤ p2 997 ∧ -p2 997 ≤ fv x := by
  have nM : isNaN cM = false := by decide
  have nMn : isNaN cMn = false := by decide
  unfold flt at g1 g2
  rw [n, nM] at g1
  rw [n, nMn] at g2
  simp only [Bool.not_false, Bool.true_and, decide_eq_false_iff_not] at g1 g2
  have k1 : sv x ≤ sv cM := by omega
  have k2 : sv cMn ≤ sv x := by omega
  have v1 := (sv_le_fv _ _).1 k1
  have v2 := (sv_le_fv _ _).1 k2
  rw [cMn_eq] at v2
  have := cM_bd
  refine ⟨?_, by grind, by grind⟩
  apply decide_eq_true
  refine Nat.lt_of_not_le fun hge => ?_
  have hr : rung x = 9218868437227405312 := by have := of_decide_eq_false n; omega
  obtain ⟨a, _⟩ := rvr_bd (r := 9218868437227405312) (by decide)
  have e : (9218868437227405312 / 4503599627370496 : Nat) = 2047 := by decide
  rw [e] at a
  have hp := p2_lt (show (997 : Int) < ((2047 : Nat) : Int) - 1023 by decide)
  generalize fv cM = M at *
  unfold fv at v1 v2
  rw [hr] at v1 v2
  cases hs : sgn x <;> rw [hs] at v1 v2 <;> simp only [sg, if_true, Bool.false_eq_true, if_false] at v1 v2 <;> grind

theorem smoothed {old x wt lo hi r : Nat} {N : Rat} (ho : fin old = true) (hx : fin x = true) (hN : 1 ≤ N) (hT : N ≤ p2 998)
    (oL : fv lo ≤ fv old) (oH : fv old ≤ fv hi) (xL : fv lo ≤ fv x) (xH : fv x ≤ fv hi) (l2 : -(N - 1) ≤ fv lo) (h1 : fv hi ≤ N - 1) (h : Is (smO old x wt) r) :
    fin r = true ∧ fv r ≤ fv hi + 4 * (N * p2 (-49)) ∧ fv lo ≤ fv r + 4 * (N * p2 (-49)) := by
  obtain ⟨D0, D1⟩ := d_small hN
  have no : isNaN old = false := by
    have := of_decide_eq_true ho; exact decide_eq_false (by omega)
  have nx : isNaN x = false := by
    have := of_decide_eq_true hx; exact decide_eq_false (by omega)
  have some_of : ∀ k, smO old x wt = some k → r = k := fun k e => by
    rcases h.2 with a | ⟨a, _⟩
    · rw [e] at a; cases a; rfl
    · rw [e] at a; cases a
  rcases Own.ways old x wt with ⟨a, _⟩ | ⟨_, a, _⟩ | ⟨_, _, _, _, _, e⟩ | ⟨_, _, _, _, _, e⟩ | ⟨_, _, _, _, _, _, e⟩ | ⟨_, _, g0, g1, _, _, a, b, c, ha, hb, hc, e⟩
  · rw [nx] at a; cases a
  · rw [no] at a; cases a
  · have := some_of _ e; subst this; exact ⟨ho, by grind, by grind⟩
  · have := some_of _ e; subst this; exact ⟨hx, by grind, by grind⟩
  · have := some_of _ e; subst this; exact ⟨hx, by grind, by grind⟩
  · obtain ⟨a', ha', fa, _, ra⟩ := sub_pos g0 g1
    rw [ha] at ha'; cases ha'
    obtain ⟨fw, _⟩ := flt_fin g0 g1
    have w0 : 0 < fv wt := by
      have z0 : fv 0 = 0 := by rw [fv_sv, show sv 0 = 0 by decide]; exact Rat.zero_mul _
      have := (sv_lt_fv _ _).1 (by unfold flt at g0; simp only [Bool.and_eq_true, decide_eq_true_eq] at g0; exact g0.2)
      rw [z0] at this; exact this
    have w1 : fv wt < 1 := by
      have := (sv_lt_fv _ _).1 (by unfold flt at g1; simp only [Bool.and_eq_true, decide_eq_true_eq] at g1; exact g1.2)
      rw [fv_one] at this; exact this
    have ya := ra.by1 fa (by grind) (by grind)
    have hu : p2 (-52) ≤ p2 0 := p2_le (by decide)
    rw [p2_zero] at hu
    have a0 : -1 ≤ fv a := by have := ya.dn; grind
    have a1 : fv a ≤ 2 := by have := ya.up; grind
    have kO : fv old * fv a ≤ 2 * N ∧ -(2 * N) ≤ fv old * fv a := by
      have m1 : fv old ≤ N := by grind
      have m2 : -N ≤ fv old := by grind
      by_cases hs : 0 ≤ fv a
      · have d2 := Rat.mul_le_mul_of_nonneg_right m1 hs
        have d3 := Rat.mul_le_mul_of_nonneg_right m2 hs
        have d4 := Rat.mul_le_mul_of_nonneg_left a1 (show 0 ≤ N by grind)
        constructor <;> grind
      · have hs' : 0 ≤ -fv a := by grind
        have d2 := Rat.mul_le_mul_of_nonneg_right m1 hs'
        have d3 := Rat.mul_le_mul_of_nonneg_right m2 hs'
        have d4 := Rat.mul_le_mul_of_nonneg_left (show -fv a ≤ 2 by grind) (show 0 ≤ N by grind)
        constructor <;> grind
    have kX := by_one (Rat.le_of_lt w0) (Rat.le_of_lt w1) (show fv x ≤ N by grind) (show -N ≤ fv x by grind)
    obtain ⟨b', hb', _, fb, yb⟩ := st_mul hN hT ho fa (by grind) (by grind)
    rw [hb] at hb'; cases hb'
    obtain ⟨c', hc', _, fc, yc⟩ := st_mul hN hT hx fw (by grind) (by grind)
    rw [hc] at hc'; cases hc'
    have yb1 := yb.up
    have yb2 := yb.dn
    have yc1 := yc.up
    have yc2 := yc.dn
    obtain ⟨y, hy, _, fy, yy⟩ := st_add hN hT fb fc (by grind) (by grind)
    rw [hy] at e
    have := some_of _ e; subst this
    exact ⟨fy, smooth_by hN (by grind) (by grind) oL oH xL xH w0 w1 ya yb yc yy⟩

theorem big_is {L H : Rat} (h : L ≤ H) (l2 : -p2 997 ≤ L) (h1 : H ≤ p2 997) : ∃ N : Rat, 1 ≤ N ∧ N ≤ p2 998 ∧ L ≤ N - 1 ∧ -(N - 1) ≤ L ∧ H ≤ N - 1 ∧
    (N - 1 = L ∨ N - 1 = -L ∨ N - 1 = H ∨ N - 1 = -H) := by
  have e : p2 998 = 2 * p2 997 := by rw [p2_double]; rfl
  have e0 := p2_le (show (0 : Int) ≤ 997 by decide)
  rw [p2_zero] at e0
  by_cases c : -L ≤ H
  · exact ⟨H + 1, by grind, by grind, by grind, by grind, by grind, .inr (.inr (.inl (by grind)))⟩
  · exact ⟨-L + 1, by grind, by grind, by grind, by grind, by grind, .inr (.inl (by grind))⟩

theorem fle_fin {x y : Nat} (hx : fin x = true) (hy : fin y = true) (h : fv x ≤ fv y) : fle x y = true := by
  have nx : isNaN x = false := by
    have := of_decide_eq_true hx; exact decide_eq_false (by omega)
  have ny : isNaN y = false := by
    have := of_decide_eq_true hy; exact decide_eq_false (by omega)
  unfold fle
  rw [nx, ny, decide_eq_true ((sv_le_fv _ _).2 h)]; rfl

theorem within {old x wt lo hi r : Nat} (ho : fin old = true) (hx : fin x = true) (hlo : lo < 18446744073709551616) (hhi : hi < 18446744073709551616)
    (flo : fin lo = true) (fhi : fin hi = true) (hle : fv lo ≤ fv hi) (l2 : -p2 997 ≤ fv lo) (h1 : fv hi ≤ p2 997)
    (oL : fv lo ≤ fv old) (oH : fv old ≤ fv hi) (xL : fv lo ≤ fv x) (xH : fv x ≤ fv hi) (h : Is (smO old x wt) r) :
    ∃ s3 b3, Bnd lo hi s3 b3 ∧ fle s3 r = true ∧ fle r b3 = true := by
  obtain ⟨N, hN, hT, k1, k2, k3, k4⟩ := big_is hle l2 h1
  obtain ⟨s3, b3, B, fs, fb, z1, z2⟩ := bounds hlo hhi flo fhi hle hN hT k1 k2 k3 k4
  obtain ⟨fr, y1, y2⟩ := smoothed ho hx hN hT oL oH xL xH k2 k3 h
  exact ⟨s3, b3, B, fle_fin fs fr (by grind), fle_fin fr fb (by grind)⟩

theorem between {old x wt r : Nat} (ho : old < 18446744073709551616) (hx : x < 18446744073709551616) (n0 : isNaN old = false) (n1 : isNaN x = false)
    (g1 : flt cM old = false) (g2 : flt old cMn = false) (g3 : flt cM x = false) (g4 : flt x cMn = false) (h : Is (smO old x wt) r) :
    (flt x old = true → ∃ s3 b3, Bnd x old s3 b3 ∧ fle s3 r = true ∧ fle r b3 = true) ∧ (flt x old = false → ∃ s3 b3, Bnd old x s3 b3 ∧ fle s3 r = true ∧ fle r b3 = true) := by
  obtain ⟨fo, o1, o2⟩ := in_bounds n0 g1 g2
  obtain ⟨fx, x1, x2⟩ := in_bounds n1 g3 g4
  have hs : flt x old = decide (fv x < fv old) := by
    unfold flt
    rw [n0, n1, Bool.eq_iff_iff]
    simp only [Bool.not_false, Bool.true_and, decide_eq_true_eq]
    rw [sv_lt_fv]
  rw [hs]
  constructor
  · intro c
    have c' := of_decide_eq_true c
    exact within fo fx hx ho fx fo (by grind) x2 o1 (by grind) (by grind) (by grind) (by grind) h
  · intro c
    have c' := of_decide_eq_false c
    exact within fo fx ho hx fo fx (by grind) o2 x1 (by grind) (by grind) (by grind) (by grind) h
end Go.Proofs.Ytemeahbggidbkaa.Fl
