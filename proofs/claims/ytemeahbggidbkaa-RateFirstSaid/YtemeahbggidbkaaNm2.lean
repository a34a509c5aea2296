/- What Steps and abs come to. -/
import Derived.Test.YtemeahbggidbkaaNum
import Derived.Test.YtemeahbggidbkaaSt
namespace Go.Proofs.Ytemeahbggidbkaa.Own
open Go.RowKit Go.Proofs.Ytemeahbggidbkaa.Fl
open Ieee (double)

/-- what Steps tells -/
def stV (x : Nat) (most : Int) : Int := if most ≤ 0 then 0 else if flt 0 x = false then 0 else if fle (ofI most) x then most else (((double.read x).toInt .zero).getD 0)

theorem stV_in {x : Nat} {most : Int} (hx : x < 18446744073709551616) (h1 : 0 < most) (h2 : flt 0 x = true) (h3 : fle (ofI most) x = false) :
    ∃ n : Nat, stV x most = n ∧ (double.read x).toInt .zero = some (n : Int) ∧ (n : Int) < most ∧ fin x = true ∧ (n : Rat) ≤ fv x ∧ fv x < (n : Rat) + 1 ∧ flt x (ofI most) = true := by
  have nx := (flt_of h2).2.1
  have nm : isNaN (ofI most) = false := (ofInt_rd most).nan
  obtain ⟨l1, _, _⟩ := fle_lt nx nm h3
  obtain ⟨n, e, a, b, c, d⟩ := below_int hx h2 l1
  refine ⟨n, ?_, e, a, b, c, d, l1⟩
  unfold stV
  rw [if_neg (by omega), h2, h3, e]; rfl

set_option maxHeartbeats 1000000 in
theorem steps_any (x : Nat) (hx : x < 18446744073709551616) (most : Int) (hm : most ≤ 9223372036854775807) (w : World) : Calls Try.prog 24 #[.float .f64 x, .int .i64 most] w fun e w' => e = .returned (.int .i64 (stV x most)) ∧ w = w' := by
  have c1 := fun n w => run_convert_int_float (P := Try.prog) (w := w) 3 23 .i64 .f64 n (by kernel_rfl) Try.underlying23
  have e1 := ofI_eq most
  have g0 := gt_flt x 0
  have g1 := gt_flt x (ofI most)
  have g2 := eq_feq x (ofI most)
  by_cases h1 : most ≤ 0
  · have hs : Hid (stV x most = 0) := Lib.hid (by unfold stV; rw [if_pos h1])
    clear g0 g1 g2
    go_enter Try.func24, Try.ntmps24
    go_wp2
    go_ret
    exact ⟨by rw [hs.out]; rfl, rfl⟩
  · cases h2 : flt 0 x
    · have hs : Hid (stV x most = 0) := Lib.hid (by unfold stV; rw [if_neg h1, if_pos h2])
      rw [h2] at g0
      clear h2 g1 g2
      go_enter Try.func24, Try.ntmps24
      go_wp2
      go_ret
      exact ⟨by rw [hs.out]; rfl, rfl⟩
    · cases h3 : fle (ofI most) x
      · obtain ⟨n, hs, he, hn, hf, _, _, hl⟩ := stV_in hx (by omega) h2 h3
        have nx := (flt_of h2).2.1
        have nm : isNaN (ofI most) = false := (ofInt_rd most).nan
        obtain ⟨_, l2, l3⟩ := fle_lt nx nm h3
        have hc : floatToIntVal .f64 x .i64 = some (n : Int) := by
          unfold floatToIntVal
          have : (FloatKind.f64.decode x).toInt .zero = some (n : Int) := he
          rw [this]
          have b1 : IntKind.i64.min = -9223372036854775808 := by decide
          have b2 : IntKind.i64.max = 9223372036854775807 := by decide
          simp only [b1, b2]
          rw [if_pos (by omega)]
        have hcv := fun w => run_convert_float_int (P := Try.prog) w 23 3 .f64 .i64 x n (by kernel_rfl) Try.underlying3 hc
        have HS := Lib.hid hs
        rw [h2] at g0
        rw [l2] at g1
        rw [l3] at g2
        clear h2 h3 hs he hf hl nx nm l2 l3 hc
        go_enter Try.func24, Try.ntmps24
        go_wp2
        go_ret
        exact ⟨by rw [HS.out]; rfl, rfl⟩
      · have hs : Hid (stV x most = most) := Lib.hid (by unfold stV; rw [if_neg h1, h2, h3]; rfl)
        rw [h2] at g0
        have hge := fge_eq x (ofI most)
        rw [h3] at hge
        cases h4 : flt (ofI most) x
        · rw [h4, Bool.false_or] at hge
          rw [h4] at g1
          rw [hge] at g2
          clear h2 h3 h4 hge
          go_enter Try.func24, Try.ntmps24
          go_wp2
          go_ret
          exact ⟨by rw [hs.out]; rfl, rfl⟩
        · rw [h4] at g1
          clear h2 h3 h4 hge g2
          go_enter Try.func24, Try.ntmps24
          go_wp2
          go_ret
          exact ⟨by rw [hs.out]; rfl, rfl⟩

theorem run_neg (x : Nat) (w : World) : (Op.unary .neg (.float .f64 x)).run Try.prog w = .ok (.float .f64 (neg x)) w := by
  have e : Op.negFloat .f64 x = neg x := by
    unfold Op.negFloat neg
    have : (2 : Nat) ^ (FloatKind.f64.format.exponentBits + FloatKind.f64.format.fractionBits) = 9223372036854775808 := by decide
    rw [this]
  simp [Op.unary, e]
/-- what abs tells -/
def absW (x : Nat) : Nat := if flt x 0 then neg x else x
set_option maxHeartbeats 400000 in
theorem abs_any (x : Nat) (w : World) : Calls Try.prog 19 #[.float .f64 x] w fun e w' => e = .returned (.float .f64 (absW x)) ∧ w = w' := by
  have g := lt_flt x 0
  cases h : flt x 0
  · have hs : Hid (absW x = x) := Lib.hid (by unfold absW; rw [h]; rfl)
    rw [h] at g
    clear h
    go_enter Try.func19, Try.ntmps19
    go_wp2
    go_ret
    exact ⟨by rw [hs.out]; rfl, rfl⟩
  · have hs : Hid (absW x = neg x) := Lib.hid (by unfold absW; rw [h]; rfl)
    rw [h] at g
    clear h
    have hn := run_neg x
    go_enter Try.func19, Try.ntmps19
    go_wp2
    go_ret
    exact ⟨by rw [hs.out]; rfl, rfl⟩
end Go.Proofs.Ytemeahbggidbkaa.Own
