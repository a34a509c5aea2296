/- Of numbers that are unlike the order is their own; noughts and what is no number have their places. No condition. -/
import Derived.Test.YtemeahbggidbkaaRows
import Derived.WalkKit
import Derived.ProofKit
import Derived.OpenShut
import Derived.Test.YtemeahbggidbkaaOpn
namespace Go.Proofs.Ytemeahbggidbkaa.rateNumbers
open Go.Proofs.Ytemeahbggidbkaa.Own Go.Proofs.Ytemeahbggidbkaa.Fl
open Go.ChangeShapes Go.WideShapes Go.ChangeAt Go.RowKit
open Ieee (double)
set_option linter.unusedVariables false

theorem own : ownKnob Try.prog.godebug = none := by kernel_rfl

theorem cmp_nan {a b : Nat} (ha : isNaN a = true) (hb : isNaN b = false) : cmp a b = 1 := by
  have h1 := Fl.key_nan ha
  have h2 := key_lt_nan hb
  unfold cmp; rw [h1, if_neg (by omega), if_pos h2]
theorem cmp_nans {a b : Nat} (ha : isNaN a = true) (hb : isNaN b = true) : cmp a b = 0 := by
  have h1 := Fl.key_nan ha
  have h2 := Fl.key_nan hb
  unfold cmp; rw [h1, h2, if_neg (by omega), if_neg (by omega)]
theorem cmp_to_nan {a b : Nat} (ha : isNaN a = false) (hb : isNaN b = true) : cmp a b = -1 := by
  rw [cmp_neg, cmp_nan hb ha]
theorem cmp_gt {a b : Nat} (h : flt b a = true) : cmp a b = 1 := by
  rw [cmp_neg, flt_cmp h]; rfl
theorem flt_not {a b : Nat} (h : flt a b = true) : flt b a = false := by
  unfold flt at *
  simp only [Bool.and_eq_true, Bool.not_eq_true', decide_eq_true_eq] at h
  rw [h.1.1, h.1.2]; simp; omega
theorem eq_self' (x : Nat) : (FloatKind.f64.format.order x x == some .eq) = !isNaN x := by rw [eq_feq, feq_self]
set_option maxHeartbeats 4000000 in
theorem walk (a0 : Nat) (h0 : a0 < 18446744073709551616) (a1 : Nat) (h1 : a1 < 18446744073709551616) (w : World) :
    Calls Try.prog 7 #[.float .f64 a0, .float .f64 a1] w fun e w' => e = .returned (.bool true) ∧ Below w.heap.size w w' := by
  have C1 := Lib.hid (compare_any a0 a1 h0 h1)
  have n0 := neq_self a0
  have n1 := neq_self a1
  have m0 := eq_self' a0
  have m1 := eq_self' a1
  have l := lt_flt a0 a1
  have g := gt_flt a0 a1
  clear h0 h1
  cases e0 : isNaN a0 <;> cases e1 : isNaN a1 <;> rw [e0] at n0 m0 <;> rw [e1] at n1 m1
  · cases el : flt a0 a1
    · cases eg : flt a1 a0
      · rw [el] at l
        rw [eg] at g
        clear el eg e0 e1
        go_enter Try.func7, Try.ntmps7
        go_wp2_with fail
        refine (lives_any _).mono ?_
        rintro e w1 ⟨rfl, hb⟩
        go_wp2
        go_ret
        exact ⟨rfl, hb⟩
      · rw [el] at l
        rw [cmp_gt eg] at C1
        rw [eg] at g
        clear el eg e0 e1
        go_enter Try.func7, Try.ntmps7
        go_wp2_with fail
        refine (lives_any _).mono ?_
        rintro e w1 ⟨rfl, hb⟩
        go_wp2_with fail
        refine (C1.out _).mono ?_
        rintro e w' ⟨rfl, rfl⟩
        go_wp2
        go_ret
        exact ⟨rfl, hb⟩
    · rw [flt_cmp el] at C1
      rw [el] at l
      clear el e0 e1
      go_enter Try.func7, Try.ntmps7
      go_wp2_with fail
      refine (lives_any _).mono ?_
      rintro e w1 ⟨rfl, hb⟩
      go_wp2_with fail
      refine (C1.out _).mono ?_
      rintro e w' ⟨rfl, rfl⟩
      go_wp2
      go_ret
      exact ⟨rfl, hb⟩
  · rw [cmp_to_nan e0 e1] at C1
    clear l g e0 e1
    go_enter Try.func7, Try.ntmps7
    go_wp2_with fail
    refine (lives_any _).mono ?_
    rintro e w1 ⟨rfl, hb⟩
    go_wp2_with fail
    refine (C1.out _).mono ?_
    rintro e w' ⟨rfl, rfl⟩
    go_wp2
    go_ret
    exact ⟨rfl, hb⟩
  · rw [cmp_nan e0 e1] at C1
    clear l g e0 e1
    go_enter Try.func7, Try.ntmps7
    go_wp2_with fail
    refine (lives_any _).mono ?_
    rintro e w1 ⟨rfl, hb⟩
    go_wp2_with fail
    refine (C1.out _).mono ?_
    rintro e w' ⟨rfl, rfl⟩
    go_wp2
    go_ret
    exact ⟨rfl, hb⟩
  · rw [cmp_nans e0 e1] at C1
    clear l g e0 e1
    go_enter Try.func7, Try.ntmps7
    go_wp2_with fail
    refine (lives_any _).mono ?_
    rintro e w1 ⟨rfl, hb⟩
    go_wp2_with fail
    refine (C1.out _).mono ?_
    rintro e w' ⟨rfl, rfl⟩
    go_wp2
    go_ret
    exact ⟨rfl, hb⟩

set_option maxRecDepth 100000 in
theorem lifted (os : Os) (started : os.Started) (H : Type) (enc : TypeId × Value → H) :
    ReturnsInHanded {} Try.checked os 7 .any (Rows.rateNumbersSpec.pre6 enc Try.prog Try.f7 Rows.rateNumbersRow.domain false) (Rows.rateNumbersSpec.post enc Try.prog Try.f7 false true false false) := by
  refine returnsInHanded_of_change_sized (C := Try.checked) own started (by kernel_rfl) Try.func7
    (ChangeSpec.witness6 (enc := enc) (C := Try.checked) false ⟨#[], #[.float .f64 0, .float .f64 0], []⟩ 8 (by kernel_rfl) (by kernel_rfl) (by kernel_rfl) (by kernel_rfl)) ?_
  intro W base args ds gs before hval0 hW hcnd hsz0 _
  have hsz : (DataW.weightsEach Try.prog (Try.f7.params.toList ++ Rows.rateNumbersSpec.plain.varTypes Try.prog) (ds ++ gs)).all (· ≤ reachBytes) = true := hsz0
  have hval : ∀ (j : Nat) t v, Try.f7.params[j]? = some t → args[j]? = some v → Value.okWide Try.prog W .any base t v := hval0
  have hW' := hW
  obtain ⟨p, q, hA0, hV, rfl, hfz, hnd⟩ := hW
  have hA : DataW.TrodAll enc Try.prog W 0 (fun _ => true) true Try.f7.params.toList args.toList ds p := hA0
  rw [Try.params7] at hA hval hsz
  obtain ⟨v0, vs0, d0, ds0, p0, q0, hargs, rfl, rfl, h0, r0⟩ := trodAll_cons hA
  obtain ⟨v1, vs1, d1, ds1, p1, q1, rfl, rfl, rfl, h1, r1⟩ := trodAll_cons r0
  obtain ⟨rfl, rfl, rfl⟩ := trodAll_nil r1
  obtain rfl : args = #[v0, v1] := by cases args; simp_all
  obtain ⟨rfl, rfl⟩ := trodVars_none hV
  obtain ⟨a0, rfl, rfl, rfl, w0⟩ := open_float Try.underlying23 (hval 0 23 v0 rfl rfl) h0
  obtain ⟨a1, rfl, rfl, rfl, w1⟩ := open_float Try.underlying23 (hval 1 23 v1 rfl rfl) h1
  clear hA0 hval0 hsz0
  refine (walk a0 (wf_lt w0) a1 (wf_lt w1) W).mono fun e W' ⟨he, hg⟩ => ?_
  subst he
  exact ⟨_, rfl, _, _, _, [], _, [], hW', trodAll_mk1 (shut_bool Try.underlying4 _), (trodAll_cons_mk (shut_float Try.underlying23 w0) (trodAll_cons_mk (shut_float Try.underlying23 w1) trodAll_mk0)), rfl, hg.frame _, fun h => by cases h⟩

theorem over : Rows.rateNumbersRow.holds Try.pinned (OpenSpec.ofChange Rows.rateNumbersSpec) :=
  OpenClaim.holds_of_wide 7 Try.f7 rfl rfl rfl rfl rfl rfl rfl ⟨rfl, rfl, rfl, rfl, rfl⟩ rfl rfl rfl rfl rfl (by kernel_rfl) Try.func7 (by kernel_rfl)
    (of_decide_eq_true (by kernel_rfl)) (by unfold Func.isWrapper; first | (rw [if_pos (by decide +kernel)]; kernel_rfl) | (rw [if_neg (by decide +kernel)]; exact ⟨rfl, rfl⟩))
    (fun os started H enc _ => lifted os started H enc)

/-- The statement. -/
theorem proved : Rows.RateNumbersSaid :=
  over
end Go.Proofs.Ytemeahbggidbkaa.rateNumbers
namespace Go.Proofs.Ytemeahbggidbkaa
/-- The row, under a short name. -/
theorem rateNumbers_holds : Rows.RateNumbersSaid := rateNumbers.proved
#print axioms rateNumbers_holds
end Go.Proofs.Ytemeahbggidbkaa
