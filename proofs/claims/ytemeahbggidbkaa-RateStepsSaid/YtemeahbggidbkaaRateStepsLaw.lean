/- How many steps any rate lets: no more than it says, none fewer, none above the most. No condition. -/
import Derived.Test.YtemeahbggidbkaaRows
import Derived.WalkKit
import Derived.ProofKit
import Derived.OpenShut
import Derived.Test.YtemeahbggidbkaaOpn
namespace Go.Proofs.Ytemeahbggidbkaa.rateSteps
open Go.Proofs.Ytemeahbggidbkaa.Own Go.Proofs.Ytemeahbggidbkaa.Fl
open Go.ChangeShapes Go.WideShapes Go.ChangeAt Go.RowKit
open Ieee (double)
set_option linter.unusedVariables false

theorem own : ownKnob Try.prog.godebug = none := by kernel_rfl

theorem fin_int {n : Nat} (hn : n < 9223372036854775808) : fin (ofI n) = true := by
  have hb : (n : Rat) ≤ top := by
    have h1 : (n : Rat) < p2 63 := by
      have := p2_nat 63
      have e2 : p2 63 = ((9223372036854775808 : Nat) : Rat) := this
      rw [e2]; exact Rat.natCast_lt_natCast.2 hn
    have h2 := p2_le (show (63 : Int) ≤ 1023 by decide)
    have h3 := top_bd
    grind
  have h0 := Rat.natCast_nonneg (a := n)
  exact (ofNat_rd n).fin hb (by grind)
theorem one_more {n : Nat} {x : Nat} (hn : n < 9223372036854775808) (h : fv x < (n : Rat) + 1) : ∃ z p q, double.add (ofI n) c1 = some z ∧ flt z x = p ∧ feq z x = q ∧ (4503599627370496 ≤ n ∨ p = false ∧ q = false) := by
  obtain ⟨z, hz, _⟩ := add_fin (fin_int hn) c1_fin
  refine ⟨z, _, _, hz, rfl, rfl, ?_⟩
  by_cases h5 : n < 4503599627370496
  · right
    have := whole_more h5 h hz
    rw [← fle_eq] at this
    simpa using this
  · left; omega
set_option maxHeartbeats 4000000 in
theorem walk (a0 : Nat) (h0 : a0 < 18446744073709551616) (a1 : Int) (w1 : (Lit.int .i64 a1).wf = true) (w : World) :
    Calls Try.prog 9 #[.float .f64 a0, .int .i64 a1] w fun e w' => e = .returned (.bool true) ∧ Below w.heap.size w w' := by
  simp only [Lit.wf, Bool.and_eq_true, decide_eq_true_eq] at w1
  have hm : a1 ≤ 9223372036854775807 := w1.2
  clear w1
  have S := steps_any a0 h0 a1 hm
  have cv := fun n w => run_convert_int_float (P := Try.prog) (w := w) 3 23 .i64 .f64 n (by kernel_rfl) Try.underlying23
  have e1 := ofI_eq a1
  have n0 := neq_self a0
  have l0 := lt_flt a0 0
  have q0 := eq_feq a0 0
  have l1 := lt_flt a0 (ofI a1)
  by_cases g1 : a1 ≤ 0
  · have hs : stV a0 a1 = 0 := by unfold stV; rw [if_pos g1]
    rw [hs] at S
    have SS := Lib.hid S
    clear S hs n0 l0 q0 l1 h0 hm
    go_enter Try.func9, Try.ntmps9
    go_wp2_with fail
    refine (SS.out _).mono ?_
    rintro e w' ⟨rfl, rfl⟩
    go_wp2_with fail
    refine (lives_any _).mono ?_
    rintro e w1 ⟨rfl, hb⟩
    go_wp2
    go_ret
    exact ⟨rfl, hb⟩
  · cases g2 : flt 0 a0
    · have hs : stV a0 a1 = 0 := by unfold stV; rw [if_neg g1, if_pos g2]
      rw [hs] at S
      have SS := Lib.hid S
      cases g3 : isNaN a0
      · have h4 : (flt a0 0 || feq a0 0) = true := by
          rw [fle_eq]
          unfold flt at g2; unfold fle
          have z : isNaN 0 = false := by decide
          rw [z, g3] at g2 ⊢
          simp at g2 ⊢; exact g2
        rw [g3] at n0
        cases g4 : flt a0 0
        · rw [g4, Bool.false_or] at h4
          rw [g4] at l0
          rw [h4] at q0
          clear S hs l1 h0 hm h4 g4 g3 g2
          go_enter Try.func9, Try.ntmps9
          go_wp2_with fail
          refine (SS.out _).mono ?_
          rintro e w' ⟨rfl, rfl⟩
          go_wp2_with fail
          refine (lives_any _).mono ?_
          rintro e w1 ⟨rfl, hb⟩
          go_wp2
          go_ret
          exact ⟨rfl, hb⟩
        · rw [g4] at l0
          clear S hs l1 h0 hm h4 g4 g3 g2 q0
          go_enter Try.func9, Try.ntmps9
          go_wp2_with fail
          refine (SS.out _).mono ?_
          rintro e w' ⟨rfl, rfl⟩
          go_wp2_with fail
          refine (lives_any _).mono ?_
          rintro e w1 ⟨rfl, hb⟩
          go_wp2
          go_ret
          exact ⟨rfl, hb⟩
      · rw [g3] at n0
        clear S hs l1 h0 hm l0 q0 g3 g2
        go_enter Try.func9, Try.ntmps9
        go_wp2_with fail
        refine (SS.out _).mono ?_
        rintro e w' ⟨rfl, rfl⟩
        go_wp2_with fail
        refine (lives_any _).mono ?_
        rintro e w1 ⟨rfl, hb⟩
        go_wp2
        go_ret
        exact ⟨rfl, hb⟩
    · have g3 := (flt_of g2).2.1
      rw [g3] at n0
      have h4 : flt a0 0 = false ∧ feq a0 0 = false := by
        have h5 := (flt_of g2).2.2
        unfold flt feq
        rw [decide_eq_false (show ¬ sv a0 < sv 0 by omega), decide_eq_false (show ¬ sv a0 = sv 0 by omega)]
        simp
      rw [h4.1] at l0
      rw [h4.2] at q0
      cases g5 : fle (ofI a1) a0
      · obtain ⟨n, hs, _, hn, hf, k1, k2, k3⟩ := stV_in h0 (by omega) g2 g5
        obtain ⟨z, p, q, hz, hp, hq, hpq⟩ := one_more (by omega) k2
        have e2 := ofI_eq n
        have t1 := gt_flt (ofI n) a0
        rw [show flt a0 (ofI n) = false from whole_le h0 hf k1] at t1
        have t2 := lt_flt z a0
        have t3 := eq_feq z a0
        rw [hp] at t2
        rw [hq] at t3
        rw [k3] at l1
        rw [hs] at S
        have SS := Lib.hid S
        have hadd := fun w => run_arith_some (op := .add) (x := ofI n) (y := 4607182418800017408) (r := z) hz 23 w
        clear S hs h0 hm g2 g3 h4 g5 hf k1 k2 k3 hz hp hq
        go_enter Try.func9, Try.ntmps9
        go_wp2_with fail
        refine (SS.out _).mono ?_
        rintro e w' ⟨rfl, rfl⟩
        go_wp2_with fail
        refine (lives_any _).mono ?_
        rintro e w1 ⟨rfl, hb⟩
        rcases hpq with hpq | ⟨rfl, rfl⟩
        · cases p <;> cases q <;> go_wp2 <;> go_ret <;> exact ⟨rfl, hb⟩
        · go_wp2
          go_ret
          exact ⟨rfl, hb⟩
      · have hs : stV a0 a1 = a1 := by unfold stV; rw [if_neg g1, g2, g5]; rfl
        rw [hs] at S
        have SS := Lib.hid S
        have h6 : flt a0 (ofI a1) = false := by
          unfold fle at g5; unfold flt
          simp only [Bool.and_eq_true, Bool.not_eq_true', decide_eq_true_eq] at g5
          rw [decide_eq_false (show ¬ sv a0 < sv (ofI a1) by omega)]; simp
        rw [h6] at l1
        clear S hs h0 hm g2 g3 h4 g5 h6
        go_enter Try.func9, Try.ntmps9
        go_wp2_with fail
        refine (SS.out _).mono ?_
        rintro e w' ⟨rfl, rfl⟩
        go_wp2_with fail
        refine (lives_any _).mono ?_
        rintro e w1 ⟨rfl, hb⟩
        go_wp2
        go_ret
        exact ⟨rfl, hb⟩

set_option maxRecDepth 100000 in
theorem lifted (os : Os) (started : os.Started) (H : Type) (enc : TypeId × Value → H) :
    ReturnsInHanded {} Try.checked os 9 .any (Rows.rateStepsSpec.pre6 enc Try.prog Try.f9 Rows.rateStepsRow.domain false) (Rows.rateStepsSpec.post enc Try.prog Try.f9 false true false false) := by
  refine returnsInHanded_of_change_sized (C := Try.checked) own started (by kernel_rfl) Try.func9
    (ChangeSpec.witness6 (enc := enc) (C := Try.checked) false ⟨#[], #[.float .f64 0, .int .i64 0], []⟩ 8 (by kernel_rfl) (by kernel_rfl) (by kernel_rfl) (by kernel_rfl)) ?_
  intro W base args ds gs before hval0 hW hcnd hsz0 _
  have hsz : (DataW.weightsEach Try.prog (Try.f9.params.toList ++ Rows.rateStepsSpec.plain.varTypes Try.prog) (ds ++ gs)).all (· ≤ reachBytes) = true := hsz0
  have hval : ∀ (j : Nat) t v, Try.f9.params[j]? = some t → args[j]? = some v → Value.okWide Try.prog W .any base t v := hval0
  have hW' := hW
  obtain ⟨p, q, hA0, hV, rfl, hfz, hnd⟩ := hW
  have hA : DataW.TrodAll enc Try.prog W 0 (fun _ => true) true Try.f9.params.toList args.toList ds p := hA0
  rw [Try.params9] at hA hval hsz
  obtain ⟨v0, vs0, d0, ds0, p0, q0, hargs, rfl, rfl, h0, r0⟩ := trodAll_cons hA
  obtain ⟨v1, vs1, d1, ds1, p1, q1, rfl, rfl, rfl, h1, r1⟩ := trodAll_cons r0
  obtain ⟨rfl, rfl, rfl⟩ := trodAll_nil r1
  obtain rfl : args = #[v0, v1] := by cases args; simp_all
  obtain ⟨rfl, rfl⟩ := trodVars_none hV
  obtain ⟨a0, rfl, rfl, rfl, w0⟩ := open_float Try.underlying23 (hval 0 23 v0 rfl rfl) h0
  obtain ⟨a1, rfl, rfl, rfl, w1⟩ := open_int Try.underlying3 (hval 1 3 v1 rfl rfl) h1
  clear hA0 hval0 hsz0
  refine (walk a0 (wf_lt w0) a1 w1 W).mono fun e W' ⟨he, hg⟩ => ?_
  subst he
  exact ⟨_, rfl, _, _, _, [], _, [], hW', trodAll_mk1 (shut_bool Try.underlying4 _), (trodAll_cons_mk (shut_float Try.underlying23 w0) (trodAll_cons_mk (shut_int Try.underlying3 w1) trodAll_mk0)), rfl, hg.frame _, fun h => by cases h⟩

theorem over : Rows.rateStepsRow.holds Try.pinned (OpenSpec.ofChange Rows.rateStepsSpec) :=
  OpenClaim.holds_of_wide 9 Try.f9 rfl rfl rfl rfl rfl rfl rfl ⟨rfl, rfl, rfl, rfl, rfl⟩ rfl rfl rfl rfl rfl (by kernel_rfl) Try.func9 (by kernel_rfl)
    (of_decide_eq_true (by kernel_rfl)) (by unfold Func.isWrapper; first | (rw [if_pos (by decide +kernel)]; kernel_rfl) | (rw [if_neg (by decide +kernel)]; exact ⟨rfl, rfl⟩))
    (fun os started H enc _ => lifted os started H enc)

/-- The statement. -/
theorem proved : Rows.RateStepsSaid :=
  over
end Go.Proofs.Ytemeahbggidbkaa.rateSteps
namespace Go.Proofs.Ytemeahbggidbkaa
/-- The row, under a short name. -/
theorem rateSteps_holds : Rows.RateStepsSaid := rateSteps.proved
#print axioms rateSteps_holds
end Go.Proofs.Ytemeahbggidbkaa
