/- What is smoothed of numbers that are not greater than some lies between the old one and the new one. No condition. -/
import Derived.Test.YtemeahbggidbkaaRows
import Derived.WalkKit
import Derived.ProofKit
import Derived.OpenShut
import Derived.Test.YtemeahbggidbkaaOpn
import Derived.Test.YtemeahbggidbkaaBtw
namespace Go.Proofs.Ytemeahbggidbkaa.rateBetween
open Go.Proofs.Ytemeahbggidbkaa.Own Go.Proofs.Ytemeahbggidbkaa.Fl
open Go.ChangeShapes Go.WideShapes Go.ChangeAt Go.RowKit
open Ieee (double)
set_option linter.unusedVariables false

theorem own : ownKnob Try.prog.godebug = none := by kernel_rfl

theorem or_cases {p q : Bool} (h : (p || q) = true) : p = true ∨ p = false ∧ q = true := by cases p <;> simp_all
set_option maxHeartbeats 16000000 in
theorem walk (a0 : Nat) (h0 : a0 < 18446744073709551616) (a1 : Nat) (h1 : a1 < 18446744073709551616) (a2 : Nat) (h2 : a2 < 18446744073709551616) (w : World) :
    Calls Try.prog 5 #[.float .f64 a0, .float .f64 a1, .float .f64 a2] w fun e w' => e = .returned (.bool true) ∧ Below w.heap.size w w' := by
  have SS := Lib.hid (smooth_any a0 a1 a2 h0 h1)
  have n0 := neq_self a0
  have n1 := neq_self a1
  have n2 := neq_self a2
  have l1 := gt_flt a0 9094988921128908188
  have l2 := lt_flt a0 18318360957983683996
  have l3 := gt_flt a1 9094988921128908188
  have l4 := lt_flt a1 18318360957983683996
  have l5 := gt_flt a0 a1
  rcases Bool.eq_false_or_eq_true (isNaN a0) with e0 | e0
  · rw [e0] at n0
    clear n1 n2 l1 l2 l3 l4 l5 h0 h1 h2 e0
    go_enter Try.func5, Try.ntmps5
    go_wp2_with fail
    refine (SS.out _).mono ?_
    rintro e w' ⟨r, rfl, hr, d, rfl⟩
    have HR := Lib.hid hr
    clear hr
    go_wp2_with fail
    refine (lives_any _).mono ?_
    rintro e w1 ⟨rfl, hb⟩
    go_wp2
    go_ret
    exact ⟨rfl, (bdrewN (Below.refl _ _) _).trans (hb.mono (by simp))⟩
  · rw [e0] at n0
    rcases Bool.eq_false_or_eq_true (isNaN a1) with e1 | e1
    · rw [e1] at n1
      clear n2 l1 l2 l3 l4 l5 h0 h1 h2 e0 e1
      go_enter Try.func5, Try.ntmps5
      go_wp2_with fail
      refine (SS.out _).mono ?_
      rintro e w' ⟨r, rfl, hr, d, rfl⟩
      have HR := Lib.hid hr
      clear hr
      go_wp2_with fail
      refine (lives_any _).mono ?_
      rintro e w1 ⟨rfl, hb⟩
      go_wp2
      go_ret
      exact ⟨rfl, (bdrewN (Below.refl _ _) _).trans (hb.mono (by simp))⟩
    · rw [e1] at n1
      rcases Bool.eq_false_or_eq_true (isNaN a2) with e2 | e2
      · rw [e2] at n2
        clear l1 l2 l3 l4 l5 h0 h1 h2 e0 e1 e2
        go_enter Try.func5, Try.ntmps5
        go_wp2_with fail
        refine (SS.out _).mono ?_
        rintro e w' ⟨r, rfl, hr, d, rfl⟩
        have HR := Lib.hid hr
        clear hr
        go_wp2_with fail
        refine (lives_any _).mono ?_
        rintro e w1 ⟨rfl, hb⟩
        go_wp2
        go_ret
        exact ⟨rfl, (bdrewN (Below.refl _ _) _).trans (hb.mono (by simp))⟩
      · rw [e2] at n2
        rcases Bool.eq_false_or_eq_true (flt 9094988921128908188 a0) with e3 | e3
        · rw [e3] at l1
          clear l2 l3 l4 l5 h0 h1 h2 e0 e1 e2 e3
          go_enter Try.func5, Try.ntmps5
          go_wp2_with fail
          refine (SS.out _).mono ?_
          rintro e w' ⟨r, rfl, hr, d, rfl⟩
          have HR := Lib.hid hr
          clear hr
          go_wp2_with fail
          refine (lives_any _).mono ?_
          rintro e w1 ⟨rfl, hb⟩
          go_wp2
          go_ret
          exact ⟨rfl, (bdrewN (Below.refl _ _) _).trans (hb.mono (by simp))⟩
        · rw [e3] at l1
          rcases Bool.eq_false_or_eq_true (flt a0 18318360957983683996) with e4 | e4
          · rw [e4] at l2
            clear l3 l4 l5 h0 h1 h2 e0 e1 e2 e3 e4
            go_enter Try.func5, Try.ntmps5
            go_wp2_with fail
            refine (SS.out _).mono ?_
            rintro e w' ⟨r, rfl, hr, d, rfl⟩
            have HR := Lib.hid hr
            clear hr
            go_wp2_with fail
            refine (lives_any _).mono ?_
            rintro e w1 ⟨rfl, hb⟩
            go_wp2
            go_ret
            exact ⟨rfl, (bdrewN (Below.refl _ _) _).trans (hb.mono (by simp))⟩
          · rw [e4] at l2
            rcases Bool.eq_false_or_eq_true (flt 9094988921128908188 a1) with e5 | e5
            · rw [e5] at l3
              clear l4 l5 h0 h1 h2 e0 e1 e2 e3 e4 e5
              go_enter Try.func5, Try.ntmps5
              go_wp2_with fail
              refine (SS.out _).mono ?_
              rintro e w' ⟨r, rfl, hr, d, rfl⟩
              have HR := Lib.hid hr
              clear hr
              go_wp2_with fail
              refine (lives_any _).mono ?_
              rintro e w1 ⟨rfl, hb⟩
              go_wp2
              go_ret
              exact ⟨rfl, (bdrewN (Below.refl _ _) _).trans (hb.mono (by simp))⟩
            · rw [e5] at l3
              rcases Bool.eq_false_or_eq_true (flt a1 18318360957983683996) with e6 | e6
              · rw [e6] at l4
                clear l5 h0 h1 h2 e0 e1 e2 e3 e4 e5 e6
                go_enter Try.func5, Try.ntmps5
                go_wp2_with fail
                refine (SS.out _).mono ?_
                rintro e w' ⟨r, rfl, hr, d, rfl⟩
                have HR := Lib.hid hr
                clear hr
                go_wp2_with fail
                refine (lives_any _).mono ?_
                rintro e w1 ⟨rfl, hb⟩
                go_wp2
                go_ret
                exact ⟨rfl, (bdrewN (Below.refl _ _) _).trans (hb.mono (by simp))⟩
              · rw [e6] at l4
                have B : ∀ r, Is (smO a0 a1 a2) r → _ := fun r hr => between (wt := a2) (r := r) h0 h1 e0 e1 e3 e4 e5 e6 hr
                clear h0 h1 h2 e0 e1 e2 e3 e4 e5 e6
                cases g : flt a1 a0
                · rw [g] at l5
                  go_enter Try.func5, Try.ntmps5
                  go_wp2_with fail
                  refine (SS.out _).mono ?_
                  rintro e w' ⟨r, rfl, hr, d, rfl⟩
                  have HR := Lib.hid hr
                  clear hr
                  go_wp2_with fail
                  refine (lives_any _).mono ?_
                  rintro e w1 ⟨rfl, hb⟩
                  obtain ⟨s3, b3, BB, y1, y2⟩ := (B r HR.out).2 g
                  obtain ⟨t1, t2, t3, t4, t5, s1, s2, m1, u1, u2, m2, f1, f2, f3, f4, f5, f6, f7, f8, f9, f10, f11, f12, f13⟩ := BB.ex
                  have x1 := gt_flt r s3
                  have x2 := eq_feq r s3
                  have x3 := lt_flt r b3
                  have x4 := eq_feq r b3
                  have x5 := lt_flt t5 0
                  rw [← fge_eq r s3] at y1
                  rw [← fle_eq r b3] at y2
                  have ng := run_neg t5
                  have A1 := Lib.hid (abs_any a0)
                  have A2 := Lib.hid (abs_any a1)
                  obtain ⟨z1, hz1⟩ : ∃ z, absW a0 = z := ⟨_, rfl⟩
                  obtain ⟨z2, hz2⟩ : ∃ z, absW a1 = z := ⟨_, rfl⟩
                  rw [hz1] at f8 A1
                  rw [hz2] at f12 A2
                  obtain ⟨p1, hp1⟩ : ∃ z, flt s3 r = z := ⟨_, rfl⟩
                  obtain ⟨p2, hp2⟩ : ∃ z, feq r s3 = z := ⟨_, rfl⟩
                  obtain ⟨p3, hp3⟩ : ∃ z, flt r b3 = z := ⟨_, rfl⟩
                  obtain ⟨p4, hp4⟩ : ∃ z, feq r b3 = z := ⟨_, rfl⟩
                  rw [hp1] at x1 y1
                  rw [hp2] at x2 y1
                  rw [hp3] at x3 y2
                  rw [hp4] at x4 y2
                  clear hp1 hp2 hp3 hp4 hz1 hz2 BB B HR g
                  have q1 := fun w => run_arith_some (op := .sub) (x := a1) (y := a0) (r := t1) f1 23 w
                  have q2 := fun w => run_arith_some (op := .mul) (x := t1) (y := 4472406533629990549) (r := t2) f2 23 w
                  have q3 := fun w => run_arith_some (op := .add) (x := a1) (y := 118622047889322841) (r := t3) f3 23 w
                  have q4 := fun w => run_arith_some (op := .mul) (x := t3) (y := 4472406533629990549) (r := t4) f4 23 w
                  have q5 := fun w => run_arith_some (op := .add) (x := t2) (y := t4) (r := t5) f5 23 w
                  have q7 := fun w => run_arith_some (op := .sub) (x := s1) (y := 4472406533629990549) (r := s2) f7 23 w
                  have q8 := fun w => run_arith_some (op := .mul) (x := z1) (y := 4472406533629990549) (r := m1) f8 23 w
                  have q9 := fun w => run_arith_some (op := .sub) (x := s2) (y := m1) (r := s3) f9 23 w
                  have q11 := fun w => run_arith_some (op := .add) (x := u1) (y := 4472406533629990549) (r := u2) f11 23 w
                  have q12 := fun w => run_arith_some (op := .mul) (x := z2) (y := 4472406533629990549) (r := m2) f12 23 w
                  have q13 := fun w => run_arith_some (op := .add) (x := u2) (y := m2) (r := b3) f13 23 w
                  clear f1 f2 f3 f4 f5 f7 f8 f9 f11 f12 f13
                  cases k : flt t5 0
                  · have hs : absW t5 = t5 := by unfold absW; rw [k]; rfl
                    rw [hs] at f6 f10
                    rw [k] at x5
                    have q6 := fun w => run_arith_some (op := .sub) (x := a0) (y := t5) (r := s1) f6 23 w
                    have q10 := fun w => run_arith_some (op := .add) (x := a1) (y := t5) (r := u1) f10 23 w
                    clear f6 f10 hs k
                    rcases or_cases y1 with rfl | ⟨rfl, rfl⟩ <;> rcases or_cases y2 with rfl | ⟨rfl, rfl⟩ <;> clear y1 y2
                    all_goals
                      go_wp2_with fail
                      refine (A1.out _).mono ?_
                      rintro e w' ⟨rfl, rfl⟩
                      go_wp2_with fail
                      refine (A2.out _).mono ?_
                      rintro e w' ⟨rfl, rfl⟩
                      go_wp2
                      go_ret
                      exact ⟨rfl, (bdrewN (Below.refl _ _) _).trans (hb.mono (by simp))⟩
                  · have hs : absW t5 = neg t5 := by unfold absW; rw [k]; rfl
                    rw [hs] at f6 f10
                    rw [k] at x5
                    have q6 := fun w => run_arith_some (op := .sub) (x := a0) (y := neg t5) (r := s1) f6 23 w
                    have q10 := fun w => run_arith_some (op := .add) (x := a1) (y := neg t5) (r := u1) f10 23 w
                    clear f6 f10 hs k
                    rcases or_cases y1 with rfl | ⟨rfl, rfl⟩ <;> rcases or_cases y2 with rfl | ⟨rfl, rfl⟩ <;> clear y1 y2
                    all_goals
                      go_wp2_with fail
                      refine (A1.out _).mono ?_
                      rintro e w' ⟨rfl, rfl⟩
                      go_wp2_with fail
                      refine (A2.out _).mono ?_
                      rintro e w' ⟨rfl, rfl⟩
                      go_wp2
                      go_ret
                      exact ⟨rfl, (bdrewN (Below.refl _ _) _).trans (hb.mono (by simp))⟩
                · rw [g] at l5
                  go_enter Try.func5, Try.ntmps5
                  go_wp2_with fail
                  refine (SS.out _).mono ?_
                  rintro e w' ⟨r, rfl, hr, d, rfl⟩
                  have HR := Lib.hid hr
                  clear hr
                  go_wp2_with fail
                  refine (lives_any _).mono ?_
                  rintro e w1 ⟨rfl, hb⟩
                  obtain ⟨s3, b3, BB, y1, y2⟩ := (B r HR.out).1 g
                  obtain ⟨t1, t2, t3, t4, t5, s1, s2, m1, u1, u2, m2, f1, f2, f3, f4, f5, f6, f7, f8, f9, f10, f11, f12, f13⟩ := BB.ex
                  have x1 := gt_flt r s3
                  have x2 := eq_feq r s3
                  have x3 := lt_flt r b3
                  have x4 := eq_feq r b3
                  have x5 := lt_flt t5 0
                  rw [← fge_eq r s3] at y1
                  rw [← fle_eq r b3] at y2
                  have ng := run_neg t5
                  have A1 := Lib.hid (abs_any a1)
                  have A2 := Lib.hid (abs_any a0)
                  obtain ⟨z1, hz1⟩ : ∃ z, absW a1 = z := ⟨_, rfl⟩
                  obtain ⟨z2, hz2⟩ : ∃ z, absW a0 = z := ⟨_, rfl⟩
                  rw [hz1] at f8 A1
                  rw [hz2] at f12 A2
                  obtain ⟨p1, hp1⟩ : ∃ z, flt s3 r = z := ⟨_, rfl⟩
                  obtain ⟨p2, hp2⟩ : ∃ z, feq r s3 = z := ⟨_, rfl⟩
                  obtain ⟨p3, hp3⟩ : ∃ z, flt r b3 = z := ⟨_, rfl⟩
                  obtain ⟨p4, hp4⟩ : ∃ z, feq r b3 = z := ⟨_, rfl⟩
                  rw [hp1] at x1 y1
                  rw [hp2] at x2 y1
                  rw [hp3] at x3 y2
                  rw [hp4] at x4 y2
                  clear hp1 hp2 hp3 hp4 hz1 hz2 BB B HR g
                  have q1 := fun w => run_arith_some (op := .sub) (x := a0) (y := a1) (r := t1) f1 23 w
                  have q2 := fun w => run_arith_some (op := .mul) (x := t1) (y := 4472406533629990549) (r := t2) f2 23 w
                  have q3 := fun w => run_arith_some (op := .add) (x := a0) (y := 118622047889322841) (r := t3) f3 23 w
                  have q4 := fun w => run_arith_some (op := .mul) (x := t3) (y := 4472406533629990549) (r := t4) f4 23 w
                  have q5 := fun w => run_arith_some (op := .add) (x := t2) (y := t4) (r := t5) f5 23 w
                  have q7 := fun w => run_arith_some (op := .sub) (x := s1) (y := 4472406533629990549) (r := s2) f7 23 w
                  have q8 := fun w => run_arith_some (op := .mul) (x := z1) (y := 4472406533629990549) (r := m1) f8 23 w
                  have q9 := fun w => run_arith_some (op := .sub) (x := s2) (y := m1) (r := s3) f9 23 w
                  have q11 := fun w => run_arith_some (op := .add) (x := u1) (y := 4472406533629990549) (r := u2) f11 23 w
                  have q12 := fun w => run_arith_some (op := .mul) (x := z2) (y := 4472406533629990549) (r := m2) f12 23 w
                  have q13 := fun w => run_arith_some (op := .add) (x := u2) (y := m2) (r := b3) f13 23 w
                  clear f1 f2 f3 f4 f5 f7 f8 f9 f11 f12 f13
                  cases k : flt t5 0
                  · have hs : absW t5 = t5 := by unfold absW; rw [k]; rfl
                    rw [hs] at f6 f10
                    rw [k] at x5
                    have q6 := fun w => run_arith_some (op := .sub) (x := a1) (y := t5) (r := s1) f6 23 w
                    have q10 := fun w => run_arith_some (op := .add) (x := a0) (y := t5) (r := u1) f10 23 w
                    clear f6 f10 hs k
                    rcases or_cases y1 with rfl | ⟨rfl, rfl⟩ <;> rcases or_cases y2 with rfl | ⟨rfl, rfl⟩ <;> clear y1 y2
                    all_goals
                      go_wp2_with fail
                      refine (A1.out _).mono ?_
                      rintro e w' ⟨rfl, rfl⟩
                      go_wp2_with fail
                      refine (A2.out _).mono ?_
                      rintro e w' ⟨rfl, rfl⟩
                      go_wp2
                      go_ret
                      exact ⟨rfl, (bdrewN (Below.refl _ _) _).trans (hb.mono (by simp))⟩
                  · have hs : absW t5 = neg t5 := by unfold absW; rw [k]; rfl
                    rw [hs] at f6 f10
                    rw [k] at x5
                    have q6 := fun w => run_arith_some (op := .sub) (x := a1) (y := neg t5) (r := s1) f6 23 w
                    have q10 := fun w => run_arith_some (op := .add) (x := a0) (y := neg t5) (r := u1) f10 23 w
                    clear f6 f10 hs k
                    rcases or_cases y1 with rfl | ⟨rfl, rfl⟩ <;> rcases or_cases y2 with rfl | ⟨rfl, rfl⟩ <;> clear y1 y2
                    all_goals
                      go_wp2_with fail
                      refine (A1.out _).mono ?_
                      rintro e w' ⟨rfl, rfl⟩
                      go_wp2_with fail
                      refine (A2.out _).mono ?_
                      rintro e w' ⟨rfl, rfl⟩
                      go_wp2
                      go_ret
                      exact ⟨rfl, (bdrewN (Below.refl _ _) _).trans (hb.mono (by simp))⟩

set_option maxRecDepth 100000 in
theorem lifted (os : Os) (started : os.Started) (H : Type) (enc : TypeId × Value → H) :
    ReturnsInHanded {} Try.checked os 5 .any (Rows.rateBetweenSpec.pre6 enc Try.prog Try.f5 Rows.rateBetweenRow.domain false) (Rows.rateBetweenSpec.post enc Try.prog Try.f5 false true false false) := by
  refine returnsInHanded_of_change_sized (C := Try.checked) own started (by kernel_rfl) Try.func5
    (ChangeSpec.witness6 (enc := enc) (C := Try.checked) false ⟨#[], #[.float .f64 0, .float .f64 0, .float .f64 0], []⟩ 8 (by kernel_rfl) (by kernel_rfl) (by kernel_rfl) (by kernel_rfl)) ?_
  intro W base args ds gs before hval0 hW hcnd hsz0 _
  have hsz : (DataW.weightsEach Try.prog (Try.f5.params.toList ++ Rows.rateBetweenSpec.plain.varTypes Try.prog) (ds ++ gs)).all (· ≤ reachBytes) = true := hsz0
  have hval : ∀ (j : Nat) t v, Try.f5.params[j]? = some t → args[j]? = some v → Value.okWide Try.prog W .any base t v := hval0
  have hW' := hW
  obtain ⟨p, q, hA0, hV, rfl, hfz, hnd⟩ := hW
  have hA : DataW.TrodAll enc Try.prog W 0 (fun _ => true) true Try.f5.params.toList args.toList ds p := hA0
  rw [Try.params5] at hA hval hsz
  obtain ⟨v0, vs0, d0, ds0, p0, q0, hargs, rfl, rfl, h0, r0⟩ := trodAll_cons hA
  obtain ⟨v1, vs1, d1, ds1, p1, q1, rfl, rfl, rfl, h1, r1⟩ := trodAll_cons r0
  obtain ⟨v2, vs2, d2, ds2, p2, q2, rfl, rfl, rfl, h2, r2⟩ := trodAll_cons r1
  obtain ⟨rfl, rfl, rfl⟩ := trodAll_nil r2
  obtain rfl : args = #[v0, v1, v2] := by cases args; simp_all
  obtain ⟨rfl, rfl⟩ := trodVars_none hV
  obtain ⟨a0, rfl, rfl, rfl, w0⟩ := open_float Try.underlying23 (hval 0 23 v0 rfl rfl) h0
  obtain ⟨a1, rfl, rfl, rfl, w1⟩ := open_float Try.underlying23 (hval 1 23 v1 rfl rfl) h1
  obtain ⟨a2, rfl, rfl, rfl, w2⟩ := open_float Try.underlying23 (hval 2 23 v2 rfl rfl) h2
  clear hA0 hval0 hsz0
  refine (walk a0 (wf_lt w0) a1 (wf_lt w1) a2 (wf_lt w2) W).mono fun e W' ⟨he, hg⟩ => ?_
  subst he
  exact ⟨_, rfl, _, _, _, [], _, [], hW', trodAll_mk1 (shut_bool Try.underlying4 _), (trodAll_cons_mk (shut_float Try.underlying23 w0) (trodAll_cons_mk (shut_float Try.underlying23 w1) (trodAll_cons_mk (shut_float Try.underlying23 w2) trodAll_mk0))), rfl, hg.frame _, fun h => by cases h⟩

theorem over : Rows.rateBetweenRow.holds Try.pinned (OpenSpec.ofChange Rows.rateBetweenSpec) :=
  OpenClaim.holds_of_wide 5 Try.f5 rfl rfl rfl rfl rfl rfl rfl ⟨rfl, rfl, rfl, rfl, rfl⟩ rfl rfl rfl rfl rfl (by kernel_rfl) Try.func5 (by kernel_rfl)
    (of_decide_eq_true (by kernel_rfl)) (by unfold Func.isWrapper; first | (rw [if_pos (by decide +kernel)]; kernel_rfl) | (rw [if_neg (by decide +kernel)]; exact ⟨rfl, rfl⟩))
    (fun os started H enc _ => lifted os started H enc)

/-- The statement. -/
theorem proved : Rows.RateBetweenSaid :=
  over
end Go.Proofs.Ytemeahbggidbkaa.rateBetween
namespace Go.Proofs.Ytemeahbggidbkaa
/-- The row, under a short name. -/
theorem rateBetween_holds : Rows.RateBetweenSaid := rateBetween.proved
#print axioms rateBetween_holds
end Go.Proofs.Ytemeahbggidbkaa
