/- Rates are ordered in one row: the other way about it is the opposite, alike only at the same rate, and of three the first is not behind the last. No condition. -/
import Derived.Test.YtemeahbggidbkaaRows
import Derived.WalkKit
import Derived.ProofKit
import Derived.OpenShut
import Derived.Test.YtemeahbggidbkaaOpn
namespace Go.Proofs.Ytemeahbggidbkaa.rateOrder
open Go.Proofs.Ytemeahbggidbkaa.Own Go.Proofs.Ytemeahbggidbkaa.Fl
open Go.ChangeShapes Go.WideShapes Go.ChangeAt Go.RowKit
open Ieee (double)
set_option linter.unusedVariables false

theorem own : ownKnob Try.prog.godebug = none := by kernel_rfl

theorem facts (a b c : Nat) (ha : a < 18446744073709551616) (hb : b < 18446744073709551616) : ∃ (x y z : Int) (s : Bool), cmp a b = x ∧ cmp b a = -x ∧ cmp b c = y ∧ cmp a c = z ∧ same a b = s ∧
    -(-x) = x ∧ (x == 0) = s ∧ -1 ≤ x ∧ x ≤ 1 ∧ (0 < x ∨ 0 < y ∨ z ≤ 0) := by
  refine ⟨_, _, _, _, rfl, by rw [cmp_neg b a], rfl, rfl, rfl, by omega, ?_, ?_, ?_, ?_⟩
  · have := cmp_zero ha hb
    rw [Bool.eq_iff_iff, ← this]; simp
  · have := cmp_range a b; omega
  · have := cmp_range a b; omega
  · rw [cmp_pos_iff, cmp_pos_iff]
    have h3 := cmp_pos_iff a c
    omega
theorem neg_small (x : Int) (h1 : -1 ≤ x) (h2 : x ≤ 1) : IntKind.i64.wrap (-(-x)) = x := by
  have : x = -1 ∨ x = 0 ∨ x = 1 := by omega
  rcases this with rfl | rfl | rfl <;> decide
set_option maxHeartbeats 4000000 in
theorem walk (a0 : Nat) (h0 : a0 < 18446744073709551616) (a1 : Nat) (h1 : a1 < 18446744073709551616) (a2 : Nat) (h2 : a2 < 18446744073709551616) (w : World) :
    Calls Try.prog 6 #[.float .f64 a0, .float .f64 a1, .float .f64 a2] w fun e w' => e = .returned (.bool true) ∧ Below w.heap.size w w' := by
  obtain ⟨x, y, z, s, e1, e2, e3, e4, e5, f1, f2, f3, f4, f5⟩ := facts a0 a1 a2 h0 h1
  have C1 := Lib.hid (compare_any a0 a1 h0 h1)
  have C2 := Lib.hid (compare_any a1 a0 h1 h0)
  have C3 := Lib.hid (compare_any a1 a2 h1 h2)
  have C4 := Lib.hid (compare_any a0 a2 h0 h2)
  have C5 := Lib.hid (rcompare_any a0 a1 h0 h1)
  have C6 := Lib.hid (same_any a0 a1)
  rw [e1] at C1 C5
  rw [e2] at C2
  rw [e3] at C3
  rw [e4] at C4
  rw [e5] at C6
  clear e1 e2 e3 e4 e5 h0 h1 h2
  go_enter Try.func6, Try.ntmps6
  go_wp2_with fail
  refine (lives_any _).mono ?_
  rintro e w1 ⟨rfl, hb⟩
  go_wp2_with fail
  refine (C1.out _).mono ?_
  rintro e w' ⟨rfl, rfl⟩
  go_wp2_with fail
  refine (C2.out _).mono ?_
  rintro e w' ⟨rfl, rfl⟩
  go_wp2_with fail
  refine (C1.out _).mono ?_
  rintro e w' ⟨rfl, rfl⟩
  go_wp2_with fail
  refine (C5.out _).mono ?_
  rintro e w' ⟨rfl, rfl⟩
  go_wp2_with fail
  refine (C1.out _).mono ?_
  rintro e w' ⟨rfl, rfl⟩
  go_wp2_with fail
  refine (C6.out _).mono ?_
  rintro e w' ⟨rfl, rfl⟩
  go_wp2_with fail
  refine (C1.out _).mono ?_
  rintro e w' ⟨rfl, rfl⟩
  by_cases g1 : 0 < x
  · go_wp2
    go_ret
    exact ⟨rfl, hb⟩
  · go_wp2_with fail
    refine (C3.out _).mono ?_
    rintro e w' ⟨rfl, rfl⟩
    by_cases g2 : 0 < y
    · go_wp2
      go_ret
      exact ⟨rfl, hb⟩
    · have g3 : z ≤ 0 := by omega
      go_wp2_with fail
      refine (C4.out _).mono ?_
      rintro e w' ⟨rfl, rfl⟩
      go_wp2
      go_ret
      exact ⟨rfl, hb⟩

set_option maxRecDepth 100000 in
theorem lifted (os : Os) (started : os.Started) (H : Type) (enc : TypeId × Value → H) :
    ReturnsInHanded {} Try.checked os 6 .any (Rows.rateOrderSpec.pre6 enc Try.prog Try.f6 Rows.rateOrderRow.domain false) (Rows.rateOrderSpec.post enc Try.prog Try.f6 false true false false) := by
  refine returnsInHanded_of_change_sized (C := Try.checked) own started (by kernel_rfl) Try.func6
    (ChangeSpec.witness6 (enc := enc) (C := Try.checked) false ⟨#[], #[.float .f64 0, .float .f64 0, .float .f64 0], []⟩ 8 (by kernel_rfl) (by kernel_rfl) (by kernel_rfl) (by kernel_rfl)) ?_
  intro W base args ds gs before hval0 hW hcnd hsz0 _
  have hsz : (DataW.weightsEach Try.prog (Try.f6.params.toList ++ Rows.rateOrderSpec.plain.varTypes Try.prog) (ds ++ gs)).all (· ≤ reachBytes) = true := hsz0
  have hval : ∀ (j : Nat) t v, Try.f6.params[j]? = some t → args[j]? = some v → Value.okWide Try.prog W .any base t v := hval0
  have hW' := hW
  obtain ⟨p, q, hA0, hV, rfl, hfz, hnd⟩ := hW
  have hA : DataW.TrodAll enc Try.prog W 0 (fun _ => true) true Try.f6.params.toList args.toList ds p := hA0
  rw [Try.params6] at hA hval hsz
  obtain ⟨v0, vs0, d0, ds0, p0, q0, hargs, rfl, rfl, h0, r0⟩ := trodAll_cons hA
  obtain ⟨v1, vs1, d1, ds1, p1, q1, rfl, rfl, rfl, h1, r1⟩ := trodAll_cons r0
  obtain ⟨v2, vs2, d2, ds2, p2, q2, rfl, rfl, rfl, h2, r2⟩ := trodAll_cons r1
  obtain ⟨rfl, rfl, rfl⟩ := trodAll_nil r2
  obtain rfl : args = #[v0, v1, v2] := by cases args; simp_all
  obtain ⟨rfl, rfl⟩ := trodVars_none hV
  obtain ⟨a0, rfl, rfl, rfl, w0⟩ := open_float Try.underlying23 (hval 0 23 v0 rfl rfl) h0
  obtain ⟨a1, rfl, rfl, rfl, w1⟩ := open_float Try.underlying23 (hval 1 23 v1 rfl rfl) h1
  obtain ⟨a2, rfl, rfl, rfl, w2⟩ := open_float Try.underlying23 (hval 2 23 v2 rfl rfl) h2
  clear hA0 hval0 hsz0
  refine (walk a0 (wf_lt w0) a1 (wf_lt w1) a2 (wf_lt w2) W).mono fun e W' ⟨he, hg⟩ => ?_
  subst he
  exact ⟨_, rfl, _, _, _, [], _, [], hW', trodAll_mk1 (shut_bool Try.underlying4 _), (trodAll_cons_mk (shut_float Try.underlying23 w0) (trodAll_cons_mk (shut_float Try.underlying23 w1) (trodAll_cons_mk (shut_float Try.underlying23 w2) trodAll_mk0))), rfl, hg.frame _, fun h => by cases h⟩

theorem over : Rows.rateOrderRow.holds Try.pinned (OpenSpec.ofChange Rows.rateOrderSpec) :=
  OpenClaim.holds_of_wide 6 Try.f6 rfl rfl rfl rfl rfl rfl rfl ⟨rfl, rfl, rfl, rfl, rfl⟩ rfl rfl rfl rfl rfl (by kernel_rfl) Try.func6 (by kernel_rfl)
    (of_decide_eq_true (by kernel_rfl)) (by unfold Func.isWrapper; first | (rw [if_pos (by decide +kernel)]; kernel_rfl) | (rw [if_neg (by decide +kernel)]; exact ⟨rfl, rfl⟩))
    (fun os started H enc _ => lifted os started H enc)

/-- The statement. -/
theorem proved : Rows.RateOrderSaid :=
  over
end Go.Proofs.Ytemeahbggidbkaa.rateOrder
namespace Go.Proofs.Ytemeahbggidbkaa
/-- The row, under a short name. -/
theorem rateOrder_holds : Rows.RateOrderSaid := rateOrder.proved
#print axioms rateOrder_holds
end Go.Proofs.Ytemeahbggidbkaa
