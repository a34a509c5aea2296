/- How many blocks a disk must have, and which one is the first of a stripe: lay.Base and lay.Need tell what the reference's tell, at all integers. No condition. -/
import Derived.Test.YtagclifmbjaecaaRows
import Derived.WalkKit
import Derived.ProofKit
import Derived.OpenShut
import Derived.Test.YtagclifmbjaecaaLst
namespace Go.Proofs.Ytagclifmbjaecaa.laySizes
open Go.Proofs.Ytagclifmbjaecaa.Own
open Go.ChangeShapes Go.WideShapes Go.ChangeAt Go.RowKit
set_option linter.unusedVariables false      -- a walk need not use every 'w<i>' (that an integer argument fits its kind)

theorem own : ownKnob Try.prog.godebug = none := by kernel_rfl

set_option maxHeartbeats 1000000 in
theorem walk (a0 : Int) (a1 : Int) (w0 : (Lit.int .i64 a0).wf = true) (w1 : (Lit.int .i64 a1).wf = true) (w : World) :
    Calls Try.prog 3 #[.int .i64 a0, .int .i64 a1] w fun e w' => e = .returned (.bool true) ∧ Below w.heap.size w w' := by
  clear w0 w1
  by_cases h1 : a1 < 1 ∨ 8 < a1
  · have h2 : (a1 < 1 ∨ 8 < a1) ∨ a0 < 1 ∨ 1024 < a0 := .inl h1
    have H1 := Lib.hid h1
    have H2 := Lib.hid h2
    clear h1 h2
    go_enter Try.func3, Try.ntmps3
    go_wp2_with (first
      | (go_at_call 10; refine (base_n _ _ H1.out).mono ?_; rintro e w' ⟨rfl, rfl⟩)
      | (go_at_call 11; refine (rbase_n _ _ H1.out).mono ?_; rintro e w' ⟨rfl, rfl⟩)
      | (go_at_call 12; refine (need_n _ _ _ H2.out).mono ?_; rintro e w' ⟨rfl, rfl⟩)
      | (go_at_call 13; refine (rneed_n _ _ _ H2.out).mono ?_; rintro e w' ⟨rfl, rfl⟩)
      | (go_at_call 14; refine (lives_any _).mono ?_; rintro e w1 ⟨rfl, hb⟩))
    go_ret
    exact ⟨rfl, hb⟩
  · have l1 : 1 ≤ a1 := by omega
    have l2 : a1 ≤ 8 := by omega
    clear h1
    by_cases h2 : a0 < 1 ∨ 1024 < a0
    · have h3 : (a1 < 1 ∨ 8 < a1) ∨ a0 < 1 ∨ 1024 < a0 := .inr h2
      have H2 := Lib.hid h3
      clear h2 h3
      go_enter Try.func3, Try.ntmps3
      go_wp2_with (first
        | (go_at_call 10; refine (base_y _ _ l1 l2).mono ?_; rintro e w' ⟨rfl, rfl⟩)
        | (go_at_call 11; refine (rbase_y _ _ l1 l2).mono ?_; rintro e w' ⟨rfl, rfl⟩)
        | (go_at_call 12; refine (need_n _ _ _ H2.out).mono ?_; rintro e w' ⟨rfl, rfl⟩)
        | (go_at_call 13; refine (rneed_n _ _ _ H2.out).mono ?_; rintro e w' ⟨rfl, rfl⟩)
        | (go_at_call 14; refine (lives_any _).mono ?_; rintro e w1 ⟨rfl, hb⟩))
      go_ret
      exact ⟨rfl, hb⟩
    · have l3 : 1 ≤ a0 := by omega
      have l4 : a0 ≤ 1024 := by omega
      clear h2
      go_enter Try.func3, Try.ntmps3
      go_wp2_with (first
        | (go_at_call 10; refine (base_y _ _ l1 l2).mono ?_; rintro e w' ⟨rfl, rfl⟩)
        | (go_at_call 11; refine (rbase_y _ _ l1 l2).mono ?_; rintro e w' ⟨rfl, rfl⟩)
        | (go_at_call 12; refine (need_y _ _ _ l1 l2 l3 l4).mono ?_; rintro e w' ⟨rfl, rfl⟩)
        | (go_at_call 13; refine (rneed_y _ _ _ l1 l2 l3 l4).mono ?_; rintro e w' ⟨rfl, rfl⟩)
        | (go_at_call 14; refine (lives_any _).mono ?_; rintro e w1 ⟨rfl, hb⟩))
      go_ret
      exact ⟨rfl, hb⟩

set_option maxRecDepth 100000 in
theorem lifted (os : Os) (started : os.Started) (H : Type) (enc : TypeId × Value → H) :
    ReturnsInHanded {} Try.checked os 3 .any (Rows.laySizesSpec.pre6 enc Try.prog Try.f3 Rows.laySizesRow.domain false) (Rows.laySizesSpec.post enc Try.prog Try.f3 false true false false) := by
  refine returnsInHanded_of_change (C := Try.checked) own started (by kernel_rfl) Try.func3
    (ChangeSpec.witness6 (enc := enc) (C := Try.checked) false ⟨#[], #[.int .i64 0, .int .i64 0], []⟩ 8 (by kernel_rfl) (by kernel_rfl) (by kernel_rfl) (by kernel_rfl)) ?_
  intro W base args ds gs before hval0 hW hcnd _
  have hval : ∀ (j : Nat) t v, Try.f3.params[j]? = some t → args[j]? = some v → Value.okWide Try.prog W .any base t v := hval0
  have hW' := hW
  obtain ⟨p, q, hA0, hV, rfl, hfz, hnd⟩ := hW
  have hA : DataW.TrodAll enc Try.prog W 0 (fun _ => true) true Try.f3.params.toList args.toList ds p := hA0
  rw [Try.params3] at hA hval
  obtain ⟨v0, vs0, d0, ds0, p0, q0, hargs, rfl, rfl, h0, r0⟩ := trodAll_cons hA
  obtain ⟨v1, vs1, d1, ds1, p1, q1, rfl, rfl, rfl, h1, r1⟩ := trodAll_cons r0
  obtain ⟨rfl, rfl, rfl⟩ := trodAll_nil r1
  obtain rfl : args = #[v0, v1] := by cases args; simp_all
  obtain ⟨rfl, rfl⟩ := trodVars_none hV
  obtain ⟨a0, rfl, rfl, rfl, w0⟩ := open_int Try.underlying3 (hval 0 3 v0 rfl rfl) h0
  obtain ⟨a1, rfl, rfl, rfl, w1⟩ := open_int Try.underlying3 (hval 1 3 v1 rfl rfl) h1
  clear hA0 hval0
  refine (walk a0 a1 w0 w1 W).mono fun e W' ⟨he, hg⟩ => ?_
  subst he
  exact ⟨_, rfl, _, _, _, [], _, [], hW', trodAll_mk1 (shut_bool Try.underlying4 _), (trodAll_cons_mk (shut_int Try.underlying3 w0) (trodAll_cons_mk (shut_int Try.underlying3 w1) trodAll_mk0)), rfl, hg.frame _, fun h => by cases h⟩

theorem over : Rows.laySizesRow.holds Try.pinned (OpenSpec.ofChange Rows.laySizesSpec) :=
  OpenClaim.holds_of_wide 3 Try.f3 rfl rfl rfl rfl rfl rfl rfl ⟨rfl, rfl, rfl, rfl, rfl⟩ rfl rfl rfl rfl rfl (by kernel_rfl) Try.func3 (by kernel_rfl)
    (of_decide_eq_true (by kernel_rfl)) (by unfold Func.isWrapper; first | (rw [if_pos (by decide +kernel)]; kernel_rfl) | (rw [if_neg (by decide +kernel)]; exact ⟨rfl, rfl⟩))
    (fun os started H enc _ => lifted os started H enc)

/-- The statement. -/
theorem proved : Rows.LaySizesSaid :=
  over
end Go.Proofs.Ytagclifmbjaecaa.laySizes
namespace Go.Proofs.Ytagclifmbjaecaa
/-- The row, under a short name. -/
theorem laySizes_holds : Rows.LaySizesSaid := laySizes.proved
#print axioms laySizes_holds
end Go.Proofs.Ytagclifmbjaecaa
