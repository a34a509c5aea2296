/- Which block any member has of any stripe, and who has its data: lay.Back and Members tell what the reference's tell, at all integers. No condition. -/
import Derived.Test.YtagclifmbjaecaaRows
import Derived.WalkKit
import Derived.ProofKit
import Derived.OpenShut
import Derived.Test.YtagclifmbjaecaaLst
namespace Go.Proofs.Ytagclifmbjaecaa.layBacks
open Go.Proofs.Ytagclifmbjaecaa.Own
open Go.ChangeShapes Go.WideShapes Go.ChangeAt Go.RowKit
set_option linter.unusedVariables false      -- a walk need not use every 'w<i>' (that an integer argument fits its kind)

theorem own : ownKnob Try.prog.godebug = none := by kernel_rfl

theorem back_both (m s x : Int) : ∃ (a : Int) (b : Bool) (e : Int), Hid (∀ w : World, Calls Try.prog 22 #[.int .i64 m, .int .i64 s, .int .i64 x] w fun y w' => y = .returned (.tuple #[.int .i64 a, .bool b, .int .i64 e]) ∧ w = w') ∧
    Hid (∀ w : World, Calls Try.prog 23 #[.int .i64 m, .int .i64 s, .int .i64 x] w fun y w' => y = .returned (.tuple #[.int .i64 a, .bool b, .int .i64 e]) ∧ Below w.heap.size w w') := by
  by_cases h : (m < 3 ∨ 16 < m) ∨ s < 0 ∨ 1023 < s ∨ x < 0 ∨ m ≤ x
  · exact ⟨0, false, 1, Lib.hid fun w => back_n m s x w h, Lib.hid fun w => (rback_n m s x w h).mono fun _ _ ⟨he, hw⟩ => ⟨he, by subst hw; exact Below.refl _ _⟩⟩
  · obtain ⟨n, rfl⟩ : ∃ n : Nat, m = n := ⟨m.toNat, by omega⟩
    have h1 := fun w => back_y n s x w (by omega) (by omega) (by omega) (by omega) (by omega) (by omega)
    have h2 := fun w => rback_y n s x w (by omega) (by omega) (by omega) (by omega) (by omega) (by omega)
    unfold backV at h1 h2
    by_cases c : (n : Int) - 1 - s % n = x
    · rw [if_pos c] at h1 h2
      exact ⟨_, _, _, Lib.hid h1, Lib.hid h2⟩
    · rw [if_neg c] at h1 h2
      exact ⟨_, _, _, Lib.hid h1, Lib.hid h2⟩

set_option maxHeartbeats 4000000 in
theorem walk_no (a0 : Int) (a1 : Int) (a2 : Int) (h : a0 < 3 ∨ 16 < a0 ∨ a1 < 0) (w : World) :
    Calls Try.prog 8 #[.int .i64 a0, .int .i64 a1, .int .i64 a2] w fun e w' => e = .returned (.bool true) ∧ Below w.heap.size w w' := by
  obtain ⟨a, b, e, B1, B2⟩ := back_both a0 a1 a2
  have H := Lib.hid h
  clear h
  go_enter Try.func8, Try.ntmps8
  go_wp2_with fail
  refine (B1.out _).mono ?_
  rintro e w' ⟨rfl, rfl⟩
  go_wp2_with fail
  refine (B2.out _).mono ?_
  rintro e w1 ⟨rfl, hb1⟩
  go_wp2_with fail
  refine (members_n _ _ _ H.out).mono ?_
  rintro e w' ⟨rfl, rfl⟩
  go_wp2_with fail
  refine (rmembers_n _ _ _ H.out).mono ?_
  rintro e w' ⟨rfl, rfl⟩
  go_wp2_with fail
  refine (lives_any _).mono ?_
  rintro e w3 ⟨rfl, hb3⟩
  go_wp2_with fail
  refine (same_nil _).mono ?_
  rintro e w' ⟨rfl, rfl⟩
  go_wp2
  go_ret
  exact ⟨by simp, hb1.trans (hb3.mono hb1.size)⟩

set_option maxHeartbeats 4000000 in
theorem walk_yes (n : Nat) (a1 : Int) (a2 : Int) (h1 : 3 ≤ n) (h2 : n ≤ 16) (h3 : 0 ≤ a1) (h4 : a1 ≤ 9223372036854775807) (w : World) :
    Calls Try.prog 8 #[.int .i64 (n : Int), .int .i64 a1, .int .i64 a2] w fun e w' => e = .returned (.bool true) ∧ Below w.heap.size w w' := by
  obtain ⟨a, b, e, B1, B2⟩ := back_both n a1 a2
  have hm1 := fun w => members_y n a1 w h1 h2 h3 h4
  have hm2 := fun w => rmembers_y n a1 w h1 h2 h3 h4
  have M1 := Lib.hid hm1
  have M2 := Lib.hid hm2
  clear hm1 hm2
  go_enter Try.func8, Try.ntmps8
  go_wp2_with fail
  refine (B1.out _).mono ?_
  rintro e w' ⟨rfl, rfl⟩
  go_wp2_with fail
  refine (B2.out _).mono ?_
  rintro e w1 ⟨rfl, hb1⟩
  go_wp2_with fail
  refine (M1.out _).mono ?_
  rintro e w2 ⟨v, rfl, hown, hb2⟩
  obtain ⟨g, c, rfl, g0, g1, _, hc⟩ := own_open hown (by omega)
  have HC := Lib.hid hc
  clear hown hc
  go_wp2_with fail
  refine (M2.out _).mono ?_
  rintro e w3 ⟨v, rfl, hown', hb3⟩
  obtain ⟨g', c', rfl, g0', g1', _, hc'⟩ := own_open hown' (by omega)
  have HC' := Lib.hid hc'
  clear hown' hc'
  go_wp2_with fail
  refine (lives_any _).mono ?_
  rintro e w4 ⟨rfl, hb4⟩
  have z3 := hb3.size
  go_wp2_with fail
  refine (same_y g g' c c' n (mem n ((n : Int) - 1 - a1 % n) n) _ (by omega) (fun j hj => ?_) (fun j hj => ?_)).mono ?_
  · exact ((bcell hb4).1 _ _ (by omega)).trans (((bcell hb3).1 _ _ g1).trans (HC.out j hj))
  · exact ((bcell hb4).1 _ _ g1').trans (HC'.out j hj)
  rintro e w5 ⟨rfl, d, rfl⟩
  go_wp2
  go_ret
  exact ⟨by simp, bdrewN (((hb1.trans (hb2.mono hb1.size)).trans (hb3.mono (Nat.le_trans hb1.size hb2.size))).trans (hb4.mono (Nat.le_trans (Nat.le_trans hb1.size hb2.size) hb3.size))) _⟩

theorem walk (a0 : Int) (a1 : Int) (a2 : Int) (w0 : (Lit.int .i64 a0).wf = true) (w1 : (Lit.int .i64 a1).wf = true) (w2 : (Lit.int .i64 a2).wf = true) (w : World) :
    Calls Try.prog 8 #[.int .i64 a0, .int .i64 a1, .int .i64 a2] w fun e w' => e = .returned (.bool true) ∧ Below w.heap.size w w' := by
  simp only [Lit.wf, Bool.and_eq_true, decide_eq_true_eq] at w1
  by_cases h : a0 < 3 ∨ 16 < a0 ∨ a1 < 0
  · exact walk_no a0 a1 a2 h w
  · obtain ⟨n, rfl⟩ : ∃ n : Nat, a0 = n := ⟨a0.toNat, by omega⟩
    exact walk_yes n a1 a2 (by omega) (by omega) (by omega) w1.2 w

set_option maxRecDepth 100000 in
theorem lifted (os : Os) (started : os.Started) (H : Type) (enc : TypeId × Value → H) :
    ReturnsInHanded {} Try.checked os 8 .any (Rows.layBacksSpec.pre6 enc Try.prog Try.f8 Rows.layBacksRow.domain false) (Rows.layBacksSpec.post enc Try.prog Try.f8 false true false false) := by
  refine returnsInHanded_of_change (C := Try.checked) own started (by kernel_rfl) Try.func8
    (ChangeSpec.witness6 (enc := enc) (C := Try.checked) false ⟨#[], #[.int .i64 0, .int .i64 0, .int .i64 0], []⟩ 8 (by kernel_rfl) (by kernel_rfl) (by kernel_rfl) (by kernel_rfl)) ?_
  intro W base args ds gs before hval0 hW hcnd _
  have hval : ∀ (j : Nat) t v, Try.f8.params[j]? = some t → args[j]? = some v → Value.okWide Try.prog W .any base t v := hval0
  have hW' := hW
  obtain ⟨p, q, hA0, hV, rfl, hfz, hnd⟩ := hW
  have hA : DataW.TrodAll enc Try.prog W 0 (fun _ => true) true Try.f8.params.toList args.toList ds p := hA0
  rw [Try.params8] at hA hval
  obtain ⟨v0, vs0, d0, ds0, p0, q0, hargs, rfl, rfl, h0, r0⟩ := trodAll_cons hA
  obtain ⟨v1, vs1, d1, ds1, p1, q1, rfl, rfl, rfl, h1, r1⟩ := trodAll_cons r0
  obtain ⟨v2, vs2, d2, ds2, p2, q2, rfl, rfl, rfl, h2, r2⟩ := trodAll_cons r1
  obtain ⟨rfl, rfl, rfl⟩ := trodAll_nil r2
  obtain rfl : args = #[v0, v1, v2] := by cases args; simp_all
  obtain ⟨rfl, rfl⟩ := trodVars_none hV
  obtain ⟨a0, rfl, rfl, rfl, w0⟩ := open_int Try.underlying3 (hval 0 3 v0 rfl rfl) h0
  obtain ⟨a1, rfl, rfl, rfl, w1⟩ := open_int Try.underlying3 (hval 1 3 v1 rfl rfl) h1
  obtain ⟨a2, rfl, rfl, rfl, w2⟩ := open_int Try.underlying3 (hval 2 3 v2 rfl rfl) h2
  clear hA0 hval0
  refine (walk a0 a1 a2 w0 w1 w2 W).mono fun e W' ⟨he, hg⟩ => ?_
  subst he
  exact ⟨_, rfl, _, _, _, [], _, [], hW', trodAll_mk1 (shut_bool Try.underlying4 _), (trodAll_cons_mk (shut_int Try.underlying3 w0) (trodAll_cons_mk (shut_int Try.underlying3 w1) (trodAll_cons_mk (shut_int Try.underlying3 w2) trodAll_mk0))), rfl, hg.frame _, fun h => by cases h⟩

theorem over : Rows.layBacksRow.holds Try.pinned (OpenSpec.ofChange Rows.layBacksSpec) :=
  OpenClaim.holds_of_wide 8 Try.f8 rfl rfl rfl rfl rfl rfl rfl ⟨rfl, rfl, rfl, rfl, rfl⟩ rfl rfl rfl rfl rfl (by kernel_rfl) Try.func8 (by kernel_rfl)
    (of_decide_eq_true (by kernel_rfl)) (by unfold Func.isWrapper; first | (rw [if_pos (by decide +kernel)]; kernel_rfl) | (rw [if_neg (by decide +kernel)]; exact ⟨rfl, rfl⟩))
    (fun os started H enc _ => lifted os started H enc)

/-- The statement. -/
theorem proved : Rows.LayBacksSaid :=
  over
end Go.Proofs.Ytagclifmbjaecaa.layBacks
namespace Go.Proofs.Ytagclifmbjaecaa
/-- The row, under a short name. -/
theorem layBacks_holds : Rows.LayBacksSaid := layBacks.proved
#print axioms layBacks_holds
end Go.Proofs.Ytagclifmbjaecaa
