/- Each block has one spot, from which one comes back to it, for all members, stripes and blocks. No condition. -/
import Derived.Test.YtagclifmbjaecaaRows
import Derived.WalkKit
import Derived.ProofKit
import Derived.OpenShut
import Derived.Test.YtagclifmbjaecaaLst
namespace Go.Proofs.Ytagclifmbjaecaa.layThere
open Go.Proofs.Ytagclifmbjaecaa.Own
open Go.ChangeShapes Go.WideShapes Go.ChangeAt Go.RowKit
set_option linter.unusedVariables false      -- a walk need not use every 'w<i>' (that an integer argument fits its kind)

theorem own : ownKnob Try.prog.godebug = none := by kernel_rfl

theorem there_law {m b : Int} (h : 3 ≤ m) (h' : m ≤ 16) (hb : 0 ≤ b) :
    m - 1 - (b / (m - 1)) % m ≠ (m - 1 - (b / (m - 1)) % m + 1 + b % (m - 1)) % m ∧
    b / (m - 1) * (m - 1) + ((m - 1 - (b / (m - 1)) % m + 1 + b % (m - 1)) % m - (m - 1 - (b / (m - 1)) % m) - 1 + m) % m = b := by
  obtain rfl | rfl | rfl | rfl | rfl | rfl | rfl | rfl | rfl | rfl | rfl | rfl | rfl | rfl : m = 3 ∨ m = 4 ∨ m = 5 ∨ m = 6 ∨ m = 7 ∨ m = 8 ∨ m = 9 ∨ m = 10 ∨ m = 11 ∨ m = 12 ∨ m = 13 ∨ m = 14 ∨ m = 15 ∨ m = 16 := by omega
  all_goals (simp only [Int.reduceSub]; omega)

/-- The three calls of a block that is there, the numbers under names. -/
theorem three (m b : Int) (h1 : 3 ≤ m) (h2 : m ≤ 16) (h3 : 0 ≤ b) (h4 : b ≤ 20000) (h5 : b / (m - 1) ≤ 1023) : ∃ s p k q : Int, s = b / (m - 1) ∧ q ≠ p ∧
    Hid (∀ w : World, Calls Try.prog 17 #[.int .i64 m, .int .i64 b] w fun x w' => x = .returned (.tuple #[.agg #[.int .i64 s, .int .i64 p, .int .i64 k], .int .i64 0]) ∧ Below w.heap.size w w') ∧
    Hid (∀ w : World, Calls Try.prog 22 #[.int .i64 m, .int .i64 s, .int .i64 p] w fun x w' => x = .returned (.tuple #[.int .i64 b, .bool true, .int .i64 0]) ∧ w = w') ∧
    Hid (∀ w : World, Calls Try.prog 16 #[.int .i64 m, .int .i64 s] w fun x w' => x = .returned (.tuple #[.int .i64 q, .int .i64 0]) ∧ w = w') := by
  obtain ⟨l1, l2⟩ := there_law h1 h2 h3
  have q0 : 0 ≤ b / (m - 1) := Int.ediv_nonneg h3 (by omega)
  have p1 := Int.emod_nonneg (m - 1 - b / (m - 1) % m + 1 + b % (m - 1)) (show m ≠ 0 by omega)
  have p2 := Int.emod_lt_of_pos (m - 1 - b / (m - 1) % m + 1 + b % (m - 1)) (show 0 < m by omega)
  refine ⟨_, _, _, _, rfl, l1, Lib.hid fun w => map_y m b w h1 h2 h3 (by omega), Lib.hid fun w => ?_, Lib.hid fun w => parity_y m _ w h1 h2 q0 (by omega)⟩
  have := back_d m (b / (m - 1)) _ w h1 h2 q0 h5 p1 p2 l1
  rw [l2] at this
  exact this

set_option maxHeartbeats 1000000 in
theorem walk_no (a0 : Int) (a1 : Int) (a2 : Int) (h : (a0 < 3 ∨ 16 < a0) ∨ a1 < 1 ∨ 1024 < a1) (w : World) :
    Calls Try.prog 9 #[.int .i64 a0, .int .i64 a1, .int .i64 a2] w fun e w' => e = .returned (.bool true) ∧ Below w.heap.size w w' := by
  have H := Lib.hid h
  clear h
  go_enter Try.func9, Try.ntmps9
  go_wp2_with (first
    | (go_at_call 18; refine (cap_n _ _ _ H.out).mono ?_; rintro e w' ⟨rfl, rfl⟩)
    | (go_at_call 14; refine (lives_any _).mono ?_; rintro e w2 ⟨rfl, hb⟩))
  go_ret
  exact ⟨rfl, hb⟩

set_option maxHeartbeats 1000000 in
theorem walk_out (a0 : Int) (a1 : Int) (a2 : Int) (h1 : 3 ≤ a0) (h2 : a0 ≤ 16) (h3 : 1 ≤ a1) (h4 : a1 ≤ 1024) (h5 : a2 < 0 ∨ 0 ≤ a2 ∧ a1 * (a0 - 1) ≤ a2) (w : World) :
    Calls Try.prog 9 #[.int .i64 a0, .int .i64 a1, .int .i64 a2] w fun e w' => e = .returned (.bool true) ∧ Below w.heap.size w w' := by
  have hc := fun w => cap_y a0 a1 w h1 h2 h3 h4
  obtain ⟨c, hcc⟩ : ∃ c, a1 * (a0 - 1) = c := ⟨_, rfl⟩
  rw [hcc] at hc h5
  have HC := Lib.hid hc
  clear hc hcc
  rcases h5 with h5 | ⟨h5, h6⟩
  all_goals
    go_enter Try.func9, Try.ntmps9
    go_wp2_with (first
      | (go_at_call 18; refine (HC.out _).mono ?_; rintro e w' ⟨rfl, rfl⟩)
      | (go_at_call 14; refine (lives_any _).mono ?_; rintro e w2 ⟨rfl, hb⟩))
    go_ret
    exact ⟨rfl, hb⟩

set_option maxHeartbeats 4000000 in
theorem within_bounds (a0 : Int) (a1 : Int) (a2 : Int) (h1 : 3 ≤ a0) (h2 : a0 ≤ 16) (h3 : 1 ≤ a1) (h4 : a1 ≤ 1024) (h5 : 0 ≤ a2) (h6 : a2 < a1 * (a0 - 1)) (w : World) :
    Calls Try.prog 9 #[.int .i64 a0, .int .i64 a1, .int .i64 a2] w fun e w' => e = .returned (.bool true) ∧ Below w.heap.size w w' := by
  have hc := fun w => cap_y a0 a1 w h1 h2 h3 h4
  obtain ⟨b1, b2⟩ := cap_bd h1 h2 (show 0 ≤ a1 by omega) h4
  have q1 : a2 / (a0 - 1) < a1 := Int.ediv_lt_of_lt_mul (by omega) (by omega)
  obtain ⟨s, p, k, q, hs, hqp, M, B, P⟩ := three a0 a2 h1 h2 h5 (by omega) (by omega)
  have hsl : s < a1 := by omega
  have hqp' : (q != p) = true := by simpa using hqp
  obtain ⟨c, hcc⟩ : ∃ c, a1 * (a0 - 1) = c := ⟨_, rfl⟩
  rw [hcc] at hc h6
  have HC := Lib.hid hc
  clear hc hcc hs hqp q1 b1 b2
  go_enter Try.func9, Try.ntmps9
  go_wp2_with fail
  refine (HC.out _).mono ?_
  rintro e w' ⟨rfl, rfl⟩
  go_wp2_with fail
  refine (lives_any _).mono ?_
  rintro e w1 ⟨rfl, hb1⟩
  go_wp2_with fail
  refine (M.out _).mono ?_
  rintro e w2 ⟨rfl, hb2⟩
  go_wp2_with fail
  refine (B.out _).mono ?_
  rintro e w' ⟨rfl, rfl⟩
  go_wp2_with fail
  refine (P.out _).mono ?_
  rintro e w' ⟨rfl, rfl⟩
  go_wp2
  go_ret
  exact ⟨by simp, (hb1.trans (hb2.mono hb1.size)).alloc (Nat.le_trans hb1.size hb2.size) _⟩

theorem walk (a0 : Int) (a1 : Int) (a2 : Int) (w0 : (Lit.int .i64 a0).wf = true) (w1 : (Lit.int .i64 a1).wf = true) (w2 : (Lit.int .i64 a2).wf = true) (w : World) :
    Calls Try.prog 9 #[.int .i64 a0, .int .i64 a1, .int .i64 a2] w fun e w' => e = .returned (.bool true) ∧ Below w.heap.size w w' := by
  by_cases h : (a0 < 3 ∨ 16 < a0) ∨ a1 < 1 ∨ 1024 < a1
  · exact walk_no a0 a1 a2 h w
  · by_cases h2 : a2 < 0 ∨ 0 ≤ a2 ∧ a1 * (a0 - 1) ≤ a2
    · exact walk_out a0 a1 a2 (by omega) (by omega) (by omega) (by omega) h2 w
    · exact within_bounds a0 a1 a2 (by omega) (by omega) (by omega) (by omega) (by omega) (by omega) w

set_option maxRecDepth 100000 in
theorem lifted (os : Os) (started : os.Started) (H : Type) (enc : TypeId × Value → H) :
    ReturnsInHanded {} Try.checked os 9 .any (Rows.layThereSpec.pre6 enc Try.prog Try.f9 Rows.layThereRow.domain false) (Rows.layThereSpec.post enc Try.prog Try.f9 false true false false) := by
  refine returnsInHanded_of_change (C := Try.checked) own started (by kernel_rfl) Try.func9
    (ChangeSpec.witness6 (enc := enc) (C := Try.checked) false ⟨#[], #[.int .i64 0, .int .i64 0, .int .i64 0], []⟩ 8 (by kernel_rfl) (by kernel_rfl) (by kernel_rfl) (by kernel_rfl)) ?_
  intro W base args ds gs before hval0 hW hcnd _
  have hval : ∀ (j : Nat) t v, Try.f9.params[j]? = some t → args[j]? = some v → Value.okWide Try.prog W .any base t v := hval0
  have hW' := hW
  obtain ⟨p, q, hA0, hV, rfl, hfz, hnd⟩ := hW
  have hA : DataW.TrodAll enc Try.prog W 0 (fun _ => true) true Try.f9.params.toList args.toList ds p := hA0
  rw [Try.params9] at hA hval
  obtain ⟨v0, vs0, d0, ds0, p0, q0, hargs, rfl, rfl, h0, r0⟩ := trodAll_cons hA
  obtain ⟨v1, vs1, d1, ds1, p1, q1, rfl, rfl, rfl, h1, r1⟩ := trodAll_cons r0
  obtain ⟨v2, vs2, d2, ds2, p2, q2, rfl, rfl, rfl, h2, r2⟩ := trodAll_cons r1
  obtain ⟨rfl, rfl, rfl⟩ := trodAll_nil r2
  obtain rfl : args = #[v0, v1, v2] := by cases args; simp_all
  obtain ⟨rfl, rfl⟩ := trodVars_none hV
  obtain ⟨a0, rfl, rfl, rfl, w0⟩ := open_int Try.underlying3 (hval 0 3 v0 rfl rfl) h0
  obtain ⟨a1, rfl, rfl, rfl, w1⟩ := open_int Try.underlying3 (hval 1 3 v1 rfl rfl) h1
  obtain ⟨a2, rfl, rfl, rfl, w2⟩ := open_int Try.underlying3 (hval 2 3 v2 rfl rfl) h2
  clear hA0 hval0
  refine (walk a0 a1 a2 w0 w1 w2 W).mono fun e W' ⟨he, hg⟩ => ?_
  subst he
  exact ⟨_, rfl, _, _, _, [], _, [], hW', trodAll_mk1 (shut_bool Try.underlying4 _), (trodAll_cons_mk (shut_int Try.underlying3 w0) (trodAll_cons_mk (shut_int Try.underlying3 w1) (trodAll_cons_mk (shut_int Try.underlying3 w2) trodAll_mk0))), rfl, hg.frame _, fun h => by cases h⟩

theorem over : Rows.layThereRow.holds Try.pinned (OpenSpec.ofChange Rows.layThereSpec) :=
  OpenClaim.holds_of_wide 9 Try.f9 rfl rfl rfl rfl rfl rfl rfl ⟨rfl, rfl, rfl, rfl, rfl⟩ rfl rfl rfl rfl rfl (by kernel_rfl) Try.func9 (by kernel_rfl)
    (of_decide_eq_true (by kernel_rfl)) (by unfold Func.isWrapper; first | (rw [if_pos (by decide +kernel)]; kernel_rfl) | (rw [if_neg (by decide +kernel)]; exact ⟨rfl, rfl⟩))
    (fun os started H enc _ => lifted os started H enc)

/-- The statement. -/
theorem proved : Rows.LayThereSaid :=
  over
end Go.Proofs.Ytagclifmbjaecaa.layThere
namespace Go.Proofs.Ytagclifmbjaecaa
/-- The row, under a short name. -/
theorem layThere_holds : Rows.LayThereSaid := layThere.proved
#print axioms layThere_holds
end Go.Proofs.Ytagclifmbjaecaa
