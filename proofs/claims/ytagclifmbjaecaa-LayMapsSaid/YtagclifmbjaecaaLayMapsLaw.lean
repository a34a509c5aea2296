/- Where any block lies, and how many there are: lay.Capacity, Parity and Map tell what the reference's tell, at all integers. No condition. -/
import Derived.Test.YtagclifmbjaecaaRows
import Derived.WalkKit
import Derived.ProofKit
import Derived.OpenShut
import Derived.Test.YtagclifmbjaecaaLst
namespace Go.Proofs.Ytagclifmbjaecaa.layMaps
open Go.Proofs.Ytagclifmbjaecaa.Own
open Go.ChangeShapes Go.WideShapes Go.ChangeAt Go.RowKit
set_option linter.unusedVariables false      -- a walk need not use every 'w<i>' (that an integer argument fits its kind)

theorem own : ownKnob Try.prog.godebug = none := by kernel_rfl

theorem cap_both (m s : Int) : ∃ a e : Int, Hid (∀ w : World, Calls Try.prog 18 #[.int .i64 m, .int .i64 s] w fun x w' => x = .returned (.tuple #[.int .i64 a, .int .i64 e]) ∧ w = w') ∧
    Hid (∀ w : World, Calls Try.prog 19 #[.int .i64 m, .int .i64 s] w fun x w' => x = .returned (.tuple #[.int .i64 a, .int .i64 e]) ∧ w = w') := by
  by_cases h : (m < 3 ∨ 16 < m) ∨ s < 1 ∨ 1024 < s
  · exact ⟨0, 1, Lib.hid fun w => cap_n m s w h, Lib.hid fun w => rcap_n m s w h⟩
  · exact ⟨_, 0, Lib.hid fun w => cap_y m s w (by omega) (by omega) (by omega) (by omega), Lib.hid fun w => rcap_y m s w (by omega) (by omega) (by omega) (by omega)⟩
theorem parity_both (m s : Int) (h4 : s ≤ 9223372036854775807) : ∃ a e : Int, Hid (∀ w : World, Calls Try.prog 16 #[.int .i64 m, .int .i64 s] w fun x w' => x = .returned (.tuple #[.int .i64 a, .int .i64 e]) ∧ w = w') ∧
    Hid (∀ w : World, Calls Try.prog 20 #[.int .i64 m, .int .i64 s] w fun x w' => x = .returned (.tuple #[.int .i64 a, .int .i64 e]) ∧ w = w') := by
  by_cases h : m < 3 ∨ 16 < m ∨ s < 0
  · exact ⟨0, 1, Lib.hid fun w => parity_n m s w h, Lib.hid fun w => rparity_n m s w h⟩
  · exact ⟨_, 0, Lib.hid fun w => parity_y m s w (by omega) (by omega) (by omega) h4, Lib.hid fun w => rparity_y m s w (by omega) (by omega) (by omega) h4⟩
theorem map_both (m b : Int) (h4 : b ≤ 9223372036854775807) : ∃ s p k e : Int, Hid (∀ w : World, Calls Try.prog 17 #[.int .i64 m, .int .i64 b] w fun x w' => x = .returned (.tuple #[.agg #[.int .i64 s, .int .i64 p, .int .i64 k], .int .i64 e]) ∧ Below w.heap.size w w') ∧
    Hid (∀ w : World, Calls Try.prog 21 #[.int .i64 m, .int .i64 b] w fun x w' => x = .returned (.tuple #[.agg #[.int .i64 s, .int .i64 p, .int .i64 k], .int .i64 e]) ∧ Below w.heap.size w w') := by
  by_cases h : m < 3 ∨ 16 < m ∨ b < 0
  · exact ⟨0, 0, 0, 1, Lib.hid fun w => map_n m b w h, Lib.hid fun w => rmap_n m b w h⟩
  · obtain ⟨n, rfl⟩ : ∃ n : Nat, m = n := ⟨m.toNat, by omega⟩
    exact ⟨_, _, _, 0, Lib.hid fun w => map_y n b w (by omega) (by omega) (by omega) h4, Lib.hid fun w => rmap_y n b w (by omega) (by omega) (by omega) h4⟩

set_option maxHeartbeats 4000000 in
theorem walk (a0 : Int) (a1 : Int) (a2 : Int) (w0 : (Lit.int .i64 a0).wf = true) (w1 : (Lit.int .i64 a1).wf = true) (w2 : (Lit.int .i64 a2).wf = true) (w : World) :
    Calls Try.prog 7 #[.int .i64 a0, .int .i64 a1, .int .i64 a2] w fun e w' => e = .returned (.bool true) ∧ Below w.heap.size w w' := by
  simp only [Lit.wf, Bool.and_eq_true, decide_eq_true_eq] at w2
  have w3 : a2 ≤ 9223372036854775807 := w2.2
  obtain ⟨c, e1, C1, C2⟩ := cap_both a0 a1
  obtain ⟨q, e2, P1, P2⟩ := parity_both a0 a2 w3
  obtain ⟨s, p, k, e3, M1, M2⟩ := map_both a0 a2 w3
  have hq := eql_spot
  clear w0 w1 w2 w3
  go_enter Try.func7, Try.ntmps7
  go_wp2_with fail
  refine (C1.out _).mono ?_
  rintro e w' ⟨rfl, rfl⟩
  go_wp2_with fail
  refine (C2.out _).mono ?_
  rintro e w' ⟨rfl, rfl⟩
  go_wp2_with fail
  refine (P1.out _).mono ?_
  rintro e w' ⟨rfl, rfl⟩
  go_wp2_with fail
  refine (P2.out _).mono ?_
  rintro e w' ⟨rfl, rfl⟩
  go_wp2_with fail
  refine (M1.out _).mono ?_
  rintro e w1 ⟨rfl, hb1⟩
  go_wp2_with fail
  refine (M2.out _).mono ?_
  rintro e w2 ⟨rfl, hb2⟩
  go_wp2_with fail
  refine (lives_any _).mono ?_
  rintro e w3 ⟨rfl, hb3⟩
  have z1 := hb1.size
  have z2 := hb2.size
  have z3 := hb3.size
  simp at z2 z3
  have c0 : w3.cell? ⟨w1.heap.size, 0, none⟩ = some (.int .i64 s) := ((bcell hb3).1 _ 0 (by simp; omega)).trans ((World.cell?_alloc_past _ _ _ (by show w1.heap.size < _; omega)).trans (((bcell hb2).1 _ 0 (by simp)).trans (by rw [World.cell?_alloc_at _ _ _ _ rfl]; rfl)))
  have c1 : w3.cell? ⟨w1.heap.size, 1, none⟩ = some (.int .i64 p) := ((bcell hb3).1 _ 1 (by simp; omega)).trans ((World.cell?_alloc_past _ _ _ (by show w1.heap.size < _; omega)).trans (((bcell hb2).1 _ 1 (by simp)).trans (by rw [World.cell?_alloc_at _ _ _ _ rfl]; rfl)))
  have c2 : w3.cell? ⟨w1.heap.size, 2, none⟩ = some (.int .i64 k) := ((bcell hb3).1 _ 2 (by simp; omega)).trans ((World.cell?_alloc_past _ _ _ (by show w1.heap.size < _; omega)).trans (((bcell hb2).1 _ 2 (by simp)).trans (by rw [World.cell?_alloc_at _ _ _ _ rfl]; rfl)))
  have d0 : w3.cell? ⟨w2.heap.size, 0, none⟩ = some (.int .i64 s) := ((bcell hb3).1 _ 0 (by simp)).trans (by rw [World.cell?_alloc_at _ _ _ _ rfl]; rfl)
  have d1 : w3.cell? ⟨w2.heap.size, 1, none⟩ = some (.int .i64 p) := ((bcell hb3).1 _ 1 (by simp)).trans (by rw [World.cell?_alloc_at _ _ _ _ rfl]; rfl)
  have d2 : w3.cell? ⟨w2.heap.size, 2, none⟩ = some (.int .i64 k) := ((bcell hb3).1 _ 2 (by simp)).trans (by rw [World.cell?_alloc_at _ _ _ _ rfl]; rfl)
  go_wp2
  go_ret
  exact ⟨by simp, (((hb1.alloc z1 _).trans (hb2.mono (by simp; omega))).alloc (by omega) _).trans (hb3.mono (by simp; omega))⟩

set_option maxRecDepth 100000 in
theorem lifted (os : Os) (started : os.Started) (H : Type) (enc : TypeId × Value → H) :
    ReturnsInHanded {} Try.checked os 7 .any (Rows.layMapsSpec.pre6 enc Try.prog Try.f7 Rows.layMapsRow.domain false) (Rows.layMapsSpec.post enc Try.prog Try.f7 false true false false) := by
  refine returnsInHanded_of_change (C := Try.checked) own started (by kernel_rfl) Try.func7
    (ChangeSpec.witness6 (enc := enc) (C := Try.checked) false ⟨#[], #[.int .i64 0, .int .i64 0, .int .i64 0], []⟩ 8 (by kernel_rfl) (by kernel_rfl) (by kernel_rfl) (by kernel_rfl)) ?_
  intro W base args ds gs before hval0 hW hcnd _
  have hval : ∀ (j : Nat) t v, Try.f7.params[j]? = some t → args[j]? = some v → Value.okWide Try.prog W .any base t v := hval0
  have hW' := hW
  obtain ⟨p, q, hA0, hV, rfl, hfz, hnd⟩ := hW
  have hA : DataW.TrodAll enc Try.prog W 0 (fun _ => true) true Try.f7.params.toList args.toList ds p := hA0
  rw [Try.params7] at hA hval
  obtain ⟨v0, vs0, d0, ds0, p0, q0, hargs, rfl, rfl, h0, r0⟩ := trodAll_cons hA
  obtain ⟨v1, vs1, d1, ds1, p1, q1, rfl, rfl, rfl, h1, r1⟩ := trodAll_cons r0
  obtain ⟨v2, vs2, d2, ds2, p2, q2, rfl, rfl, rfl, h2, r2⟩ := trodAll_cons r1
  obtain ⟨rfl, rfl, rfl⟩ := trodAll_nil r2
  obtain rfl : args = #[v0, v1, v2] := by cases args; simp_all
  obtain ⟨rfl, rfl⟩ := trodVars_none hV
  obtain ⟨a0, rfl, rfl, rfl, w0⟩ := open_int Try.underlying3 (hval 0 3 v0 rfl rfl) h0
  obtain ⟨a1, rfl, rfl, rfl, w1⟩ := open_int Try.underlying3 (hval 1 3 v1 rfl rfl) h1
  obtain ⟨a2, rfl, rfl, rfl, w2⟩ := open_int Try.underlying3 (hval 2 3 v2 rfl rfl) h2
  clear hA0 hval0
  refine (walk a0 a1 a2 w0 w1 w2 W).mono fun e W' ⟨he, hg⟩ => ?_
  subst he
  exact ⟨_, rfl, _, _, _, [], _, [], hW', trodAll_mk1 (shut_bool Try.underlying4 _), (trodAll_cons_mk (shut_int Try.underlying3 w0) (trodAll_cons_mk (shut_int Try.underlying3 w1) (trodAll_cons_mk (shut_int Try.underlying3 w2) trodAll_mk0))), rfl, hg.frame _, fun h => by cases h⟩

theorem over : Rows.layMapsRow.holds Try.pinned (OpenSpec.ofChange Rows.layMapsSpec) :=
  OpenClaim.holds_of_wide 7 Try.f7 rfl rfl rfl rfl rfl rfl rfl ⟨rfl, rfl, rfl, rfl, rfl⟩ rfl rfl rfl rfl rfl (by kernel_rfl) Try.func7 (by kernel_rfl)
    (of_decide_eq_true (by kernel_rfl)) (by unfold Func.isWrapper; first | (rw [if_pos (by decide +kernel)]; kernel_rfl) | (rw [if_neg (by decide +kernel)]; exact ⟨rfl, rfl⟩))
    (fun os started H enc _ => lifted os started H enc)

/-- The statement. -/
theorem proved : Rows.LayMapsSaid :=
  over
end Go.Proofs.Ytagclifmbjaecaa.layMaps
namespace Go.Proofs.Ytagclifmbjaecaa
/-- The row, under a short name. -/
theorem layMaps_holds : Rows.LayMapsSaid := layMaps.proved
#print axioms layMaps_holds
end Go.Proofs.Ytagclifmbjaecaa
