/- The next block lies on the next member, round and round, for all members and blocks. No condition. -/
import Derived.Test.YtagclifmbjaecaaRows
import Derived.WalkKit
import Derived.ProofKit
import Derived.OpenShut
import Derived.Test.YtagclifmbjaecaaLst
namespace Go.Proofs.Ytagclifmbjaecaa.layNext
open Go.Proofs.Ytagclifmbjaecaa.Own
open Go.ChangeShapes Go.WideShapes Go.ChangeAt Go.RowKit
set_option linter.unusedVariables false      -- a walk need not use every 'w<i>' (that an integer argument fits its kind)

theorem own : ownKnob Try.prog.godebug = none := by kernel_rfl

theorem next_law {m b : Int} (h : 3 ≤ m) (h' : m ≤ 16) (_ : 0 ≤ b) :
    (m - 1 - ((b + 1) / (m - 1)) % m + 1 + (b + 1) % (m - 1)) % m = ((m - 1 - (b / (m - 1)) % m + 1 + b % (m - 1)) % m + 1) % m ∧
    ((b + 1) / (m - 1) = b / (m - 1) ∧ (b + 1) % (m - 1) = b % (m - 1) + 1 ∨ (b + 1) / (m - 1) = b / (m - 1) + 1 ∧ (b + 1) % (m - 1) = 0) := by
  obtain rfl | rfl | rfl | rfl | rfl | rfl | rfl | rfl | rfl | rfl | rfl | rfl | rfl | rfl : m = 3 ∨ m = 4 ∨ m = 5 ∨ m = 6 ∨ m = 7 ∨ m = 8 ∨ m = 9 ∨ m = 10 ∨ m = 11 ∨ m = 12 ∨ m = 13 ∨ m = 14 ∨ m = 15 ∨ m = 16 := by omega
  all_goals (simp only [Int.reduceSub]; omega)

/-- What Map tells, its numbers under names. -/
theorem map_named (m b s p k : Int) (w : World) (h1 : 3 ≤ m) (h2 : m ≤ 16) (h3 : 0 ≤ b) (h4 : b ≤ 9223372036854775807)
    (hs : b / (m - 1) = s) (hp : (m - 1 - b / (m - 1) % m + 1 + b % (m - 1)) % m = p) (hk : b % (m - 1) = k) :
    Calls Try.prog 17 #[.int .i64 m, .int .i64 b] w fun e w' => e = .returned (.tuple #[.agg #[.int .i64 s, .int .i64 p, .int .i64 k], .int .i64 0]) ∧ Below w.heap.size w w' := by
  have := map_y m b w h1 h2 h3 h4
  rw [hp, hs, hk] at this
  exact this

set_option maxHeartbeats 1000000 in
theorem walk_no (a0 : Int) (a1 : Int) (h : a0 < 3 ∨ 16 < a0 ∨ a1 < 0) (w : World) :
    Calls Try.prog 6 #[.int .i64 a0, .int .i64 a1] w fun e w' => e = .returned (.bool true) ∧ Below w.heap.size w w' := by
  have H := Lib.hid h
  clear h
  go_enter Try.func6, Try.ntmps6
  go_wp2_with (first
    | (go_at_call 17; refine (map_n _ _ _ H.out).mono ?_; rintro e w1 ⟨rfl, hb⟩)
    | (go_at_call 14; refine (lives_any _).mono ?_; rintro e w2 ⟨rfl, hb2⟩))
  go_ret
  exact ⟨rfl, (hb.alloc hb.size _).trans (hb2.mono (by have := hb.size; simp; omega))⟩

set_option maxHeartbeats 1000000 in
theorem walk_far (a0 : Int) (a1 : Int) (h1 : 3 ≤ a0) (h2 : a0 ≤ 16) (h3 : 1152921504606846976 < a1) (h4 : a1 ≤ 9223372036854775807) (w : World) :
    Calls Try.prog 6 #[.int .i64 a0, .int .i64 a1] w fun e w' => e = .returned (.bool true) ∧ Below w.heap.size w w' := by
  have hm := fun w => map_y a0 a1 w h1 h2 (by omega) h4
  have HM := Lib.hid hm
  clear hm
  go_enter Try.func6, Try.ntmps6
  go_wp2_with (first
    | (go_at_call 17; refine (HM.out _).mono ?_; rintro e w1 ⟨rfl, hb⟩)
    | (go_at_call 14; refine (lives_any _).mono ?_; rintro e w2 ⟨rfl, hb2⟩))
  go_ret
  exact ⟨rfl, (hb.alloc hb.size _).trans (hb2.mono (by have := hb.size; simp; omega))⟩

set_option maxHeartbeats 4000000 in
theorem walk_near (a0 : Int) (a1 : Int) (h1 : 3 ≤ a0) (h2 : a0 ≤ 16) (h3 : 0 ≤ a1) (h4 : a1 ≤ 1152921504606846976) (w : World) :
    Calls Try.prog 6 #[.int .i64 a0, .int .i64 a1] w fun e w' => e = .returned (.bool true) ∧ Below w.heap.size w w' := by
  obtain ⟨n1, n2⟩ := next_law h1 h2 h3
  have q0 : 0 ≤ a1 / (a0 - 1) := Int.ediv_nonneg h3 (by omega)
  have q1 : a1 / (a0 - 1) ≤ a1 := Int.ediv_le_self _ h3
  have r1 := Int.emod_nonneg a1 (show a0 - 1 ≠ 0 by omega)
  have r2 := Int.emod_lt_of_pos a1 (show 0 < a0 - 1 by omega)
  have p1 := Int.emod_nonneg (a0 - 1 - a1 / (a0 - 1) % a0 + 1 + a1 % (a0 - 1)) (show a0 ≠ 0 by omega)
  have p2 := Int.emod_lt_of_pos (a0 - 1 - a1 / (a0 - 1) % a0 + 1 + a1 % (a0 - 1)) (show 0 < a0 by omega)
  obtain ⟨s, hs⟩ : ∃ s, a1 / (a0 - 1) = s := ⟨_, rfl⟩
  obtain ⟨k, hk⟩ : ∃ k, a1 % (a0 - 1) = k := ⟨_, rfl⟩
  obtain ⟨p, hp⟩ : ∃ p, (a0 - 1 - a1 / (a0 - 1) % a0 + 1 + a1 % (a0 - 1)) % a0 = p := ⟨_, rfl⟩
  have hm := fun w => map_named a0 a1 s p k w h1 h2 h3 (by omega) hs hp hk
  rw [hp] at n1 p1 p2
  rw [hs] at n2 q0 q1
  rw [hk] at n2 r1 r2
  have HM := Lib.hid hm
  clear hs hk hp hm
  rcases n2 with ⟨e1, e2⟩ | ⟨e1, e2⟩
  · have hn := fun w => map_named a0 (a1 + 1) s ((p + 1) % a0) (k + 1) w h1 h2 (by omega) (by omega) e1 n1 e2
    have HN := Lib.hid hn
    clear e1 e2 n1 hn
    go_enter Try.func6, Try.ntmps6
    go_wp2_with fail
    refine (HM.out _).mono ?_
    rintro e w1 ⟨rfl, hb⟩
    go_wp2_with fail
    refine (lives_any _).mono ?_
    rintro e w2 ⟨rfl, hb2⟩
    go_wp2_with fail
    refine (HN.out _).mono ?_
    rintro e w3 ⟨rfl, hb3⟩
    have s1 := hb.size
    have s2 := hb2.size
    have s3 := hb3.size
    simp at s2
    have c0 : w3.cell? ⟨w1.heap.size, 0, none⟩ = some (.int .i64 s) := ((bcell hb3).1 _ 0 (by omega)).trans (((bcell hb2).1 _ 0 (by simp)).trans (by rw [World.cell?_alloc_at _ _ _ _ rfl]; rfl))
    have c1 : w3.cell? ⟨w1.heap.size, 1, none⟩ = some (.int .i64 p) := ((bcell hb3).1 _ 1 (by omega)).trans (((bcell hb2).1 _ 1 (by simp)).trans (by rw [World.cell?_alloc_at _ _ _ _ rfl]; rfl))
    have c2 : w3.cell? ⟨w1.heap.size, 2, none⟩ = some (.int .i64 k) := ((bcell hb3).1 _ 2 (by omega)).trans (((bcell hb2).1 _ 2 (by simp)).trans (by rw [World.cell?_alloc_at _ _ _ _ rfl]; rfl))
    have sz : w1.heap.size < w3.heap.size := by omega
    have W1 : IntKind.i64.wrap (p + 1) = p + 1 := IntWalk.i64_in _ (by omega)
    have W2 : IntKind.i64.wrap (k + 1) = k + 1 := IntWalk.i64_in _ (by omega)
    have W3 : IntKind.i64.wrap (s + 1) = s + 1 := IntWalk.i64_in _ (by omega)
    have W4 : (p + 1).tmod a0 = (p + 1) % a0 := Int.tmod_eq_emod_of_nonneg (by omega)
    have W5 : 0 ≤ p + 1 := by omega
    have W6 : (s == s) = true := by simp
    have W7 : (s + 1 == s + 1) = true := by simp
    have W8 : ((p + 1) % a0 == (p + 1) % a0) = true := by simp
    have W9 : (k + 1 == k + 1) = true := by simp
    go_wp2_with fail
    go_quiet (fail)
    go_wp2
    go_ret
    exact ⟨rfl, bdrewN ((((hb.alloc s1 _).trans (hb2.mono (by simp; omega))).trans (hb3.mono (by omega))).alloc (by omega) _) _⟩
  · have hn := fun w => map_named a0 (a1 + 1) (s + 1) ((p + 1) % a0) 0 w h1 h2 (by omega) (by omega) e1 n1 e2
    have HN := Lib.hid hn
    clear e1 e2 n1 hn
    go_enter Try.func6, Try.ntmps6
    go_wp2_with fail
    refine (HM.out _).mono ?_
    rintro e w1 ⟨rfl, hb⟩
    go_wp2_with fail
    refine (lives_any _).mono ?_
    rintro e w2 ⟨rfl, hb2⟩
    go_wp2_with fail
    refine (HN.out _).mono ?_
    rintro e w3 ⟨rfl, hb3⟩
    have s1 := hb.size
    have s2 := hb2.size
    have s3 := hb3.size
    simp at s2
    have c0 : w3.cell? ⟨w1.heap.size, 0, none⟩ = some (.int .i64 s) := ((bcell hb3).1 _ 0 (by omega)).trans (((bcell hb2).1 _ 0 (by simp)).trans (by rw [World.cell?_alloc_at _ _ _ _ rfl]; rfl))
    have c1 : w3.cell? ⟨w1.heap.size, 1, none⟩ = some (.int .i64 p) := ((bcell hb3).1 _ 1 (by omega)).trans (((bcell hb2).1 _ 1 (by simp)).trans (by rw [World.cell?_alloc_at _ _ _ _ rfl]; rfl))
    have c2 : w3.cell? ⟨w1.heap.size, 2, none⟩ = some (.int .i64 k) := ((bcell hb3).1 _ 2 (by omega)).trans (((bcell hb2).1 _ 2 (by simp)).trans (by rw [World.cell?_alloc_at _ _ _ _ rfl]; rfl))
    have sz : w1.heap.size < w3.heap.size := by omega
    have W0 : (s + 1 == s) = false := by simp; omega
    have W1 : IntKind.i64.wrap (p + 1) = p + 1 := IntWalk.i64_in _ (by omega)
    have W2 : IntKind.i64.wrap (k + 1) = k + 1 := IntWalk.i64_in _ (by omega)
    have W3 : IntKind.i64.wrap (s + 1) = s + 1 := IntWalk.i64_in _ (by omega)
    have W4 : (p + 1).tmod a0 = (p + 1) % a0 := Int.tmod_eq_emod_of_nonneg (by omega)
    have W5 : 0 ≤ p + 1 := by omega
    have W6 : (s == s) = true := by simp
    have W7 : (s + 1 == s + 1) = true := by simp
    have W8 : ((p + 1) % a0 == (p + 1) % a0) = true := by simp
    have W9 : (k + 1 == k + 1) = true := by simp
    go_wp2_with fail
    go_quiet (fail)
    go_wp2
    go_ret
    exact ⟨rfl, bdrewN ((((hb.alloc s1 _).trans (hb2.mono (by simp; omega))).trans (hb3.mono (by omega))).alloc (by omega) _) _⟩

theorem walk (a0 : Int) (a1 : Int) (w0 : (Lit.int .i64 a0).wf = true) (w1 : (Lit.int .i64 a1).wf = true) (w : World) :
    Calls Try.prog 6 #[.int .i64 a0, .int .i64 a1] w fun e w' => e = .returned (.bool true) ∧ Below w.heap.size w w' := by
  simp only [Lit.wf, Bool.and_eq_true, decide_eq_true_eq] at w0 w1
  by_cases h : a0 < 3 ∨ 16 < a0 ∨ a1 < 0
  · exact walk_no a0 a1 h w
  · by_cases h2 : 1152921504606846976 < a1
    · exact walk_far a0 a1 (by omega) (by omega) h2 w1.2 w
    · exact walk_near a0 a1 (by omega) (by omega) (by omega) (by omega) w

set_option maxRecDepth 100000 in
theorem lifted (os : Os) (started : os.Started) (H : Type) (enc : TypeId × Value → H) :
    ReturnsInHanded {} Try.checked os 6 .any (Rows.layNextSpec.pre6 enc Try.prog Try.f6 Rows.layNextRow.domain false) (Rows.layNextSpec.post enc Try.prog Try.f6 false true false false) := by
  refine returnsInHanded_of_change (C := Try.checked) own started (by kernel_rfl) Try.func6
    (ChangeSpec.witness6 (enc := enc) (C := Try.checked) false ⟨#[], #[.int .i64 0, .int .i64 0], []⟩ 8 (by kernel_rfl) (by kernel_rfl) (by kernel_rfl) (by kernel_rfl)) ?_
  intro W base args ds gs before hval0 hW hcnd _
  have hval : ∀ (j : Nat) t v, Try.f6.params[j]? = some t → args[j]? = some v → Value.okWide Try.prog W .any base t v := hval0
  have hW' := hW
  obtain ⟨p, q, hA0, hV, rfl, hfz, hnd⟩ := hW
  have hA : DataW.TrodAll enc Try.prog W 0 (fun _ => true) true Try.f6.params.toList args.toList ds p := hA0
  rw [Try.params6] at hA hval
  obtain ⟨v0, vs0, d0, ds0, p0, q0, hargs, rfl, rfl, h0, r0⟩ := trodAll_cons hA
  obtain ⟨v1, vs1, d1, ds1, p1, q1, rfl, rfl, rfl, h1, r1⟩ := trodAll_cons r0
  obtain ⟨rfl, rfl, rfl⟩ := trodAll_nil r1
  obtain rfl : args = #[v0, v1] := by cases args; simp_all
  obtain ⟨rfl, rfl⟩ := trodVars_none hV
  obtain ⟨a0, rfl, rfl, rfl, w0⟩ := open_int Try.underlying3 (hval 0 3 v0 rfl rfl) h0
  obtain ⟨a1, rfl, rfl, rfl, w1⟩ := open_int Try.underlying3 (hval 1 3 v1 rfl rfl) h1
  clear hA0 hval0
  refine (walk a0 a1 w0 w1 W).mono fun e W' ⟨he, hg⟩ => ?_
  subst he
  exact ⟨_, rfl, _, _, _, [], _, [], hW', trodAll_mk1 (shut_bool Try.underlying4 _), (trodAll_cons_mk (shut_int Try.underlying3 w0) (trodAll_cons_mk (shut_int Try.underlying3 w1) trodAll_mk0)), rfl, hg.frame _, fun h => by cases h⟩

theorem over : Rows.layNextRow.holds Try.pinned (OpenSpec.ofChange Rows.layNextSpec) :=
  OpenClaim.holds_of_wide 6 Try.f6 rfl rfl rfl rfl rfl rfl rfl ⟨rfl, rfl, rfl, rfl, rfl⟩ rfl rfl rfl rfl rfl (by kernel_rfl) Try.func6 (by kernel_rfl)
    (of_decide_eq_true (by kernel_rfl)) (by unfold Func.isWrapper; first | (rw [if_pos (by decide +kernel)]; kernel_rfl) | (rw [if_neg (by decide +kernel)]; exact ⟨rfl, rfl⟩))
    (fun os started H enc _ => lifted os started H enc)

/-- The statement. -/
theorem proved : Rows.LayNextSaid :=
  over
end Go.Proofs.Ytagclifmbjaecaa.layNext
namespace Go.Proofs.Ytagclifmbjaecaa
/-- The row, under a short name. -/
theorem layNext_holds : Rows.LayNextSaid := layNext.proved
#print axioms layNext_holds
end Go.Proofs.Ytagclifmbjaecaa
