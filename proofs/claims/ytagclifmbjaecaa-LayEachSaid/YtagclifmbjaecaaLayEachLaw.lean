/- A stripe's data and parity are on all members, on each once, for all members and stripes. No condition. -/
import Derived.Test.YtagclifmbjaecaaRows
import Derived.WalkKit
import Derived.ProofKit
import Derived.OpenShut
import Derived.Test.YtagclifmbjaecaaLst
namespace Go.Proofs.Ytagclifmbjaecaa.layEach
open Go.Proofs.Ytagclifmbjaecaa.Own
open Go.ChangeShapes Go.WideShapes Go.ChangeAt Go.RowKit
set_option linter.unusedVariables false      -- a walk need not use every 'w<i>' (that an integer argument fits its kind)

theorem own : ownKnob Try.prog.godebug = none := by kernel_rfl

theorem place_iff (n : Nat) (p x : Int) (k : Nat) (p0 : 0 ≤ p) (p1 : p < n) (x0 : 0 ≤ x) (x1 : x < n) (hk : k < n) : (p + 1 + (k : Int)) % n = x ↔ k = ((x - p - 1 + n) % n).toNat := by
  have hd : (x - p - 1 + n) % (n : Int) = if p < x then x - p - 1 else x - p - 1 + n := by
    by_cases c : p < x
    · rw [if_pos c, Int.add_emod_right, Int.emod_eq_of_lt (by omega) (by omega)]
    · rw [if_neg c, Int.emod_eq_of_lt (by omega) (by omega)]
  have he : (p + 1 + (k : Int)) % n = if p + 1 + (k : Int) < n then p + 1 + (k : Int) else p + 1 + k - n := by
    by_cases c : p + 1 + (k : Int) < n
    · rw [if_pos c, Int.emod_eq_of_lt (by omega) c]
    · rw [if_neg c, show p + 1 + (k : Int) = (p + 1 + k - n) + n by omega, Int.add_emod_right, Int.emod_eq_of_lt (by omega) (by omega)]; omega
  rw [hd, he]
  split <;> split <;> omega

set_option maxHeartbeats 1000000 in
theorem walk_no (a0 : Int) (a1 : Int) (h : a0 < 3 ∨ 16 < a0 ∨ a1 < 0) (w : World) :
    Calls Try.prog 4 #[.int .i64 a0, .int .i64 a1] w fun e w' => e = .returned (.bool true) ∧ Below w.heap.size w w' := by
  have H := Lib.hid h
  clear h
  go_enter Try.func4, Try.ntmps4
  go_wp2_with (first
    | (go_at_call 15; refine (members_n _ _ _ H.out).mono ?_; rintro e w' ⟨rfl, rfl⟩)
    | (go_at_call 14; refine (lives_any _).mono ?_; rintro e w2 ⟨rfl, hb⟩))
  go_ret
  exact ⟨rfl, hb⟩

set_option maxHeartbeats 4000000 in
theorem walk_yes (n : Nat) (a1 : Int) (h1 : 3 ≤ n) (h2 : n ≤ 16) (h3 : 0 ≤ a1) (h4 : a1 ≤ 9223372036854775807) (w : World) :
    Calls Try.prog 4 #[.int .i64 (n : Int), .int .i64 a1] w fun e w' => e = .returned (.bool true) ∧ Below w.heap.size w w' := by
  have hm := fun w => members_y n a1 w h1 h2 h3 h4
  have hp := fun w => parity_y (n : Int) a1 w (by omega) (by omega) h3 h4
  have b1 := Int.emod_nonneg a1 (show (n : Int) ≠ 0 by omega)
  have b2 := Int.emod_lt_of_pos a1 (show 0 < (n : Int) by omega)
  obtain ⟨p, hpp⟩ : ∃ p, (n : Int) - 1 - a1 % n = p := ⟨_, rfl⟩
  have p0 : 0 ≤ p := by omega
  have p1 : p < n := by omega
  rw [hpp] at hm hp
  have M := Lib.hid hm
  have P := Lib.hid hp
  clear hm hp hpp b1 b2
  go_enter Try.func4, Try.ntmps4
  go_wp2_with fail
  refine (M.out _).mono ?_
  rintro e w1 ⟨v, rfl, hown, hb1⟩
  obtain ⟨g, c, rfl, g0, g1, _, hc⟩ := own_open hown (by omega)
  have HC : Hid (∀ j : Nat, j < n → w1.cell? ⟨g, j, none⟩ = some (.int .i64 ((p + 1 + (j : Int)) % n))) := Lib.hid (fun j hj => by rw [hc j hj, mem_getD _ _ _ _ hj])
  clear hc hown
  go_wp2_with fail
  refine (lives_any _).mono ?_
  rintro e w2 ⟨rfl, hb2⟩
  have HC2 : Hid (∀ j : Nat, j < n → w2.cell? ⟨g, j, none⟩ = some (.int .i64 ((p + 1 + (j : Int)) % n))) := Lib.hid (fun j hj => ((bcell hb2).1 _ _ g1).trans (HC.out j hj))
  clear HC
  go_wp2_with fail
  refine (P.out _).mono ?_
  rintro e w' ⟨rfl, rfl⟩
  go_wp2
  go_loop [9] (fun m => ∃ j : Nat, j ≤ n ∧ m = .int .i64 j) (fun m => n - (intOf m).toNat)
  case atStart => exact ⟨0, Nat.zero_le _, rfl⟩
  case round =>
    obtain ⟨j, hj, rfl⟩ := hrel
    by_cases hlt : j < n
    · have hpl := fun k hk => place_iff n p j k p0 p1 (by omega) (by omega) hk
      have ht0 := Int.emod_nonneg ((j : Int) - p - 1 + n) (show (n : Int) ≠ 0 by omega)
      have ht1 := Int.emod_lt_of_pos ((j : Int) - p - 1 + n) (show 0 < (n : Int) by omega)
      obtain ⟨t, ht⟩ : ∃ t : Nat, (((j : Int) - p - 1 + n) % n).toNat = t := ⟨_, rfl⟩
      have htn : t < n := by omega
      rw [ht] at hpl
      have PL := Lib.hid hpl
      clear ht ht0 ht1 hpl
      go_wp2
      go_loop [10, 11] (fun c i => ∃ k q : Nat, k ≤ n ∧ i = .int .i64 k ∧ c = .int .i64 q ∧ q ≤ 1 ∧ Hid (q = if t < k then 1 else 0)) (fun _ i => n - (intOf i).toNat)
      case atStart => exact ⟨0, 0, Nat.zero_le _, rfl, rfl, by omega, Lib.hid (by rw [if_neg (by omega)])⟩
      case round =>
        obtain ⟨k, q, hk, rfl, rfl, hq, HQ⟩ := hrel
        by_cases hkn : k < n
        · have hcell := HC2.out k hkn
          obtain ⟨y, hy⟩ : ∃ y, (p + 1 + (k : Int)) % n = y := ⟨_, rfl⟩
          rw [hy] at hcell
          by_cases hyj : y = j
          · have e1 : k = t := (PL.out k hkn).1 (by rw [hy, hyj])
            have HQ1 : Hid (q + 1 = if t < k + 1 then 1 else 0) := Lib.hid (by rw [HQ.out, if_neg (by omega), if_pos (by omega)])
            have hq0 : q + 1 ≤ 1 := by have := HQ1.out; rw [if_pos (by omega)] at this; omega
            subst hyj
            clear hy e1 HQ
            go_wp2
            go_round
            case rel => exact ⟨k + 1, q + 1, by omega, by go_num, by go_num, hq0, HQ1⟩
            case measure => simp [intOf]; omega
          · have e1 : k ≠ t := fun e => hyj (by rw [← hy]; exact (PL.out k hkn).2 e)
            have HQ1 : Hid (q = if t < k + 1 then 1 else 0) := Lib.hid (by
              rw [HQ.out]
              by_cases c : t < k
              · rw [if_pos c, if_pos (by omega)]
              · rw [if_neg c, if_neg (by omega)])
            have hne : (y == (j : Int)) = false := by simpa using hyj
            clear hy e1 HQ hyj
            go_wp2
            go_round
            case rel => exact ⟨k + 1, q, by omega, by go_num, rfl, hq, HQ1⟩
            case measure => simp [intOf]; omega
        · have hq1 : q = 1 := by have := HQ.out; rw [if_pos (by omega)] at this; exact this
          subst hq1
          clear HQ hq
          go_wp2
          go_round
          case rel => exact ⟨j + 1, by omega, by go_num⟩
          case measure => simp [intOf]; omega
    · have hjn : j = n := by omega
      subst hjn
      have hcell := HC2.out (j - 1) (by omega)
      rw [show (p + 1 + ((j - 1 : Nat) : Int)) % (j : Int) = p by rw [show p + 1 + ((j - 1 : Nat) : Int) = p + j by omega, Int.add_emod_right, Int.emod_eq_of_lt p0 p1]] at hcell
      have hi : ((j : Int) - 1).toNat = j - 1 := by omega
      have hpp : (p == p) = true := by simp
      have i0 : 0 ≤ (j : Int) - 1 := by omega
      have i1 : (j : Int) - 1 < j := by omega
      go_wp2
      go_ret
      exact ⟨rfl, hb1.trans (hb2.mono hb1.size)⟩

theorem walk (a0 : Int) (a1 : Int) (w0 : (Lit.int .i64 a0).wf = true) (w1 : (Lit.int .i64 a1).wf = true) (w : World) :
    Calls Try.prog 4 #[.int .i64 a0, .int .i64 a1] w fun e w' => e = .returned (.bool true) ∧ Below w.heap.size w w' := by
  simp only [Lit.wf, Bool.and_eq_true, decide_eq_true_eq] at w1
  by_cases h : a0 < 3 ∨ 16 < a0 ∨ a1 < 0
  · exact walk_no a0 a1 h w
  · obtain ⟨n, rfl⟩ : ∃ n : Nat, a0 = n := ⟨a0.toNat, by omega⟩
    exact walk_yes n a1 (by omega) (by omega) (by omega) w1.2 w

set_option maxRecDepth 100000 in
theorem lifted (os : Os) (started : os.Started) (H : Type) (enc : TypeId × Value → H) :
    ReturnsInHanded {} Try.checked os 4 .any (Rows.layEachSpec.pre6 enc Try.prog Try.f4 Rows.layEachRow.domain false) (Rows.layEachSpec.post enc Try.prog Try.f4 false true false false) := by
  refine returnsInHanded_of_change (C := Try.checked) own started (by kernel_rfl) Try.func4
    (ChangeSpec.witness6 (enc := enc) (C := Try.checked) false ⟨#[], #[.int .i64 0, .int .i64 0], []⟩ 8 (by kernel_rfl) (by kernel_rfl) (by kernel_rfl) (by kernel_rfl)) ?_
  intro W base args ds gs before hval0 hW hcnd _
  have hval : ∀ (j : Nat) t v, Try.f4.params[j]? = some t → args[j]? = some v → Value.okWide Try.prog W .any base t v := hval0
  have hW' := hW
  obtain ⟨p, q, hA0, hV, rfl, hfz, hnd⟩ := hW
  have hA : DataW.TrodAll enc Try.prog W 0 (fun _ => true) true Try.f4.params.toList args.toList ds p := hA0
  rw [Try.params4] at hA hval
  obtain ⟨v0, vs0, d0, ds0, p0, q0, hargs, rfl, rfl, h0, r0⟩ := trodAll_cons hA
  obtain ⟨v1, vs1, d1, ds1, p1, q1, rfl, rfl, rfl, h1, r1⟩ := trodAll_cons r0
  obtain ⟨rfl, rfl, rfl⟩ := trodAll_nil r1
  obtain rfl : args = #[v0, v1] := by cases args; simp_all
  obtain ⟨rfl, rfl⟩ := trodVars_none hV
  obtain ⟨a0, rfl, rfl, rfl, w0⟩ := open_int Try.underlying3 (hval 0 3 v0 rfl rfl) h0
  obtain ⟨a1, rfl, rfl, rfl, w1⟩ := open_int Try.underlying3 (hval 1 3 v1 rfl rfl) h1
  clear hA0 hval0
  refine (walk a0 a1 w0 w1 W).mono fun e W' ⟨he, hg⟩ => ?_
  subst he
  exact ⟨_, rfl, _, _, _, [], _, [], hW', trodAll_mk1 (shut_bool Try.underlying4 _), (trodAll_cons_mk (shut_int Try.underlying3 w0) (trodAll_cons_mk (shut_int Try.underlying3 w1) trodAll_mk0)), rfl, hg.frame _, fun h => by cases h⟩

theorem over : Rows.layEachRow.holds Try.pinned (OpenSpec.ofChange Rows.layEachSpec) :=
  OpenClaim.holds_of_wide 4 Try.f4 rfl rfl rfl rfl rfl rfl rfl ⟨rfl, rfl, rfl, rfl, rfl⟩ rfl rfl rfl rfl rfl (by kernel_rfl) Try.func4 (by kernel_rfl)
    (of_decide_eq_true (by kernel_rfl)) (by unfold Func.isWrapper; first | (rw [if_pos (by decide +kernel)]; kernel_rfl) | (rw [if_neg (by decide +kernel)]; exact ⟨rfl, rfl⟩))
    (fun os started H enc _ => lifted os started H enc)

/-- The statement. -/
theorem proved : Rows.LayEachSaid :=
  over
end Go.Proofs.Ytagclifmbjaecaa.layEach
namespace Go.Proofs.Ytagclifmbjaecaa
/-- The row, under a short name. -/
theorem layEach_holds : Rows.LayEachSaid := layEach.proved
#print axioms layEach_holds
end Go.Proofs.Ytagclifmbjaecaa
