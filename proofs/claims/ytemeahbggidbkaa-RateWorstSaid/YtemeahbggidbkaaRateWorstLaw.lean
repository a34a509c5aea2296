/- The greatest of any rates, the first one of those that are alike: rate.Worst comes to what the reference's comes to. No condition. -/
import Derived.Test.YtemeahbggidbkaaRows
import Derived.WalkKit
import Derived.ProofKit
import Derived.OpenShut
import Derived.Test.YtemeahbggidbkaaOpn
import Derived.Test.YtemeahbggidbkaaCpy
import Derived.Test.YtemeahbggidbkaaUni
namespace Go.Proofs.Ytemeahbggidbkaa.rateWorst
open Go.Proofs.Ytemeahbggidbkaa.Own Go.Proofs.Ytemeahbggidbkaa.Fl
open Go.ChangeShapes Go.WideShapes Go.ChangeAt Go.RowKit
open Ieee (double)
set_option linter.unusedVariables false

theorem own : ownKnob Try.prog.godebug = none := by kernel_rfl

set_option maxHeartbeats 4000000 in
theorem walk_n (a0 : Option Addr) (c0 : Nat) (l : List Nat) (w : World) (n : Nat) (hl : Hid (l.length = n)) (hr : Hid (RF w a0 l)) (hwf : Hid (Wf l)) (hle : Hid (l.length ≤ 9223372036854775807 ∧ (a0 = none → c0 = 0))) (hb : Hid (l.length * 8 ≤ 140737488351232)) :
    Calls Try.prog 8 #[.slice a0 n c0] w fun e w' => e = .returned (.bool true) ∧ Below w.heap.size w w' := by
  have U1 : Hid (∀ (a : Option Addr) (c : Nat) (W : World), RF W a l → Calls Try.prog 22 #[.slice a n c] W fun e w' => e = .returned (.tuple #[.int .i64 (wT l : Int), .bool (wH l)]) ∧ W = w') :=
    Lib.hid (fun a c W h => by rw [← hl.out]; exact worst_uni a c l W h hwf.out hle.out.1)
  have U2 : Hid (∀ (a : Option Addr) (c : Nat) (W : World), RF W a l → Calls Try.prog 23 #[.slice a n c] W fun e w' => e = .returned (.tuple #[.int .i64 (wT l : Int), .bool (wH l)]) ∧ ∃ d, w' = W.drewN d) :=
    Lib.hid (fun a c W h => by rw [← hl.out]; exact rworst_uni a c l W h hwf.out hle.out.1)
  obtain ⟨t, ht⟩ : ∃ t, wT l = t := ⟨_, rfl⟩
  obtain ⟨h, hh⟩ : ∃ t, wH l = t := ⟨_, rfl⟩
  rw [ht, hh] at U1 U2
  clear ht hh hwf
  by_cases hn : 1000 < n
  · go_enter Try.func8, Try.ntmps8
    go_wp2_with fail
    refine (lives_any _).mono ?_
    rintro e w1 ⟨rfl, hb⟩
    go_wp2
    go_ret
    exact ⟨rfl, hb⟩
  · go_enter Try.func8, Try.ntmps8
    go_wp2_with (at_builtin; refine copy_law (B := w.heap.size) rfl _ _ rfl a0 n c0 l rfl rfl hl.out hr.out hle.out.2 (by have := hb.out; have := hl.out; omega) (Nat.le_refl _) ?_)
    intro a' c' w1 hrf hbel
    have HB := Lib.hid hbel
    have HR := Lib.hid (hr.out.below hbel)
    clear hbel
    go_wp2_with fail
    refine (U1.out _ _ _ hrf).mono ?_
    rintro e w' ⟨rfl, rfl⟩
    go_wp2_with fail
    refine (U2.out _ _ _ HR.out).mono ?_
    rintro e w' ⟨rfl, d, rfl⟩
    go_wp2_with fail
    refine (lives_any _).mono ?_
    rintro e w2 ⟨rfl, hb2⟩
    go_wp2
    go_ret
    exact ⟨by simp, (bdrewN HB.out _).trans (hb2.mono (by have := HB.out.size; simpa using this))⟩
theorem walk (a0 : Option Addr) (c0 : Nat) (l : List Nat) {w : World} (hr : Hid (RF w a0 l)) (hwf : Hid (Wf l)) (hle : Hid (l.length ≤ 9223372036854775807 ∧ (a0 = none → c0 = 0))) (hb : Hid (l.length * 8 ≤ 140737488351232)) (w' : World) (e : w' = w := by rfl) :
    Calls Try.prog 8 #[.slice a0 l.length c0] w' fun e w'' => e = .returned (.bool true) ∧ Below w'.heap.size w' w'' := by
  subst e; exact walk_n a0 c0 l _ _ (Lib.hid rfl) hr hwf hle hb

set_option maxRecDepth 100000 in
theorem lifted (os : Os) (started : os.Started) (H : Type) (enc : TypeId × Value → H) :
    ReturnsInHanded {} Try.checked os 8 .any (Rows.rateWorstSpec.pre6 enc Try.prog Try.f8 Rows.rateWorstRow.domain false) (Rows.rateWorstSpec.post enc Try.prog Try.f8 false true false false) := by
  refine returnsInHanded_of_change_sized (C := Try.checked) own started (by kernel_rfl) Try.func8
    (ChangeSpec.witness6 (enc := enc) (C := Try.checked) false ⟨#[], #[.slice none 0 0], []⟩ 8 (by kernel_rfl) (by kernel_rfl) (by kernel_rfl) (by kernel_rfl)) ?_
  intro W base args ds gs before hval0 hW hcnd hsz0 _
  have hsz : (DataW.weightsEach Try.prog (Try.f8.params.toList ++ Rows.rateWorstSpec.plain.varTypes Try.prog) (ds ++ gs)).all (· ≤ reachBytes) = true := hsz0
  have hval : ∀ (j : Nat) t v, Try.f8.params[j]? = some t → args[j]? = some v → Value.okWide Try.prog W .any base t v := hval0
  have hW' := hW
  obtain ⟨p, q, hA0, hV, rfl, hfz, hnd⟩ := hW
  have hA : DataW.TrodAll enc Try.prog W 0 (fun _ => true) true Try.f8.params.toList args.toList ds p := hA0
  rw [Try.params8] at hA hval hsz
  obtain ⟨v0, vs0, d0, ds0, p0, q0, hargs, rfl, rfl, h0, r0⟩ := trodAll_cons hA
  obtain ⟨rfl, rfl, rfl⟩ := trodAll_nil r0
  obtain rfl : args = #[v0] := by cases args; simp_all
  obtain ⟨rfl, rfl⟩ := trodVars_none hV
  have hlt : ∀ x ∈ p0 ++ [], x.block < W.heap.size := fun x hx => by simpa using hW'.lt x (List.mem_append_left _ hx)
  have hk0 : ∀ W', Below W.heap.size W W' → DataW.Trod enc Try.prog W' 0 (fun b => decide (b < W.heap.size)) true 22 v0 d0 p0 := fun W' hb => Below.trod laidOut (by kernel_rfl) (of_decide_eq_true (by kernel_rfl)) h0 hb (fun x hx => hlt x (by simp [hx]))
  obtain ⟨a0, c0, l0, rfl, s0, t0, u0, z0⟩ := open_row2 (hval 0 22 v0 rfl rfl) h0
  have b0 := len_of hsz (j := 0) rfl rfl z0
  clear hA0 hval0 hsz0
  refine (walk a0 c0 l0 s0 t0 u0 b0 W).mono fun e W' ⟨he, hg⟩ => ?_
  subst he
  exact ⟨_, rfl, _, _, _, [], _, [], hW', trodAll_mk1 (shut_bool Try.underlying4 _), (trodAll_cons_mk (hk0 _ hg) trodAll_mk0), rfl, hg.frame _, fun h => by cases h⟩

theorem over : Rows.rateWorstRow.holds Try.pinned (OpenSpec.ofChange Rows.rateWorstSpec) :=
  OpenClaim.holds_of_wide 8 Try.f8 rfl rfl rfl rfl rfl rfl rfl ⟨rfl, rfl, rfl, rfl, rfl⟩ rfl rfl rfl rfl rfl (by kernel_rfl) Try.func8 (by kernel_rfl)
    (of_decide_eq_true (by kernel_rfl)) (by unfold Func.isWrapper; first | (rw [if_pos (by decide +kernel)]; kernel_rfl) | (rw [if_neg (by decide +kernel)]; exact ⟨rfl, rfl⟩))
    (fun os started H enc _ => lifted os started H enc)

/-- The statement. -/
theorem proved : Rows.RateWorstSaid :=
  over
end Go.Proofs.Ytemeahbggidbkaa.rateWorst
namespace Go.Proofs.Ytemeahbggidbkaa
/-- The row, under a short name. -/
theorem rateWorst_holds : Rows.RateWorstSaid := rateWorst.proved
#print axioms rateWorst_holds
end Go.Proofs.Ytemeahbggidbkaa
