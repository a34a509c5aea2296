/- Any share, and what any numbers come to, one with another: rate.Part is the quotient, rate.Mean comes to what the reference's comes to; a share by nought is no number or beyond one. No condition. -/
import Derived.Test.YtemeahbggidbkaaRows
import Derived.WalkKit
import Derived.ProofKit
import Derived.OpenShut
import Derived.Test.YtemeahbggidbkaaOpn
import Derived.Test.YtemeahbggidbkaaCpy
import Derived.Test.YtemeahbggidbkaaZdv
namespace Go.Proofs.Ytemeahbggidbkaa.rateParts
open Go.Proofs.Ytemeahbggidbkaa.Own Go.Proofs.Ytemeahbggidbkaa.Fl
open Go.ChangeShapes Go.WideShapes Go.ChangeAt Go.RowKit
open Ieee (double)
set_option linter.unusedVariables false

theorem own : ownKnob Try.prog.godebug = none := by kernel_rfl

theorem is_nan (x y : Nat) (w : World) : Is none (nanW x y w) := ⟨(nanW_nan x y w).2, .inr ⟨rfl, (nanW_nan x y w).1⟩⟩
theorem shares (d a : Int) (r : Nat) (h : Is (double.div (ofI d) (ofI a)) r) : a ≠ 0 ∨ a = 0 ∧ isNaN r = true ∨ a = 0 ∧ isNaN r = false ∧ flt 4607182418800017408 r = true ∨ a = 0 ∧ isNaN r = false ∧ flt 4607182418800017408 r = false ∧ flt r 13830554455654793216 = true := by
  by_cases g : a = 0
  · subst g
    rcases zero_share h with k | ⟨k, k'⟩ | ⟨k, k', k''⟩
    · exact .inr (.inl ⟨rfl, k⟩)
    · exact .inr (.inr (.inl ⟨rfl, k, k'⟩))
    · exact .inr (.inr (.inr ⟨rfl, k, k', k''⟩))
  · exact .inl g
set_option maxHeartbeats 16000000 in
theorem walk_n (a0 a1 : Int) (a2 : Option Addr) (c2 : Nat) (l : List Nat) (w : World) (n : Nat) (hl : Hid (l.length = n)) (hr : Hid (RF w a2 l)) (hle : Hid (l.length ≤ 9223372036854775807 ∧ (a2 = none → c2 = 0))) (hb : Hid (l.length * 8 ≤ 140737488351232)) :
    Calls Try.prog 3 #[.int .i64 a0, .int .i64 a1, .slice a2 n c2] w fun e w' => e = .returned (.bool true) ∧ Below w.heap.size w w' := by
  have U1 : Hid (∀ (a : Option Addr) (c : Nat) (W : World), RF W a l → Calls Try.prog 15 #[.slice a n c] W fun e w' => ∃ r, e = .returned (.float .f64 r) ∧ Is (meanO l) r ∧ ∃ d, w' = W.drewN d) :=
    Lib.hid (fun a c W h => mean_any a c n l W hl.out (by rw [← hl.out]; exact hle.out.1) h)
  have U2 : Hid (∀ (a : Option Addr) (c : Nat) (W : World), RF W a l → Calls Try.prog 16 #[.slice a n c] W fun e w' => ∃ r, e = .returned (.float .f64 r) ∧ Is (meanO l) r ∧ ∃ d, w' = W.drewN d) :=
    Lib.hid (fun a c W h => rmean_any a c n l W hl.out (by rw [← hl.out]; exact hle.out.1) h)
  have cv := fun n w => run_convert_int_float (P := Try.prog) (w := w) 3 23 .i64 .f64 n (by kernel_rfl) Try.underlying23
  have e1 := ofI_eq a0
  have e2 := ofI_eq a1
  go_enter Try.func3, Try.ntmps3
  go_wp2_with fail
  refine (part_any a0 a1 _).mono ?_
  rintro e w' ⟨r, rfl, hi, d0, rfl⟩
  have F := shares a0 a1 r hi
  have n1 := neq_self r
  have n2 := gt_flt r 4607182418800017408
  have n3 := lt_flt r 13830554455654793216
  rcases hd : double.div (ofI a0) (ofI a1) with _ | q
  · have HS : Hid (∀ W, same r (nanW (ofI a0) (ofI a1) W) = true) := Lib.hid (fun W => hi.same (by rw [hd]; exact is_nan _ _ W))
    have hq := fun w => run_quo_none (x := ofI a0) (y := ofI a1) hd 23 w
    clear hi hd
    rcases F with g | ⟨g, k⟩ | ⟨g, k, k'⟩ | ⟨g, k, k', k''⟩
    · clear n1 n2 n3
      have G := Lib.hid g
      clear g
      go_wp2_with fail
      refine (lives_any _).mono ?_
      rintro e w1 ⟨rfl, hb1⟩
      have HB1 := Lib.hid ((bdrewN (Below.refl w.heap.size w) d0).trans (hb1.mono (by simp)))
      clear hb1
      go_wp2_with fail
      refine (same_any _ _ _).mono ?_
      rintro e w' ⟨rfl, rfl⟩
      rw [HS.out]
      go_wp2_with (at_builtin; refine copy_law (w := w1.drew) (B := w.heap.size) rfl _ _ rfl a2 n c2 l rfl rfl hl.out ?c1 hle.out.2 (by have := hb.out; have := hl.out; omega) ?c2 ?_)
      case c1 => first | exact (hr.out.below HB1.out) | exact (hr.out.below (bdrewN HB1.out 1))
      case c2 => have := HB1.out.size; simpa using this
      intro a' c' w2 hrf hbel
      have HR := Lib.hid (hr.out.below ((bdrewN HB1.out 1).trans hbel))
      have HB := Lib.hid ((bdrewN HB1.out 1).trans hbel)
      clear hbel
      go_wp2_with fail
      refine (U1.out _ _ _ hrf).mono ?_
      rintro e w' ⟨r1, rfl, i1, d1, rfl⟩
      have I1 := Lib.hid i1
      clear i1
      go_wp2_with fail
      refine (U2.out _ _ _ (HR.out.drewN _)).mono ?_
      rintro e w' ⟨r2, rfl, i2, d2, rfl⟩
      have I2 := Lib.hid (I1.out.same i2)
      clear i2 I1
      go_wp2_with fail
      refine (same_any _ _ _).mono ?_
      rintro e w' ⟨rfl, rfl⟩
      rw [I2.out]
      have g := G.out
      clear G
      go_wp2
      go_ret
      exact ⟨rfl, bdrewN HB.out _⟩
    · rw [k] at n1
      clear n2 n3 k
      have G := Lib.hid g
      clear g
      go_wp2_with fail
      refine (lives_any _).mono ?_
      rintro e w1 ⟨rfl, hb1⟩
      have HB1 := Lib.hid ((bdrewN (Below.refl w.heap.size w) d0).trans (hb1.mono (by simp)))
      clear hb1
      go_wp2_with fail
      refine (same_any _ _ _).mono ?_
      rintro e w' ⟨rfl, rfl⟩
      rw [HS.out]
      go_wp2_with (at_builtin; refine copy_law (w := w1.drew) (B := w.heap.size) rfl _ _ rfl a2 n c2 l rfl rfl hl.out ?c1 hle.out.2 (by have := hb.out; have := hl.out; omega) ?c2 ?_)
      case c1 => first | exact (hr.out.below HB1.out) | exact (hr.out.below (bdrewN HB1.out 1))
      case c2 => have := HB1.out.size; simpa using this
      intro a' c' w2 hrf hbel
      have HR := Lib.hid (hr.out.below ((bdrewN HB1.out 1).trans hbel))
      have HB := Lib.hid ((bdrewN HB1.out 1).trans hbel)
      clear hbel
      go_wp2_with fail
      refine (U1.out _ _ _ hrf).mono ?_
      rintro e w' ⟨r1, rfl, i1, d1, rfl⟩
      have I1 := Lib.hid i1
      clear i1
      go_wp2_with fail
      refine (U2.out _ _ _ (HR.out.drewN _)).mono ?_
      rintro e w' ⟨r2, rfl, i2, d2, rfl⟩
      have I2 := Lib.hid (I1.out.same i2)
      clear i2 I1
      go_wp2_with fail
      refine (same_any _ _ _).mono ?_
      rintro e w' ⟨rfl, rfl⟩
      rw [I2.out]
      have g := G.out
      clear G
      go_wp2
      go_ret
      exact ⟨rfl, bdrewN HB.out _⟩
    · rw [k] at n1
      rw [k'] at n2
      clear n3 k k'
      have G := Lib.hid g
      clear g
      go_wp2_with fail
      refine (lives_any _).mono ?_
      rintro e w1 ⟨rfl, hb1⟩
      have HB1 := Lib.hid ((bdrewN (Below.refl w.heap.size w) d0).trans (hb1.mono (by simp)))
      clear hb1
      go_wp2_with fail
      refine (same_any _ _ _).mono ?_
      rintro e w' ⟨rfl, rfl⟩
      rw [HS.out]
      go_wp2_with (at_builtin; refine copy_law (w := w1.drew) (B := w.heap.size) rfl _ _ rfl a2 n c2 l rfl rfl hl.out ?c1 hle.out.2 (by have := hb.out; have := hl.out; omega) ?c2 ?_)
      case c1 => first | exact (hr.out.below HB1.out) | exact (hr.out.below (bdrewN HB1.out 1))
      case c2 => have := HB1.out.size; simpa using this
      intro a' c' w2 hrf hbel
      have HR := Lib.hid (hr.out.below ((bdrewN HB1.out 1).trans hbel))
      have HB := Lib.hid ((bdrewN HB1.out 1).trans hbel)
      clear hbel
      go_wp2_with fail
      refine (U1.out _ _ _ hrf).mono ?_
      rintro e w' ⟨r1, rfl, i1, d1, rfl⟩
      have I1 := Lib.hid i1
      clear i1
      go_wp2_with fail
      refine (U2.out _ _ _ (HR.out.drewN _)).mono ?_
      rintro e w' ⟨r2, rfl, i2, d2, rfl⟩
      have I2 := Lib.hid (I1.out.same i2)
      clear i2 I1
      go_wp2_with fail
      refine (same_any _ _ _).mono ?_
      rintro e w' ⟨rfl, rfl⟩
      rw [I2.out]
      have g := G.out
      clear G
      go_wp2
      go_ret
      exact ⟨rfl, bdrewN HB.out _⟩
    · rw [k] at n1
      rw [k'] at n2
      rw [k''] at n3
      clear k k' k''
      have G := Lib.hid g
      clear g
      go_wp2_with fail
      refine (lives_any _).mono ?_
      rintro e w1 ⟨rfl, hb1⟩
      have HB1 := Lib.hid ((bdrewN (Below.refl w.heap.size w) d0).trans (hb1.mono (by simp)))
      clear hb1
      go_wp2_with fail
      refine (same_any _ _ _).mono ?_
      rintro e w' ⟨rfl, rfl⟩
      rw [HS.out]
      go_wp2_with (at_builtin; refine copy_law (w := w1.drew) (B := w.heap.size) rfl _ _ rfl a2 n c2 l rfl rfl hl.out ?c1 hle.out.2 (by have := hb.out; have := hl.out; omega) ?c2 ?_)
      case c1 => first | exact (hr.out.below HB1.out) | exact (hr.out.below (bdrewN HB1.out 1))
      case c2 => have := HB1.out.size; simpa using this
      intro a' c' w2 hrf hbel
      have HR := Lib.hid (hr.out.below ((bdrewN HB1.out 1).trans hbel))
      have HB := Lib.hid ((bdrewN HB1.out 1).trans hbel)
      clear hbel
      go_wp2_with fail
      refine (U1.out _ _ _ hrf).mono ?_
      rintro e w' ⟨r1, rfl, i1, d1, rfl⟩
      have I1 := Lib.hid i1
      clear i1
      go_wp2_with fail
      refine (U2.out _ _ _ (HR.out.drewN _)).mono ?_
      rintro e w' ⟨r2, rfl, i2, d2, rfl⟩
      have I2 := Lib.hid (I1.out.same i2)
      clear i2 I1
      go_wp2_with fail
      refine (same_any _ _ _).mono ?_
      rintro e w' ⟨rfl, rfl⟩
      rw [I2.out]
      have g := G.out
      clear G
      go_wp2
      go_ret
      exact ⟨rfl, bdrewN HB.out _⟩
  · have HS : Hid (same r q = true) := Lib.hid (hi.same (by rw [hd]; exact ⟨div_bound hd, .inl rfl⟩))
    have hq := fun w => run_arith_some (op := .quo) (x := ofI a0) (y := ofI a1) (r := q) hd 23 w
    clear hi hd
    rcases F with g | ⟨g, k⟩ | ⟨g, k, k'⟩ | ⟨g, k, k', k''⟩
    · clear n1 n2 n3
      have G := Lib.hid g
      clear g
      go_wp2_with fail
      refine (lives_any _).mono ?_
      rintro e w1 ⟨rfl, hb1⟩
      have HB1 := Lib.hid ((bdrewN (Below.refl w.heap.size w) d0).trans (hb1.mono (by simp)))
      clear hb1
      go_wp2_with fail
      refine (same_any _ _ _).mono ?_
      rintro e w' ⟨rfl, rfl⟩
      rw [HS.out]
      go_wp2_with (at_builtin; refine copy_law (w := w1) (B := w.heap.size) rfl _ _ rfl a2 n c2 l rfl rfl hl.out ?c1 hle.out.2 (by have := hb.out; have := hl.out; omega) ?c2 ?_)
      case c1 => first | exact (hr.out.below HB1.out) | exact (hr.out.below (bdrewN HB1.out 1))
      case c2 => have := HB1.out.size; simpa using this
      intro a' c' w2 hrf hbel
      have HR := Lib.hid (hr.out.below ((HB1.out).trans hbel))
      have HB := Lib.hid ((HB1.out).trans hbel)
      clear hbel
      go_wp2_with fail
      refine (U1.out _ _ _ hrf).mono ?_
      rintro e w' ⟨r1, rfl, i1, d1, rfl⟩
      have I1 := Lib.hid i1
      clear i1
      go_wp2_with fail
      refine (U2.out _ _ _ (HR.out.drewN _)).mono ?_
      rintro e w' ⟨r2, rfl, i2, d2, rfl⟩
      have I2 := Lib.hid (I1.out.same i2)
      clear i2 I1
      go_wp2_with fail
      refine (same_any _ _ _).mono ?_
      rintro e w' ⟨rfl, rfl⟩
      rw [I2.out]
      have g := G.out
      clear G
      go_wp2
      go_ret
      exact ⟨rfl, bdrewN HB.out _⟩
    · rw [k] at n1
      clear n2 n3 k
      have G := Lib.hid g
      clear g
      go_wp2_with fail
      refine (lives_any _).mono ?_
      rintro e w1 ⟨rfl, hb1⟩
      have HB1 := Lib.hid ((bdrewN (Below.refl w.heap.size w) d0).trans (hb1.mono (by simp)))
      clear hb1
      go_wp2_with fail
      refine (same_any _ _ _).mono ?_
      rintro e w' ⟨rfl, rfl⟩
      rw [HS.out]
      go_wp2_with (at_builtin; refine copy_law (w := w1) (B := w.heap.size) rfl _ _ rfl a2 n c2 l rfl rfl hl.out ?c1 hle.out.2 (by have := hb.out; have := hl.out; omega) ?c2 ?_)
      case c1 => first | exact (hr.out.below HB1.out) | exact (hr.out.below (bdrewN HB1.out 1))
      case c2 => have := HB1.out.size; simpa using this
      intro a' c' w2 hrf hbel
      have HR := Lib.hid (hr.out.below ((HB1.out).trans hbel))
      have HB := Lib.hid ((HB1.out).trans hbel)
      clear hbel
      go_wp2_with fail
      refine (U1.out _ _ _ hrf).mono ?_
      rintro e w' ⟨r1, rfl, i1, d1, rfl⟩
      have I1 := Lib.hid i1
      clear i1
      go_wp2_with fail
      refine (U2.out _ _ _ (HR.out.drewN _)).mono ?_
      rintro e w' ⟨r2, rfl, i2, d2, rfl⟩
      have I2 := Lib.hid (I1.out.same i2)
      clear i2 I1
      go_wp2_with fail
      refine (same_any _ _ _).mono ?_
      rintro e w' ⟨rfl, rfl⟩
      rw [I2.out]
      have g := G.out
      clear G
      go_wp2
      go_ret
      exact ⟨rfl, bdrewN HB.out _⟩
    · rw [k] at n1
      rw [k'] at n2
      clear n3 k k'
      have G := Lib.hid g
      clear g
      go_wp2_with fail
      refine (lives_any _).mono ?_
      rintro e w1 ⟨rfl, hb1⟩
      have HB1 := Lib.hid ((bdrewN (Below.refl w.heap.size w) d0).trans (hb1.mono (by simp)))
      clear hb1
      go_wp2_with fail
      refine (same_any _ _ _).mono ?_
      rintro e w' ⟨rfl, rfl⟩
      rw [HS.out]
      go_wp2_with (at_builtin; refine copy_law (w := w1) (B := w.heap.size) rfl _ _ rfl a2 n c2 l rfl rfl hl.out ?c1 hle.out.2 (by have := hb.out; have := hl.out; omega) ?c2 ?_)
      case c1 => first | exact (hr.out.below HB1.out) | exact (hr.out.below (bdrewN HB1.out 1))
      case c2 => have := HB1.out.size; simpa using this
      intro a' c' w2 hrf hbel
      have HR := Lib.hid (hr.out.below ((HB1.out).trans hbel))
      have HB := Lib.hid ((HB1.out).trans hbel)
      clear hbel
      go_wp2_with fail
      refine (U1.out _ _ _ hrf).mono ?_
      rintro e w' ⟨r1, rfl, i1, d1, rfl⟩
      have I1 := Lib.hid i1
      clear i1
      go_wp2_with fail
      refine (U2.out _ _ _ (HR.out.drewN _)).mono ?_
      rintro e w' ⟨r2, rfl, i2, d2, rfl⟩
      have I2 := Lib.hid (I1.out.same i2)
      clear i2 I1
      go_wp2_with fail
      refine (same_any _ _ _).mono ?_
      rintro e w' ⟨rfl, rfl⟩
      rw [I2.out]
      have g := G.out
      clear G
      go_wp2
      go_ret
      exact ⟨rfl, bdrewN HB.out _⟩
    · rw [k] at n1
      rw [k'] at n2
      rw [k''] at n3
      clear k k' k''
      have G := Lib.hid g
      clear g
      go_wp2_with fail
      refine (lives_any _).mono ?_
      rintro e w1 ⟨rfl, hb1⟩
      have HB1 := Lib.hid ((bdrewN (Below.refl w.heap.size w) d0).trans (hb1.mono (by simp)))
      clear hb1
      go_wp2_with fail
      refine (same_any _ _ _).mono ?_
      rintro e w' ⟨rfl, rfl⟩
      rw [HS.out]
      go_wp2_with (at_builtin; refine copy_law (w := w1) (B := w.heap.size) rfl _ _ rfl a2 n c2 l rfl rfl hl.out ?c1 hle.out.2 (by have := hb.out; have := hl.out; omega) ?c2 ?_)
      case c1 => first | exact (hr.out.below HB1.out) | exact (hr.out.below (bdrewN HB1.out 1))
      case c2 => have := HB1.out.size; simpa using this
      intro a' c' w2 hrf hbel
      have HR := Lib.hid (hr.out.below ((HB1.out).trans hbel))
      have HB := Lib.hid ((HB1.out).trans hbel)
      clear hbel
      go_wp2_with fail
      refine (U1.out _ _ _ hrf).mono ?_
      rintro e w' ⟨r1, rfl, i1, d1, rfl⟩
      have I1 := Lib.hid i1
      clear i1
      go_wp2_with fail
      refine (U2.out _ _ _ (HR.out.drewN _)).mono ?_
      rintro e w' ⟨r2, rfl, i2, d2, rfl⟩
      have I2 := Lib.hid (I1.out.same i2)
      clear i2 I1
      go_wp2_with fail
      refine (same_any _ _ _).mono ?_
      rintro e w' ⟨rfl, rfl⟩
      rw [I2.out]
      have g := G.out
      clear G
      go_wp2
      go_ret
      exact ⟨rfl, bdrewN HB.out _⟩
theorem walk (a0 : Int) (_ : (Lit.int .i64 a0).wf = true) (a1 : Int) (_ : (Lit.int .i64 a1).wf = true) (a2 : Option Addr) (c2 : Nat) (l : List Nat) {w : World} (hr : Hid (RF w a2 l)) (_ : Hid (Wf l)) (hle : Hid (l.length ≤ 9223372036854775807 ∧ (a2 = none → c2 = 0))) (hb : Hid (l.length * 8 ≤ 140737488351232)) (w' : World) (e : w' = w := by rfl) :
    Calls Try.prog 3 #[.int .i64 a0, .int .i64 a1, .slice a2 l.length c2] w' fun e w'' => e = .returned (.bool true) ∧ Below w'.heap.size w' w'' := by
  subst e; exact walk_n a0 a1 a2 c2 l _ _ (Lib.hid rfl) hr hle hb

set_option maxRecDepth 100000 in
theorem lifted (os : Os) (started : os.Started) (H : Type) (enc : TypeId × Value → H) :
    ReturnsInHanded {} Try.checked os 3 .any (Rows.ratePartsSpec.pre6 enc Try.prog Try.f3 Rows.ratePartsRow.domain false) (Rows.ratePartsSpec.post enc Try.prog Try.f3 false true false false) := by
  refine returnsInHanded_of_change_sized (C := Try.checked) own started (by kernel_rfl) Try.func3
    (ChangeSpec.witness6 (enc := enc) (C := Try.checked) false ⟨#[], #[.int .i64 0, .int .i64 0, .slice none 0 0], []⟩ 8 (by kernel_rfl) (by kernel_rfl) (by kernel_rfl) (by kernel_rfl)) ?_
  intro W base args ds gs before hval0 hW hcnd hsz0 _
  have hsz : (DataW.weightsEach Try.prog (Try.f3.params.toList ++ Rows.ratePartsSpec.plain.varTypes Try.prog) (ds ++ gs)).all (· ≤ reachBytes) = true := hsz0
  have hval : ∀ (j : Nat) t v, Try.f3.params[j]? = some t → args[j]? = some v → Value.okWide Try.prog W .any base t v := hval0
  have hW' := hW
  obtain ⟨p, q, hA0, hV, rfl, hfz, hnd⟩ := hW
  have hA : DataW.TrodAll enc Try.prog W 0 (fun _ => true) true Try.f3.params.toList args.toList ds p := hA0
  rw [Try.params3] at hA hval hsz
  obtain ⟨v0, vs0, d0, ds0, p0, q0, hargs, rfl, rfl, h0, r0⟩ := trodAll_cons hA
  obtain ⟨v1, vs1, d1, ds1, p1, q1, rfl, rfl, rfl, h1, r1⟩ := trodAll_cons r0
  obtain ⟨v2, vs2, d2, ds2, p2, q2, rfl, rfl, rfl, h2, r2⟩ := trodAll_cons r1
  obtain ⟨rfl, rfl, rfl⟩ := trodAll_nil r2
  obtain rfl : args = #[v0, v1, v2] := by cases args; simp_all
  obtain ⟨rfl, rfl⟩ := trodVars_none hV
  have hlt : ∀ x ∈ p0 ++ (p1 ++ (p2 ++ [])), x.block < W.heap.size := fun x hx => by simpa using hW'.lt x (List.mem_append_left _ hx)
  obtain ⟨a0, rfl, rfl, rfl, w0⟩ := open_int Try.underlying3 (hval 0 3 v0 rfl rfl) h0
  obtain ⟨a1, rfl, rfl, rfl, w1⟩ := open_int Try.underlying3 (hval 1 3 v1 rfl rfl) h1
  have hk2 : ∀ W', Below W.heap.size W W' → DataW.Trod enc Try.prog W' 0 (fun b => decide (b < W.heap.size)) true 22 v2 d2 p2 := fun W' hb => Below.trod laidOut (by kernel_rfl) (of_decide_eq_true (by kernel_rfl)) h2 hb (fun x hx => hlt x (by simp [hx]))
  obtain ⟨a2, c2, l2, rfl, s2, t2, u2, z2⟩ := open_row2 (hval 2 22 v2 rfl rfl) h2
  have b2 := len_of hsz (j := 2) rfl rfl z2
  clear hA0 hval0 hsz0
  refine (walk a0 w0 a1 w1 a2 c2 l2 s2 t2 u2 b2 W).mono fun e W' ⟨he, hg⟩ => ?_
  subst he
  exact ⟨_, rfl, _, _, _, [], _, [], hW', trodAll_mk1 (shut_bool Try.underlying4 _), (trodAll_cons_mk (shut_int Try.underlying3 w0) (trodAll_cons_mk (shut_int Try.underlying3 w1) (trodAll_cons_mk (hk2 _ hg) trodAll_mk0))), rfl, hg.frame _, fun h => by cases h⟩

theorem over : Rows.ratePartsRow.holds Try.pinned (OpenSpec.ofChange Rows.ratePartsSpec) :=
  OpenClaim.holds_of_wide 3 Try.f3 rfl rfl rfl rfl rfl rfl rfl ⟨rfl, rfl, rfl, rfl, rfl⟩ rfl rfl rfl rfl rfl (by kernel_rfl) Try.func3 (by kernel_rfl)
    (of_decide_eq_true (by kernel_rfl)) (by unfold Func.isWrapper; first | (rw [if_pos (by decide +kernel)]; kernel_rfl) | (rw [if_neg (by decide +kernel)]; exact ⟨rfl, rfl⟩))
    (fun os started H enc _ => lifted os started H enc)

/-- The statement. -/
theorem proved : Rows.RatePartsSaid :=
  over
end Go.Proofs.Ytemeahbggidbkaa.rateParts
namespace Go.Proofs.Ytemeahbggidbkaa
/-- The row, under a short name. -/
theorem rateParts_holds : Rows.RatePartsSaid := rateParts.proved
#print axioms rateParts_holds
end Go.Proofs.Ytemeahbggidbkaa
