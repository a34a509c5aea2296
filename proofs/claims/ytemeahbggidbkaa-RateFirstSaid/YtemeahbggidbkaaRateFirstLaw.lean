/- The row that is ranked first has the worst rate of all; more than 17 rows are refused. No condition. -/
import Derived.Test.YtemeahbggidbkaaRows
import Derived.WalkKit
import Derived.ProofKit
import Derived.OpenShut
import Derived.Test.YtemeahbggidbkaaOpn
import Derived.Test.YtemeahbggidbkaaSrt
namespace Go.Proofs.Ytemeahbggidbkaa.rateFirst
open Go.Proofs.Ytemeahbggidbkaa.Own Go.Proofs.Ytemeahbggidbkaa.Fl
open Go.ChangeShapes Go.WideShapes Go.ChangeAt Go.RowKit
open Ieee (double)
set_option linter.unusedVariables false

theorem own : ownKnob Try.prog.godebug = none := by kernel_rfl

set_option maxHeartbeats 4000000 in
theorem walk_0 (a0 : Option Addr) (cap : Nat) (w : World) :
    Calls Try.prog 11 #[.slice a0 0 cap] w fun e w' => e = .returned (.bool true) ∧ Below w.heap.size w w' := by
  go_enter Try.func11, Try.ntmps11
  go_wp2_with fail
  refine (rank_zero _ _ _).mono ?_
  rintro e w' ⟨rfl, rfl⟩
  go_wp2_with fail
  refine (lives_any _).mono ?_
  rintro e w1 ⟨rfl, hb⟩
  go_wp2
  go_ret
  exact ⟨rfl, hb⟩
set_option maxHeartbeats 4000000 in
theorem walk_many (a0 : Option Addr) (m cap : Nat) (w : World) (hm : 17 < m) :
    Calls Try.prog 11 #[.slice a0 m cap] w fun e w' => e = .returned (.bool true) ∧ Below w.heap.size w w' := by
  go_enter Try.func11, Try.ntmps11
  go_wp2_with fail
  refine (rank_many _ _ _ _ hm).mono ?_
  rintro e w' ⟨rfl, rfl⟩
  go_wp2_with fail
  refine (lives_any _).mono ?_
  rintro e w1 ⟨rfl, hb⟩
  go_wp2
  go_ret
  exact ⟨rfl, hb⟩
set_option maxHeartbeats 16000000 in
theorem walk_m (b off m cap : Nat) (A : Nat → Option Addr) (C : Nat → Nat) (L : Nat → List Nat) (w : World) (hm : m ≤ 17) (h0 : 0 < m) (hR : Hid (Rws w b off m A C L)) :
    Calls Try.prog 11 #[.slice (some ⟨b, off, none⟩) m cap] w fun e w' => e = .returned (.bool true) ∧ Below w.heap.size w w' := by
  have T1 := Lib.hid (rank_any b off cap m A C L w hm hR.out)
  obtain ⟨f, hf⟩ : ∃ f, (ord (fun j => rk (L j)) m).getD 0 0 = f := ⟨_, rfl⟩
  have hfm : f < m := by rw [← hf]; exact ord_getD _ m m 0 (Nat.le_refl _) h0
  have HF : Hid (∀ i, i < m → rk (L i) ≤ rk (L f)) := Lib.hid (fun i hi => by rw [← hf]; exact ord_first (fun j => rk (L j)) m i hi)
  go_enter Try.func11, Try.ntmps11
  go_wp2_with fail
  refine T1.out.mono ?_
  rintro e w1 ⟨v1, rfl, o1, b1⟩
  obtain ⟨g, c1, rfl, hg0, hg1, _, _, hc⟩ := own_open o1 h0
  have g0 := hc 0 h0
  rw [hf] at g0
  have B1 := Lib.hid b1
  clear o1 b1 hc hf T1
  go_wp2_with fail
  refine (lives_any _).mono ?_
  rintro e w2 ⟨rfl, b2⟩
  have BB : Hid (Below w.heap.size w w2) := Lib.hid (B1.out.trans (b2.mono B1.out.size))
  have k0 : w2.cell? ⟨g, 0, none⟩ = some (.int .i64 (f : Int)) := by rw [b2.cell (by exact hg1)]; exact g0
  have R2 : Hid (Rws w2 b off m A C L) := Lib.hid (hR.out.below BB.out)
  clear b2 g0 hg0 hg1 B1 hR
  have cf := R2.out.cell f hfm
  have UF : Hid (∀ d, Calls Try.prog 22 #[.slice (A f) (L f).length (C f)] (w2.drewN d) fun e w' => e = .returned (.tuple #[.int .i64 (wT (L f) : Int), .bool (wH (L f))]) ∧ w2.drewN d = w') :=
    Lib.hid (fun d => worst_uni (A f) (C f) (L f) _ ((R2.out.row f hfm).drewN d) (R2.out.wf f hfm) (R2.out.le f hfm))
  obtain ⟨tf, htf⟩ : ∃ x, wT (L f) = x := ⟨_, rfl⟩
  obtain ⟨hh, hhf⟩ : ∃ x, wH (L f) = x := ⟨_, rfl⟩
  obtain ⟨nf, hnf⟩ : ∃ x, (L f).length = x := ⟨_, rfl⟩
  obtain ⟨Af, hAf⟩ : ∃ x, A f = x := ⟨_, rfl⟩
  obtain ⟨Cf, hCf⟩ : ∃ x, C f = x := ⟨_, rfl⟩
  rw [hnf, hAf, hCf] at cf UF
  rw [htf, hhf] at UF
  have HTF := Lib.hid htf
  have HHF := Lib.hid hhf
  have HNF := Lib.hid hnf
  have HAF := Lib.hid hAf
  clear htf hhf hnf hAf hCf
  have f0 : (f : Int) < (m : Int) := by omega
  go_wp2_with fail
  refine (UF.out 0).mono ?_
  rintro e w' ⟨rfl, rfl⟩
  go_wp2
  go_loopw [8, 9, 10] (fun s8 s9 s10 wx => ∃ k : Nat, k ≤ m ∧ s8 = .int .i64 k ∧ ∃ d, wx = w2.drewN d) (fun s8 _ _ _ => m - (intOf s8).toNat)
  case atStart => exact ⟨0, Nat.zero_le _, rfl, 0, rfl⟩
  case round =>
    obtain ⟨k, hk, rfl, d, rfl⟩ := hrel
    by_cases hlt : k < m
    · have ck := R2.out.cell k hlt
      have UK : Hid (∀ d, Calls Try.prog 22 #[.slice (A k) (L k).length (C k)] (w2.drewN d) fun e w' => e = .returned (.tuple #[.int .i64 (wT (L k) : Int), .bool (wH (L k))]) ∧ w2.drewN d = w') :=
        Lib.hid (fun d => worst_uni (A k) (C k) (L k) _ ((R2.out.row k hlt).drewN d) (R2.out.wf k hlt) (R2.out.le k hlt))
      have k1 : (k : Int) < (m : Int) := by omega
      obtain ⟨nk, hnk⟩ : ∃ x, (L k).length = x := ⟨_, rfl⟩
      obtain ⟨Ck, hCk⟩ : ∃ x, C k = x := ⟨_, rfl⟩
      rw [hnk, hCk] at ck UK
      rcases Bool.eq_false_or_eq_true (wH (L k)) with hwk | hwk
      · rw [hwk] at UK
        have hpos : 0 < (L k).length := by unfold wH at hwk; simpa using hwk
        have hle := HF.out k hlt
        have rkk := rk_wT hpos
        have hposf : 0 < (L f).length := by
          rcases Nat.eq_zero_or_pos (L f).length with h | h
          · rw [rk_none h] at hle; omega
          · exact h
        have hht : hh = true := by rw [← HHF.out]; unfold wH; simpa using hposf
        subst hht
        have rkf := rk_wT hposf
        have tkl := wT_lt hpos
        have tfl := wT_lt hposf
        obtain ⟨bk, ok, ek, xk⟩ := R2.out.row k hlt hpos
        obtain ⟨bf, of, ef, xf⟩ := R2.out.row f hfm hposf
        have ek' := xk _ tkl
        have ef' := xf _ tfl
        have wk := R2.out.wf k hlt _ tkl
        have wf := R2.out.wf f hfm _ tfl
        rw [HTF.out] at rkf tfl ef' wf
        obtain ⟨tk, htk⟩ : ∃ x, wT (L k) = x := ⟨_, rfl⟩
        rw [htk] at rkk tkl ek' wk UK
        obtain ⟨X, hX⟩ : ∃ x, (L k).getD tk 0 = x := ⟨_, rfl⟩
        obtain ⟨Y, hY⟩ : ∃ x, (L f).getD tf 0 = x := ⟨_, rfl⟩
        rw [hX] at rkk ek' wk
        rw [hY] at rkf ef' wf
        rw [HNF.out] at tfl
        rw [hnk] at tkl
        rw [HAF.out] at ef
        subst ef
        rw [ek] at ck UK
        have hcc := fun W => compare_any X Y wk wf W
        obtain ⟨c, hcv⟩ : ∃ x, cmp X Y = x := ⟨_, rfl⟩
        have hcmp := cmp_pos_iff X Y
        rw [hcv] at hcmp hcc
        have hcp : ¬ 0 < c := by omega
        have CC := Lib.hid hcc
        have tk0 : (tk : Int) < (nk : Int) := by omega
        have tf0 : (tf : Int) < (nf : Int) := by omega
        clear hnk hCk hwk hpos hle rkk hposf rkf xk xf wk wf htk hX hY ek hcc hcv hcmp
        go_wp2_with fail
        refine (UK.out d).mono ?_
        rintro e w' ⟨rfl, rfl⟩
        go_wp2_with fail
        go_quiet ((go_at_call 20; exact quiet_add_left (CC.out _)))
        go_wp2
        go_roundw
        case rel => exact ⟨k + 1, by omega, by go_num, _, rfl⟩
        case measure => simp [intOf]; omega
      · rw [hwk] at UK
        obtain ⟨tk, htk⟩ : ∃ x, wT (L k) = x := ⟨_, rfl⟩
        obtain ⟨Ak, hAk⟩ : ∃ x, A k = x := ⟨_, rfl⟩
        rw [htk] at UK
        rw [hAk] at ck UK
        clear hnk hCk hwk htk hAk
        go_wp2_with fail
        refine (UK.out d).mono ?_
        rintro e w' ⟨rfl, rfl⟩
        go_wp2_with fail
        go_quiet (fail)
        go_wp2
        go_roundw
        case rel => exact ⟨k + 1, by omega, by go_num, _, rfl⟩
        case measure => simp [intOf]; omega
    · have hkn : k = m := by omega
      subst hkn
      clear hk
      go_wp2
      go_ret
      exact ⟨rfl, bdrewN BB.out _⟩
theorem walk (a0 : Option Addr) (m cap : Nat) (_ : m ≤ 9223372036854775807) {w : World} (hs : m = 0 ∨ ∃ b off A C L, a0 = some ⟨b, off, none⟩ ∧ Hid (Rws w b off m A C L)) (w' : World) (e : w' = w := by rfl) :
    Calls Try.prog 11 #[.slice a0 m cap] w' fun e w'' => e = .returned (.bool true) ∧ Below w'.heap.size w' w'' := by
  subst e
  rcases hs with rfl | ⟨b, off, A, C, L, rfl, hR⟩
  · exact walk_0 a0 cap _
  · by_cases hm : 17 < m
    · exact walk_many _ m cap _ hm
    · rcases Nat.eq_zero_or_pos m with rfl | h0
      · exact walk_0 _ cap _
      · exact walk_m b off m cap A C L _ (by omega) h0 hR

set_option maxRecDepth 100000 in
theorem lifted (os : Os) (started : os.Started) (H : Type) (enc : TypeId × Value → H) :
    ReturnsInHanded {} Try.checked os 11 .any (Rows.rateFirstSpec.pre6 enc Try.prog Try.f11 Rows.rateFirstRow.domain false) (Rows.rateFirstSpec.post enc Try.prog Try.f11 false true false false) := by
  refine returnsInHanded_of_change_sized (C := Try.checked) own started (by kernel_rfl) Try.func11
    (ChangeSpec.witness6 (enc := enc) (C := Try.checked) false ⟨#[], #[.slice none 0 0], []⟩ 8 (by kernel_rfl) (by kernel_rfl) (by kernel_rfl) (by kernel_rfl)) ?_
  intro W base args ds gs before hval0 hW hcnd hsz0 _
  have hsz : (DataW.weightsEach Try.prog (Try.f11.params.toList ++ Rows.rateFirstSpec.plain.varTypes Try.prog) (ds ++ gs)).all (· ≤ reachBytes) = true := hsz0
  have hval : ∀ (j : Nat) t v, Try.f11.params[j]? = some t → args[j]? = some v → Value.okWide Try.prog W .any base t v := hval0
  have hW' := hW
  obtain ⟨p, q, hA0, hV, rfl, hfz, hnd⟩ := hW
  have hA : DataW.TrodAll enc Try.prog W 0 (fun _ => true) true Try.f11.params.toList args.toList ds p := hA0
  rw [Try.params11] at hA hval hsz
  obtain ⟨v0, vs0, d0, ds0, p0, q0, hargs, rfl, rfl, h0, r0⟩ := trodAll_cons hA
  obtain ⟨rfl, rfl, rfl⟩ := trodAll_nil r0
  obtain rfl : args = #[v0] := by cases args; simp_all
  obtain ⟨rfl, rfl⟩ := trodVars_none hV
  have hlt : ∀ x ∈ p0 ++ [], x.block < W.heap.size := fun x hx => by simpa using hW'.lt x (List.mem_append_left _ hx)
  have hk0 : ∀ W', Below W.heap.size W W' → DataW.Trod enc Try.prog W' 0 (fun b => decide (b < W.heap.size)) true 38 v0 d0 p0 := fun W' hb => Below.trod laidOut (by kernel_rfl) (of_decide_eq_true (by kernel_rfl)) h0 hb (fun x hx => hlt x (by simp [hx]))
  obtain ⟨a0, m0, c0, rfl, u0, s0⟩ := open_rows (hval 0 38 v0 rfl rfl) h0
  clear hA0 hval0 hsz0
  refine (walk a0 m0 c0 u0 s0 W).mono fun e W' ⟨he, hg⟩ => ?_
  subst he
  exact ⟨_, rfl, _, _, _, [], _, [], hW', trodAll_mk1 (shut_bool Try.underlying4 _), (trodAll_cons_mk (hk0 _ hg) trodAll_mk0), rfl, hg.frame _, fun h => by cases h⟩

theorem over : Rows.rateFirstRow.holds Try.pinned (OpenSpec.ofChange Rows.rateFirstSpec) :=
  OpenClaim.holds_of_wide 11 Try.f11 rfl rfl rfl rfl rfl rfl rfl ⟨rfl, rfl, rfl, rfl, rfl⟩ rfl rfl rfl rfl rfl (by kernel_rfl) Try.func11 (by kernel_rfl)
    (of_decide_eq_true (by kernel_rfl)) (by unfold Func.isWrapper; first | (rw [if_pos (by decide +kernel)]; kernel_rfl) | (rw [if_neg (by decide +kernel)]; exact ⟨rfl, rfl⟩))
    (fun os started H enc _ => lifted os started H enc)

/-- The statement. -/
theorem proved : Rows.RateFirstSaid :=
  over
end Go.Proofs.Ytemeahbggidbkaa.rateFirst
namespace Go.Proofs.Ytemeahbggidbkaa
/-- The row, under a short name. -/
theorem rateFirst_holds : Rows.RateFirstSaid := rateFirst.proved
#print axioms rateFirst_holds
end Go.Proofs.Ytemeahbggidbkaa
