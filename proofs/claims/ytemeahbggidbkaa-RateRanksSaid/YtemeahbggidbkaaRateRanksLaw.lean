/- Rows by their worst rates: rate.Rank gives the same list as the reference's, or the same fault. No condition. -/
import Derived.Test.YtemeahbggidbkaaRows
import Derived.WalkKit
import Derived.ProofKit
import Derived.OpenShut
import Derived.Test.YtemeahbggidbkaaOpn
import Derived.Test.YtemeahbggidbkaaSrt
namespace Go.Proofs.Ytemeahbggidbkaa.rateRanks
open Go.Proofs.Ytemeahbggidbkaa.Own Go.Proofs.Ytemeahbggidbkaa.Fl
open Go.ChangeShapes Go.WideShapes Go.ChangeAt Go.RowKit
open Ieee (double)
set_option linter.unusedVariables false

theorem own : ownKnob Try.prog.godebug = none := by kernel_rfl

set_option maxHeartbeats 4000000 in
theorem walk_0 (a0 : Option Addr) (cap : Nat) (w : World) :
    Calls Try.prog 10 #[.slice a0 0 cap] w fun e w' => e = .returned (.bool true) ∧ Below w.heap.size w w' := by
  go_enter Try.func10, Try.ntmps10
  go_wp2
  refine wp_loop_rounds 1 ?_
  rw [rounds_succ]
  go_wp2_with fail
  refine (rank_zero _ _ _).mono ?_
  rintro e w' ⟨rfl, rfl⟩
  go_wp2_with fail
  refine (rrank_zero _ _ _).mono ?_
  rintro e w' ⟨rfl, rfl⟩
  go_wp2_with fail
  refine (lives_any _).mono ?_
  rintro e w1 ⟨rfl, hb⟩
  go_wp2
  refine wp_loop_rounds 1 ?_
  rw [rounds_succ]
  go_wp2
  go_ret
  exact ⟨rfl, hb⟩
set_option maxHeartbeats 16000000 in
theorem walk_m (b off m cap : Nat) (A : Nat → Option Addr) (C : Nat → Nat) (L : Nat → List Nat) (w : World) (hu : m ≤ 9223372036854775807) (hR : Hid (Rws w b off m A C L)) :
    Calls Try.prog 10 #[.slice (some ⟨b, off, none⟩) m cap] w fun e w' => e = .returned (.bool true) ∧ Below w.heap.size w w' := by
  go_enter Try.func10, Try.ntmps10
  go_wp2
  go_loopw [3, 4] (fun s3 s4 wx => ∃ (z : Int) (a : Nat), a ≤ m ∧ s3 = .int .i64 z ∧ s4 = .int .i64 a ∧ wx = w) (fun _ s4 _ => m - (intOf s4).toNat)
  case atStart => exact ⟨0, 0, Nat.zero_le _, rfl, rfl, by trivial⟩
  case round =>
    obtain ⟨z, a, ha, rfl, rfl, rfl⟩ := hrel
    by_cases hlt : a < m
    · have ca := hR.out.cell a hlt
      obtain ⟨n, hn⟩ : ∃ n, (L a).length = n := ⟨_, rfl⟩
      obtain ⟨p, hp⟩ : ∃ p, A a = p := ⟨_, rfl⟩
      obtain ⟨q, hq⟩ : ∃ q, C a = q := ⟨_, rfl⟩
      rw [hn, hp, hq] at ca
      clear hn hp hq
      have i0 : (a : Int) < (m : Int) := by omega
      go_wp2
      go_roundw
      case rel => exact ⟨_, a + 1, by omega, rfl, by go_num, trivial⟩
      case measure => simp [intOf]; omega
    · have ham : a = m := by omega
      subst ham
      by_cases hz : 300 < z
      · go_wp2_with fail
        refine (lives_any _).mono ?_
        rintro e w1 ⟨rfl, hb⟩
        go_wp2
        go_ret
        exact ⟨rfl, hb⟩
      · by_cases hm : 17 < a
        · go_wp2_with fail
          refine (rank_many _ _ _ _ hm).mono ?_
          rintro e w' ⟨rfl, rfl⟩
          go_wp2_with fail
          refine (rrank_many _ _ _ _ hm).mono ?_
          rintro e w' ⟨rfl, rfl⟩
          go_wp2_with fail
          refine (lives_any _).mono ?_
          rintro e w1 ⟨rfl, hb⟩
          go_wp2
          refine wp_loop_rounds 1 ?_
          rw [rounds_succ]
          go_wp2
          go_ret
          exact ⟨rfl, hb⟩
        · obtain ⟨l, hl⟩ : ∃ l, ord (fun j => rk (L j)) a = l := ⟨_, rfl⟩
          have hll : l.length = a := by rw [← hl]; exact ord_len _ _
          have T1 := Lib.hid (fun W hW => rank_any b off cap a A C L W (by omega) (hR.out.below (w1 := W) hW))
          have T2 := Lib.hid (fun W hW => rrank_any b off cap a A C L W (by omega) (hR.out.below (w1 := W) hW))
          rw [out_ord, hl, hll] at T2
          rw [hl] at T1
          clear hl
          have HLL := Lib.hid hll
          clear hll
          go_wp2_with fail
          refine (T1.out _ (Below.refl _ _)).mono ?_
          rintro e w1 ⟨v1, rfl, o1, b1⟩
          have O1 := Lib.hid o1
          have B1 := Lib.hid b1
          clear o1 b1
          go_wp2_with fail
          refine (T2.out _ B1.out).mono ?_
          rintro e w2 ⟨v2, rfl, o2, b2⟩
          have O2 := Lib.hid o2
          have B2 := Lib.hid b2
          clear o2 b2
          obtain ⟨p1, c1, rfl⟩ := own_slice O1.out
          obtain ⟨p2, c2, rfl⟩ := own_slice O2.out
          go_wp2_with fail
          refine (lives_any _).mono ?_
          rintro e w3 ⟨rfl, hb3⟩
          have B3 := Lib.hid hb3
          have hsz := B1.out.size
          have hsz2 := B2.out.size
          have BB : Hid (Below wr.heap.size wr w3) := Lib.hid ((B1.out.trans (B2.out.mono hsz)).trans (B3.out.mono (by omega)))
          have K1 : Hid (∀ j, j < a → ∃ g, p1 = some ⟨g, 0, none⟩ ∧ w3.cell? ⟨g, j, none⟩ = some (.int .i64 ((l.getD j 0 : Nat) : Int))) := Lib.hid (fun j hj => by
            obtain ⟨g, cp, e, _, hg, _, _, hc⟩ := own_open O1.out (by omega)
            cases e
            exact ⟨g, rfl, by rw [B3.out.cell (by show g < _; omega), B2.out.cell (by show g < _; omega)]; exact hc j hj⟩)
          have K2 : Hid (∀ j, j < a → ∃ g, p2 = some ⟨g, 0, none⟩ ∧ w3.cell? ⟨g, j, none⟩ = some (.int .i64 ((l.getD j 0 : Nat) : Int))) := Lib.hid (fun j hj => by
            obtain ⟨g, cp, e, _, hg, _, _, hc⟩ := own_open O2.out (by omega)
            cases e
            exact ⟨g, rfl, by rw [B3.out.cell (by show g < _; omega)]; exact hc j hj⟩)
          clear hb3 hsz hsz2 O1 O2 B1 B2 B3
          go_wp2
          go_loopw [9] (fun s9 wx => ∃ k : Nat, k ≤ a ∧ s9 = .int .i64 k ∧ ∃ d, wx = w3.drewN d) (fun s9 _ => a - (intOf s9).toNat)
          case atStart => exact ⟨0, Nat.zero_le _, rfl, 0, rfl⟩
          case round =>
            obtain ⟨k, hk, rfl, d, rfl⟩ := hrel
            by_cases hlt : k < a
            · obtain ⟨g1, rfl, a1⟩ := K1.out k hlt
              obtain ⟨g2, rfl, a2⟩ := K2.out k hlt
              obtain ⟨x, hx⟩ : ∃ x, l.getD k 0 = x := ⟨_, rfl⟩
              rw [hx] at a1 a2
              clear hx
              have i0 : (k : Int) < (a : Int) := by omega
              have i1 : 0 ≤ (k : Int) := by omega
              go_wp2
              go_quiet (fail)
              go_wp2
              go_roundw
              case rel => exact ⟨k + 1, by omega, by go_num, _, rfl⟩
              case measure => simp [intOf]; omega
            · have hkn : k = a := by omega
              subst hkn
              clear hk
              go_wp2
              go_ret
              exact ⟨rfl, bdrewN BB.out _⟩
theorem walk (a0 : Option Addr) (m cap : Nat) (hu : m ≤ 9223372036854775807) {w : World} (hs : m = 0 ∨ ∃ b off A C L, a0 = some ⟨b, off, none⟩ ∧ Hid (Rws w b off m A C L)) (w' : World) (e : w' = w := by rfl) :
    Calls Try.prog 10 #[.slice a0 m cap] w' fun e w'' => e = .returned (.bool true) ∧ Below w'.heap.size w' w'' := by
  subst e
  rcases hs with rfl | ⟨b, off, A, C, L, rfl, hR⟩
  · exact walk_0 a0 cap _
  · exact walk_m b off m cap A C L _ hu hR

set_option maxRecDepth 100000 in
theorem lifted (os : Os) (started : os.Started) (H : Type) (enc : TypeId × Value → H) :
    ReturnsInHanded {} Try.checked os 10 .any (Rows.rateRanksSpec.pre6 enc Try.prog Try.f10 Rows.rateRanksRow.domain false) (Rows.rateRanksSpec.post enc Try.prog Try.f10 false true false false) := by
  refine returnsInHanded_of_change_sized (C := Try.checked) own started (by kernel_rfl) Try.func10
    (ChangeSpec.witness6 (enc := enc) (C := Try.checked) false ⟨#[], #[.slice none 0 0], []⟩ 8 (by kernel_rfl) (by kernel_rfl) (by kernel_rfl) (by kernel_rfl)) ?_
  intro W base args ds gs before hval0 hW hcnd hsz0 _
  have hsz : (DataW.weightsEach Try.prog (Try.f10.params.toList ++ Rows.rateRanksSpec.plain.varTypes Try.prog) (ds ++ gs)).all (· ≤ reachBytes) = true := hsz0
  have hval : ∀ (j : Nat) t v, Try.f10.params[j]? = some t → args[j]? = some v → Value.okWide Try.prog W .any base t v := hval0
  have hW' := hW
  obtain ⟨p, q, hA0, hV, rfl, hfz, hnd⟩ := hW
  have hA : DataW.TrodAll enc Try.prog W 0 (fun _ => true) true Try.f10.params.toList args.toList ds p := hA0
  rw [Try.params10] at hA hval hsz
  obtain ⟨v0, vs0, d0, ds0, p0, q0, hargs, rfl, rfl, h0, r0⟩ := trodAll_cons hA
  obtain ⟨rfl, rfl, rfl⟩ := trodAll_nil r0
  obtain rfl : args = #[v0] := by cases args; simp_all
  obtain ⟨rfl, rfl⟩ := trodVars_none hV
  have hlt : ∀ x ∈ p0 ++ [], x.block < W.heap.size := fun x hx => by simpa using hW'.lt x (List.mem_append_left _ hx)
  have hk0 : ∀ W', Below W.heap.size W W' → DataW.Trod enc Try.prog W' 0 (fun b => decide (b < W.heap.size)) true 38 v0 d0 p0 := fun W' hb => Below.trod laidOut (by kernel_rfl) (of_decide_eq_true (by kernel_rfl)) h0 hb (fun x hx => hlt x (by simp [hx]))
  obtain ⟨a0, m0, c0, rfl, u0, s0⟩ := open_rows (hval 0 38 v0 rfl rfl) h0
  clear hA0 hval0 hsz0
  refine (walk a0 m0 c0 u0 s0 W).mono fun e W' ⟨he, hg⟩ => ?_
  subst he
  exact ⟨_, rfl, _, _, _, [], _, [], hW', trodAll_mk1 (shut_bool Try.underlying4 _), (trodAll_cons_mk (hk0 _ hg) trodAll_mk0), rfl, hg.frame _, fun h => by cases h⟩

theorem over : Rows.rateRanksRow.holds Try.pinned (OpenSpec.ofChange Rows.rateRanksSpec) :=
  OpenClaim.holds_of_wide 10 Try.f10 rfl rfl rfl rfl rfl rfl rfl ⟨rfl, rfl, rfl, rfl, rfl⟩ rfl rfl rfl rfl rfl (by kernel_rfl) Try.func10 (by kernel_rfl)
    (of_decide_eq_true (by kernel_rfl)) (by unfold Func.isWrapper; first | (rw [if_pos (by decide +kernel)]; kernel_rfl) | (rw [if_neg (by decide +kernel)]; exact ⟨rfl, rfl⟩))
    (fun os started H enc _ => lifted os started H enc)

/-- The statement. -/
theorem proved : Rows.RateRanksSaid :=
  over
end Go.Proofs.Ytemeahbggidbkaa.rateRanks
namespace Go.Proofs.Ytemeahbggidbkaa
/-- The row, under a short name. -/
theorem rateRanks_holds : Rows.RateRanksSaid := rateRanks.proved
#print axioms rateRanks_holds
end Go.Proofs.Ytemeahbggidbkaa
