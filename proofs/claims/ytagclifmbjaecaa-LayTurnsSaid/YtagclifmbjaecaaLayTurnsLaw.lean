/- In as many stripes as there are members each one has the parity once (for 3 to 16 members, from any stripe up to 2^60 on; else the law lets by). No condition. -/
import Derived.Test.YtagclifmbjaecaaRows
import Derived.WalkKit
import Derived.ProofKit
import Derived.OpenShut
import Derived.Laws.MakeOwn
import Derived.Test.YtagclifmbjaecaaLst
namespace Go.Proofs.Ytagclifmbjaecaa.layTurns
open Go.Proofs.Ytagclifmbjaecaa.Own
open Go.ChangeShapes Go.WideShapes Go.ChangeAt Go.RowKit
set_option linter.unusedVariables false      -- a walk need not use every 'w<i>' (that an integer argument fits its kind)

theorem own : ownKnob Try.prog.godebug = none := by kernel_rfl

set_option maxHeartbeats 1000000 in
theorem walk_out (a0 : Int) (a1 : Int) (h : a0 < 3 ∨ 3 ≤ a0 ∧ 16 < a0 ∨ 3 ≤ a0 ∧ a0 ≤ 16 ∧ a1 < 0 ∨ 3 ≤ a0 ∧ a0 ≤ 16 ∧ 0 ≤ a1 ∧ 1152921504606846976 < a1) (w : World) :
    Calls Try.prog 5 #[.int .i64 a0, .int .i64 a1] w fun e w' => e = .returned (.bool true) ∧ Below w.heap.size w w' := by
  rcases h with h | ⟨h, h'⟩ | ⟨h, h', h''⟩ | ⟨h, h', h'', h'''⟩
  all_goals
    go_enter Try.func5, Try.ntmps5
    go_wp2_with (go_at_call 14; refine (lives_any _).mono ?_; rintro e w2 ⟨rfl, hb⟩)
    go_ret
    exact ⟨rfl, hb⟩

theorem binfo4 : (Try.prog.info? 4).map (fun i => (i.zero, i.size, i.bytes)) = some (some (.bool false), 1, 1) := by kernel_rfl

/-- the member that has the parity of the k-th stripe from f on -/
def tell (n : Nat) (f : Int) (k : Nat) : Nat := ((n : Int) - 1 - (f + (k : Int)) % n).toNat
/-- has a member had a parity in the first k stripes? -/
def had (n : Nat) (f : Int) : Nat → Nat → Bool
  | 0, _ => false
  | k + 1, q => had n f k q || q == tell n f k
theorem tell_int (n : Nat) (f : Int) (k : Nat) (h : 0 < n) : (n : Int) - 1 - (f + (k : Int)) % n = (tell n f k : Int) ∧ tell n f k < n := by
  have h1 := Int.emod_nonneg (f + (k : Int)) (show (n : Int) ≠ 0 by omega)
  have h2 := Int.emod_lt_of_pos (f + (k : Int)) (show 0 < (n : Int) by omega)
  unfold tell; omega
theorem tell_ne (n : Nat) (f : Int) (j k : Nat) (h : 0 < n) (hjk : j < k) (hk : k < n) : tell n f j ≠ tell n f k := by
  intro e
  have h1 := (tell_int n f j h).1
  have h2 := (tell_int n f k h).1
  have h3 : (f + (k : Int)) % n = (f + (j : Int)) % n := by omega
  have h4 := Int.emod_eq_emod_iff_emod_sub_eq_zero.1 h3
  rw [show f + (k : Int) - (f + (j : Int)) = (k : Int) - j by omega, Int.emod_eq_of_lt (by omega) (by omega)] at h4
  omega
theorem had_not (n : Nat) (f : Int) (k : Nat) (h : 0 < n) (hk : k < n) : ∀ j, j ≤ k → had n f j (tell n f k) = false := by
  intro j hj
  induction j with
  | zero => rfl
  | succ j ih =>
    have := tell_ne n f j k h (by omega) hk
    simp only [had, ih (by omega), Bool.false_or]
    simpa using fun e => this e.symm

theorem made_cell (w : World) (n : Nat) : ∀ q, q < n → (w.alloc (.cells (madeCells #[.bool false] n) 4)).cell? ⟨w.heap.size, q, none⟩ = some (.bool false) := by
  intro q hq
  rw [World.cell?_alloc_at _ _ _ _ rfl]
  simp [madeCells, hq, Nat.mod_one]

set_option maxHeartbeats 4000000 in
theorem within_bounds (n : Nat) (a1 : Int) (h1 : 3 ≤ n) (h2 : n ≤ 16) (h3 : 0 ≤ a1) (h4 : a1 ≤ 1152921504606846976) (w : World) :
    Calls Try.prog 5 #[.int .i64 (n : Int), .int .i64 a1] w fun e w' => e = .returned (.bool true) ∧ Below w.heap.size w w' := by
  obtain ⟨i0, hi, hz0, hz1, hz2⟩ := info_parts binfo4
  have hmk : ∀ w : World, (Instr.makeSlice 31 (.int .i64 (n : Int)) (.int .i64 (n : Int))).run Try.prog w = .ok (.slice (some ⟨w.heap.size, 0, none⟩) n n) (w.alloc (.cells (madeCells #[.bool false] n) 4)) := by
    intro w
    have := run_make (P := Try.prog) w 31 4 i0 (.bool false) Try.underlying31 hi hz0 .i64 .i64 n n (by omega) (by omega) (by rw [hz2]; omega) (by omega)
    rw [hz1] at this
    simpa [Value.cells] using this
  go_enter Try.func5, Try.ntmps5
  go_wp2_with fail
  refine (lives_any _).mono ?_
  rintro e w1 ⟨rfl, hb1⟩
  go_wp2
  have hb2 : Below w.heap.size w (w1.alloc (.cells (madeCells #[.bool false] n) 4)) := hb1.alloc hb1.size _
  have hcs := Lib.hid (made_cell w1 n)
  have hfz : ∀ q, (w1.alloc (.cells (madeCells #[.bool false] n) 4)).frozen? ⟨w1.heap.size, q, none⟩ = false := fun q => World.frozen?_alloc_at _ _ _ _ rfl
  have HF := Lib.hid hfz
  have hsz : w1.heap.size < (w1.alloc (.cells (madeCells #[.bool false] n) 4)).heap.size := by simp
  have hB : w.heap.size ≤ w1.heap.size := hb1.size
  clear hmk hfz
  generalize w1.alloc (.cells (madeCells #[.bool false] n) 4) = W at *
  generalize w1.heap.size = B at *
  clear hb1
  go_loopw [6] (fun i wr => ∃ k : Nat, k ≤ n ∧ i = .int .i64 k ∧ Hid (∀ q, q < n → wr.cell? ⟨B, q, none⟩ = some (.bool (had n a1 k q))) ∧ Hid (∀ q, wr.frozen? ⟨B, q, none⟩ = false) ∧ B < wr.heap.size ∧ Below w.heap.size w wr) (fun i _ => n - (intOf i).toNat)
  case atStart => exact ⟨0, Nat.zero_le _, rfl, hcs, HF, hsz, hb2⟩
  case round =>
    clear hcs HF hsz hb2
    obtain ⟨k, hk, rfl, hc, hf, hs, hb⟩ := hrel
    by_cases hlt : k < n
    · obtain ⟨t1, t2⟩ := tell_int n a1 k (by omega)
      have hno := had_not n a1 k (by omega) hlt k (Nat.le_refl _)
      have hadS : ∀ q, had n a1 (k + 1) q = (had n a1 k q || q == tell n a1 k) := fun q => rfl
      have HS := Lib.hid hadS
      clear hadS
      have hpar := fun w => parity_y (n : Int) (a1 + (k : Int)) w (by omega) (by omega) (by omega) (by omega)
      rw [t1] at hpar
      obtain ⟨t, ht⟩ : ∃ t, tell n a1 k = t := ⟨_, rfl⟩
      rw [ht] at hpar HS t2 hno
      clear t1 ht
      have HP := Lib.hid hpar
      have c0 := hc.out t t2
      rw [hno] at c0
      have f0 := hf.out t
      clear hpar hno
      go_wp2_with (go_at_call 16; refine (HP.out _).mono ?_; rintro e w' ⟨rfl, rfl⟩)
      go_roundw
      case rel =>
        refine ⟨k + 1, by omega, by go_num, Lib.hid (fun q hq => ?_), Lib.hid (fun q => (World.frozen?_setCell _ _ _ _).trans (hf.out q)), by simpa using hs, hb.setCell hB _⟩
        by_cases e : q = t
        · subst e
          rw [World.cell?_setCell_same _ _ _ c0, HS.out]; simp
        · rw [World.cell?_setCell_other _ _ _ _ (by simp), hc.out q hq, HS.out]
          have : (q == t) = false := by simpa using e
          rw [this, Bool.or_false]
      case measure => simp [intOf]; omega
    · have hkn : k = n := by omega
      subst hkn
      clear hk
      go_wp2
      go_ret
      exact ⟨rfl, hb⟩

theorem walk (a0 : Int) (a1 : Int) (w0 : (Lit.int .i64 a0).wf = true) (w1 : (Lit.int .i64 a1).wf = true) (w : World) :
    Calls Try.prog 5 #[.int .i64 a0, .int .i64 a1] w fun e w' => e = .returned (.bool true) ∧ Below w.heap.size w w' := by
  by_cases h : a0 < 3 ∨ 3 ≤ a0 ∧ 16 < a0 ∨ 3 ≤ a0 ∧ a0 ≤ 16 ∧ a1 < 0 ∨ 3 ≤ a0 ∧ a0 ≤ 16 ∧ 0 ≤ a1 ∧ 1152921504606846976 < a1
  · exact walk_out a0 a1 h w
  · obtain ⟨n, rfl⟩ : ∃ n : Nat, a0 = n := ⟨a0.toNat, by omega⟩
    exact within_bounds n a1 (by omega) (by omega) (by omega) (by omega) w

set_option maxRecDepth 100000 in
theorem lifted (os : Os) (started : os.Started) (H : Type) (enc : TypeId × Value → H) :
    ReturnsInHanded {} Try.checked os 5 .any (Rows.layTurnsSpec.pre6 enc Try.prog Try.f5 Rows.layTurnsRow.domain false) (Rows.layTurnsSpec.post enc Try.prog Try.f5 false true false false) := by
  refine returnsInHanded_of_change (C := Try.checked) own started (by kernel_rfl) Try.func5
    (ChangeSpec.witness6 (enc := enc) (C := Try.checked) false ⟨#[], #[.int .i64 0, .int .i64 0], []⟩ 8 (by kernel_rfl) (by kernel_rfl) (by kernel_rfl) (by kernel_rfl)) ?_
  intro W base args ds gs before hval0 hW hcnd _
  have hval : ∀ (j : Nat) t v, Try.f5.params[j]? = some t → args[j]? = some v → Value.okWide Try.prog W .any base t v := hval0
  have hW' := hW
  obtain ⟨p, q, hA0, hV, rfl, hfz, hnd⟩ := hW
  have hA : DataW.TrodAll enc Try.prog W 0 (fun _ => true) true Try.f5.params.toList args.toList ds p := hA0
  rw [Try.params5] at hA hval
  obtain ⟨v0, vs0, d0, ds0, p0, q0, hargs, rfl, rfl, h0, r0⟩ := trodAll_cons hA
  obtain ⟨v1, vs1, d1, ds1, p1, q1, rfl, rfl, rfl, h1, r1⟩ := trodAll_cons r0
  obtain ⟨rfl, rfl, rfl⟩ := trodAll_nil r1
  obtain rfl : args = #[v0, v1] := by cases args; simp_all
  obtain ⟨rfl, rfl⟩ := trodVars_none hV
  obtain ⟨a0, rfl, rfl, rfl, w0⟩ := open_int Try.underlying3 (hval 0 3 v0 rfl rfl) h0
  obtain ⟨a1, rfl, rfl, rfl, w1⟩ := open_int Try.underlying3 (hval 1 3 v1 rfl rfl) h1
  clear hA0 hval0
  refine (walk a0 a1 w0 w1 W).mono fun e W' ⟨he, hg⟩ => ?_
  subst he
  exact ⟨_, rfl, _, _, _, [], _, [], hW', trodAll_mk1 (shut_bool Try.underlying4 _), (trodAll_cons_mk (shut_int Try.underlying3 w0) (trodAll_cons_mk (shut_int Try.underlying3 w1) trodAll_mk0)), rfl, hg.frame _, fun h => by cases h⟩

theorem over : Rows.layTurnsRow.holds Try.pinned (OpenSpec.ofChange Rows.layTurnsSpec) :=
  OpenClaim.holds_of_wide 5 Try.f5 rfl rfl rfl rfl rfl rfl rfl ⟨rfl, rfl, rfl, rfl, rfl⟩ rfl rfl rfl rfl rfl (by kernel_rfl) Try.func5 (by kernel_rfl)
    (of_decide_eq_true (by kernel_rfl)) (by unfold Func.isWrapper; first | (rw [if_pos (by decide +kernel)]; kernel_rfl) | (rw [if_neg (by decide +kernel)]; exact ⟨rfl, rfl⟩))
    (fun os started H enc _ => lifted os started H enc)

/-- The statement. -/
theorem proved : Rows.LayTurnsSaid :=
  over
end Go.Proofs.Ytagclifmbjaecaa.layTurns
namespace Go.Proofs.Ytagclifmbjaecaa
/-- The row, under a short name. -/
theorem layTurns_holds : Rows.LayTurnsSaid := layTurns.proved
#print axioms layTurns_holds
end Go.Proofs.Ytagclifmbjaecaa
