/- What lay.Map comes to, by walks of its text. -/
import Derived.Test.YtagclifmbjaecaaRows
import Derived.WalkKit
import Derived.WalkSpells
import Derived.WalkLawsBesides
import Derived.RegionTactic
import Derived.BigRegion
import Derived.Lib.Hide
namespace Go.Proofs.Ytagclifmbjaecaa.Own
open Go.RowKit
set_option maxHeartbeats 400000 in
theorem may_t (m : Int) (w : World) (h1 : 3 ≤ m) (h2 : m ≤ 16) : Calls Try.prog 26 #[.int .i64 m] w fun e w' => e = .returned (.bool true) ∧ w = w' := by
  go_enter Try.func26, Try.ntmps26
  go_wp2
  go_ret
  exact ⟨rfl, rfl⟩
set_option maxHeartbeats 400000 in
theorem may_f (m : Int) (w : World) (h : m < 3 ∨ 16 < m) : Calls Try.prog 26 #[.int .i64 m] w fun e w' => e = .returned (.bool false) ∧ w = w' := by
  rcases h with h | h
  all_goals
    go_enter Try.func26, Try.ntmps26
    go_wp2
    go_ret
    first | exact ⟨rfl, rfl⟩ | exact ⟨by simp; omega, rfl⟩
theorem ret2 {k k' : IntKind} {a b a' b' : Int} (h : a = b) (h' : a' = b') : Ending.returned (.tuple #[.int k a, .int k' a']) = .returned (.tuple #[.int k b, .int k' b']) := by rw [h, h']
set_option maxHeartbeats 400000 in
theorem parity_y (m s : Int) (w : World) (h1 : 3 ≤ m) (h2 : m ≤ 16) (h3 : 0 ≤ s) (h4 : s ≤ 9223372036854775807) :
    Calls Try.prog 16 #[.int .i64 m, .int .i64 s] w fun e w' => e = .returned (.tuple #[.int .i64 (m - 1 - s % m), .int .i64 0]) ∧ w = w' := by
  have a1 := Int.emod_nonneg s (show m ≠ 0 by omega)
  have a2 := Int.emod_lt_of_pos s (show 0 < m by omega)
  go_enter Try.func16, Try.ntmps16
  go_wp2_with (go_at_call 26; refine (may_t _ _ (by omega) (by omega)).mono ?_; rintro e w' ⟨rfl, rfl⟩)
  go_ret2
  exact ⟨ret2 rfl rfl, rfl⟩
set_option maxHeartbeats 400000 in
theorem parity_n (m s : Int) (w : World) (h : m < 3 ∨ 16 < m ∨ s < 0) :
    Calls Try.prog 16 #[.int .i64 m, .int .i64 s] w fun e w' => e = .returned (.tuple #[.int .i64 0, .int .i64 1]) ∧ w = w' := by
  by_cases hm : m < 3 ∨ 16 < m
  · clear h
    go_enter Try.func16, Try.ntmps16
    go_wp2_with (go_at_call 26; refine (may_f _ _ (by assumption)).mono ?_; rintro e w' ⟨rfl, rfl⟩)
    go_ret2
    exact ⟨ret2 rfl rfl, rfl⟩
  · have h1 : 3 ≤ m := by omega
    have h2 : m ≤ 16 := by omega
    have h3 : s < 0 := by omega
    clear h hm
    go_enter Try.func16, Try.ntmps16
    go_wp2_with (go_at_call 26; refine (may_t _ _ (by omega) (by omega)).mono ?_; rintro e w' ⟨rfl, rfl⟩)
    go_ret2
    exact ⟨ret2 rfl rfl, rfl⟩
theorem bcell {W w1 : World} (hb : Below W.heap.size W w1) : (∀ b o, b < W.heap.size → w1.cell? ⟨b, o, none⟩ = W.cell? ⟨b, o, none⟩) ∧ (∀ b o, b < W.heap.size → w1.frozen? ⟨b, o, none⟩ = W.frozen? ⟨b, o, none⟩) :=
  ⟨fun b o h => hb.cell (p := ⟨b, o, none⟩) h, fun b o h => hb.frozen (p := ⟨b, o, none⟩) h⟩
set_option maxHeartbeats 400000 in
theorem map_n (m b : Int) (w : World) (h : m < 3 ∨ 16 < m ∨ b < 0) :
    Calls Try.prog 17 #[.int .i64 m, .int .i64 b] w fun e w' => e = .returned (.tuple #[.agg #[.int .i64 0, .int .i64 0, .int .i64 0], .int .i64 1]) ∧ Below w.heap.size w w' := by
  by_cases hm : m < 3 ∨ 16 < m
  · clear h
    go_enter Try.func17, Try.ntmps17
    go_wp2_with (go_at_call 26; refine (may_f _ _ (by assumption)).mono ?_; rintro e w' ⟨rfl, rfl⟩)
    exact bodyPost_ret (v := .tuple #[.agg #[.int .i64 0, .int .i64 0, .int .i64 0], .int .i64 1]) (by simp [results, Try.results17, go_sem]) rfl ⟨rfl, (Below.refl _ _).alloc (Nat.le_refl _) _⟩
  · have h1 : 3 ≤ m := by omega
    have h2 : m ≤ 16 := by omega
    have h3 : b < 0 := by omega
    clear h hm
    go_enter Try.func17, Try.ntmps17
    go_wp2_with (go_at_call 26; refine (may_t _ _ (by omega) (by omega)).mono ?_; rintro e w' ⟨rfl, rfl⟩)
    exact bodyPost_ret (v := .tuple #[.agg #[.int .i64 0, .int .i64 0, .int .i64 0], .int .i64 1]) (by simp [results, Try.results17, go_sem]) rfl ⟨rfl, (Below.refl _ _).alloc (Nat.le_refl _) _⟩
set_option maxHeartbeats 1000000 in
theorem map_y (m b : Int) (w : World) (h1 : 3 ≤ m) (h2 : m ≤ 16) (h3 : 0 ≤ b) (h4 : b ≤ 9223372036854775807) :
    Calls Try.prog 17 #[.int .i64 m, .int .i64 b] w fun e w' => e = .returned (.tuple #[.agg #[.int .i64 (b / (m - 1)), .int .i64 ((m - 1 - b / (m - 1) % m + 1 + b % (m - 1)) % m), .int .i64 (b % (m - 1))], .int .i64 0]) ∧ Below w.heap.size w w' := by
  have q0 : 0 ≤ b / (m - 1) := Int.ediv_nonneg h3 (by omega)
  have q1 : b / (m - 1) ≤ b := Int.ediv_le_self _ h3
  have r1 := Int.emod_nonneg b (show m - 1 ≠ 0 by omega)
  have r2 := Int.emod_lt_of_pos b (show 0 < m - 1 by omega)
  have s1 := Int.emod_nonneg (b / (m - 1)) (show m ≠ 0 by omega)
  have s2 := Int.emod_lt_of_pos (b / (m - 1)) (show 0 < m by omega)
  go_enter Try.func17, Try.ntmps17
  go_wp2_with (go_at_call 26; refine (may_t _ _ (by omega) (by omega)).mono ?_; rintro e w' ⟨rfl, rfl⟩)
  go_region
  go_wp2_with (go_at_call 16; refine (parity_y _ _ _ h1 h2 q0 (by omega)).mono ?_; rintro e w' ⟨rfl, rfl⟩)
  refine bodyPost_ret (v := .tuple #[.agg #[.int .i64 (b / (m - 1)), .int .i64 ((m - 1 - b / (m - 1) % m + 1 + b % (m - 1)) % m), .int .i64 (b % (m - 1))], .int .i64 0]) (by simp [results, Try.results17, go_sem]) rfl ⟨rfl, ?_⟩
  exact (((Below.refl _ _).alloc (Nat.le_refl _) _).alloc (by simp) _).drew
end Go.Proofs.Ytagclifmbjaecaa.Own
