/- What the functions on numbers of lay and of its reference come to, and two lists that are the same. -/
import Derived.Test.YtagclifmbjaecaaMem
import Derived.Laws.StructEq
import Derived.Deep.QuietTactic
import Derived.BigQuiet
namespace Go.Proofs.Ytagclifmbjaecaa.Own
open Go.RowKit
theorem ret3 {k k' : IntKind} {b : Bool} {x x' y y' : Int} (h : x = y) (h' : x' = y') : Ending.returned (.tuple #[.int k x, .bool b, .int k' x']) = .returned (.tuple #[.int k y, .bool b, .int k' y']) := by rw [h, h']

/-! ### Base, Need -/
set_option maxHeartbeats 400000 in
theorem base_n (l : Int) (w : World) (h : l < 1 ∨ 8 < l) : Calls Try.prog 10 #[.int .i64 l] w fun e w' => e = .returned (.tuple #[.int .i64 0, .int .i64 1]) ∧ w = w' := by
  rcases h with h | h
  · go_enter Try.func10, Try.ntmps10
    go_wp2
    go_ret2
    exact ⟨rfl, rfl⟩
  · have h0 : ¬ l < 1 := by omega
    go_enter Try.func10, Try.ntmps10
    go_wp2
    go_ret2
    exact ⟨rfl, rfl⟩
set_option maxHeartbeats 400000 in
theorem base_y (l : Int) (w : World) (h1 : 1 ≤ l) (h2 : l ≤ 8) : Calls Try.prog 10 #[.int .i64 l] w fun e w' => e = .returned (.tuple #[.int .i64 (2 + 2 * l), .int .i64 0]) ∧ w = w' := by
  go_enter Try.func10, Try.ntmps10
  go_wp2
  go_ret2
  exact ⟨rfl, rfl⟩
set_option maxHeartbeats 400000 in
theorem rbase_n (l : Int) (w : World) (h : l < 1 ∨ 8 < l) : Calls Try.prog 11 #[.int .i64 l] w fun e w' => e = .returned (.tuple #[.int .i64 0, .int .i64 1]) ∧ w = w' := by
  rcases h with h | h
  · go_enter Try.func11, Try.ntmps11
    go_wp2
    go_ret2
    exact ⟨rfl, rfl⟩
  · have h0 : ¬ l < 1 := by omega
    go_enter Try.func11, Try.ntmps11
    go_wp2
    go_ret2
    exact ⟨rfl, rfl⟩
set_option maxHeartbeats 400000 in
theorem rbase_y (l : Int) (w : World) (h1 : 1 ≤ l) (h2 : l ≤ 8) : Calls Try.prog 11 #[.int .i64 l] w fun e w' => e = .returned (.tuple #[.int .i64 (2 + 2 * l), .int .i64 0]) ∧ w = w' := by
  go_enter Try.func11, Try.ntmps11
  go_wp2
  go_ret2
  exact ⟨ret2 (by omega) rfl, rfl⟩
set_option maxHeartbeats 400000 in
theorem need_n (s l : Int) (w : World) (h : (l < 1 ∨ 8 < l) ∨ s < 1 ∨ 1024 < s) : Calls Try.prog 12 #[.int .i64 s, .int .i64 l] w fun e w' => e = .returned (.tuple #[.int .i64 0, .int .i64 1]) ∧ w = w' := by
  by_cases hl : l < 1 ∨ 8 < l
  · clear h
    go_enter Try.func12, Try.ntmps12
    go_wp2_with (go_at_call 10; refine (base_n _ _ (by assumption)).mono ?_; rintro e w' ⟨rfl, rfl⟩)
    go_ret2
    exact ⟨rfl, rfl⟩
  · have l1 : 1 ≤ l := by omega
    have l2 : l ≤ 8 := by omega
    rcases (show s < 1 ∨ ¬ s < 1 ∧ 1024 < s by omega) with h3 | ⟨h3, h4⟩
    all_goals
      clear h hl
      go_enter Try.func12, Try.ntmps12
      go_wp2_with (go_at_call 10; refine (base_y _ _ (by omega) (by omega)).mono ?_; rintro e w' ⟨rfl, rfl⟩)
      go_ret2
      exact ⟨rfl, rfl⟩
set_option maxHeartbeats 400000 in
theorem need_y (s l : Int) (w : World) (h1 : 1 ≤ l) (h2 : l ≤ 8) (h3 : 1 ≤ s) (h4 : s ≤ 1024) : Calls Try.prog 12 #[.int .i64 s, .int .i64 l] w fun e w' => e = .returned (.tuple #[.int .i64 (2 + 2 * l + s), .int .i64 0]) ∧ w = w' := by
  go_enter Try.func12, Try.ntmps12
  go_wp2_with (go_at_call 10; refine (base_y _ _ (by omega) (by omega)).mono ?_; rintro e w' ⟨rfl, rfl⟩)
  go_ret2
  exact ⟨rfl, rfl⟩
set_option maxHeartbeats 400000 in
theorem rneed_n (s l : Int) (w : World) (h : (l < 1 ∨ 8 < l) ∨ s < 1 ∨ 1024 < s) : Calls Try.prog 13 #[.int .i64 s, .int .i64 l] w fun e w' => e = .returned (.tuple #[.int .i64 0, .int .i64 1]) ∧ w = w' := by
  by_cases hl : l < 1 ∨ 8 < l
  · clear h
    go_enter Try.func13, Try.ntmps13
    go_wp2_with (go_at_call 11; refine (rbase_n _ _ (by assumption)).mono ?_; rintro e w' ⟨rfl, rfl⟩)
    go_ret2
    exact ⟨rfl, rfl⟩
  · have l1 : 1 ≤ l := by omega
    have l2 : l ≤ 8 := by omega
    rcases (show s < 1 ∨ ¬ s < 1 ∧ 1024 < s by omega) with h3 | ⟨h3, h4⟩
    all_goals
      clear h hl
      go_enter Try.func13, Try.ntmps13
      go_wp2_with (go_at_call 11; refine (rbase_y _ _ (by omega) (by omega)).mono ?_; rintro e w' ⟨rfl, rfl⟩)
      go_ret2
      exact ⟨rfl, rfl⟩
set_option maxHeartbeats 400000 in
theorem rneed_y (s l : Int) (w : World) (h1 : 1 ≤ l) (h2 : l ≤ 8) (h3 : 1 ≤ s) (h4 : s ≤ 1024) : Calls Try.prog 13 #[.int .i64 s, .int .i64 l] w fun e w' => e = .returned (.tuple #[.int .i64 (2 + 2 * l + s), .int .i64 0]) ∧ w = w' := by
  go_enter Try.func13, Try.ntmps13
  go_wp2_with (go_at_call 11; refine (rbase_y _ _ (by omega) (by omega)).mono ?_; rintro e w' ⟨rfl, rfl⟩)
  go_ret2
  exact ⟨rfl, rfl⟩

/-! ### the reference's May, Parity -/
set_option maxHeartbeats 400000 in
theorem rmay_t (m : Int) (w : World) (h1 : 3 ≤ m) (h2 : m ≤ 16) : Calls Try.prog 27 #[.int .i64 m] w fun e w' => e = .returned (.bool true) ∧ w = w' := by
  go_enter Try.func27, Try.ntmps27
  go_wp2
  go_ret
  first | exact ⟨rfl, rfl⟩ | exact ⟨by simp; omega, rfl⟩
set_option maxHeartbeats 400000 in
theorem rmay_f (m : Int) (w : World) (h : m < 3 ∨ 16 < m) : Calls Try.prog 27 #[.int .i64 m] w fun e w' => e = .returned (.bool false) ∧ w = w' := by
  rcases h with h | h
  all_goals
    go_enter Try.func27, Try.ntmps27
    go_wp2
    go_ret
    first | exact ⟨rfl, rfl⟩ | exact ⟨by simp; omega, rfl⟩
set_option maxHeartbeats 400000 in
theorem rparity_y (m s : Int) (w : World) (h1 : 3 ≤ m) (h2 : m ≤ 16) (h3 : 0 ≤ s) (h4 : s ≤ 9223372036854775807) :
    Calls Try.prog 20 #[.int .i64 m, .int .i64 s] w fun e w' => e = .returned (.tuple #[.int .i64 (m - 1 - s % m), .int .i64 0]) ∧ w = w' := by
  have a1 := Int.emod_nonneg s (show m ≠ 0 by omega)
  have a2 := Int.emod_lt_of_pos s (show 0 < m by omega)
  go_enter Try.func20, Try.ntmps20
  go_wp2_with (go_at_call 27; refine (rmay_t _ _ (by omega) (by omega)).mono ?_; rintro e w' ⟨rfl, rfl⟩)
  go_ret2
  exact ⟨ret2 rfl rfl, rfl⟩
set_option maxHeartbeats 400000 in
theorem rparity_n (m s : Int) (w : World) (h : m < 3 ∨ 16 < m ∨ s < 0) :
    Calls Try.prog 20 #[.int .i64 m, .int .i64 s] w fun e w' => e = .returned (.tuple #[.int .i64 0, .int .i64 1]) ∧ w = w' := by
  by_cases hm : m < 3 ∨ 16 < m
  · clear h
    go_enter Try.func20, Try.ntmps20
    go_wp2_with (go_at_call 27; refine (rmay_f _ _ (by assumption)).mono ?_; rintro e w' ⟨rfl, rfl⟩)
    go_ret2
    exact ⟨ret2 rfl rfl, rfl⟩
  · have h1 : 3 ≤ m := by omega
    have h2 : m ≤ 16 := by omega
    have h3 : s < 0 := by omega
    clear h hm
    go_enter Try.func20, Try.ntmps20
    go_wp2_with (go_at_call 27; refine (rmay_t _ _ (by omega) (by omega)).mono ?_; rintro e w' ⟨rfl, rfl⟩)
    go_ret2
    exact ⟨ret2 rfl rfl, rfl⟩

/-! ### Capacity -/
theorem cap_bd {m s : Int} (h : 3 ≤ m) (h' : m ≤ 16) (hs : 0 ≤ s) (hs' : s ≤ 1024) : 0 ≤ s * (m - 1) ∧ s * (m - 1) ≤ 20000 := by
  have a : 0 ≤ s * (m - 1) := Int.mul_nonneg hs (by omega)
  have b : s * (m - 1) ≤ 1024 * 15 := Int.mul_le_mul hs' (by omega) (by omega) (by omega)
  exact ⟨a, by omega⟩
set_option maxHeartbeats 400000 in
theorem cap_n (m s : Int) (w : World) (h : (m < 3 ∨ 16 < m) ∨ s < 1 ∨ 1024 < s) : Calls Try.prog 18 #[.int .i64 m, .int .i64 s] w fun e w' => e = .returned (.tuple #[.int .i64 0, .int .i64 1]) ∧ w = w' := by
  by_cases hm : m < 3 ∨ 16 < m
  · clear h
    go_enter Try.func18, Try.ntmps18
    go_wp2_with (go_at_call 26; refine (may_f _ _ (by assumption)).mono ?_; rintro e w' ⟨rfl, rfl⟩)
    go_ret2
    exact ⟨rfl, rfl⟩
  · have l1 : 3 ≤ m := by omega
    have l2 : m ≤ 16 := by omega
    rcases (show s < 1 ∨ ¬ s < 1 ∧ 1024 < s by omega) with h3 | ⟨h3, h4⟩
    all_goals
      clear h hm
      go_enter Try.func18, Try.ntmps18
      go_wp2_with (go_at_call 26; refine (may_t _ _ (by omega) (by omega)).mono ?_; rintro e w' ⟨rfl, rfl⟩)
      go_ret2
      exact ⟨rfl, rfl⟩
set_option maxHeartbeats 400000 in
theorem cap_y (m s : Int) (w : World) (h1 : 3 ≤ m) (h2 : m ≤ 16) (h3 : 1 ≤ s) (h4 : s ≤ 1024) : Calls Try.prog 18 #[.int .i64 m, .int .i64 s] w fun e w' => e = .returned (.tuple #[.int .i64 (s * (m - 1)), .int .i64 0]) ∧ w = w' := by
  obtain ⟨b1, b2⟩ := cap_bd h1 h2 (show 0 ≤ s by omega) h4
  go_enter Try.func18, Try.ntmps18
  go_wp2_with (go_at_call 26; refine (may_t _ _ (by omega) (by omega)).mono ?_; rintro e w' ⟨rfl, rfl⟩)
  go_ret2
  exact ⟨rfl, rfl⟩
set_option maxHeartbeats 400000 in
theorem rcap_n (m s : Int) (w : World) (h : (m < 3 ∨ 16 < m) ∨ s < 1 ∨ 1024 < s) : Calls Try.prog 19 #[.int .i64 m, .int .i64 s] w fun e w' => e = .returned (.tuple #[.int .i64 0, .int .i64 1]) ∧ w = w' := by
  by_cases hm : m < 3 ∨ 16 < m
  · clear h
    go_enter Try.func19, Try.ntmps19
    go_wp2_with (go_at_call 27; refine (rmay_f _ _ (by assumption)).mono ?_; rintro e w' ⟨rfl, rfl⟩)
    go_ret2
    exact ⟨rfl, rfl⟩
  · have l1 : 3 ≤ m := by omega
    have l2 : m ≤ 16 := by omega
    rcases (show s < 1 ∨ ¬ s < 1 ∧ 1024 < s by omega) with h3 | ⟨h3, h4⟩
    all_goals
      clear h hm
      go_enter Try.func19, Try.ntmps19
      go_wp2_with (go_at_call 27; refine (rmay_t _ _ (by omega) (by omega)).mono ?_; rintro e w' ⟨rfl, rfl⟩)
      go_ret2
      exact ⟨rfl, rfl⟩
set_option maxHeartbeats 400000 in
theorem rcap_y (m s : Int) (w : World) (h1 : 3 ≤ m) (h2 : m ≤ 16) (h3 : 1 ≤ s) (h4 : s ≤ 1024) : Calls Try.prog 19 #[.int .i64 m, .int .i64 s] w fun e w' => e = .returned (.tuple #[.int .i64 (s * (m - 1)), .int .i64 0]) ∧ w = w' := by
  obtain ⟨b1, b2⟩ := cap_bd h1 h2 (show 0 ≤ s by omega) h4
  have e : s * m - s = s * (m - 1) := by rw [Int.mul_sub, Int.mul_one]
  have b3 : 0 ≤ s * m := by omega
  have b4 : s * m ≤ 30000 := by omega
  have E := Lib.hid e
  clear e
  have b5 : 0 ≤ s * m - s := by have := E.out; omega
  go_enter Try.func19, Try.ntmps19
  go_wp2_with (go_at_call 27; refine (rmay_t _ _ (by omega) (by omega)).mono ?_; rintro e w' ⟨rfl, rfl⟩)
  go_ret2
  exact ⟨ret2 E.out rfl, rfl⟩

/-! ### Back -/
set_option maxHeartbeats 400000 in
theorem back_n (m s x : Int) (w : World) (h : (m < 3 ∨ 16 < m) ∨ s < 0 ∨ 1023 < s ∨ x < 0 ∨ m ≤ x) : Calls Try.prog 22 #[.int .i64 m, .int .i64 s, .int .i64 x] w fun e w' => e = .returned (.tuple #[.int .i64 0, .bool false, .int .i64 1]) ∧ w = w' := by
  by_cases hm : m < 3 ∨ 16 < m
  · clear h
    go_enter Try.func22, Try.ntmps22
    go_wp2_with (go_at_call 26; refine (may_f _ _ (by assumption)).mono ?_; rintro e w' ⟨rfl, rfl⟩)
    go_ret3
    exact ⟨rfl, rfl⟩
  · have l1 : 3 ≤ m := by omega
    have l2 : m ≤ 16 := by omega
    rcases (show s < 0 ∨ (0 ≤ s ∧ 1024 ≤ s) ∨ (0 ≤ s ∧ s < 1024 ∧ x < 0) ∨ (0 ≤ s ∧ s < 1024 ∧ 0 ≤ x ∧ m ≤ x) by omega) with h3 | ⟨h3, h4⟩ | ⟨h3, h4, h5⟩ | ⟨h3, h4, h5, h6⟩
    all_goals
      clear h hm
      go_enter Try.func22, Try.ntmps22
      go_wp2_with (go_at_call 26; refine (may_t _ _ (by omega) (by omega)).mono ?_; rintro e w' ⟨rfl, rfl⟩)
      go_ret3
      exact ⟨rfl, rfl⟩
set_option maxHeartbeats 1000000 in
theorem back_p (m s : Int) (w : World) (h1 : 3 ≤ m) (h2 : m ≤ 16) (h3 : 0 ≤ s) (h4 : s ≤ 1023) : Calls Try.prog 22 #[.int .i64 m, .int .i64 s, .int .i64 (m - 1 - s % m)] w fun e w' => e = .returned (.tuple #[.int .i64 0, .bool false, .int .i64 0]) ∧ w = w' := by
  have a1 := Int.emod_nonneg s (show m ≠ 0 by omega)
  have a2 := Int.emod_lt_of_pos s (show 0 < m by omega)
  have hpar := fun w => parity_y m s w h1 h2 h3 (by omega)
  obtain ⟨p, hp⟩ : ∃ p, m - 1 - s % m = p := ⟨_, rfl⟩
  have p0 : 0 ≤ p := by omega
  have p1 : p < m := by omega
  rw [hp] at hpar ⊢
  have HP := Lib.hid hpar
  clear hpar hp a1 a2
  go_enter Try.func22, Try.ntmps22
  go_wp2_with (first
    | (go_at_call 26; refine (may_t _ _ (by omega) (by omega)).mono ?_; rintro e w' ⟨rfl, rfl⟩)
    | (go_at_call 16; refine (HP.out _).mono ?_; rintro e w' ⟨rfl, rfl⟩))
  go_ret3
  exact ⟨rfl, rfl⟩
set_option maxHeartbeats 1000000 in
theorem back_d (m s x : Int) (w : World) (h1 : 3 ≤ m) (h2 : m ≤ 16) (h3 : 0 ≤ s) (h4 : s ≤ 1023) (h5 : 0 ≤ x) (h6 : x < m) (h7 : m - 1 - s % m ≠ x) :
    Calls Try.prog 22 #[.int .i64 m, .int .i64 s, .int .i64 x] w fun e w' => e = .returned (.tuple #[.int .i64 (s * (m - 1) + (x - (m - 1 - s % m) - 1 + m) % m), .bool true, .int .i64 0]) ∧ w = w' := by
  have a1 := Int.emod_nonneg s (show m ≠ 0 by omega)
  have a2 := Int.emod_lt_of_pos s (show 0 < m by omega)
  obtain ⟨b1, b2⟩ := cap_bd h1 h2 h3 (show s ≤ 1024 by omega)
  have hpar := fun w => parity_y m s w h1 h2 h3 (by omega)
  obtain ⟨p, hp⟩ : ∃ p, m - 1 - s % m = p := ⟨_, rfl⟩
  have p0 : 0 ≤ p := by omega
  have p1 : p < m := by omega
  rw [hp] at hpar h7 ⊢
  have HP := Lib.hid hpar
  clear hpar hp a1 a2
  have h8 : (p == x) = false := by simpa using h7
  have r0 : 0 ≤ x - p - 1 + m := by omega
  have r1 := Int.emod_nonneg (x - p - 1) (show m ≠ 0 by omega)
  have r2 := Int.emod_lt_of_pos (x - p - 1) (show 0 < m by omega)
  have re := Lib.hid (Int.add_emod_right (x - p - 1) m)
  go_enter Try.func22, Try.ntmps22
  go_wp2_with (first
    | (go_at_call 26; refine (may_t _ _ (by omega) (by omega)).mono ?_; rintro e w' ⟨rfl, rfl⟩)
    | (go_at_call 16; refine (HP.out _).mono ?_; rintro e w' ⟨rfl, rfl⟩))
  go_ret3
  exact ⟨ret3 (by rw [re.out]) rfl, rfl⟩

/-! ### lists of members that are refused; the reference's Members -/
set_option maxHeartbeats 400000 in
theorem members_n (m s : Int) (w : World) (h : m < 3 ∨ 16 < m ∨ s < 0) :
    Calls Try.prog 15 #[.int .i64 m, .int .i64 s] w fun e w' => e = .returned (.tuple #[.slice none 0 0, .int .i64 1]) ∧ w = w' := by
  go_enter Try.func15, Try.ntmps15
  go_wp2_with (go_at_call 16; refine (parity_n _ _ _ h).mono ?_; rintro e w' ⟨rfl, rfl⟩)
  go_ret2
  exact ⟨rfl, rfl⟩
set_option maxHeartbeats 400000 in
theorem rmembers_n (m s : Int) (w : World) (h : m < 3 ∨ 16 < m ∨ s < 0) :
    Calls Try.prog 24 #[.int .i64 m, .int .i64 s] w fun e w' => e = .returned (.tuple #[.slice none 0 0, .int .i64 1]) ∧ w = w' := by
  go_enter Try.func24, Try.ntmps24
  go_wp2_with (go_at_call 20; refine (rparity_n _ _ _ h).mono ?_; rintro e w' ⟨rfl, rfl⟩)
  go_ret2
  exact ⟨rfl, rfl⟩

/-- where the reference's round has come to -/
theorem turn (n : Nat) (p : Int) (k : Nat) (p0 : 0 ≤ p) (p1 : p < n) (hk : k < n) :
    ((p + (k : Int)) % n + 1 = n → (p + 1 + (k : Int)) % n = 0) ∧ ((p + (k : Int)) % n + 1 ≠ n → (p + 1 + (k : Int)) % n = (p + (k : Int)) % n + 1) := by
  by_cases h : p + (k : Int) < n
  · rw [Int.emod_eq_of_lt (by omega) h]
    constructor
    · intro e
      have : p + 1 + (k : Int) = n := by omega
      rw [this]; exact Int.emod_self
    · intro e
      rw [Int.emod_eq_of_lt (by omega) (by omega)]; omega
  · have e1 : (p + (k : Int)) % n = p + k - n := by
      rw [show p + (k : Int) = (p + k - n) + n by omega, Int.add_emod_right, Int.emod_eq_of_lt (by omega) (by omega)]; omega
    have e2 : (p + 1 + (k : Int)) % n = p + 1 + k - n := by
      rw [show p + 1 + (k : Int) = (p + 1 + k - n) + n by omega, Int.add_emod_right, Int.emod_eq_of_lt (by omega) (by omega)]; omega
    rw [e1, e2]
    constructor <;> intro e <;> omega
theorem turn_next (n : Nat) (p : Int) (k : Nat) : (p + ((k + 1 : Nat) : Int)) % n = (p + 1 + (k : Int)) % n := by
  congr 1; omega

set_option maxHeartbeats 1000000 in
theorem rmembers_y (n : Nat) (s : Int) (w : World) (h1 : 3 ≤ n) (h2 : n ≤ 16) (h3 : 0 ≤ s) (h4 : s ≤ 9223372036854775807) :
    Calls Try.prog 24 #[.int .i64 (n : Int), .int .i64 s] w fun e w' => ∃ v, e = .returned (.tuple #[v, .int .i64 0]) ∧
      w'.ownsRow w.heap.size 3 1 v n ((mem n ((n : Int) - 1 - s % n) n).map (Value.int .i64)) ∧ Below w.heap.size w w' := by
  have hpar := fun w => rparity_y (n : Int) s w (by omega) (by omega) h3 h4
  have a1 := Int.emod_nonneg s (show (n : Int) ≠ 0 by omega)
  have a2 := Int.emod_lt_of_pos s (show 0 < (n : Int) by omega)
  obtain ⟨p, hp⟩ : ∃ p, (n : Int) - 1 - s % n = p := ⟨_, rfl⟩
  have p0 : 0 ≤ p := by omega
  have p1 : p < n := by omega
  rw [hp] at hpar ⊢
  clear hp a1 a2
  have HP := Lib.hid hpar
  clear hpar
  obtain ⟨i0, hi, hz0, hz1, hz2⟩ := info_parts tinfo3
  have hat0 : p % (n : Int) = p := Int.emod_eq_of_lt p0 p1
  have HA := Lib.hid hat0
  clear hat0
  go_enter Try.func24, Try.ntmps24
  go_wp2_with (go_at_call 20; refine (HP.out _).mono ?_; rintro e w' ⟨rfl, rfl⟩)
  go_loopw [8, 9, 10] (fun v a i wr => ∃ k : Nat, k ≤ n ∧ i = .int .i64 k ∧ a = .int .i64 ((p + (k : Int)) % n) ∧ wr.ownsRow w.heap.size 3 1 v k ((mem n p k).map (Value.int .i64)) ∧ Below w.heap.size w wr) (fun _ _ i _ => n - (intOf i).toNat)
  case atStart => exact ⟨0, Nat.zero_le _, rfl, by rw [show (p + ((0 : Nat) : Int)) = p by omega, HA.out], World.ownsRow_nil _ _ _ _, Below.refl _ _⟩
  case round =>
    obtain ⟨k, hk, rfl, rfl, hown, hb⟩ := hrel
    by_cases hlt : k < n
    · obtain ⟨t1, t2⟩ := turn n p k p0 p1 hlt
      have T1 := Lib.hid t1
      have T2 := Lib.hid t2
      have b1 := Int.emod_nonneg (p + (k : Int)) (show (n : Int) ≠ 0 by omega)
      have b2 := Int.emod_lt_of_pos (p + (k : Int)) (show 0 < (n : Int) by omega)
      have tn := Lib.hid (turn_next n p k)
      clear t1 t2
      obtain ⟨q, hq⟩ : ∃ q, (p + (k : Int)) % n = q := ⟨_, rfl⟩
      rw [hq] at T1 T2 b1 b2 ⊢
      clear hq
      by_cases hz : q + 1 = n
      · have hz' : ((q + 1) == (n : Int)) = true := by simpa using hz
        have he := Lib.hid (T1.out hz)
        clear hz T1 T2
        go_wp2_with (at_builtin; refine wpList_append_own _ rfl _ _ 28 rfl w.heap.size 3 i0 (.int .i64 0) 1 8 Try.underlying28 hi hz0 hz1 hz2 rfl (by decide) _ _ _ rfl (hown.alloc _) ⟨wr.heap.size, 0, none⟩ 1 1 [.int .i64 0] rfl rfl ?c1 ?c2 ?c3 ?c4 ?c5 ?_)
        case c1 => exact row1 _ _
        case c2 => simp [Value.oneCell']
        case c3 => unfold maxLen; omega
        case c4 => omega
        case c5 => have := hb.size; simp; omega
        intro v' w1 hown' hgrow _
        obtain ⟨g1, g2⟩ := rel_more (m := n) (p := p) hb.size hown hb (by rw [he.out]; exact hown') hgrow
        clear hown' hgrow hown hb
        go_wp2
        go_roundw
        case rel => exact ⟨k + 1, by omega, by go_num, by rw [tn.out, he.out], g1, g2⟩
        case measure => simp [intOf]; omega
      · have hz' : ((q + 1) == (n : Int)) = false := by simpa using hz
        have he := Lib.hid (T2.out hz)
        clear hz T1 T2
        go_wp2_with (at_builtin; refine wpList_append_own _ rfl _ _ 28 rfl w.heap.size 3 i0 (.int .i64 0) 1 8 Try.underlying28 hi hz0 hz1 hz2 rfl (by decide) _ _ _ rfl (hown.alloc _) ⟨wr.heap.size, 0, none⟩ 1 1 [.int .i64 (q + 1)] rfl rfl ?c1 ?c2 ?c3 ?c4 ?c5 ?_)
        case c1 => exact row1 _ _
        case c2 => simp [Value.oneCell']
        case c3 => unfold maxLen; omega
        case c4 => omega
        case c5 => have := hb.size; simp; omega
        intro v' w1 hown' hgrow _
        obtain ⟨g1, g2⟩ := rel_more (m := n) (p := p) hb.size hown hb (by rw [he.out]; exact hown') hgrow
        clear hown' hgrow hown hb
        go_wp2
        go_roundw
        case rel => exact ⟨k + 1, by omega, by go_num, by rw [tn.out, he.out], g1, g2⟩
        case measure => simp [intOf]; omega
    · have hkn : k = n := by omega
      subst hkn
      clear hk
      go_wp2
      go_ret2
      exact ⟨_, rfl, hown, hb⟩
end Go.Proofs.Ytagclifmbjaecaa.Own
