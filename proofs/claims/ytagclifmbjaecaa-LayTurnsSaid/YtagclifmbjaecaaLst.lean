/- What the functions that read lists come to: sameInts, the reference's Map and Back, and lives. -/
import Derived.Test.YtagclifmbjaecaaFns
namespace Go.Proofs.Ytagclifmbjaecaa.Own
open Go.RowKit
/-- a row that is not empty lies in cells -/
theorem own_open {w : World} {B n : Nat} {v : Value} {l : List Int} (h : w.ownsRow B 3 1 v n (l.map (Value.int .i64))) (hn : 0 < n) :
    ∃ g cap, v = .slice (some ⟨g, 0, none⟩) n cap ∧ B ≤ g ∧ g < w.heap.size ∧ l.length = n ∧ ∀ j, j < n → w.cell? ⟨g, j, none⟩ = some (.int .i64 (l.getD j 0)) := by
  have hl : l.length = n := by have := h.1; simpa using this
  rcases h.2 with ⟨rfl, h0⟩ | ⟨g, cap, cur, rfl, hb, hg, hc⟩
  · omega
  · refine ⟨g, cap, rfl, hb, (Array.getElem?_eq_some_iff.1 hg).1, hl, fun j hj => ?_⟩
    have := h.cells (g := g) rfl j (.int .i64 (l.getD j 0)) (by rw [List.getElem?_map, List.getElem?_eq_getElem (by omega)]; simp [List.getD_eq_getElem?_getD, List.getElem?_eq_getElem (show j < l.length by omega)])
    have hadd : (⟨g, 0, none⟩ : Addr).add j = ⟨g, j, none⟩ := by unfold Addr.add; split <;> simp_all
    rw [hadd] at this; exact this

set_option maxHeartbeats 1000000 in
theorem same_y (g0 g1 c0 c1 n : Nat) (l : List Int) (w : World) (hn : n ≤ 1000) (h0 : ∀ j, j < n → w.cell? ⟨g0, j, none⟩ = some (.int .i64 (l.getD j 0))) (h1 : ∀ j, j < n → w.cell? ⟨g1, j, none⟩ = some (.int .i64 (l.getD j 0))) :
    Calls Try.prog 25 #[.slice (some ⟨g0, 0, none⟩) n c0, .slice (some ⟨g1, 0, none⟩) n c1] w fun e w' => e = .returned (.bool true) ∧ ∃ d, w' = w.drewN d := by
  have H0 := Lib.hid h0
  have H1 := Lib.hid h1
  clear h0 h1
  go_enter Try.func25, Try.ntmps25
  go_wp2
  go_loopw [5] (fun i wr => ∃ k : Nat, k ≤ n ∧ i = .int .i64 k ∧ ∃ d, wr = w.drewN d) (fun i _ => n - (intOf i).toNat)
  case atStart => exact ⟨0, Nat.zero_le _, rfl, 0, rfl⟩
  case round =>
    obtain ⟨k, hk, rfl, d, rfl⟩ := hrel
    by_cases hlt : k < n
    · have a0 := H0.out k hlt
      have a1 := H1.out k hlt
      obtain ⟨x, hx⟩ : ∃ x, l.getD k 0 = x := ⟨_, rfl⟩
      rw [hx] at a0 a1
      clear hx
      have i0 : (k : Int) < (n : Int) := by omega
      have i1 : 0 ≤ (k : Int) := by omega
      go_wp2
      go_quiet (fail)
      go_wp2
      go_roundw
      case rel => exact ⟨k + 1, by omega, by go_num, _, rfl⟩
      case measure => simp [intOf]; omega
    · have hkn : k = n := by omega
      subst hkn
      clear hk
      go_wp2
      go_ret
      exact ⟨rfl, _, rfl⟩
set_option maxHeartbeats 400000 in
theorem same_nil (w : World) : Calls Try.prog 25 #[.slice none 0 0, .slice none 0 0] w fun e w' => e = .returned (.bool true) ∧ w = w' := by
  go_enter Try.func25, Try.ntmps25
  go_wp2
  refine wp_loop_rounds 1 ?_
  rw [rounds_succ]
  go_wp2
  go_ret
  exact ⟨rfl, rfl⟩

theorem bdrewN {B : Nat} {w W : World} (h : Below B w W) (n : Nat) : Below B w (W.drewN n) := ⟨h.os, h.tape, h.output, h.size, h.block⟩

theorem mem_getD (m p : Int) (n k : Nat) (h : k < n) : (mem m p n).getD k 0 = (p + 1 + (k : Int)) % m := by
  simp [mem, List.getD_eq_getElem?_getD, h]

set_option maxHeartbeats 400000 in
theorem rmap_n (m b : Int) (w : World) (h : m < 3 ∨ 16 < m ∨ b < 0) :
    Calls Try.prog 21 #[.int .i64 m, .int .i64 b] w fun e w' => e = .returned (.tuple #[.agg #[.int .i64 0, .int .i64 0, .int .i64 0], .int .i64 1]) ∧ Below w.heap.size w w' := by
  by_cases hm : m < 3 ∨ 16 < m
  · clear h
    go_enter Try.func21, Try.ntmps21
    go_wp2_with (go_at_call 27; refine (rmay_f _ _ (by assumption)).mono ?_; rintro e w' ⟨rfl, rfl⟩)
    exact bodyPost_ret (v := .tuple #[.agg #[.int .i64 0, .int .i64 0, .int .i64 0], .int .i64 1]) (by simp [results, Try.results21, go_sem]) rfl ⟨rfl, (Below.refl _ _).alloc (Nat.le_refl _) _⟩
  · have h1 : 3 ≤ m := by omega
    have h2 : m ≤ 16 := by omega
    have h3 : b < 0 := by omega
    clear h hm
    go_enter Try.func21, Try.ntmps21
    go_wp2_with (go_at_call 27; refine (rmay_t _ _ (by omega) (by omega)).mono ?_; rintro e w' ⟨rfl, rfl⟩)
    exact bodyPost_ret (v := .tuple #[.agg #[.int .i64 0, .int .i64 0, .int .i64 0], .int .i64 1]) (by simp [results, Try.results21, go_sem]) rfl ⟨rfl, (Below.refl _ _).alloc (Nat.le_refl _) _⟩

set_option maxHeartbeats 1000000 in
theorem rmap_y (n : Nat) (b : Int) (w : World) (h1 : 3 ≤ n) (h2 : n ≤ 16) (h3 : 0 ≤ b) (h4 : b ≤ 9223372036854775807) :
    Calls Try.prog 21 #[.int .i64 (n : Int), .int .i64 b] w fun e w' => e = .returned (.tuple #[.agg #[.int .i64 (b / ((n : Int) - 1)), .int .i64 (((n : Int) - 1 - b / ((n : Int) - 1) % n + 1 + b % ((n : Int) - 1)) % n), .int .i64 (b % ((n : Int) - 1))], .int .i64 0]) ∧ Below w.heap.size w w' := by
  have q0 : 0 ≤ b / ((n : Int) - 1) := Int.ediv_nonneg h3 (by omega)
  have q1 : b / ((n : Int) - 1) ≤ b := Int.ediv_le_self _ h3
  have r1 := Int.emod_nonneg b (show (n : Int) - 1 ≠ 0 by omega)
  have r2 := Int.emod_lt_of_pos b (show 0 < (n : Int) - 1 by omega)
  have e1 : b / ((n : Int) - 1) * ((n : Int) - 1) = b - b % ((n : Int) - 1) := by
    have := Int.mul_ediv_add_emod b ((n : Int) - 1)
    rw [Int.mul_comm] at this; omega
  have r3 : b % ((n : Int) - 1) ≤ b := by
    have := Int.mul_nonneg (show 0 ≤ b / ((n : Int) - 1) from q0) (show 0 ≤ (n : Int) - 1 by omega)
    omega
  obtain ⟨q, hq⟩ : ∃ q, b / ((n : Int) - 1) = q := ⟨_, rfl⟩
  have hmem := fun w => rmembers_y n q w h1 h2 (by omega) (by omega)
  have HQ := Lib.hid hq
  have HM := Lib.hid hmem
  obtain ⟨r, hr⟩ : ∃ r : Nat, b % ((n : Int) - 1) = (r : Int) := ⟨(b % ((n : Int) - 1)).toNat, by omega⟩
  have HR := Lib.hid hr
  rw [hq, hr] at e1
  rw [hr] at r1 r2 r3
  rw [hq] at q0 q1
  have hk : wrap64 (b - wrap64 (q * ((n : Int) - 1))) = (r : Int) := by
    rw [e1]; unfold wrap64; omega
  have x0 : 0 ≤ q * ((n : Int) - 1) := by omega
  have x1 : q * ((n : Int) - 1) ≤ b := by omega
  rw [hq, hr]
  clear hq hr e1 hmem
  go_enter Try.func21, Try.ntmps21
  go_wp2_with (first
    | (go_at_call 27; refine (rmay_t _ _ (by omega) (by omega)).mono ?_; rintro e w' ⟨rfl, rfl⟩)
    | (go_at_call 24; rw [HQ.out]; refine (HM.out _).mono ?_; rintro e w1 ⟨v, rfl, hown, hb⟩; obtain ⟨g, cap, rfl, hg0, hg1, hl, hc⟩ := own_open hown (by omega); have hcr := hc r (by omega); rw [mem_getD _ _ _ _ (by omega)] at hcr; clear hc hl; obtain ⟨bc, bf⟩ := bcell hb; have hsz := hb.size; simp at hsz))
  have k0 : w1.cell? ⟨w.heap.size, 0, none⟩ = some (.int .i64 0) := (bc _ 0 (by simp)).trans (by rw [World.cell?_alloc_at _ _ _ _ rfl]; rfl)
  have k1 : w1.cell? ⟨w.heap.size, 1, none⟩ = some (.int .i64 0) := (bc _ 1 (by simp)).trans (by rw [World.cell?_alloc_at _ _ _ _ rfl]; rfl)
  have k2 : w1.cell? ⟨w.heap.size, 2, none⟩ = some (.int .i64 0) := (bc _ 2 (by simp)).trans (by rw [World.cell?_alloc_at _ _ _ _ rfl]; rfl)
  refine bodyPost_ret (v := .tuple #[.agg #[.int .i64 q, .int .i64 (((n : Int) - 1 - q % n + 1 + r) % n), .int .i64 r], .int .i64 0]) (by simp [results, Try.results21, go_sem, k0, k1, k2]) rfl ⟨rfl, ?_⟩
  exact (((((Below.refl _ _).alloc (Nat.le_refl _) _).trans (hb.mono (by simp))).setCell (Nat.le_refl _) _).setCell (Nat.le_refl _) _).setCell (Nat.le_refl _) _

/-! ### the reference's Back -/
set_option maxHeartbeats 400000 in
theorem rback_n (m s x : Int) (w : World) (h : (m < 3 ∨ 16 < m) ∨ s < 0 ∨ 1023 < s ∨ x < 0 ∨ m ≤ x) : Calls Try.prog 23 #[.int .i64 m, .int .i64 s, .int .i64 x] w fun e w' => e = .returned (.tuple #[.int .i64 0, .bool false, .int .i64 1]) ∧ w = w' := by
  by_cases hm : m < 3 ∨ 16 < m
  · clear h
    go_enter Try.func23, Try.ntmps23
    go_wp2_with (go_at_call 27; refine (rmay_f _ _ (by assumption)).mono ?_; rintro e w' ⟨rfl, rfl⟩)
    go_ret3
    exact ⟨rfl, rfl⟩
  · have l1 : 3 ≤ m := by omega
    have l2 : m ≤ 16 := by omega
    rcases (show s < 0 ∨ (0 ≤ s ∧ 1023 < s) ∨ (0 ≤ s ∧ s ≤ 1023 ∧ x < 0) ∨ (0 ≤ s ∧ s ≤ 1023 ∧ 0 ≤ x ∧ m ≤ x) by omega) with h3 | ⟨h3, h4⟩ | ⟨h3, h4, h5⟩ | ⟨h3, h4, h5, h6⟩
    all_goals
      clear h hm
      go_enter Try.func23, Try.ntmps23
      go_wp2_with (go_at_call 27; refine (rmay_t _ _ (by omega) (by omega)).mono ?_; rintro e w' ⟨rfl, rfl⟩)
      go_ret3
      exact ⟨rfl, rfl⟩

/-- what the place of the member x in the stripe of the parity p says, and where the search has come to -/
theorem place_hit (n : Nat) (p x : Int) (k : Nat) (p0 : 0 ≤ p) (p1 : p < n) (x0 : 0 ≤ x) (hk : k + 1 < n) (h : (p + 1 + (k : Int)) % n = x) : p ≠ x ∧ (x - p - 1 + n) % n = k := by
  have hd : p + 1 + (k : Int) = x ∨ p + 1 + (k : Int) = x + n := by
    by_cases c : p + 1 + (k : Int) < n
    · rw [Int.emod_eq_of_lt (by omega) c] at h; exact .inl h
    · rw [show p + 1 + (k : Int) = (p + 1 + k - n) + n by omega, Int.add_emod_right, Int.emod_eq_of_lt (by omega) (by omega)] at h; right; omega
  rcases hd with hd | hd
  · refine ⟨by omega, ?_⟩
    rw [Int.add_emod_right, Int.emod_eq_of_lt (by omega) (by omega)]; omega
  · refine ⟨by omega, ?_⟩
    rw [Int.emod_eq_of_lt (by omega) (by omega)]; omega
theorem place_all (n : Nat) (p x : Int) (p0 : 0 ≤ p) (p1 : p < n) (x0 : 0 ≤ x) (x1 : x < n) (h : ∀ k : Nat, k + 1 < n → (p + 1 + (k : Int)) % n ≠ x) : p = x := by
  by_cases c : p = x
  · exact c
  · exfalso
    by_cases d : p < x
    · refine h (x - p - 1).toNat (by omega) ?_
      rw [show p + 1 + (((x - p - 1).toNat : Nat) : Int) = x by omega, Int.emod_eq_of_lt x0 x1]
    · refine h (x - p - 1 + n).toNat (by omega) ?_
      rw [show p + 1 + (((x - p - 1 + n).toNat : Nat) : Int) = x + n by omega, Int.add_emod_right, Int.emod_eq_of_lt x0 x1]

/-- what Back tells -/
def backV (m s x : Int) : Value := if m - 1 - s % m = x then .tuple #[.int .i64 0, .bool false, .int .i64 0] else .tuple #[.int .i64 (s * (m - 1) + (x - (m - 1 - s % m) - 1 + m) % m), .bool true, .int .i64 0]

set_option maxHeartbeats 1000000 in
theorem rback_y (n : Nat) (s x : Int) (w : World) (h1 : 3 ≤ n) (h2 : n ≤ 16) (h3 : 0 ≤ s) (h4 : s ≤ 1023) (h5 : 0 ≤ x) (h6 : x < n) :
    Calls Try.prog 23 #[.int .i64 (n : Int), .int .i64 s, .int .i64 x] w fun e w' => e = .returned (backV n s x) ∧ Below w.heap.size w w' := by
  have hmem := fun w => rmembers_y n s w h1 h2 h3 (by omega)
  have a1 := Int.emod_nonneg s (show (n : Int) ≠ 0 by omega)
  have a2 := Int.emod_lt_of_pos s (show 0 < (n : Int) by omega)
  obtain ⟨b1, b2⟩ := cap_bd (m := (n : Int)) (s := s) (by omega) (by omega) h3 (by omega)
  obtain ⟨p, hp⟩ : ∃ p, (n : Int) - 1 - s % n = p := ⟨_, rfl⟩
  have p0 : 0 ≤ p := by omega
  have p1 : p < n := by omega
  have hv : backV n s x = if p = x then .tuple #[.int .i64 0, .bool false, .int .i64 0] else .tuple #[.int .i64 (s * ((n : Int) - 1) + (x - p - 1 + n) % n), .bool true, .int .i64 0] := by
    unfold backV; rw [hp]
  have HV := Lib.hid hv
  rw [hp] at hmem
  clear hv
  have HM := Lib.hid hmem
  clear hp a1 a2 hmem
  go_enter Try.func23, Try.ntmps23
  go_wp2_with (first
    | (go_at_call 27; refine (rmay_t _ _ (by omega) (by omega)).mono ?_; rintro e w' ⟨rfl, rfl⟩)
    | (go_at_call 24; refine (HM.out _).mono ?_; rintro e w1 ⟨v, rfl, hown, hb⟩; obtain ⟨g, cap, rfl, hg0, hg1, hl, hc⟩ := own_open hown (by omega)))
  have HC : Hid (∀ j : Nat, j < n → w1.cell? ⟨g, j, none⟩ = some (.int .i64 ((p + 1 + (j : Int)) % n))) := Lib.hid (fun j hj => by rw [hc j hj, mem_getD _ _ _ _ hj])
  clear hc hl hown
  go_loop [11] (fun i => ∃ k : Nat, k + 1 ≤ n ∧ i = .int .i64 k ∧ Hid (∀ j : Nat, j < k → (p + 1 + (j : Int)) % n ≠ x)) (fun i => n - (intOf i).toNat)
  case atStart => exact ⟨0, by omega, rfl, Lib.hid (fun j hj => absurd hj (by omega))⟩
  case round =>
    obtain ⟨k, hk, rfl, HN⟩ := hrel
    by_cases hlt : k + 1 < n
    · have hlt' : (k : Int) < (n : Int) - 1 := by omega
      have hkn : k < n := by omega
      have hck := HC.out k hkn
      obtain ⟨y, hy⟩ : ∃ y, (p + 1 + (k : Int)) % n = y := ⟨_, rfl⟩
      rw [hy] at hck
      by_cases hyx : y = x
      · subst hyx
        have Hh := Lib.hid (place_hit n p y k p0 p1 h5 hlt hy)
        clear hy HC
        go_wp2
        go_ret3
        refine ⟨?_, hb⟩
        rw [HV.out, if_neg Hh.out.1, Hh.out.2]; rfl
      · have hne : (y == x) = false := by simpa using hyx
        have HN' : Hid (∀ j : Nat, j < k + 1 → (p + 1 + (j : Int)) % n ≠ x) := Lib.hid (fun j hj => by
          by_cases e : j = k
          · subst e; rw [hy]; exact hyx
          · exact HN.out j (by omega))
        clear hy hyx HN
        go_wp2
        go_round
        case rel => exact ⟨k + 1, by omega, by go_num, HN'⟩
        case measure => simp [intOf]; omega
    · have hge : ¬ (k : Int) < (n : Int) - 1 := by omega
      have hx : p = x := place_all n p x p0 p1 h5 h6 (fun j hj => HN.out j (by omega))
      have HX := Lib.hid hx
      clear hx
      go_wp2
      go_ret3
      exact ⟨by rw [HV.out, if_pos HX.out]; rfl, hb⟩
theorem back_y (m s x : Int) (w : World) (h1 : 3 ≤ m) (h2 : m ≤ 16) (h3 : 0 ≤ s) (h4 : s ≤ 1023) (h5 : 0 ≤ x) (h6 : x < m) :
    Calls Try.prog 22 #[.int .i64 m, .int .i64 s, .int .i64 x] w fun e w' => e = .returned (backV m s x) ∧ w = w' := by
  unfold backV
  by_cases h : m - 1 - s % m = x
  · subst h
    rw [if_pos rfl]; exact back_p m s w h1 h2 h3 h4
  · rw [if_neg h]; exact back_d m s x w h1 h2 h3 h4 h5 h6 h

/-! ### lives -/
theorem eql_int (w : World) (d : Nat) (x : Int) : (Op.equalIn (d + 1) 3 (.int .i64 x) (.int .i64 x)).run Try.prog w = .ok true w := by go_simp
theorem eql_spot (w : World) (x y z : Int) : (binOp .eql 33 (.agg #[.int .i64 x, .int .i64 y, .int .i64 z]) (.agg #[.int .i64 x, .int .i64 y, .int .i64 z])).run Try.prog w = .ok (.bool true) w := by
  have h := run_equalIn_struct (P := Try.prog) w 9999 33 #[.int .i64 x, .int .i64 y, .int .i64 z] #[.int .i64 x, .int .i64 y, .int .i64 z] (by simp [Program.fieldsOf, Try.underlying33]) (by kernel_rfl)
  simp only [Program.fieldsOf, Try.underlying33] at h
  simp only [binOp]
  simp only [Op.equal, Op.maxDepth, Sem.run_bind]
  rw [h]
  go_simp
theorem members_41 (w : World) : Calls Try.prog 15 #[.int .i64 4, .int .i64 1] w fun e w' => ∃ g cap, e = .returned (.tuple #[.slice (some ⟨g, 0, none⟩) 4 cap, .int .i64 0]) ∧ w.heap.size ≤ g ∧ g < w'.heap.size ∧
    Hid (∀ j, j < 4 → w'.cell? ⟨g, j, none⟩ = some (.int .i64 (([3, 0, 1, 2] : List Int).getD j 0))) ∧ Below w.heap.size w w' := by
  refine (members_y 4 1 w (by omega) (by omega) (by omega) (by omega)).mono ?_
  rintro e w' ⟨v, rfl, hown, hb⟩
  obtain ⟨g, cap, rfl, h0, h1, _, hc⟩ := own_open hown (by omega)
  exact ⟨g, cap, rfl, h0, h1, Lib.hid (fun j hj => (hc j hj).trans (by have : mem ((4 : Nat) : Int) (((4 : Nat) : Int) - 1 - 1 % ((4 : Nat) : Int)) 4 = [3, 0, 1, 2] := by decide
                                                                       rw [this])), hb⟩
set_option maxHeartbeats 1000000 in
theorem lives_any (w : World) : Calls Try.prog 14 #[] w fun e w' => e = .returned (.bool true) ∧ Below w.heap.size w w' := by
  have hq := eql_spot
  go_enter Try.func14, Try.ntmps14
  go_wp2_with fail
  refine (parity_y 4 4 _ (by omega) (by omega) (by omega) (by omega)).mono ?_
  rintro e w' ⟨rfl, rfl⟩
  go_wp2_with fail
  refine (map_y 4 4 _ (by omega) (by omega) (by omega) (by omega)).mono ?_
  rintro e w1 ⟨rfl, hb⟩
  go_wp2_with fail
  refine (members_41 _).mono ?_
  rintro e w2 ⟨g, cap, rfl, h0, h1, hc, hb2⟩
  go_wp2_with fail
  refine (need_y 10 2 _ (by omega) (by omega) (by omega) (by omega)).mono ?_
  rintro e w' ⟨rfl, rfl⟩
  have k0 : w2.cell? ⟨w1.heap.size, 0, none⟩ = some (.int .i64 1) := ((bcell hb2).1 _ 0 (by simp)).trans (by rw [World.cell?_alloc_at _ _ _ _ rfl]; rfl)
  have k1 : w2.cell? ⟨w1.heap.size, 1, none⟩ = some (.int .i64 0) := ((bcell hb2).1 _ 1 (by simp)).trans (by rw [World.cell?_alloc_at _ _ _ _ rfl]; rfl)
  have k2 : w2.cell? ⟨w1.heap.size, 2, none⟩ = some (.int .i64 1) := ((bcell hb2).1 _ 2 (by simp)).trans (by rw [World.cell?_alloc_at _ _ _ _ rfl]; rfl)
  go_wp2_with fail
  refine (same_y g w2.heap.size cap 4 4 [3, 0, 1, 2] _ (by omega) (fun j hj => ?_) (fun j hj => ?_)).mono ?_
  · rw [World.cell?_alloc_past _ _ _ h1]; exact hc.out j hj
  · rw [World.cell?_alloc_at _ _ _ _ rfl]
    obtain rfl | rfl | rfl | rfl : j = 0 ∨ j = 1 ∨ j = 2 ∨ j = 3 := by omega
    all_goals rfl
  rintro e w3 ⟨rfl, d, rfl⟩
  clear k0 k1 k2 hc hq
  go_wp2
  go_ret
  exact ⟨rfl, bdrewN ((((hb.alloc hb.size _).trans (hb2.mono (by have := hb.size; simp; omega))).alloc (by have := hb.size; have := hb2.size; simp at this; omega) _)) _⟩
end Go.Proofs.Ytagclifmbjaecaa.Own
