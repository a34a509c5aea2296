/- What Mean and Worst, the program's and the reference's, come to. -/
import Derived.Test.YtemeahbggidbkaaNm2
namespace Go.Proofs.Ytemeahbggidbkaa.Own
open Go.RowKit Go.Proofs.Ytemeahbggidbkaa.Fl
open Ieee (double)

/-- a slice of floats that is read -/
def RF (w : World) (a : Option Addr) (l : List Nat) : Prop := 0 < l.length → ∃ b off, a = some ⟨b, off, none⟩ ∧ ∀ j, j < l.length → w.cell? ⟨b, off + j, none⟩ = some (.float .f64 (l.getD j 0))
/-- words of 64 bits -/
def Wf (l : List Nat) : Prop := ∀ j, j < l.length → l.getD j 0 < 18446744073709551616
theorem RF.drewN {w : World} {a : Option Addr} {l : List Nat} (h : RF w a l) (n : Nat) : RF (w.drewN n) a l := fun h0 => by
  obtain ⟨b, off, e, hc⟩ := h h0
  exact ⟨b, off, e, fun j hj => by simpa using hc j hj⟩

/-! ### Mean -/
def sumO (l : List Nat) : Nat → Option Nat
  | 0 => some 0
  | k + 1 => (sumO l k).bind fun s => double.add s (l.getD k 0)
def meanO (l : List Nat) : Option Nat := (sumO l l.length).bind fun s => double.div s (ofI l.length)
theorem sum_some {l : List Nat} {k s r : Nat} (h : Is (sumO l k) s) (ha : double.add s (l.getD k 0) = some r) : Is (sumO l (k + 1)) r := by
  refine ⟨add_bound ha, ?_⟩
  rcases h.2 with e | ⟨e, n⟩
  · left; simp only [sumO, e]; exact ha
  · rw [add_nan n] at ha; cases ha
theorem sum_none {l : List Nat} {k s : Nat} {w : World} (h : Is (sumO l k) s) (ha : double.add s (l.getD k 0) = none) : Is (sumO l (k + 1)) (nanW s (l.getD k 0) w) := by
  refine ⟨(nanW_nan _ _ _).2, .inr ⟨?_, (nanW_nan _ _ _).1⟩⟩
  rcases h.2 with e | ⟨e, n⟩
  · simp only [sumO, e]; exact ha
  · simp only [sumO, e]; rfl
theorem mean_some {l : List Nat} {s r : Nat} (h : Is (sumO l l.length) s) (ha : double.div s (ofI l.length) = some r) : Is (meanO l) r := by
  refine ⟨div_bound ha, ?_⟩
  rcases h.2 with e | ⟨e, n⟩
  · left; simp only [meanO, e]; exact ha
  · rw [div_nan n] at ha; cases ha
theorem mean_none {l : List Nat} {s : Nat} {w : World} (h : Is (sumO l l.length) s) (ha : double.div s (ofI l.length) = none) : Is (meanO l) (nanW s (ofI l.length) w) := by
  refine ⟨(nanW_nan _ _ _).2, .inr ⟨?_, (nanW_nan _ _ _).1⟩⟩
  rcases h.2 with e | ⟨e, n⟩
  · simp only [meanO, e]; exact ha
  · simp only [meanO, e]; rfl

set_option maxHeartbeats 1000000 in
theorem mean_any (a : Option Addr) (cap n : Nat) (l : List Nat) (w : World) (hl : l.length = n) (hn : n ≤ 9223372036854775807) (hr : RF w a l) :
    Calls Try.prog 15 #[.slice a n cap] w fun e w' => ∃ r, e = .returned (.float .f64 r) ∧ Is (meanO l) r ∧ ∃ d, w' = w.drewN d := by
  have HR := Lib.hid hr
  have HL := Lib.hid hl
  clear hr hl
  have c1 := fun n w => run_convert_int_float (P := Try.prog) (w := w) 3 23 .i64 .f64 n (by kernel_rfl) Try.underlying23
  have e1 := ofI_eq n
  go_enter Try.func15, Try.ntmps15
  go_wp2
  go_loopw [3, 8] (fun s i wr => ∃ (k q : Nat), k ≤ n ∧ i = .int .i64 k ∧ s = .float .f64 q ∧ Hid (Is (sumO l k) q) ∧ ∃ d, wr = w.drewN d) (fun _ i _ => n - (intOf i).toNat)
  case atStart => exact ⟨0, 0, Nat.zero_le _, rfl, rfl, Lib.hid ⟨by decide, .inl rfl⟩, 0, rfl⟩
  case round =>
    obtain ⟨k, q, hk, rfl, rfl, HS, d, rfl⟩ := hrel
    by_cases hlt : k < n
    · obtain ⟨b, off, rfl, hc⟩ := HR.out (by rw [HL.out]; omega)
      have hck := hc k (by rw [HL.out]; exact hlt)
      clear hc
      have i0 : (k : Int) < (n : Int) := by omega
      cases h : double.add q (l.getD k 0) with
      | none =>
        have HS' := fun w => Lib.hid (sum_none (w := w) HS.out h)
        obtain ⟨x, hx⟩ : ∃ x, l.getD k 0 = x := ⟨_, rfl⟩
        rw [hx] at hck h HS'
        have H2 := Lib.hid HS'
        have hq := fun w => run_add_none h 23 w
        clear hx h HS'
        go_wp2
        go_roundw
        case rel => exact ⟨k + 1, _, by omega, by go_num, rfl, H2.out _, _, rfl⟩
        case measure => simp [intOf]; omega
      | some r =>
        have HS' := Lib.hid (sum_some HS.out h)
        obtain ⟨x, hx⟩ : ∃ x, l.getD k 0 = x := ⟨_, rfl⟩
        rw [hx] at hck h
        have hq := fun w => run_arith_some (op := .add) (x := q) (y := x) (r := r) h 23 w
        clear hx h
        go_wp2
        go_roundw
        case rel => exact ⟨k + 1, r, by omega, by go_num, rfl, HS', d, rfl⟩
        case measure => simp [intOf]; omega
    · have hkn : k = n := by omega
      subst hkn
      clear hk
      have HS2 : Is (sumO l l.length) q := by rw [HL.out]; exact HS.out
      cases h : double.div q (ofI (l.length : Int)) with
      | none =>
        have HM := fun w => Lib.hid (mean_none (w := w) HS2 h)
        rw [HL.out] at h HM
        have H2 := Lib.hid HM
        have hq := fun w => run_quo_none h 23 w
        clear h HS2 HM
        go_wp2
        go_ret
        exact ⟨_, rfl, (H2.out _).out, _, rfl⟩
      | some r =>
        have HM := Lib.hid (mean_some HS2 h)
        rw [HL.out] at h
        have hq := fun w => run_arith_some (op := .quo) (x := q) (y := ofI (k : Int)) (r := r) h 23 w
        clear h HS2
        go_wp2
        go_ret
        exact ⟨_, rfl, HM.out, _, rfl⟩
set_option maxHeartbeats 1000000 in
theorem rmean_any (a : Option Addr) (cap n : Nat) (l : List Nat) (w : World) (hl : l.length = n) (hn : n ≤ 9223372036854775807) (hr : RF w a l) :
    Calls Try.prog 16 #[.slice a n cap] w fun e w' => ∃ r, e = .returned (.float .f64 r) ∧ Is (meanO l) r ∧ ∃ d, w' = w.drewN d := by
  have HR := Lib.hid hr
  have HL := Lib.hid hl
  clear hr hl
  have c1 := fun n w => run_convert_int_float (P := Try.prog) (w := w) 3 23 .i64 .f64 n (by kernel_rfl) Try.underlying23
  have e1 := ofI_eq n
  go_enter Try.func16, Try.ntmps16
  go_wp2
  go_loopw [3, 4] (fun s i wr => ∃ (k q : Nat), k ≤ n ∧ i = .int .i64 k ∧ s = .float .f64 q ∧ Hid (Is (sumO l k) q) ∧ ∃ d, wr = w.drewN d) (fun _ i _ => n - (intOf i).toNat)
  case atStart => exact ⟨0, 0, Nat.zero_le _, rfl, rfl, Lib.hid ⟨by decide, .inl rfl⟩, 0, rfl⟩
  case round =>
    obtain ⟨k, q, hk, rfl, rfl, HS, d, rfl⟩ := hrel
    by_cases hlt : k < n
    · obtain ⟨b, off, rfl, hc⟩ := HR.out (by rw [HL.out]; omega)
      have hck := hc k (by rw [HL.out]; exact hlt)
      clear hc
      have i0 : (k : Int) < (n : Int) := by omega
      cases h : double.add q (l.getD k 0) with
      | none =>
        have HS' := fun w => Lib.hid (sum_none (w := w) HS.out h)
        obtain ⟨x, hx⟩ : ∃ x, l.getD k 0 = x := ⟨_, rfl⟩
        rw [hx] at hck h HS'
        have H2 := Lib.hid HS'
        have hq := fun w => run_add_none h 23 w
        clear hx h HS'
        go_wp2
        go_roundw
        case rel => exact ⟨k + 1, _, by omega, by go_num, rfl, H2.out _, _, rfl⟩
        case measure => simp [intOf]; omega
      | some r =>
        have HS' := Lib.hid (sum_some HS.out h)
        obtain ⟨x, hx⟩ : ∃ x, l.getD k 0 = x := ⟨_, rfl⟩
        rw [hx] at hck h
        have hq := fun w => run_arith_some (op := .add) (x := q) (y := x) (r := r) h 23 w
        clear hx h
        go_wp2
        go_roundw
        case rel => exact ⟨k + 1, r, by omega, by go_num, rfl, HS', d, rfl⟩
        case measure => simp [intOf]; omega
    · have hkn : k = n := by omega
      subst hkn
      clear hk
      have HS2 : Is (sumO l l.length) q := by rw [HL.out]; exact HS.out
      cases h : double.div q (ofI (l.length : Int)) with
      | none =>
        have HM := fun w => Lib.hid (mean_none (w := w) HS2 h)
        rw [HL.out] at h HM
        have H2 := Lib.hid HM
        have hq := fun w => run_quo_none h 23 w
        clear h HS2 HM
        go_wp2
        go_ret
        exact ⟨_, rfl, (H2.out _).out, _, rfl⟩
      | some r =>
        have HM := Lib.hid (mean_some HS2 h)
        rw [HL.out] at h
        have hq := fun w => run_arith_some (op := .quo) (x := q) (y := ofI (k : Int)) (r := r) h 23 w
        clear h HS2
        go_wp2
        go_ret
        exact ⟨_, rfl, HM.out, _, rfl⟩

/-! ### Worst -/
/-- the place of the greatest of the first k, the first one of those that are alike -/
def wsAt (l : List Nat) : Nat → Nat
  | 0 => 0
  | k + 1 => if key (l.getD (wsAt l k) 0) < key (l.getD k 0) then k else wsAt l k
theorem wsAt_lt (l : List Nat) (k : Nat) : wsAt l (k + 1) ≤ k := by
  induction k with
  | zero => simp [wsAt]
  | succ k ih => rw [wsAt]; split <;> omega
theorem ws_lt (l : List Nat) (n k : Nat) (hk : k ≤ n) (hn : 0 < n) : wsAt l k < n := by
  cases k with
  | zero => exact hn
  | succ k => have := wsAt_lt l k; omega

set_option maxHeartbeats 1000000 in
theorem worst_any (b off cap n : Nat) (l : List Nat) (w : World) (hl : l.length = n) (h0 : 0 < n) (hn : n ≤ 9223372036854775807) (hwf : Wf l)
    (hc : ∀ j, j < n → w.cell? ⟨b, off + j, none⟩ = some (.float .f64 (l.getD j 0))) :
    Calls Try.prog 22 #[.slice (some ⟨b, off, none⟩) n cap] w fun e w' => e = .returned (.tuple #[.int .i64 (wsAt l n), .bool true]) ∧ w = w' := by
  have HC := Lib.hid hc
  have HL := Lib.hid hl
  have HW := Lib.hid hwf
  clear hc hl hwf
  go_enter Try.func22, Try.ntmps22
  go_wp2
  go_loop [4, 9] (fun t i => ∃ (k at_ : Nat), k ≤ n ∧ i = .int .i64 k ∧ t = .int .i64 at_ ∧ at_ < n ∧ Hid (wsAt l k = at_)) (fun _ i => n - (intOf i).toNat)
  case atStart => exact ⟨0, 0, Nat.zero_le _, rfl, rfl, h0, Lib.hid rfl⟩
  case round =>
    obtain ⟨k, t, hk, rfl, rfl, ht, HT⟩ := hrel
    by_cases hlt : k < n
    · have ck := HC.out k hlt
      have ct := HC.out t ht
      have wk := HW.out k (by rw [HL.out]; exact hlt)
      have wt := HW.out t (by rw [HL.out]; exact ht)
      have hstep : wsAt l (k + 1) = if key (l.getD t 0) < key (l.getD k 0) then k else t := by rw [wsAt, HT.out]
      obtain ⟨x, hx⟩ : ∃ x, l.getD k 0 = x := ⟨_, rfl⟩
      obtain ⟨y, hy⟩ : ∃ y, l.getD t 0 = y := ⟨_, rfl⟩
      rw [hx] at ck wk hstep
      rw [hy] at ct wt hstep
      have hcmp := cmp_pos_iff x y
      have hcc := fun w => compare_any x y wk wt w
      obtain ⟨c, hcv⟩ : ∃ c, cmp x y = c := ⟨_, rfl⟩
      rw [hcv] at hcmp hcc
      have CC := Lib.hid hcc
      clear hx hy hcc hcv wk wt
      have i0 : (k : Int) < (n : Int) := by omega
      have i1 : (t : Int) < (n : Int) := by omega
      by_cases hpos : 0 < c
      · have HT' : Hid (wsAt l (k + 1) = k) := Lib.hid (by rw [hstep, if_pos (hcmp.1 hpos)])
        clear hcmp hstep HT
        go_wp2_with (go_at_call 20; refine (CC.out _).mono ?_; rintro e w' ⟨rfl, rfl⟩)
        go_round
        case rel => exact ⟨k + 1, k, by omega, by go_num, rfl, hlt, HT'⟩
        case measure => simp [intOf]; omega
      · have HT' : Hid (wsAt l (k + 1) = t) := Lib.hid (by rw [hstep, if_neg (fun h => hpos (hcmp.2 h))])
        clear hcmp hstep HT
        go_wp2_with (go_at_call 20; refine (CC.out _).mono ?_; rintro e w' ⟨rfl, rfl⟩)
        go_round
        case rel => exact ⟨k + 1, t, by omega, by go_num, rfl, ht, HT'⟩
        case measure => simp [intOf]; omega
    · have hkn : k = n := by omega
      subst hkn
      clear hk
      go_wp2
      go_ret2
      exact ⟨by rw [HT.out]; rfl, rfl⟩
set_option maxHeartbeats 400000 in
theorem worst_none (a : Option Addr) (cap : Nat) (w : World) : Calls Try.prog 22 #[.slice a 0 cap] w fun e w' => e = .returned (.tuple #[.int .i64 0, .bool false]) ∧ w = w' := by
  go_enter Try.func22, Try.ntmps22
  go_wp2
  refine wp_loop_rounds 1 ?_
  rw [rounds_succ]
  go_wp2
  go_ret2
  exact ⟨rfl, rfl⟩

theorem quiet_add_left {P : Program} {f : FuncId} {args : Array Value} {w : World} {a n : Nat} {v : Value}
    (h : Calls P f args (w.drewN (a + n)) fun e w' => e = .returned v ∧ w.drewN (a + n) = w') :
    Calls P f args (w.drewN (a + n)) fun e w'' => e = .returned v ∧ ∃ m, w'' = w.drewN (a + m) :=
  h.mono fun _ _ ⟨he, hm⟩ => ⟨he, n, hm.symm⟩
/-- the rate at i stands ahead of the one at j, or is it -/
def Good (l : List Nat) (i j : Nat) : Prop := key (l.getD j 0) < key (l.getD i 0) ∨ key (l.getD j 0) = key (l.getD i 0) ∧ i ≤ j
theorem ws_good (l : List Nat) (k : Nat) : ∀ j, j < k → Good l (wsAt l k) j := by
  induction k with
  | zero => intro j hj; omega
  | succ k ih =>
    intro j hj
    rw [wsAt]
    by_cases h : key (l.getD (wsAt l k) 0) < key (l.getD k 0)
    · rw [if_pos h]
      by_cases e : j = k
      · subst e; exact .inr ⟨rfl, Nat.le_refl _⟩
      · left
        rcases ih j (by omega) with h1 | ⟨h1, _⟩ <;> omega
    · rw [if_neg h]
      by_cases e : j = k
      · subst e
        have h2 : wsAt l j ≤ j := by
          cases j with
          | zero => exact Nat.le_refl _
          | succ j => have := wsAt_lt l j; omega
        by_cases h3 : key (l.getD j 0) = key (l.getD (wsAt l j) 0)
        · exact .inr ⟨h3, h2⟩
        · left; omega
      · exact ih j (by omega)
theorem good_uniq {l : List Nat} {n i t : Nat} (hi : i < n) (ht : t < n) (h1 : ∀ j, j < n → Good l i j) (h2 : ∀ j, j < n → Good l t j) : i = t := by
  rcases h1 t ht with a | ⟨a, b⟩ <;> rcases h2 i hi with c | ⟨c, d⟩ <;> omega

set_option maxHeartbeats 4000000 in
theorem rworst_any (b off cap n : Nat) (l : List Nat) (w : World) (hl : l.length = n) (h0 : 0 < n) (hn : n ≤ 9223372036854775807) (hwf : Wf l)
    (hc : ∀ j, j < n → w.cell? ⟨b, off + j, none⟩ = some (.float .f64 (l.getD j 0))) :
    Calls Try.prog 23 #[.slice (some ⟨b, off, none⟩) n cap] w fun e w' => e = .returned (.tuple #[.int .i64 (wsAt l n), .bool true]) ∧ ∃ d, w' = w.drewN d := by
  have HC := Lib.hid hc
  have HW : Hid (∀ j, j < n → l.getD j 0 < 18446744073709551616) := Lib.hid (fun j hj => hwf j (by rw [hl]; exact hj))
  have HT := Lib.hid (⟨ws_lt l n n (Nat.le_refl _) h0, ws_good l n⟩ : wsAt l n < n ∧ ∀ j, j < n → Good l (wsAt l n) j)
  clear hc hl hwf
  obtain ⟨T, hT⟩ : ∃ T, wsAt l n = T := ⟨_, rfl⟩
  rw [hT] at HT ⊢
  clear hT
  go_enter Try.func23, Try.ntmps23
  go_wp2
  go_loopw [4] (fun i wr => ∃ i_ : Nat, i_ ≤ n ∧ i = .int .i64 i_ ∧ Hid (∀ j, j < i_ → j ≠ T) ∧ ∃ d, wr = w.drewN d) (fun i _ => n - (intOf i).toNat)
  case atStart => exact ⟨0, Nat.zero_le _, rfl, Lib.hid (fun j hj => absurd hj (by omega)), 0, rfl⟩
  case round =>
    obtain ⟨i, hi, rfl, HN, d0, rfl⟩ := hrel
    by_cases hlt : i < n
    · have ci := HC.out i hlt
      have wi := HW.out i hlt
      have hgood : ∀ j, Good l i j ↔ key (l.getD j 0) < key (l.getD i 0) ∨ key (l.getD j 0) = key (l.getD i 0) ∧ i ≤ j := fun j => Iff.rfl
      obtain ⟨x, hx⟩ : ∃ x, l.getD i 0 = x := ⟨_, rfl⟩
      rw [hx] at ci wi hgood
      have HG := Lib.hid hgood
      have HWI := Lib.hid wi
      clear hx hgood wi
      go_wp2
      go_loopw [5, 6] (fun is k wr => ∃ (k_ : Nat) (q : Bool), k_ ≤ n ∧ k = .int .i64 k_ ∧ is = .bool q ∧ Hid (q = true ↔ ∀ j, j < k_ → Good l i j) ∧ ∃ d, wr = w.drewN d) (fun _ k _ => n - (intOf k).toNat)
      case atStart => exact ⟨0, true, Nat.zero_le _, rfl, rfl, Lib.hid ⟨fun _ j hj => absurd hj (by omega), fun _ => rfl⟩, _, rfl⟩
      case round =>
        obtain ⟨k, q, hk, rfl, rfl, HQ, d, rfl⟩ := hrel
        by_cases hkl : k < n
        · have ck := HC.out k hkl
          have wk := HW.out k hkl
          have hg := HG.out k
          obtain ⟨y, hy⟩ : ∃ y, l.getD k 0 = y := ⟨_, rfl⟩
          rw [hy] at ck wk hg
          have hcc := fun w => rcompare_any x y HWI.out wk w
          have i0 : (k : Int) < (n : Int) := by omega
          have i1 : (i : Int) < (n : Int) := by omega
          have hnext : ∀ p : Bool, (p = true ↔ Good l i k) → Hid ((q && p) = true ↔ ∀ j, j < k + 1 → Good l i j) := fun p hp => Lib.hid (by
            rw [Bool.and_eq_true, HQ.out, hp]
            constructor
            · rintro ⟨h1, h2⟩ j hj
              by_cases e : j = k
              · subst e; exact h2
              · exact h1 j (by omega)
            · intro h; exact ⟨fun j hj => h j (by omega), h k (by omega)⟩)
          rcases (show key x < key y ∨ (key y = key x ∧ k < i) ∨ (key y = key x ∧ i ≤ k) ∨ key y < key x by omega) with hlt' | ⟨heq, hki⟩ | ⟨heq, hki⟩ | hgt
          · have hv : cmp x y = -1 := by unfold cmp; rw [if_pos hlt']
            have HX := hnext false (by rw [hg]; simp; omega)
            rw [hv] at hcc
            have CC := Lib.hid hcc
            rw [Bool.and_false] at HX
            clear hy hg hcc hv wk hnext hlt' HQ
            go_wp2_with fail
            go_quiet ((go_at_call 21; exact quiet_add_left (CC.out _)))
            go_wp2
            go_roundw
            case rel => exact ⟨k + 1, false, by omega, by go_num, rfl, HX, _, rfl⟩
            case measure => simp [intOf]; omega
          · have hv : cmp x y = 0 := by unfold cmp; rw [if_neg (by omega), if_neg (by omega)]
            have HX := hnext false (by rw [hg]; simp; omega)
            rw [hv] at hcc
            have CC := Lib.hid hcc
            rw [Bool.and_false] at HX
            clear hy hg hcc hv wk hnext heq HQ
            go_wp2_with fail
            go_quiet ((go_at_call 21; exact quiet_add_left (CC.out _)))
            go_wp2
            go_roundw
            case rel => exact ⟨k + 1, false, by omega, by go_num, rfl, HX, _, rfl⟩
            case measure => simp [intOf]; omega
          · have hv : cmp x y = 0 := by unfold cmp; rw [if_neg (by omega), if_neg (by omega)]
            have HX := hnext true (by rw [hg]; simp; omega)
            rw [hv] at hcc
            have CC := Lib.hid hcc
            rw [Bool.and_true] at HX
            clear hy hg hcc hv wk hnext heq HQ
            go_wp2_with fail
            go_quiet ((go_at_call 21; exact quiet_add_left (CC.out _)))
            go_wp2
            go_roundw
            case rel => exact ⟨k + 1, q, by omega, by go_num, rfl, HX, _, rfl⟩
            case measure => simp [intOf]; omega
          · have hv : cmp x y = 1 := by unfold cmp; rw [if_neg (by omega), if_pos hgt]
            have HX := hnext true (by rw [hg]; simp; omega)
            rw [hv] at hcc
            have CC := Lib.hid hcc
            rw [Bool.and_true] at HX
            clear hy hg hcc hv wk hnext hgt HQ
            go_wp2_with fail
            go_quiet ((go_at_call 21; exact quiet_add_left (CC.out _)))
            go_wp2
            go_roundw
            case rel => exact ⟨k + 1, q, by omega, by go_num, rfl, HX, _, rfl⟩
            case measure => simp [intOf]; omega
        · have hkn : k = n := by omega
          subst hkn
          cases q with
          | true =>
            have hiT : Hid (i = T) := Lib.hid (good_uniq hlt HT.out.1 (HQ.out.1 rfl) HT.out.2)
            clear HQ hk
            go_wp2
            go_ret2
            exact ⟨by rw [hiT.out]; rfl, _, rfl⟩
          | false =>
            have hne : i ≠ T := fun e => by
              have := HQ.out.2 (fun j hj => by rw [e]; exact HT.out.2 j hj)
              cases this
            have HN' : Hid (∀ j, j < i + 1 → j ≠ T) := Lib.hid (fun j hj => by
              by_cases e : j = i
              · subst e; exact hne
              · exact HN.out j (by omega))
            clear HQ hk hne HN
            go_wp2
            go_roundw
            case rel => exact ⟨i + 1, by omega, by go_num, HN', _, rfl⟩
            case measure => simp [intOf]; omega
    · exfalso
      exact HN.out T (by have := HT.out.1; omega) rfl
set_option maxHeartbeats 400000 in
theorem rworst_none (a : Option Addr) (cap : Nat) (w : World) : Calls Try.prog 23 #[.slice a 0 cap] w fun e w' => e = .returned (.tuple #[.int .i64 0, .bool false]) ∧ w = w' := by
  go_enter Try.func23, Try.ntmps23
  go_wp2
  refine wp_loop_rounds 1 ?_
  rw [rounds_succ]
  go_wp2
  go_ret2
  exact ⟨rfl, rfl⟩
end Go.Proofs.Ytemeahbggidbkaa.Own
