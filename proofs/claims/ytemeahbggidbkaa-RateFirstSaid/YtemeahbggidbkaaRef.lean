/- What the reference's Ahead and Rank come to. -/
import Derived.Test.YtemeahbggidbkaaRnk
namespace Go.Proofs.Ytemeahbggidbkaa.Own
open Go.RowKit Go.Proofs.Ytemeahbggidbkaa.Fl
open Ieee (double)

set_option maxHeartbeats 400000 in
theorem rank_zero (a : Option Addr) (cap : Nat) (w : World) : Calls Try.prog 25 #[.slice a 0 cap] w fun e w' => e = .returned (.tuple #[.slice none 0 0, .int .i64 0]) ∧ w = w' := by
  go_enter Try.func25, Try.ntmps25
  go_wp2
  go_step3
  go_wp2
  go_step3
  go_wp2
  refine wp_loop_rounds 1 ?_
  rw [rounds_succ]
  go_wp2
  rw [Exit.noGoto_ret]
  go_ret2
  exact ⟨rfl, rfl⟩

theorem rworst_row (a : Option Addr) (cap : Nat) (l : List Nat) (w : World) (hr : RF w a l) (hwf : Wf l) (hle : l.length ≤ 9223372036854775807) :
    ∃ (t : Nat) (h : Bool), (h = true → 0 < l.length ∧ t = wsAt l l.length ∧ t < l.length) ∧ (h = false → l.length = 0) ∧
      Hid (∀ d, Calls Try.prog 23 #[.slice a l.length cap] (w.drewN d) fun e w' => e = .returned (.tuple #[.int .i64 (t : Int), .bool h]) ∧ ∃ d', w' = w.drewN d') := by
  by_cases h0 : l.length = 0
  · refine ⟨0, false, (fun h => by cases h), fun _ => h0, Lib.hid fun d => ?_⟩
    rw [h0]; exact (rworst_none a cap _).mono fun e w' ⟨he, hw⟩ => ⟨he, d, hw.symm⟩
  · obtain ⟨b, off, rfl, hc⟩ := hr (by omega)
    exact ⟨wsAt l l.length, true, fun _ => ⟨by omega, rfl, ws_lt l _ _ (Nat.le_refl _) (by omega)⟩, (fun h => by cases h),
      Lib.hid fun d => (rworst_any b off cap l.length l (w.drewN d) rfl (by omega) hle hwf (fun j hj => by simpa using hc j hj)).mono fun e w' ⟨he, d', hw⟩ => ⟨he, d + d', by rw [hw, World.drewN_drewN]⟩⟩

/-- does row i stand ahead of row j? -/
def ahd (R : Nat → Nat) (i j : Nat) : Bool := decide (R j < R i ∨ R i = R j ∧ i < j)

theorem Rws.drewN {w : World} {b off m : Nat} {A : Nat → Option Addr} {C : Nat → Nat} {L : Nat → List Nat} (h : Rws w b off m A C L) (d : Nat) : Rws (w.drewN d) b off m A C L :=
  h.below (bdrewN (Below.refl _ _) d)

set_option maxHeartbeats 4000000 in
theorem ahead_any (b off cap m i j : Nat) (A : Nat → Option Addr) (C : Nat → Nat) (L : Nat → List Nat) (w : World) (hi : i < m) (hj : j < m) (hR : Rws w b off m A C L) :
    Calls Try.prog 31 #[.slice (some ⟨b, off, none⟩) m cap, .int .i64 (i : Int), .int .i64 (j : Int)] w fun e w' => e = .returned (.bool (ahd (fun j => rk (L j)) i j)) ∧ ∃ d, w' = w.drewN d := by
  have ci := hR.cell i hi
  have cj := hR.cell j hj
  obtain ⟨ti, hi1, p1, p2, TI⟩ := rworst_row (A i) (C i) (L i) w (hR.row i hi) (hR.wf i hi) (hR.le i hi)
  obtain ⟨tj, hj1, q1, q2, TJ⟩ := rworst_row (A j) (C j) (L j) w (hR.row j hj) (hR.wf j hj) (hR.le j hj)
  have i0 : (i : Int) < (m : Int) := by omega
  have j0 : (j : Int) < (m : Int) := by omega
  obtain ⟨Ri, hRi⟩ : ∃ x, rk (L i) = x := ⟨_, rfl⟩
  obtain ⟨Rj, hRj⟩ : ∃ x, rk (L j) = x := ⟨_, rfl⟩
  have hres : Hid (ahd (fun j => rk (L j)) i j = decide (Rj < Ri ∨ Ri = Rj ∧ i < j)) := Lib.hid (by
    show decide (rk (L j) < rk (L i) ∨ rk (L i) = rk (L j) ∧ i < j) = _
    rw [hRi, hRj])
  have HR := Lib.hid hR
  clear hR
  obtain ⟨ni, hni⟩ : ∃ x, (L i).length = x := ⟨_, rfl⟩
  obtain ⟨nj, hnj⟩ : ∃ x, (L j).length = x := ⟨_, rfl⟩
  cases hi1 with
  | false =>
    have r1 : Ri = 0 := by rw [← hRi, rk_none (p2 rfl)]
    cases hj1 with
    | false =>
      have r2 : Rj = 0 := by rw [← hRj, rk_none (q2 rfl)]
      have H : Hid (ahd (fun j => rk (L j)) i j = decide (i < j)) := Lib.hid (by rw [hres.out, r1, r2]; simp)
      rw [hni] at ci TI
      rw [hnj] at cj TJ
      obtain ⟨Ai, hAi⟩ : ∃ x, A i = x := ⟨_, rfl⟩
      obtain ⟨Ci, hCi⟩ : ∃ x, C i = x := ⟨_, rfl⟩
      obtain ⟨Aj, hAj⟩ : ∃ x, A j = x := ⟨_, rfl⟩
      obtain ⟨Cj, hCj⟩ : ∃ x, C j = x := ⟨_, rfl⟩
      rw [hAi, hCi] at ci TI
      rw [hAj, hCj] at cj TJ
      clear p1 p2 q1 q2 r1 r2 hRi hRj hni hnj hAi hCi hAj hCj
      go_enter Try.func31, Try.ntmps31
      go_wp2_with fail
      refine (TI.out 0).mono ?_
      rintro e w1 ⟨rfl, d1, rfl⟩
      go_wp2_with fail
      refine (TJ.out d1).mono ?_
      rintro e w2 ⟨rfl, d2, rfl⟩
      go_wp2
      go_ret
      exact ⟨by rw [H.out]; first | (simp; done) | (simp; omega), _, rfl⟩
    | true =>
      have r2 : 0 < Rj := by rw [← hRj, rk_some (q1 rfl).1 (q1 rfl).2.1]; omega
      have H : Hid (ahd (fun j => rk (L j)) i j = false) := Lib.hid (by rw [hres.out, r1]; simp; omega)
      rw [hni] at ci TI
      rw [hnj] at cj TJ
      obtain ⟨Ai, hAi⟩ : ∃ x, A i = x := ⟨_, rfl⟩
      obtain ⟨Ci, hCi⟩ : ∃ x, C i = x := ⟨_, rfl⟩
      obtain ⟨Aj, hAj⟩ : ∃ x, A j = x := ⟨_, rfl⟩
      obtain ⟨Cj, hCj⟩ : ∃ x, C j = x := ⟨_, rfl⟩
      rw [hAi, hCi] at ci TI
      rw [hAj, hCj] at cj TJ
      clear p1 p2 q1 q2 r1 r2 hRi hRj hni hnj hAi hCi hAj hCj
      go_enter Try.func31, Try.ntmps31
      go_wp2_with fail
      refine (TI.out 0).mono ?_
      rintro e w1 ⟨rfl, d1, rfl⟩
      go_wp2_with fail
      refine (TJ.out d1).mono ?_
      rintro e w2 ⟨rfl, d2, rfl⟩
      go_wp2
      go_ret
      exact ⟨by rw [H.out]; first | (simp; done) | (simp; omega), _, rfl⟩
  | true =>
    cases hj1 with
    | false =>
      have r1 : 0 < Ri := by rw [← hRi, rk_some (p1 rfl).1 (p1 rfl).2.1]; omega
      have r2 : Rj = 0 := by rw [← hRj, rk_none (q2 rfl)]
      have H : Hid (ahd (fun j => rk (L j)) i j = true) := Lib.hid (by rw [hres.out, r2]; simp; omega)
      rw [hni] at ci TI
      rw [hnj] at cj TJ
      obtain ⟨Ai, hAi⟩ : ∃ x, A i = x := ⟨_, rfl⟩
      obtain ⟨Ci, hCi⟩ : ∃ x, C i = x := ⟨_, rfl⟩
      obtain ⟨Aj, hAj⟩ : ∃ x, A j = x := ⟨_, rfl⟩
      obtain ⟨Cj, hCj⟩ : ∃ x, C j = x := ⟨_, rfl⟩
      rw [hAi, hCi] at ci TI
      rw [hAj, hCj] at cj TJ
      clear p1 p2 q1 q2 r1 r2 hRi hRj hni hnj hAi hCi hAj hCj
      go_enter Try.func31, Try.ntmps31
      go_wp2_with fail
      refine (TI.out 0).mono ?_
      rintro e w1 ⟨rfl, d1, rfl⟩
      go_wp2_with fail
      refine (TJ.out d1).mono ?_
      rintro e w2 ⟨rfl, d2, rfl⟩
      go_wp2
      go_ret
      exact ⟨by rw [H.out]; first | (simp; done) | (simp; omega), _, rfl⟩
    | true =>
      obtain ⟨u1, u2, u3⟩ := p1 rfl
      obtain ⟨v1, v2, v3⟩ := q1 rfl
      obtain ⟨xi, hxi⟩ : ∃ x, (L i).getD ti 0 = x := ⟨_, rfl⟩
      obtain ⟨xj, hxj⟩ : ∃ x, (L j).getD tj 0 = x := ⟨_, rfl⟩
      have wxi : xi < 18446744073709551616 := by rw [← hxi]; exact HR.out.wf i hi ti u3
      have wxj : xj < 18446744073709551616 := by rw [← hxj]; exact HR.out.wf j hj tj v3
      obtain ⟨bi, oi, ei, hci⟩ := HR.out.row i hi u1
      obtain ⟨bj, oj, ej, hcj⟩ := HR.out.row j hj v1
      have xci := hci ti u3
      have xcj := hcj tj v3
      rw [hxi] at xci
      rw [hxj] at xcj
      have r1 : Ri = key xi + 1 := by rw [← hRi, rk_some u1 u2, hxi]
      have r2 : Rj = key xj + 1 := by rw [← hRj, rk_some v1 v2, hxj]
      rw [hni] at ci TI u3
      rw [hnj] at cj TJ v3
      obtain ⟨Ci, hCi⟩ : ∃ x, C i = x := ⟨_, rfl⟩
      obtain ⟨Cj, hCj⟩ : ∃ x, C j = x := ⟨_, rfl⟩
      rw [ei, hCi] at ci TI
      rw [ej, hCj] at cj TJ
      have ti0 : (ti : Int) < (ni : Int) := by omega
      have tj0 : (tj : Int) < (nj : Int) := by omega
      have hcc := fun w => rcompare_any xi xj wxi wxj w
      rcases (show key xj < key xi ∨ (key xi = key xj ∧ i < j) ∨ (key xi = key xj ∧ j ≤ i) ∨ key xi < key xj by omega) with h | ⟨h, hij⟩ | ⟨h, hij⟩ | h
      · have H : Hid (ahd (fun j => rk (L j)) i j = true) := Lib.hid (by rw [hres.out, r1, r2]; simp; omega)
        have hv : cmp xi xj = 1 := by unfold cmp; rw [if_neg (by omega), if_pos h]
        rw [hv] at hcc
        have CC := Lib.hid hcc
        clear p1 p2 q1 q2 r1 r2 hRi hRj hni hnj hCi hCj hxi hxj hci hcj ei ej u1 u2 v1 v2 wxi wxj h hv hcc
        go_enter Try.func31, Try.ntmps31
        go_wp2_with fail
        refine (TI.out 0).mono ?_
        rintro e w1 ⟨rfl, d1, rfl⟩
        go_wp2_with fail
        refine (TJ.out d1).mono ?_
        rintro e w2 ⟨rfl, d2, rfl⟩
        go_wp2_with fail
        go_quiet ((go_at_call 21; exact quiet_add_left (CC.out _)))
        go_wp2
        go_ret
        exact ⟨by rw [H.out]; first | (simp; done) | (simp; omega), _, rfl⟩
      · have H : Hid (ahd (fun j => rk (L j)) i j = true) := Lib.hid (by rw [hres.out, r1, r2]; simp; omega)
        have hv : cmp xi xj = 0 := by unfold cmp; rw [if_neg (by omega), if_neg (by omega)]
        rw [hv] at hcc
        have CC := Lib.hid hcc
        clear p1 p2 q1 q2 r1 r2 hRi hRj hni hnj hCi hCj hxi hxj hci hcj ei ej u1 u2 v1 v2 wxi wxj h hv hcc
        go_enter Try.func31, Try.ntmps31
        go_wp2_with fail
        refine (TI.out 0).mono ?_
        rintro e w1 ⟨rfl, d1, rfl⟩
        go_wp2_with fail
        refine (TJ.out d1).mono ?_
        rintro e w2 ⟨rfl, d2, rfl⟩
        go_wp2_with fail
        go_quiet ((go_at_call 21; exact quiet_add_left (CC.out _)))
        go_wp2
        go_ret
        exact ⟨by rw [H.out]; first | (simp; done) | (simp; omega), _, rfl⟩
      · have H : Hid (ahd (fun j => rk (L j)) i j = false) := Lib.hid (by rw [hres.out, r1, r2]; simp; omega)
        have hv : cmp xi xj = 0 := by unfold cmp; rw [if_neg (by omega), if_neg (by omega)]
        rw [hv] at hcc
        have CC := Lib.hid hcc
        clear p1 p2 q1 q2 r1 r2 hRi hRj hni hnj hCi hCj hxi hxj hci hcj ei ej u1 u2 v1 v2 wxi wxj h hv hcc
        go_enter Try.func31, Try.ntmps31
        go_wp2_with fail
        refine (TI.out 0).mono ?_
        rintro e w1 ⟨rfl, d1, rfl⟩
        go_wp2_with fail
        refine (TJ.out d1).mono ?_
        rintro e w2 ⟨rfl, d2, rfl⟩
        go_wp2_with fail
        go_quiet ((go_at_call 21; exact quiet_add_left (CC.out _)))
        go_wp2
        go_ret
        exact ⟨by rw [H.out]; first | (simp; done) | (simp; omega), _, rfl⟩
      · have H : Hid (ahd (fun j => rk (L j)) i j = false) := Lib.hid (by rw [hres.out, r1, r2]; simp; omega)
        have hv : cmp xi xj = -1 := by unfold cmp; rw [if_pos h]
        rw [hv] at hcc
        have CC := Lib.hid hcc
        clear p1 p2 q1 q2 r1 r2 hRi hRj hni hnj hCi hCj hxi hxj hci hcj ei ej u1 u2 v1 v2 wxi wxj h hv hcc
        go_enter Try.func31, Try.ntmps31
        go_wp2_with fail
        refine (TI.out 0).mono ?_
        rintro e w1 ⟨rfl, d1, rfl⟩
        go_wp2_with fail
        refine (TJ.out d1).mono ?_
        rintro e w2 ⟨rfl, d2, rfl⟩
        go_wp2_with fail
        go_quiet ((go_at_call 21; exact quiet_add_left (CC.out _)))
        go_wp2
        go_ret
        exact ⟨by rw [H.out]; first | (simp; done) | (simp; omega), _, rfl⟩

/-! ### the reference's Rank -/
/-- how many of the first k stand ahead of i -/
def cnt (R : Nat → Nat) (k i : Nat) : Nat := ((List.range k).filter fun x => ahd R x i).length
theorem cnt_succ (R : Nat → Nat) (k i : Nat) : cnt R (k + 1) i = cnt R k i + (if ahd R k i = true then 1 else 0) := by
  unfold cnt
  rw [List.range_succ, List.filter_append, List.length_append]
  cases h : ahd R k i <;> simp [h]
theorem cnt_le (R : Nat → Nat) (k i : Nat) : cnt R k i ≤ k := by
  unfold cnt
  have := List.length_filter_le (fun x => ahd R x i) (List.range k)
  simpa using this
/-- those of the first i ahead of which 'at' stand -/
def rowL (R : Nat → Nat) (m at_ i : Nat) : List Nat := (List.range i).filter fun x => cnt R m x == at_
theorem rowL_succ (R : Nat → Nat) (m at_ i : Nat) : rowL R m at_ (i + 1) = rowL R m at_ i ++ (if cnt R m i = at_ then [i] else []) := by
  unfold rowL
  rw [List.range_succ, List.filter_append]
  by_cases h : cnt R m i = at_ <;> simp [h]
theorem rowL_len (R : Nat → Nat) (m at_ i : Nat) : (rowL R m at_ i).length ≤ i := by
  unfold rowL
  have := List.length_filter_le (fun x => cnt R m x == at_) (List.range i)
  simpa using this
def outL (R : Nat → Nat) (m : Nat) : Nat → List Nat
  | 0 => []
  | a + 1 => outL R m a ++ rowL R m a m
theorem outL_len (R : Nat → Nat) (m a : Nat) : (outL R m a).length ≤ a * m := by
  induction a with
  | zero => simp [outL]
  | succ a ih =>
    have := rowL_len R m a m
    rw [outL, List.length_append, Nat.add_mul]; omega

set_option maxHeartbeats 400000 in
theorem rrank_many (a : Option Addr) (m cap : Nat) (w : World) (hm : 17 < m) : Calls Try.prog 26 #[.slice a m cap] w fun e w' => e = .returned (.tuple #[.slice none 0 0, .int .i64 1]) ∧ w = w' := by
  go_enter Try.func26, Try.ntmps26
  go_wp2
  go_ret2
  exact ⟨rfl, rfl⟩
set_option maxHeartbeats 400000 in
theorem rrank_zero (a : Option Addr) (cap : Nat) (w : World) : Calls Try.prog 26 #[.slice a 0 cap] w fun e w' => e = .returned (.tuple #[.slice none 0 0, .int .i64 0]) ∧ w = w' := by
  go_enter Try.func26, Try.ntmps26
  go_wp2
  refine wp_loop_rounds 1 ?_
  rw [rounds_succ]
  go_wp2
  go_ret2
  exact ⟨rfl, rfl⟩

set_option maxHeartbeats 4000000 in
theorem rrank_any (b off cap m : Nat) (A : Nat → Option Addr) (C : Nat → Nat) (L : Nat → List Nat) (w : World) (hm : m ≤ 17) (hR : Rws w b off m A C L) :
    Calls Try.prog 26 #[.slice (some ⟨b, off, none⟩) m cap] w fun e w' => ∃ v, e = .returned (.tuple #[v, .int .i64 0]) ∧
      w'.ownsRow w.heap.size 3 1 v (outL (fun j => rk (L j)) m m).length (nv (outL (fun j => rk (L j)) m m)) ∧ Below w.heap.size w w' := by
  obtain ⟨R, hRR⟩ : ∃ R : Nat → Nat, (fun j => rk (L j)) = R := ⟨_, rfl⟩
  have HA : Hid (∀ (i j : Nat) (W : World), i < m → j < m → Below w.heap.size w W → Calls Try.prog 31 #[.slice (some ⟨b, off, none⟩) m cap, .int .i64 (i : Int), .int .i64 (j : Int)] W fun e w' => e = .returned (.bool (ahd R i j)) ∧ ∃ d, w' = W.drewN d) :=
    Lib.hid (fun i j W hi hj hW => by rw [← hRR]; exact ahead_any b off cap m i j A C L W hi hj (hR.below hW))
  rw [hRR]
  clear hRR hR
  obtain ⟨i0, hi, hz0, hz1, hz2⟩ := info_parts tinfo3
  have hmm : m * m ≤ 17 * 17 := Nat.mul_le_mul hm hm
  have HMM := Lib.hid hmm
  clear hmm
  go_enter Try.func26, Try.ntmps26
  go_wp2
  go_loopw [4, 5] (fun s4 s5 wx => ∃ (a n c4 : Nat) (a4 : Option Addr), a ≤ m ∧ s5 = .int .i64 a ∧ s4 = .slice a4 n c4 ∧ Hid (n = (outL R m a).length ∧ wx.ownsRow w.heap.size 3 1 (.slice a4 n c4) n (nv (outL R m a))) ∧ Below w.heap.size w wx) (fun _ s5 _ => m - (intOf s5).toNat)
  case atStart => exact ⟨0, 0, 0, none, Nat.zero_le _, rfl, rfl, Lib.hid ⟨rfl, World.ownsRow_nil _ _ _ _⟩, Below.refl _ _⟩
  case round =>
    obtain ⟨a, n, c4, a4, ha, rfl, rfl, HO, hb⟩ := hrel
    by_cases hlt : a < m
    · obtain ⟨wo, hwo⟩ : ∃ wo : World, wo = wr := ⟨_, rfl⟩
      go_wp2
      go_loopw [4, 6] (fun s4 s6 wx => ∃ (i n c4 : Nat) (a4 : Option Addr), i ≤ m ∧ s6 = .int .i64 i ∧ s4 = .slice a4 n c4 ∧ Hid (n = (outL R m a ++ rowL R m a i).length ∧ wx.ownsRow w.heap.size 3 1 (.slice a4 n c4) n (nv (outL R m a ++ rowL R m a i))) ∧ Below w.heap.size w wx) (fun _ s6 _ => m - (intOf s6).toNat)
      case atStart => exact ⟨0, n, c4, a4, Nat.zero_le _, rfl, rfl, Lib.hid (by simpa [rowL] using HO.out), hb⟩
      case round =>
        clear hwo HO hb
        obtain ⟨i, n1, c5, a5, hi1, rfl, rfl, HO, hb⟩ := hrel
        by_cases hil : i < m
        · obtain ⟨wo2, hwo2⟩ : ∃ wo2 : World, wo2 = wr := ⟨_, rfl⟩
          go_wp2
          go_loopw [7, 8] (fun s7 s8 wx => ∃ (k q : Nat), k ≤ m ∧ s8 = .int .i64 k ∧ s7 = .int .i64 q ∧ Hid (q = cnt R k i) ∧ q ≤ k ∧ Hid (n1 = (outL R m a ++ rowL R m a i).length ∧ wx.ownsRow w.heap.size 3 1 (.slice a5 n1 c5) n1 (nv (outL R m a ++ rowL R m a i))) ∧ Below w.heap.size w wx) (fun _ s8 _ => m - (intOf s8).toNat)
          case atStart => exact ⟨0, 0, Nat.zero_le _, rfl, rfl, Lib.hid rfl, Nat.le_refl _, HO, hb⟩
          case round =>
            clear hwo2 HO hb
            obtain ⟨k, q, hk, rfl, rfl, HQ, hqk, HO, hb⟩ := hrel
            by_cases hkl : k < m
            · have hc := HA.out k i wr hkl hil hb
              have hs := cnt_succ R k i
              cases hah : ahd R k i with
              | true =>
                rw [hah] at hc
                have HQ' : Hid (q + 1 = cnt R (k + 1) i) := Lib.hid (by rw [hs, hah, HQ.out]; rfl)
                have HC := Lib.hid hc
                clear hs hah hc HQ
                go_wp2_with (go_at_call 31; refine HC.out.mono ?_; rintro e w1 ⟨rfl, d, rfl⟩)
                go_roundw
                case rel => exact ⟨k + 1, q + 1, by omega, by go_num, by go_num, HQ', by omega, Lib.hid ⟨HO.out.1, own_drewN HO.out.2 _⟩, bdrewN hb _⟩
                case measure => simp [intOf]; omega
              | false =>
                rw [hah] at hc
                have HQ' : Hid (q = cnt R (k + 1) i) := Lib.hid (by rw [hs, hah, HQ.out]; rfl)
                have HC := Lib.hid hc
                clear hs hah hc HQ
                go_wp2_with (go_at_call 31; refine HC.out.mono ?_; rintro e w1 ⟨rfl, d, rfl⟩)
                go_roundw
                case rel => exact ⟨k + 1, q, by omega, by go_num, rfl, HQ', by omega, Lib.hid ⟨HO.out.1, own_drewN HO.out.2 _⟩, bdrewN hb _⟩
                case measure => simp [intOf]; omega
            · have hkm : k = m := by omega
              have hsr := rowL_succ R m a i
              by_cases hqa : q = a
              · have hqa' : ((q : Int) == (a : Int)) = true := by simp; omega
                have hcn : cnt R m i = a := by rw [← hqa, HQ.out, hkm]
                rw [if_pos hcn] at hsr
                have hown := HO.out.2
                have hnl : n1 ≤ 600 := by
                  have h1 := outL_len R m a
                  have h2 := rowL_len R m a i
                  have h3 := HO.out.1
                  have h4 : a * m ≤ m * m := Nat.mul_le_mul ha (Nat.le_refl _)
                  have h5 := HMM.out
                  rw [List.length_append] at h3
                  omega
                have HSR := Lib.hid hsr
                clear hsr hcn hqa HQ
                go_wp2_with (at_builtin; refine wpList_append_own _ rfl _ _ 39 rfl w.heap.size 3 i0 (.int .i64 0) 1 8 Try.underlying39 hi hz0 hz1 hz2 rfl (by decide) _ _ _ rfl (hown.alloc _) ⟨wr.heap.size, 0, none⟩ 1 1 [.int .i64 (i : Int)] rfl rfl ?c1 ?c2 ?c3 ?c4 ?c5 ?_)
                case c1 => exact row1 _ _
                case c2 => simp [Value.oneCell']
                case c3 => unfold maxLen; omega
                case c4 => omega
                case c5 => have := hb.size; simp; omega
                intro v' w1 hown' hgrow _
                obtain ⟨g1, g2⟩ := rel_more hb.size hown hb hown' hgrow
                obtain ⟨a6, c6, rfl⟩ := own_slice g1
                have G1 : Hid (n1 + 1 = (outL R m a ++ rowL R m a (i + 1)).length ∧ w1.ownsRow w.heap.size 3 1 (.slice a6 (n1 + 1) c6) (n1 + 1) (nv (outL R m a ++ rowL R m a (i + 1)))) := Lib.hid (by
                  rw [HSR.out, ← List.append_assoc]
                  refine ⟨?_, g1⟩
                  rw [List.length_append, ← HO.out.1]; rfl)
                clear hown' hgrow hown hb HO g1
                go_wp2
                go_roundw
                case rel => exact ⟨i + 1, n1 + 1, c6, a6, by omega, by go_num, rfl, G1, g2⟩
                case measure => simp [intOf]; omega
              · have hqa' : ((q : Int) == (a : Int)) = false := by simp; omega
                have hcn : cnt R m i ≠ a := by rw [← hkm, ← HQ.out]; exact hqa
                rw [if_neg hcn, List.append_nil] at hsr
                have HSR := Lib.hid hsr
                clear hsr hcn hqa HQ
                go_wp2
                go_roundw
                case rel => exact ⟨i + 1, n1, c5, a5, by omega, by go_num, rfl, Lib.hid (by rw [HSR.out]; exact HO.out), hb⟩
                case measure => simp [intOf]; omega
        · have him : i = m := by omega
          go_wp2
          go_roundw
          case rel => exact ⟨a + 1, n1, c5, a5, by omega, by go_num, rfl, Lib.hid (by rw [outL, ← him]; rw [← him] at HO; exact HO.out), hb⟩
          case measure => simp [intOf]; omega
    · have ham : a = m := by omega
      subst ham
      go_wp2
      go_ret2
      exact ⟨_, rfl, by rw [← HO.out.1]; exact HO.out.2, hb⟩
end Go.Proofs.Ytemeahbggidbkaa.Own
