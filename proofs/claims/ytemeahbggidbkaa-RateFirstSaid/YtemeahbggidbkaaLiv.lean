/- What must come of every program: lives. -/
import Derived.Test.YtemeahbggidbkaaRef
namespace Go.Proofs.Ytemeahbggidbkaa.Own
open Go.RowKit Go.Proofs.Ytemeahbggidbkaa.Fl
open Ieee (double)

theorem Is.some {o : Option Nat} {r k : Nat} (h : Is o r) (e : o = Option.some k) : r = k := by
  rcases h.2 with a | ⟨a, _⟩
  · rw [e] at a; cases a; rfl
  · rw [e] at a; cases a
theorem Is.none {o : Option Nat} {r : Nat} (h : Is o r) (e : o = Option.none) : isNaN r = true := by
  rcases h.2 with a | ⟨_, a⟩
  · rw [e] at a; cases a
  · exact a
theorem lv_part0 (w : World) : Calls Try.prog 12 #[.int .i64 0, .int .i64 0] w fun e w' => ∃ r d, e = .returned (.float .f64 r) ∧ Hid (isNaN r = true ∧ r < 18446744073709551616) ∧ w' = w.drewN d := by
  refine (part_any 0 0 w).mono ?_
  rintro e w' ⟨r, he, h, d, hd⟩
  exact ⟨r, d, he, Lib.hid ⟨h.none (by decide +kernel), h.1⟩, hd⟩
theorem lv_part1 (w : World) : Calls Try.prog 12 #[.int .i64 1, .int .i64 2] w fun e w' => ∃ d, e = .returned (.float .f64 4602678819172646912) ∧ w' = w.drewN d := by
  refine (part_any 1 2 w).mono ?_
  rintro e w' ⟨r, he, h, d, hd⟩
  obtain rfl := h.some (show _ = some 4602678819172646912 by decide +kernel)
  exact ⟨d, he, hd⟩
theorem lv_mean (b : Nat) (w : World) (h0 : w.cell? ⟨b, 0, none⟩ = some (.float .f64 4607182418800017408)) (h1 : w.cell? ⟨b, 1, none⟩ = some (.float .f64 4611686018427387904)) :
    Calls Try.prog 15 #[.slice (some ⟨b, 0, none⟩) 2 2] w fun e w' => ∃ d, e = .returned (.float .f64 4609434218613702656) ∧ w' = w.drewN d := by
  refine (mean_any _ 2 2 [4607182418800017408, 4611686018427387904] w rfl (by omega) (fun _ => ⟨b, 0, rfl, fun j hj => ?_⟩)).mono ?_
  · have : j = 0 ∨ j = 1 := by simp at hj; omega
    rcases this with rfl | rfl
    · exact h0
    · exact h1
  rintro e w' ⟨r, he, h, d, hd⟩
  obtain rfl := h.some (show _ = some 4609434218613702656 by decide +kernel)
  exact ⟨d, he, hd⟩
theorem lv_smooth (r : Nat) (hr : Hid (isNaN r = true ∧ r < 18446744073709551616)) (w : World) : Calls Try.prog 17 #[.float .f64 r, .float .f64 4613937818241073152, .float .f64 4602678819172646912] w fun e w' => ∃ d, e = .returned (.float .f64 4613937818241073152) ∧ w' = w.drewN d := by
  refine (smooth_any r 4613937818241073152 4602678819172646912 hr.out.2 (by omega) w).mono ?_
  rintro e w' ⟨x, he, h, d, hd⟩
  obtain rfl := h.some (k := 4613937818241073152) (by
    have e1 : isNaN 4613937818241073152 = false := by decide +kernel
    unfold smO
    rw [e1, hr.out.1]; simp)
  exact ⟨d, he, hd⟩
theorem lv_compare (w : World) : Calls Try.prog 20 #[.float .f64 4607182418800017408, .float .f64 4611686018427387904] w fun e w' => e = .returned (.int .i64 (-1)) ∧ w = w' := by
  have h := compare_any 4607182418800017408 4611686018427387904 (by omega) (by omega) w
  rw [show cmp 4607182418800017408 4611686018427387904 = -1 by decide +kernel] at h
  exact h
theorem lv_steps (w : World) : Calls Try.prog 24 #[.float .f64 4613712638259704627, .int .i64 7] w fun e w' => e = .returned (.int .i64 2) ∧ w = w' := by
  have h := steps_any 4613712638259704627 (by omega) 7 (by omega) w
  rw [show stV 4613712638259704627 7 = 2 by decide +kernel] at h
  exact h
theorem lv_worst (b : Nat) (w : World) (h0 : w.cell? ⟨b, 0, none⟩ = some (.float .f64 4607182418800017408)) (h1 : w.cell? ⟨b, 1, none⟩ = some (.float .f64 4613937818241073152)) (h2 : w.cell? ⟨b, 2, none⟩ = some (.float .f64 4613937818241073152)) :
    Calls Try.prog 22 #[.slice (some ⟨b, 0, none⟩) 3 3] w fun e w' => e = .returned (.tuple #[.int .i64 1, .bool true]) ∧ w = w' := by
  have h := worst_any b 0 3 3 [4607182418800017408, 4613937818241073152, 4613937818241073152] w rfl (by omega) (by omega)
    (fun j hj => by
      have : j = 0 ∨ j = 1 ∨ j = 2 := by simp at hj; omega
      rcases this with rfl | rfl | rfl <;> decide)
    (fun j hj => by
      have : j = 0 ∨ j = 1 ∨ j = 2 := by omega
      rcases this with rfl | rfl | rfl
      · exact h0
      · exact h1
      · exact h2)
  rw [show wsAt [4607182418800017408, 4613937818241073152, 4613937818241073152] 3 = 1 by decide +kernel] at h
  exact h
theorem key_nan {r : Nat} (h : isNaN r = true) : key r = 18446744073709551615 := by
  unfold key; rw [h]; rfl
theorem key_one : key 4607182418800017408 = 13830554455654793216 := by decide +kernel
theorem lv_ord (r : Nat) (h : isNaN r = true) : ord (fun j => rk ((fun j => if j = 0 then [4607182418800017408] else if j = 1 then [] else [r]) j)) 3 = [2, 0, 1] := by
  have r0 : rk [4607182418800017408] = 13830554455654793217 := by
    unfold rk; rw [if_neg (by simp)]
    have : wsAt [4607182418800017408] (0 + 1) = 0 := by have := wsAt_lt [4607182418800017408] 0; omega
    show key ([4607182418800017408].getD (wsAt [4607182418800017408] (0 + 1)) 0) + 1 = _
    rw [this]; show key 4607182418800017408 + 1 = _; rw [key_one]
  have r2 : rk [r] = 18446744073709551616 := by
    unfold rk; rw [if_neg (by simp)]
    have : wsAt [r] (0 + 1) = 0 := by have := wsAt_lt [r] 0; omega
    show key ([r].getD (wsAt [r] (0 + 1)) 0) + 1 = _
    rw [this]; show key r + 1 = _; rw [key_nan h]
  have r1 : rk [] = 0 := rfl
  simp [ord, ins, r0, r1, r2]
theorem lv_rank (b b0 b1 b2 r : Nat) (w : World) (hr : Hid (isNaN r = true ∧ r < 18446744073709551616))
    (h0 : w.cell? ⟨b, 0, none⟩ = some (.slice (some ⟨b0, 0, none⟩) 1 1)) (h1 : w.cell? ⟨b, 1, none⟩ = some (.slice (some ⟨b1, 0, none⟩) 0 0)) (h2 : w.cell? ⟨b, 2, none⟩ = some (.slice (some ⟨b2, 0, none⟩) 1 1))
    (c0 : w.cell? ⟨b0, 0, none⟩ = some (.float .f64 4607182418800017408)) (c2 : w.cell? ⟨b2, 0, none⟩ = some (.float .f64 r)) :
    Calls Try.prog 25 #[.slice (some ⟨b, 0, none⟩) 3 3] w fun e w' => ∃ g cap, e = .returned (.tuple #[.slice (some ⟨g, 0, none⟩) 3 cap, .int .i64 0]) ∧ w.heap.size ≤ g ∧ g < w'.heap.size ∧
      w'.cell? ⟨g, 0, none⟩ = some (.int .i64 2) ∧ w'.cell? ⟨g, 2, none⟩ = some (.int .i64 1) ∧ Below w.heap.size w w' := by
  refine (rank_any b 0 3 3 (fun j => if j = 0 then some ⟨b0, 0, none⟩ else if j = 1 then some ⟨b1, 0, none⟩ else some ⟨b2, 0, none⟩) (fun j => if j = 1 then 0 else 1)
    (fun j => if j = 0 then [4607182418800017408] else if j = 1 then [] else [r]) w (by omega) ⟨?_, ?_, ?_, ?_⟩).mono ?_
  · intro j hj
    obtain rfl | rfl | rfl : j = 0 ∨ j = 1 ∨ j = 2 := by omega
    · exact h0
    · exact h1
    · exact h2
  · intro j hj
    obtain rfl | rfl | rfl : j = 0 ∨ j = 1 ∨ j = 2 := by omega
    · exact fun _ => ⟨b0, 0, rfl, fun j hj => by obtain rfl : j = 0 := by simpa using hj
                                                 exact c0⟩
    · intro h; simp at h
    · exact fun _ => ⟨b2, 0, rfl, fun j hj => by obtain rfl : j = 0 := by simpa using hj
                                                 exact c2⟩
  · intro j hj
    obtain rfl | rfl | rfl : j = 0 ∨ j = 1 ∨ j = 2 := by omega
    · intro i hi; obtain rfl : i = 0 := by simpa using hi
      show (4607182418800017408 : Nat) < _; omega
    · intro i hi; simp at hi
    · intro i hi; obtain rfl : i = 0 := by simpa using hi
      exact hr.out.2
  · intro j hj
    obtain rfl | rfl | rfl : j = 0 ∨ j = 1 ∨ j = 2 := by omega
    all_goals simp
  rw [lv_ord r hr.out.1]
  rintro e w' ⟨v, he, ho, hb⟩
  obtain ⟨g, cap, rfl, hg0, hg1, _, _, hc⟩ := own_open ho (by omega)
  exact ⟨g, cap, he, hg0, hg1, hc 0 (by omega), hc 2 (by omega), hb⟩

theorem bcell {w w' : World} (hb : Below w.heap.size w w') : (∀ b j, b < w.heap.size → w'.cell? ⟨b, j, none⟩ = w.cell? ⟨b, j, none⟩) ∧ True := ⟨fun _ _ h => hb.cell h, trivial⟩

set_option maxHeartbeats 4000000 in
theorem lives_any (w : World) : Calls Try.prog 13 #[] w fun e w' => e = .returned (.bool true) ∧ Below w.heap.size w w' := by
  have d1 : (FloatKind.f64.format.order 4602678819172646912 4602678819172646912 == some .eq) = true := by decide +kernel
  have d2 : (FloatKind.f64.format.order 4609434218613702656 4609434218613702656 == some .eq) = true := by decide +kernel
  have d3 : (FloatKind.f64.format.order 4613937818241073152 4613937818241073152 == some .eq) = true := by decide +kernel
  go_enter Try.func13, Try.ntmps13
  go_wp2_with fail
  refine (lv_part0 _).mono ?_
  rintro e w' ⟨r, d, rfl, hr, rfl⟩
  have hn := neq_self r
  rw [hr.out.1] at hn
  go_wp2_with fail
  refine (lv_rank _ w.heap.size (w.heap.size + 1) (w.heap.size + 1 + 1) r _ hr (by rw [World.cell?_alloc_at _ _ _ _ (by simp)]; rfl) (by rw [World.cell?_alloc_at _ _ _ _ (by simp)]; rfl) (by rw [World.cell?_alloc_at _ _ _ _ (by simp)]; rfl)
    (by rw [World.cell?_alloc_past _ _ _ (by simp; omega), World.cell?_alloc_past _ _ _ (by simp; omega), World.cell?_alloc_past _ _ _ (by simp), World.cell?_alloc_at _ _ _ _ (by simp)]; rfl)
    (by rw [World.cell?_alloc_past _ _ _ (by simp), World.cell?_alloc_at _ _ _ _ (by simp)]; rfl)).mono ?_
  rintro e w1 ⟨g, cap, rfl, hg0, hg1, k0, k2, hb⟩
  have z1 := hb.size
  simp at z1 hg0
  go_wp2_with fail
  refine (lv_worst _ _ (by rw [World.cell?_alloc_at _ _ _ _ (by simp)]; rfl) (by rw [World.cell?_alloc_at _ _ _ _ (by simp)]; rfl) (by rw [World.cell?_alloc_at _ _ _ _ (by simp)]; rfl)).mono ?_
  rintro e w' ⟨rfl, rfl⟩
  go_wp2_with fail
  refine (lv_part1 _).mono ?_
  rintro e w' ⟨d2, rfl, rfl⟩
  go_wp2_with fail
  refine (lv_mean _ _ (by rw [World.cell?_alloc_at _ _ _ _ (by simp)]; rfl) (by rw [World.cell?_alloc_at _ _ _ _ (by simp)]; rfl)).mono ?_
  rintro e w' ⟨d3, rfl, rfl⟩
  go_wp2_with fail
  refine (lv_smooth r hr _).mono ?_
  rintro e w' ⟨d4, rfl, rfl⟩
  go_wp2_with fail
  refine (lv_compare _).mono ?_
  rintro e w' ⟨rfl, rfl⟩
  go_wp2_with fail
  refine (lv_steps _).mono ?_
  rintro e w' ⟨rfl, rfl⟩
  go_wp2
  go_ret
  have b1 := ((((bdrewN (Below.refl w.heap.size w) d).alloc (by simp) (.cells #[Value.float FloatKind.f64 4607182418800017408] 23)).alloc (by simp) (.cells #[] 23)).alloc (by simp; omega) (.cells #[Value.float FloatKind.f64 r] 23)).alloc (by simp; omega)
    (.cells #[Value.slice (some { block := w.heap.size, off := 0 }) 1 1, Value.slice (some { block := w.heap.size + 1, off := 0 }) 0 0, Value.slice (some { block := w.heap.size + 1 + 1, off := 0 }) 1 1] 22)
  exact ⟨rfl, bdrewN ((bdrewN ((b1.trans (hb.mono (by simp; omega))).alloc (by omega) _) _).alloc (by simp; omega) _) _⟩
end Go.Proofs.Ytemeahbggidbkaa.Own
