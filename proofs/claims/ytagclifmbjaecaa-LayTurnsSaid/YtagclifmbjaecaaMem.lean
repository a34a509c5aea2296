/- What lay.Members comes to. -/
import Derived.Test.YtagclifmbjaecaaMap
namespace Go.Proofs.Ytagclifmbjaecaa.Own
open Go.RowKit
theorem tinfo3 : (Try.prog.info? 3).map (fun i => (i.zero, i.size, i.bytes)) = some (some (.int .i64 0), 1, 8) := by kernel_rfl

/-- the members by places, the first k of them -/
def mem (m p : Int) (k : Nat) : List Int := (List.range k).map fun (j : Nat) => (p + 1 + (j : Int)) % m
theorem mem_len (m p : Int) (k : Nat) : (mem m p k).length = k := by simp [mem]
theorem mem_succ (m p : Int) (k : Nat) : mem m p (k + 1) = mem m p k ++ [(p + 1 + (k : Int)) % m] := by simp [mem, List.range_succ]
theorem row1 (w : World) (u : Value) : ∀ j x, [u][j]? = some x → (w.alloc (.cells #[u] 3)).cell? ((⟨w.heap.size, 0, none⟩ : Addr).add j) = some x := by
  intro j x h
  cases j with
  | zero =>
    simp at h; subst h
    show (w.alloc (.cells #[u] 3)).cell? ⟨w.heap.size, 0, none⟩ = some u
    rw [World.cell?_alloc_at _ _ _ _ rfl]; rfl
  | succ j => simp at h
theorem rel_more {B k : Nat} {m p : Int} {w wr w1 : World} {v v' : Value} {o : Obj} (hB : B ≤ wr.heap.size) (hown : wr.ownsRow B 3 1 v k ((mem m p k).map (Value.int .i64))) (hnx : Below B w wr)
    (hown' : w1.ownsRow B 3 1 v' (k + 1) ((mem m p k).map (Value.int .i64) ++ [.int .i64 ((p + 1 + (k : Int)) % m)])) (hgrow : (wr.alloc o).grownBy w1 v.ownBlock) :
    w1.ownsRow B 3 1 v' (k + 1) ((mem m p (k + 1)).map (Value.int .i64)) ∧ Below B w w1 := by
  refine ⟨by rw [mem_succ, List.map_append]; exact hown', ?_⟩
  exact (hnx.alloc hB o).grown hgrow (by simp; omega) (fun j hj => (hown.lt j hj).1)

set_option maxHeartbeats 1000000 in
theorem members_y (n : Nat) (s : Int) (w : World) (h1 : 3 ≤ n) (h2 : n ≤ 16) (h3 : 0 ≤ s) (h4 : s ≤ 9223372036854775807) :
    Calls Try.prog 15 #[.int .i64 (n : Int), .int .i64 s] w fun e w' => ∃ v, e = .returned (.tuple #[v, .int .i64 0]) ∧
      w'.ownsRow w.heap.size 3 1 v n ((mem n ((n : Int) - 1 - s % n) n).map (Value.int .i64)) ∧ Below w.heap.size w w' := by
  have hpar := fun w => parity_y (n : Int) s w (by omega) (by omega) h3 h4
  have a1 := Int.emod_nonneg s (show (n : Int) ≠ 0 by omega)
  have a2 := Int.emod_lt_of_pos s (show 0 < (n : Int) by omega)
  obtain ⟨p, hp⟩ : ∃ p, (n : Int) - 1 - s % n = p := ⟨_, rfl⟩
  have p0 : 0 ≤ p := by omega
  have p1 : p < n := by omega
  rw [hp] at hpar ⊢
  clear hp a1 a2
  have HP := Lib.hid hpar
  clear hpar
  obtain ⟨i0, hi, hz0, hz1, hz2⟩ := info_parts tinfo3
  go_enter Try.func15, Try.ntmps15
  go_wp2_with (go_at_call 16; refine (HP.out _).mono ?_; rintro e w' ⟨rfl, rfl⟩)
  go_loopw [8, 20] (fun v i wr => ∃ k : Nat, k ≤ n ∧ i = .int .i64 k ∧ wr.ownsRow w.heap.size 3 1 v k ((mem n p k).map (Value.int .i64)) ∧ Below w.heap.size w wr) (fun _ i _ => n - (intOf i).toNat)
  case atStart => exact ⟨0, Nat.zero_le _, rfl, World.ownsRow_nil _ _ _ _, Below.refl _ _⟩
  case round =>
    obtain ⟨k, hk, rfl, hown, hb⟩ := hrel
    by_cases hlt : k < n
    · go_wp2_with (at_builtin; refine wpList_append_own _ rfl _ _ 28 rfl w.heap.size 3 i0 (.int .i64 0) 1 8 Try.underlying28 hi hz0 hz1 hz2 rfl (by decide) _ _ _ rfl (hown.alloc _) ⟨wr.heap.size, 0, none⟩ 1 1 [.int .i64 ((p + 1 + (k : Int)) % n)] rfl rfl ?c1 ?c2 ?c3 ?c4 ?c5 ?_)
      case c1 => exact row1 _ _
      case c2 => simp [Value.oneCell']
      case c3 => unfold maxLen; omega
      case c4 => omega
      case c5 => have := hb.size; simp; omega
      intro v' w1 hown' hgrow _
      obtain ⟨g1, g2⟩ := rel_more hb.size hown hb hown' hgrow
      clear hown' hgrow hown hb
      go_wp2
      go_roundw
      case rel => exact ⟨k + 1, by omega, by go_num, g1, g2⟩
      case measure => simp [intOf]; omega
    · have hkn : k = n := by omega
      subst hkn
      clear hk
      go_wp2
      go_ret2
      exact ⟨_, rfl, hown, hb⟩
end Go.Proofs.Ytagclifmbjaecaa.Own
