/- The two orders are one. -/
import Derived.Test.YtemeahbggidbkaaUni
namespace Go.Proofs.Ytemeahbggidbkaa.Own
open Go.RowKit Go.Proofs.Ytemeahbggidbkaa.Fl

theorem ahd_iff (R : Nat → Nat) (i j : Nat) : ahd R i j = true ↔ R j < R i ∨ R i = R j ∧ i < j := by unfold ahd; simp
theorem ahd_not (R : Nat → Nat) (i j : Nat) (h : ahd R i j = true) : ahd R j i = false := by
  rw [ahd_iff] at h
  cases h' : ahd R j i
  · rfl
  · rw [ahd_iff] at h'; omega
theorem ahd_self (R : Nat → Nat) (i : Nat) : ahd R i i = false := by
  cases h' : ahd R i i
  · rfl
  · rw [ahd_iff] at h'; omega
theorem ins_perm (R : Nat → Nat) (i : Nat) (l : List Nat) : (ins R i l).Perm (i :: l) := by
  induction l with
  | nil => exact List.Perm.refl _
  | cons j t ih =>
    rw [ins]
    split
    · exact List.Perm.refl _
    · exact (ih.cons j).trans (List.Perm.swap i j t)
theorem ord_perm (R : Nat → Nat) (k : Nat) : (ord R k).Perm (List.range k) := by
  induction k with
  | zero => exact List.Perm.refl _
  | succ k ih =>
    rw [ord, List.range_succ]
    exact (ins_perm R k _).trans ((ih.cons k).trans (List.perm_append_singleton k _).symm)
theorem ins_sorted (R : Nat → Nat) (i : Nat) (l : List Nat) (hl : ∀ j ∈ l, j < i) (hs : l.Pairwise fun a b => ahd R a b = true) : (ins R i l).Pairwise fun a b => ahd R a b = true := by
  induction l with
  | nil => exact List.pairwise_singleton _ _
  | cons j t ih =>
    rw [List.pairwise_cons] at hs
    rw [ins]
    split
    · rename_i h
      rw [List.pairwise_cons, List.pairwise_cons]
      refine ⟨fun y hy => ?_, hs⟩
      rw [ahd_iff]
      rcases List.mem_cons.1 hy with rfl | hy
      · exact .inl h
      · have := hs.1 y hy
        rw [ahd_iff] at this; omega
    · rename_i h
      rw [List.pairwise_cons]
      refine ⟨fun y hy => ?_, ih (fun j hj => hl j (List.mem_cons_of_mem _ hj)) hs.2⟩
      have hy' := (ins_perm R i t).mem_iff.1 hy
      rcases List.mem_cons.1 hy' with rfl | hy'
      · rw [ahd_iff]
        have := hl j (List.mem_cons_self ..)
        omega
      · exact hs.1 y hy'
theorem ord_sorted (R : Nat → Nat) (k : Nat) : (ord R k).Pairwise fun a b => ahd R a b = true := by
  induction k with
  | zero => exact List.Pairwise.nil
  | succ k ih => exact ins_sorted R k _ (fun j hj => List.mem_range.1 ((ord_perm R k).mem_iff.1 hj)) ih
/-- as many stand ahead of the p-th as p -/
theorem cnt_at (R : Nat → Nat) (m : Nat) (pre post : List Nat) (x : Nat) (h : ord R m = pre ++ x :: post) : cnt R m x = pre.length := by
  have hs := ord_sorted R m
  unfold cnt
  rw [← ((ord_perm R m).filter fun y => ahd R y x).length_eq, h, List.filter_append, List.length_append]
  rw [h, List.pairwise_append, List.pairwise_cons] at hs
  have e1 : pre.filter (fun y => ahd R y x) = pre := List.filter_eq_self.2 fun y hy => hs.2.2 y hy x (List.mem_cons_self ..)
  have e2 : (x :: post).filter (fun y => ahd R y x) = [] := List.filter_eq_nil_iff.2 fun y hy => by
    rcases List.mem_cons.1 hy with rfl | hy
    · rw [ahd_self]; simp
    · rw [ahd_not R x y (hs.2.1.1 y hy)]; simp
  rw [e1, e2]; rfl
theorem cnt_idx (R : Nat → Nat) (m q : Nat) (hq : q < (ord R m).length) : cnt R m (ord R m)[q] = q := by
  have h : ord R m = (ord R m).take q ++ (ord R m)[q] :: (ord R m).drop (q + 1) := by
    rw [List.getElem_cons_drop, List.take_append_drop]
  have := cnt_at R m _ _ _ h
  rw [this, List.length_take]; omega
theorem row_one (R : Nat → Nat) (m a : Nat) (ha : a < (ord R m).length) : rowL R m a m = [(ord R m)[a]] := by
  unfold rowL
  apply List.perm_singleton.1
  refine ((ord_perm R m).filter fun x => cnt R m x == a).symm.trans ?_
  have h : ord R m = (ord R m).take a ++ (ord R m)[a] :: (ord R m).drop (a + 1) := by
    rw [List.getElem_cons_drop, List.take_append_drop]
  have e : (ord R m).filter (fun x => cnt R m x == a) = [(ord R m)[a]] := by
    have e1 : ((ord R m).take a).filter (fun x => cnt R m x == a) = [] := List.filter_eq_nil_iff.2 fun y hy => by
      obtain ⟨q, hq, rfl⟩ := List.mem_iff_getElem.1 hy
      rw [List.length_take] at hq
      rw [List.getElem_take, cnt_idx R m q (by omega)]; simp; omega
    have e2 : ((ord R m).drop (a + 1)).filter (fun x => cnt R m x == a) = [] := List.filter_eq_nil_iff.2 fun y hy => by
      obtain ⟨q, hq, rfl⟩ := List.mem_iff_getElem.1 hy
      rw [List.length_drop] at hq
      rw [List.getElem_drop, cnt_idx R m (a + 1 + q) (by omega)]; simp; omega
    have e3 := cnt_idx R m a ha
    have step : ∀ s, s = (ord R m).take a ++ (ord R m)[a] :: (ord R m).drop (a + 1) → s.filter (fun x => cnt R m x == a) = [(ord R m)[a]] := fun s hs => by
      rw [hs, List.filter_append, e1, List.filter_cons, if_pos (by rw [e3]; simp), e2]; rfl
    exact step _ h
  rw [e]
theorem out_take (R : Nat → Nat) (m a : Nat) (ha : a ≤ m) : outL R m a = (ord R m).take a := by
  have hl := ord_len R m
  induction a with
  | zero => rfl
  | succ a ih => rw [outL, ih (by omega), row_one R m a (by omega), List.take_append_getElem]
theorem out_ord (R : Nat → Nat) (m : Nat) : outL R m m = ord R m := by
  rw [out_take R m m (Nat.le_refl _), List.take_of_length_le (by rw [ord_len]; exact Nat.le_refl _)]
/-- none is of a greater rank than the first -/
theorem ord_first (R : Nat → Nat) (m i : Nat) (hi : i < m) : R i ≤ R ((ord R m).getD 0 0) := by
  have hs := ord_sorted R m
  have hm : i ∈ ord R m := (ord_perm R m).mem_iff.2 (List.mem_range.2 hi)
  cases h : ord R m with
  | nil => rw [h] at hm; simp at hm
  | cons f t =>
    rw [h] at hm hs
    show R i ≤ R f
    rcases List.mem_cons.1 hm with rfl | hm
    · exact Nat.le_refl _
    · have := (List.pairwise_cons.1 hs).1 i hm
      rw [ahd_iff] at this; omega
end Go.Proofs.Ytemeahbggidbkaa.Own
