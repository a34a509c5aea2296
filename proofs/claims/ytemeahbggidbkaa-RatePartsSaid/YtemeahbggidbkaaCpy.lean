/- A row of floats as an argument, with its size; 'append([]float64{}, l...)': a copy. -/
import Derived.Test.YtemeahbggidbkaaOpn
import Derived.SizedLaws
import Derived.Laws.OwnMore
import Derived.Laws.AppendOwnNone
namespace Go.Proofs.Ytemeahbggidbkaa.Own
open Go.ChangeShapes Go.WideShapes Go.RowKit Go.Proofs.Ytemeahbggidbkaa.Fl

/-- what 'open_row' keeps, and: a nil row has no room; how long the row's reading is -/
theorem open_row2 {H : Type} {enc : TypeId × Value → H} {W : World} {base : Nat} {v : Value} {d : DataW H} {ps : List MemPlace}
    (hval : Value.okWide Try.prog W .any base 22 v) (hd : DataW.Trod enc Try.prog W 0 (fun _ => true) true 22 v d ps) :
    ∃ a cap l, v = .slice a l.length cap ∧ Hid (RF W a l) ∧ Hid (Wf l) ∧ Hid (l.length ≤ 9223372036854775807 ∧ (a = none → cap = 0)) ∧ (l.length = 0 ∨ ∃ els sp, d = .slice els sp ∧ els.length = l.length) := by
  have hd' := hd
  obtain ⟨a, c, l, rfl, h1, h2, h3⟩ := open_row hval hd
  obtain ⟨fuel, hf⟩ := hd'
  rcases Deep.open_slice1 Try.underlying22 cells23 hf with ⟨hc, _⟩ | ⟨a', len, cap, m, k, V, D, Pl, hc, _, _, _, _, hx, _⟩
  · obtain ⟨rfl, h0, rfl⟩ := slice_cs hc
    exact ⟨none, 0, l, rfl, h1, h2, Lib.hid ⟨h3.out, fun _ => rfl⟩, .inl h0⟩
  · obtain ⟨rfl, h0, rfl⟩ := slice_cs hc
    simp only [Prod.mk.injEq] at hx
    exact ⟨some a', c, l, rfl, h1, h2, Lib.hid ⟨h3.out, fun h => by cases h⟩, .inr ⟨_, _, hx.1, by simp [h0]⟩⟩
theorem bytes23 : Try.prog.bytesOf 23 = 8 := by kernel_rfl
theorem len_of {H : Type} {ts : List TypeId} {ds : List (DataW H)} {j : Nat} {d : DataW H} {l : List Nat} (h : (DataW.weightsEach Try.prog ts ds).all (· ≤ reachBytes) = true) (ht : ts[j]? = some 22) (hd : ds[j]? = some d)
    (hz : l.length = 0 ∨ ∃ els sp, d = .slice els sp ∧ els.length = l.length) : Hid (l.length * 8 ≤ 140737488351232) := Lib.hid (by
  rcases hz with h0 | ⟨els, sp, rfl, he⟩
  · omega
  · have := sized_slice h ht hd Try.underlying22
    rw [bytes23] at this
    unfold reachBytes at this
    omega)

theorem tinfo23 : (Try.prog.info? 23).map (fun i => (i.zero, i.size, i.bytes)) = some (some (.float .f64 0), 1, 8) := by kernel_rfl
/-- floats as cells -/
def fl (l : List Nat) : List Value := l.map fun j => Value.float .f64 j
theorem fl_at {l : List Nat} {j : Nat} (h : j < l.length) : (fl l)[j]? = some (.float .f64 (l.getD j 0)) := by
  rw [fl, List.getElem?_map, List.getElem?_eq_getElem h]; simp [List.getD_eq_getElem?_getD, List.getElem?_eq_getElem h]
theorem fl_one (l : List Nat) : ∀ u ∈ fl l, u.oneCell' = true := by
  intro u hu
  simp only [fl, List.mem_map] at hu
  obtain ⟨j, _, rfl⟩ := hu
  rfl
theorem own_rf {w : World} {B n : Nat} {v : Value} {l : List Nat} (h : w.ownsRow B 23 1 v n (fl l)) (hl : l.length = n) : ∃ a c, v = .slice a n c ∧ RF w a l := by
  have h' := h
  rcases h.2 with ⟨rfl, h0⟩ | ⟨g, cap, cur, rfl, hb, hg, hnc, _⟩
  · subst h0; exact ⟨none, 0, rfl, fun h => by omega⟩
  · refine ⟨some ⟨g, 0, none⟩, cap, rfl, fun _ => ⟨g, 0, rfl, fun j hj => ?_⟩⟩
    have := h'.cells (g := g) rfl j _ (fl_at hj)
    rw [add_plain] at this
    exact this
/-- 'append([]float64{}, l...)', guarded or not -/
theorem copy_law {w : World} {ops : Array Oper} {rest : List Oper} {o : Oper} {a : Act} {Q : Exit → Act → World → Prop} (hw : Region.wanted o (yielded ops a.tmps) = true) (s x : Operand)
    (ho : o.op = .call { callee := .builtin .append, args := #[s, x], argTypes := #[22, 22] }) (B : Nat) (ad : Option Addr) (n c : Nat) (l : List Nat)
    (hs : a.eval s = .slice (some ⟨w.heap.size, 0, none⟩) 0 0) (hx : a.eval x = .slice ad n c) (hl : l.length = n) (hr : RF w ad l) (hn : ad = none → c = 0) (hb : n * 8 ≤ 140737488351232) (hB : B ≤ w.heap.size)
    (h : ∀ a' c' w', RF w' a' l → Below B w w' → wpList Try.prog ops Q rest (a.put o.dst (.slice a' n c')) w') :
    wpList Try.prog ops Q (o :: rest) a (w.alloc (.cells #[] 23)) := by
  refine wpList_step fun K hK => ?_
  rw [if_pos hw]
  obtain ⟨i0, hi, hz0, hz1, hz2⟩ := info_parts tinfo23
  have hown := World.ownsRow_lit (base := w.heap.size) (e := 23) (size := 1) w #[] 0 (Nat.le_refl _) (by unfold maxLen; omega) rfl
  have hb0 : Below B w (w.alloc (.cells #[] 23)) := (Below.refl B w).alloc hB _
  have hrw : RF (w.alloc (.cells #[] 23)) ad l := hr.below ((Below.refl _ _).alloc (Nat.le_refl _) _)
  cases ad with
  | none =>
    have h0 : n = 0 := by
      rcases Nat.eq_zero_or_pos n with h0 | h0
      · exact h0
      · obtain ⟨_, _, e, _⟩ := hr (by omega)
        cases e
    subst h0
    obtain rfl := hn rfl
    have hrun := run_append_owned_none (P := Try.prog) (w := w.alloc (.cells #[] 23)) w.heap.size 22 o.type 23 i0 1 Try.underlying22 hi _ 0 _ hown
    unfold Oper.wp
    simp [execOp, ho, resolve, invoke, builtin, hs, hx, hrun, Result.andThen]
    exact hK _ _ (h _ _ _ (fun h => by omega) hb0)
  | some ad =>
    refine wp_append_own _ s x 22 ho w.heap.size 23 i0 (.float .f64 0) 1 8 Try.underlying22 hi hz0 hz1 hz2 rfl (by decide) _ 0 [] hs hown ad n c (fl l) hx (by simp [fl, hl]) (fun j u hu => ?_) (fl_one l) (by unfold maxLen; omega) (by omega) (by simp) ?_
    · have hj : j < l.length := by have := (List.getElem?_eq_some_iff.1 hu).1; simpa [fl] using this
      rw [fl_at hj] at hu; cases hu
      obtain ⟨b, off, e, hc⟩ := hrw (by omega)
      cases e
      rw [add_plain]
      exact hc j hj
    · intro v' w' h1 h2 _
      rw [Nat.zero_add, List.nil_append] at h1
      obtain ⟨a', c', rfl, hrf⟩ := own_rf h1 hl
      exact hK _ _ (h _ _ _ hrf (hb0.grown h2 (by simp; omega) (fun j hj => by have : j = w.heap.size := by simpa [Value.ownBlock] using hj.symm
                                                                               omega)))
end Go.Proofs.Ytemeahbggidbkaa.Own
