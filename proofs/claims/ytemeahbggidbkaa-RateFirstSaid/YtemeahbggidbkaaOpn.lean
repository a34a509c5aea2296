/- Arguments, opened: numbers, rows of floats, rows of these. -/
import Derived.Test.YtemeahbggidbkaaRows
import Derived.ProofKit
import Derived.Deep.Slices
import Derived.Test.YtemeahbggidbkaaLiv
namespace Go.Proofs.Ytemeahbggidbkaa.Own
open Go.ChangeShapes Go.WideShapes Go.RowKit Go.Proofs.Ytemeahbggidbkaa.Fl

theorem laidOut : laidOutB Try.prog = true := by kernel_rfl
theorem cells22 : Try.prog.cellsOf 22 = 1 := by kernel_rfl
theorem cells23 : Try.prog.cellsOf 23 = 1 := by kernel_rfl
theorem wf_lt {a : Nat} (h : (Lit.float .f64 a).wf = true) : a < 18446744073709551616 := by
  simp only [Lit.wf, decide_eq_true_eq] at h; omega
theorem trod_float {H : Type} {enc : TypeId × Value → H} {w : World} {base fuel : Nat} {sp : Nat → Bool} {held : Bool} {cs : List Value} {x : DataW H × List MemPlace}
    (h : DataW.trod enc Try.prog w base sp held fuel 23 cs = some x) : ∃ b, cs = [.float .f64 b] ∧ b < 18446744073709551616 := by
  cases fuel with
  | zero => simp [DataW.trod] at h
  | succ n =>
    unfold DataW.trod at h
    rw [Try.underlying23] at h
    split at h <;> simp_all
    rename_i b e
    subst e
    obtain ⟨⟨rfl, hw⟩, _⟩ := h
    exact wf_lt hw
theorem choose {α : Type} {d : α} {n : Nat} {p : Nat → α → Prop} (h : ∀ i, i < n → ∃ a, p i a) : ∃ f : Nat → α, ∀ i, i < n → p i (f i) :=
  ⟨fun i => if hi : i < n then (h i hi).choose else d, fun i hi => by simp only [hi, dif_pos]; exact (h i hi).choose_spec⟩
theorem open_floats {H : Type} {enc : TypeId × Value → H} {W : World} {base fuel : Nat} {sp : Nat → Bool} {held : Bool} {cs : List Value} {x : DataW H × List MemPlace}
    (h : DataW.trod enc Try.prog W base sp held fuel 22 cs = some x) :
    ∃ a cap l, cs = [.slice a l.length cap] ∧ RF W a l ∧ Wf l ∧ l.length ≤ 9223372036854775807 := by
  rcases Deep.open_slice1 Try.underlying22 cells23 h with ⟨hc, _⟩ | ⟨a, len, cap, m, k, V, D, Pl, hc, _, hl, hm, hmm, _, hall⟩
  · exact ⟨none, 0, [], hc, fun h => absurd h (by simp), fun j h => absurd h (by simp), by simp⟩
  · have hle : len ≤ m := by rw [hmm]; split <;> omega
    obtain ⟨f, hf⟩ := choose (d := 0) (n := len) (p := fun i b => V i = .float .f64 b ∧ b < 18446744073709551616) (fun i hi => by
      obtain ⟨b, hb, hb'⟩ := trod_float (hall i (by omega)).2
      exact ⟨b, by simpa using hb, hb'⟩)
    have hg : ∀ j, j < len → ((List.range len).map f).getD j 0 = f j := fun j hj => by
      rw [List.getD_eq_getElem?_getD, List.getElem?_map, List.getElem?_range hj]; rfl
    refine ⟨some a, cap, (List.range len).map f, by simpa using hc, fun h0 => ?_, fun j hj => ?_, ?_⟩
    · simp only [List.length_map, List.length_range] at h0
      obtain ⟨b, off, spot⟩ := a
      have e : spot = none := by
        have := (hall 0 (by omega)).1
        cases spot with
        | none => rfl
        | some s => unfold World.cell? at this; simp only [Addr.add] at this; split at this <;> simp_all
      subst e
      refine ⟨b, off, rfl, fun j hj => ?_⟩
      simp only [List.length_map, List.length_range] at hj
      rw [hg j hj]
      have := (hall j (by omega)).1
      rw [(hf j hj).1, add_plain] at this
      exact this
    · simp only [List.length_map, List.length_range] at hj
      rw [hg j hj]; exact (hf j hj).2
    · simp only [List.length_map, List.length_range]
      unfold maxLen at hm; omega
theorem slice_cs {a a' : Option Addr} {n c n' c' : Nat} (h : (Value.slice a n c).cells.toList = [Value.slice a' n' c']) : a = a' ∧ n = n' ∧ c = c' := by
  simpa [Value.cells] using h
theorem open_row {H : Type} {enc : TypeId × Value → H} {W : World} {base : Nat} {v : Value} {d : DataW H} {ps : List MemPlace}
    (hval : Value.okWide Try.prog W .any base 22 v) (hd : DataW.Trod enc Try.prog W 0 (fun _ => true) true 22 v d ps) :
    ∃ a cap l, v = .slice a l.length cap ∧ Hid (RF W a l) ∧ Hid (Wf l) ∧ Hid (l.length ≤ 9223372036854775807) := by
  obtain ⟨a, n, c, rfl⟩ := okWide_slice Try.underlying22 hval
  obtain ⟨fuel, hf⟩ := hd
  obtain ⟨a', c', l, hcs, h1, h2, h3⟩ := open_floats hf
  obtain ⟨rfl, rfl, rfl⟩ := slice_cs hcs
  exact ⟨a, c, l, rfl, Lib.hid h1, Lib.hid h2, Lib.hid h3⟩
theorem open_rows {H : Type} {enc : TypeId × Value → H} {W : World} {base : Nat} {v : Value} {d : DataW H} {ps : List MemPlace}
    (hval : Value.okWide Try.prog W .any base 38 v) (hd : DataW.Trod enc Try.prog W 0 (fun _ => true) true 38 v d ps) :
    ∃ a m cap, v = .slice a m cap ∧ m ≤ 9223372036854775807 ∧ (m = 0 ∨ ∃ b off A C L, a = some ⟨b, off, none⟩ ∧ Hid (Rws W b off m A C L)) := by
  obtain ⟨a, n, c, rfl⟩ := okWide_slice Try.underlying38 hval
  obtain ⟨fuel, hf⟩ := hd
  rcases Deep.open_slice1 Try.underlying38 cells22 hf with ⟨hc, _⟩ | ⟨a', len, cap, m, k, V, D, Pl, hc, _, hl, hm, hmm, _, hall⟩
  · obtain ⟨rfl, rfl, rfl⟩ := slice_cs hc
    exact ⟨none, 0, 0, rfl, by omega, .inl rfl⟩
  · obtain ⟨rfl, rfl, rfl⟩ := slice_cs hc
    have hle : n ≤ m := by rw [hmm]; split <;> omega
    refine ⟨some a', n, c, rfl, by unfold maxLen at hm; omega, ?_⟩
    by_cases h0 : n = 0
    · exact .inl h0
    refine .inr ?_
    obtain ⟨f, hg⟩ := choose (d := ((none, 0, []) : Option Addr × Nat × List Nat)) (n := n) (p := fun i y => V i = .slice y.1 y.2.2.length y.2.1 ∧ RF W y.1 y.2.2 ∧ Wf y.2.2 ∧ y.2.2.length ≤ 9223372036854775807) (fun i hi => by
      obtain ⟨a, cap, l, e, h1, h2, h3⟩ := open_floats (hall i (by omega)).2
      exact ⟨(a, cap, l), by simpa using e, h1, h2, h3⟩)
    obtain ⟨b, off, spot⟩ := a'
    have e : spot = none := by
      have := (hall 0 (by omega)).1
      cases spot with
      | none => rfl
      | some s => unfold World.cell? at this; simp only [Addr.add] at this; split at this <;> simp_all
    subst e
    refine ⟨b, off, fun i => (f i).1, fun i => (f i).2.1, fun i => (f i).2.2, rfl, Lib.hid ⟨fun j hj => ?_, fun j hj => (hg j hj).2.1, fun j hj => (hg j hj).2.2.1, fun j hj => (hg j hj).2.2.2⟩⟩
    have := (hall j (by omega)).1
    rw [(hg j hj).1, add_plain] at this
    exact this
end Go.Proofs.Ytemeahbggidbkaa.Own
