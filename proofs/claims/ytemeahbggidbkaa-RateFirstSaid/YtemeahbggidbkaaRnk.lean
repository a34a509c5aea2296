/- What Rank comes to. -/
import Derived.Test.YtemeahbggidbkaaLst
import Derived.Deep.LoopGhost
import Derived.Deep.RegionLawGrows
namespace Go.Proofs.Ytemeahbggidbkaa.Own
open Go.RowKit Go.Proofs.Ytemeahbggidbkaa.Fl
open Ieee (double)

theorem RF.below {w w1 : World} {a : Option Addr} {l : List Nat} (h : RF w a l) (hb : Below w.heap.size w w1) : RF w1 a l := fun h0 => by
  obtain ⟨b, off, e, hc⟩ := h h0
  exact ⟨b, off, e, fun j hj => (hb.cell (World.block_lt_of_cell? w _ (hc j hj))).trans (hc j hj)⟩

/-- rows of floats, as memory has them -/
structure Rws (w : World) (b off m : Nat) (A : Nat → Option Addr) (C : Nat → Nat) (L : Nat → List Nat) : Prop where
  cell : ∀ j, j < m → w.cell? ⟨b, off + j, none⟩ = some (.slice (A j) (L j).length (C j))
  row : ∀ j, j < m → RF w (A j) (L j)
  wf : ∀ j, j < m → Wf (L j)
  le : ∀ j, j < m → (L j).length ≤ 9223372036854775807
theorem Rws.below {w w1 : World} {b off m : Nat} {A : Nat → Option Addr} {C : Nat → Nat} {L : Nat → List Nat} (h : Rws w b off m A C L) (hb : Below w.heap.size w w1) : Rws w1 b off m A C L :=
  ⟨fun j hj => (hb.cell (World.block_lt_of_cell? w _ (h.cell j hj))).trans (h.cell j hj), fun j hj => (h.row j hj).below hb, h.wf, h.le⟩
theorem bdrewN {B : Nat} {w W : World} (h : Below B w W) (n : Nat) : Below B w (W.drewN n) := ⟨h.os, h.tape, h.output, h.size, h.block⟩

/-- the rank of a row: 0 of one without rates, else its worst rate's key and one -/
def rk (l : List Nat) : Nat := if l.length = 0 then 0 else key (l.getD (wsAt l l.length) 0) + 1
/-- i laid ahead of the first one of a lesser rank -/
def ins (R : Nat → Nat) (i : Nat) : List Nat → List Nat
  | [] => [i]
  | j :: t => if R j < R i then i :: j :: t else j :: ins R i t
def ord (R : Nat → Nat) : Nat → List Nat
  | 0 => []
  | k + 1 => ins R k (ord R k)
theorem ins_len (R : Nat → Nat) (i : Nat) (l : List Nat) : (ins R i l).length = l.length + 1 := by
  induction l with
  | nil => rfl
  | cons j t ih => rw [ins]; split <;> simp [ih]
theorem ord_len (R : Nat → Nat) (k : Nat) : (ord R k).length = k := by
  induction k with
  | zero => rfl
  | succ k ih => rw [ord, ins_len, ih]
theorem ins_mid (R : Nat → Nat) (i k : Nat) (l : List Nat) (h : k < l.length) (h1 : ∀ j, j < k → ¬ R (l.getD j 0) < R i) (h2 : R (l.getD k 0) < R i) : ins R i l = l.take k ++ i :: l.drop k := by
  induction l generalizing k with
  | nil => simp at h
  | cons x t ih =>
    cases k with
    | zero =>
      have h3 : R x < R i := h2
      simp [ins, h3]
    | succ k =>
      have h3 : ¬ R x < R i := h1 0 (by omega)
      have := ih k (by simpa using h) (fun j hj => by have := h1 (j + 1) (by omega); simpa using this) (by simpa using h2)
      simp [ins, h3, this]
theorem ins_end (R : Nat → Nat) (i : Nat) (l : List Nat) (h1 : ∀ j, j < l.length → ¬ R (l.getD j 0) < R i) : ins R i l = l ++ [i] := by
  induction l with
  | nil => rfl
  | cons x t ih =>
    have h3 : ¬ R x < R i := h1 0 (by simp)
    have := ih (fun j hj => by have := h1 (j + 1) (by simpa using hj); simpa using this)
    simp [ins, h3, this]
theorem ins_mem (R : Nat → Nat) (i : Nat) (l : List Nat) (m : Nat) (hi : i < m) (h : ∀ j ∈ l, j < m) : ∀ j ∈ ins R i l, j < m := by
  induction l with
  | nil => intro j hj; simp [ins] at hj; omega
  | cons x t ih =>
    intro j hj
    rw [ins] at hj
    split at hj
    · simp at hj
      rcases hj with rfl | rfl | hj
      · exact hi
      · exact h _ (by simp)
      · exact h _ (by simp [hj])
    · simp at hj
      rcases hj with rfl | hj
      · exact h _ (by simp)
      · exact ih (fun y hy => h y (by simp [hy])) j hj
theorem ord_mem (R : Nat → Nat) (m k : Nat) (hk : k ≤ m) : ∀ j ∈ ord R k, j < m := by
  induction k with
  | zero => intro j hj; simp [ord] at hj
  | succ k ih => exact ins_mem R k _ m (by omega) (ih (by omega))
theorem ord_getD (R : Nat → Nat) (m k j : Nat) (hk : k ≤ m) (hj : j < k) : (ord R k).getD j 0 < m := by
  have hl := ord_len R k
  have : (ord R k).getD j 0 ∈ ord R k := by
    rw [List.getD_eq_getElem?_getD, List.getElem?_eq_getElem (by omega)]; simp
  exact ord_mem R m k hk _ this

theorem tinfo3 : (Try.prog.info? 3).map (fun i => (i.zero, i.size, i.bytes)) = some (some (.int .i64 0), 1, 8) := by kernel_rfl
def nv (l : List Nat) : List Value := l.map fun (j : Nat) => Value.int .i64 (j : Int)
theorem own_open {w : World} {B n : Nat} {v : Value} {l : List Nat} (h : w.ownsRow B 3 1 v n (nv l)) (hn : 0 < n) :
    ∃ g cap, v = .slice (some ⟨g, 0, none⟩) n cap ∧ B ≤ g ∧ g < w.heap.size ∧ n ≤ cap ∧ l.length = n ∧ ∀ j, j < n → w.cell? ⟨g, j, none⟩ = some (.int .i64 ((l.getD j 0 : Nat) : Int)) := by
  have hl : l.length = n := by have := h.1; simpa [nv] using this
  rcases h.2 with ⟨rfl, h0⟩ | ⟨g, cap, cur, rfl, hb, hg, hnc, hc⟩
  · omega
  · refine ⟨g, cap, rfl, hb, (Array.getElem?_eq_some_iff.1 hg).1, hnc, hl, fun j hj => ?_⟩
    have := h.cells (g := g) rfl j (.int .i64 ((l.getD j 0 : Nat) : Int)) (by rw [nv, List.getElem?_map, List.getElem?_eq_getElem (by omega)]; simp [List.getD_eq_getElem?_getD, List.getElem?_eq_getElem (show j < l.length by omega)])
    have hadd : (⟨g, 0, none⟩ : Addr).add j = ⟨g, j, none⟩ := by unfold Addr.add; split <;> simp_all
    rw [hadd] at this; exact this

set_option maxHeartbeats 400000 in
theorem rank_many (a : Option Addr) (m cap : Nat) (w : World) (hm : 17 < m) : Calls Try.prog 25 #[.slice a m cap] w fun e w' => e = .returned (.tuple #[.slice none 0 0, .int .i64 1]) ∧ w = w' := by
  go_enter Try.func25, Try.ntmps25
  go_wp2
  go_step3
  go_wp2
  rw [Exit.noGoto_ret]
  go_ret2
  exact ⟨rfl, rfl⟩

/-- Worst of a row, with rates or without. -/
theorem worst_row (a : Option Addr) (cap : Nat) (l : List Nat) (w : World) (hr : RF w a l) (hwf : Wf l) (hle : l.length ≤ 9223372036854775807) :
    ∃ (t : Nat) (h : Bool), (h = true → 0 < l.length ∧ t = wsAt l l.length ∧ t < l.length) ∧ (h = false → l.length = 0) ∧
      Hid (∀ d, Calls Try.prog 22 #[.slice a l.length cap] (w.drewN d) fun e w' => e = .returned (.tuple #[.int .i64 (t : Int), .bool h]) ∧ w.drewN d = w') := by
  by_cases h0 : l.length = 0
  · refine ⟨0, false, (fun h => by cases h), fun _ => h0, Lib.hid fun d => ?_⟩
    rw [h0]; exact worst_none a cap _
  · obtain ⟨b, off, rfl, hc⟩ := hr (by omega)
    exact ⟨wsAt l l.length, true, fun _ => ⟨by omega, rfl, ws_lt l _ _ (Nat.le_refl _) (by omega)⟩, (fun h => by cases h),
      Lib.hid fun d => worst_any b off cap l.length l _ rfl (by omega) hle hwf (fun j hj => by simpa using hc j hj)⟩

theorem quiet_left {P : Program} {f : FuncId} {args : Array Value} {w : World} {n : Nat} {v : Value}
    (h : Calls P f args (w.drewN n) fun e w' => e = .returned v ∧ w.drewN n = w') : Calls P f args (w.drewN n) fun e w'' => e = .returned v ∧ ∃ m, w'' = w.drewN m :=
  h.mono fun _ _ ⟨he, hm⟩ => ⟨he, n, hm.symm⟩
theorem own_slice {w : World} {B n : Nat} {v : Value} {xs : List Value} (h : w.ownsRow B 3 1 v n xs) : ∃ a c, v = .slice a n c := by
  rcases h.2 with ⟨rfl, h0⟩ | ⟨g, cap, cur, rfl, _⟩
  · subst h0; exact ⟨_, _, rfl⟩
  · exact ⟨_, _, rfl⟩
theorem rk_some {l : List Nat} {t : Nat} (h0 : 0 < l.length) (ht : t = wsAt l l.length) : rk l = key (l.getD t 0) + 1 := by
  unfold rk; rw [if_neg (by omega), ht]
theorem rk_none {l : List Nat} (h0 : l.length = 0) : rk l = 0 := by unfold rk; rw [if_pos h0]
theorem nv_app (l : List Nat) (i : Nat) : nv (l ++ [i]) = nv l ++ [.int .i64 (i : Int)] := by simp [nv]
theorem row1 (w : World) (u : Value) : ∀ j x, [u][j]? = some x → (w.alloc (.cells #[u] 3)).cell? ((⟨w.heap.size, 0, none⟩ : Addr).add j) = some x := by
  intro j x h
  cases j with
  | zero =>
    simp at h; subst h
    show (w.alloc (.cells #[u] 3)).cell? ⟨w.heap.size, 0, none⟩ = some u
    rw [World.cell?_alloc_at _ _ _ _ rfl]; rfl
  | succ j => simp at h
theorem row1d (w : World) (d : Nat) (u : Value) : ∀ j x, [u][j]? = some x → ((w.drewN d).alloc (.cells #[u] 3)).cell? ((⟨w.heap.size, 0, none⟩ : Addr).add j) = some x := by
  intro j x h
  cases j with
  | zero =>
    simp at h; subst h
    show ((w.drewN d).alloc (.cells #[u] 3)).cell? ⟨w.heap.size, 0, none⟩ = some u
    rw [World.cell?_alloc_at _ _ _ _ (by simp)]; rfl
  | succ j => simp at h
theorem rel_more {B n : Nat} {l : List Nat} {w wr w1 : World} {v v' : Value} {o : Obj} {i : Nat} (hB : B ≤ wr.heap.size) (hown : wr.ownsRow B 3 1 v n (nv l)) (hnx : Below B w wr)
    (hown' : w1.ownsRow B 3 1 v' (n + 1) (nv l ++ [.int .i64 (i : Int)])) (hgrow : (wr.alloc o).grownBy w1 v.ownBlock) :
    w1.ownsRow B 3 1 v' (n + 1) (nv (l ++ [i])) ∧ Below B w w1 :=
  ⟨by rw [nv_app]; exact hown', (hnx.alloc hB o).grown hgrow (by simp; omega) (fun j hj => (hown.lt j hj).1)⟩
theorem own_drewN {w : World} {B n : Nat} {v : Value} {xs : List Value} (h : w.ownsRow B 3 1 v n xs) (d : Nat) : (w.drewN d).ownsRow B 3 1 v n xs := by
  unfold World.ownsRow at *; simpa using h

theorem add_plain (g j k : Nat) : (⟨g, k, none⟩ : Addr).add j = ⟨g, k + j, none⟩ := by unfold Addr.add; split <;> simp_all
theorem past {w : World} {g k d j : Nat} {o : Obj} {u : Value} (h : g < w.heap.size) (hc : w.cell? ((⟨g, k, none⟩ : Addr).add j) = some u) : ((w.drewN d).alloc o).cell? ((⟨g, k, none⟩ : Addr).add j) = some u := by
  rw [add_plain] at *
  rw [World.cell?_alloc_past _ _ _ (by simpa using h)]
  simpa using hc
theorem own_open2 {w : World} {B n : Nat} {v : Value} {xs : List Value} (h : w.ownsRow B 3 1 v n xs) (hn : 0 < n) :
    ∃ g cap, v = .slice (some ⟨g, 0, none⟩) n cap ∧ B ≤ g ∧ Hid (∀ j u, xs[j]? = some u → w.cell? ((⟨g, 0, none⟩ : Addr).add j) = some u) := by
  rcases h.2 with ⟨rfl, h0⟩ | ⟨g, cap, cur, rfl, hb, _⟩
  · omega
  · exact ⟨g, cap, rfl, hb, Lib.hid (h.cells (g := g) rfl)⟩
theorem nv_one (l : List Nat) : ∀ u ∈ nv l, u.oneCell' = true := by
  intro u hu
  simp only [nv, List.mem_map] at hu
  obtain ⟨j, _, rfl⟩ := hu
  rfl
theorem one_nv (i : Nat) (l : List Nat) : ∀ u ∈ ([Value.int .i64 (i : Int)] ++ nv l), u.oneCell' = true := by
  intro u hu
  rw [List.mem_append] at hu
  rcases hu with hu | hu
  · simp at hu; subst hu; rfl
  · exact nv_one l u hu
/-- the parts of a row, as the two reslicings read them -/
theorem part_drop {w : World} {g k n : Nat} {l : List Nat} (hl : l.length = n) (hc : ∀ j, j < n → w.cell? ⟨g, j, none⟩ = some (.int .i64 ((l.getD j 0 : Nat) : Int))) :
    ∀ j u, (nv (l.drop k))[j]? = some u → w.cell? ((⟨g, k, none⟩ : Addr).add j) = some u := by
  intro j u hu
  rw [add_plain]
  simp only [nv, List.getElem?_map, List.getElem?_drop, Option.map_eq_some_iff] at hu
  obtain ⟨x, hx, rfl⟩ := hu
  have hlt : k + j < l.length := (List.getElem?_eq_some_iff.1 hx).1
  rw [hc _ (by omega), List.getD_eq_getElem?_getD, hx]; rfl
theorem part_take {w : World} {g k n : Nat} {l : List Nat} (hl : l.length = n) (hc : ∀ j, j < n → w.cell? ⟨g, j, none⟩ = some (.int .i64 ((l.getD j 0 : Nat) : Int))) :
    ∀ j u, (nv (l.take k))[j]? = some u → w.cell? ((⟨g, 0, none⟩ : Addr).add j) = some u := by
  intro j u hu
  rw [add_plain, Nat.zero_add]
  simp only [nv, List.getElem?_map, Option.map_eq_some_iff] at hu
  obtain ⟨x, hx, rfl⟩ := hu
  rw [List.getElem?_take] at hx
  split at hx
  · have hlt : j < l.length := (List.getElem?_eq_some_iff.1 hx).1
    rw [hc _ (by omega), List.getD_eq_getElem?_getD, hx]; rfl
  · cases hx
theorem own_base {w : World} {B B' n : Nat} {v : Value} {xs : List Value} (h : w.ownsRow B 3 1 v n xs) (hB : B' ≤ B) : w.ownsRow B' 3 1 v n xs := by
  refine ⟨h.1, ?_⟩
  rcases h.2 with c | ⟨g, cap, cur, a, b, r⟩
  · exact .inl c
  · exact .inr ⟨g, cap, cur, a, Nat.le_trans hB b, r⟩
theorem rel_mid {B i k d : Nat} {l l' : List Nat} {w W W1 W2 : World} {o : Obj} {v2 : Value} {n : Nat} (hb : Below B w W) (hB : B ≤ W.heap.size)
    (hgrow1 : ((W.drewN d).alloc o).grownBy W1 none) (hgrow2 : W1.grownBy W2 none)
    (hown2 : W2.ownsRow W1.heap.size 3 1 v2 n (nv (l.take k) ++ ([Value.int .i64 (i : Int)] ++ nv (l.drop k)))) (hl' : l' = l.take k ++ i :: l.drop k) :
    W2.ownsRow B 3 1 v2 n (nv l') ∧ Below B w W2 := by
  have b1 : Below B w ((W.drewN d).alloc o) := (bdrewN hb d).alloc (by simpa using hB) o
  have s1 : B ≤ ((W.drewN d).alloc o).heap.size := by simp; omega
  have b2 := b1.grown hgrow1 s1 (fun j hj => by cases hj)
  have s2 : B ≤ W1.heap.size := Nat.le_trans s1 hgrow1.size
  refine ⟨?_, b2.grown hgrow2 s2 (fun j hj => by cases hj)⟩
  have e : nv l' = nv (l.take k) ++ ([Value.int .i64 (i : Int)] ++ nv (l.drop k)) := by rw [hl']; simp [nv]
  rw [e]; exact own_base hown2 s2

set_option maxHeartbeats 8000000 in
theorem rank_any (b off cap m : Nat) (A : Nat → Option Addr) (C : Nat → Nat) (L : Nat → List Nat) (w : World) (hm : m ≤ 17) (hR : Rws w b off m A C L) :
    Calls Try.prog 25 #[.slice (some ⟨b, off, none⟩) m cap] w fun e w' => ∃ v, e = .returned (.tuple #[v, .int .i64 0]) ∧
      w'.ownsRow w.heap.size 3 1 v m (nv (ord (fun j => rk (L j)) m)) ∧ Below w.heap.size w w' := by
  obtain ⟨R, hRR⟩ : ∃ R : Nat → Nat, (fun j => rk (L j)) = R := ⟨_, rfl⟩
  rw [hRR]
  have HRK : Hid (∀ j, R j = rk (L j)) := Lib.hid (fun j => by rw [← hRR])
  have HR := Lib.hid hR
  clear hR hRR
  obtain ⟨i0, hi, hz0, hz1, hz2⟩ := info_parts tinfo3
  go_enter Try.func25, Try.ntmps25
  go_wp2
  go_step3
  go_wp2
  go_step3
  go_wp2
  go_loopg [4, 18] m (fun g s4 s18 wx => ∃ (i c4 : Nat) (a4 : Option Addr), i + g = m ∧ s18 = .int .i64 i ∧ s4 = .slice a4 i c4 ∧ Hid (wx.ownsRow w.heap.size 3 1 (.slice a4 i c4) i (nv (ord R i))) ∧ Below w.heap.size w wx)
  case atStart => exact ⟨0, 0, none, by omega, rfl, rfl, Lib.hid (World.ownsRow_nil _ _ _ _), Below.refl _ _⟩
  case round =>
    obtain ⟨i, c4, a4, hig, rfl, rfl, HO, hb⟩ := hrel
    cases gk with
    | zero =>
      have him : i = m := by omega
      subst him
      go_wp2
      rw [Exit.noGoto_ret]
      go_ret2
      exact ⟨_, rfl, HO.out, hb⟩
    | succ g =>
      have hlt : i < m := by omega
      have hRx := HR.out.below hb
      have ci := hRx.cell i hlt
      obtain ⟨ti, isi, t1, t2, TW⟩ := worst_row (A i) (C i) (L i) wr (hRx.row i hlt) (hRx.wf i hlt) (hRx.le i hlt)
      have rki := HRK.out i
      have HRX := Lib.hid hRx
      clear hRx
      have i0' : (i : Int) < (m : Int) := by omega
      cases isi with
      | false =>
        have hL0 := t2 rfl
        have r0 : Hid (R i = 0) := Lib.hid (by rw [rki, rk_none hL0])
        obtain ⟨Ai, hAi⟩ : ∃ x, A i = x := ⟨_, rfl⟩
        obtain ⟨Ci, hCi⟩ : ∃ x, C i = x := ⟨_, rfl⟩
        rw [hAi, hCi, hL0] at ci TW
        clear t1 t2 rki hL0 hAi hCi
        go_wp2_with (go_at_call 22; refine (TW.out 0).mono ?_; rintro e w' ⟨rfl, rfl⟩)
        clear TW HRX
        obtain ⟨wo, hwo⟩ : ∃ wo : World, wo = wr := ⟨_, rfl⟩
        go_loopg [4, 30] i (fun g s4 s30 wx => ∃ k : Nat, k + g = i ∧ s30 = .int .i64 k ∧ s4 = .slice a4 i c4 ∧ Hid (wx.ownsRow w.heap.size 3 1 (.slice a4 i c4) i (nv (ord R i))) ∧ Below w.heap.size w wx)
        case atStart => exact ⟨0, by omega, rfl, rfl, HO, hb⟩
        case round =>
          clear hwo HO hb ci
          obtain ⟨k, hkg, rfl, rfl, HO, hb⟩ := hrel
          cases gk with
          | zero =>
            have hki : k = i := by omega
            subst hki
            have hown := HO.out
            go_wp2_with (at_builtin; refine wpList_append_own _ rfl _ _ 39 rfl w.heap.size 3 i0 (.int .i64 0) 1 8 Try.underlying39 hi hz0 hz1 hz2 rfl (by decide) _ _ _ rfl (hown.alloc _) ⟨wr.heap.size, 0, none⟩ 1 1 [.int .i64 (k : Int)] rfl rfl ?c1 ?c2 ?c3 ?c4 ?c5 ?_)
            case c1 => exact row1 _ _
            case c2 => simp [Value.oneCell']
            case c3 => unfold maxLen; omega
            case c4 => omega
            case c5 => have := hb.size; simp; omega
            intro v' w1 hown' hgrow _
            obtain ⟨g1, g2⟩ := rel_more hb.size hown hb hown' hgrow
            obtain ⟨a5, c5, rfl⟩ := own_slice g1
            clear hown' hgrow hown hb HO
            have G1 : Hid (w1.ownsRow w.heap.size 3 1 (.slice a5 (k + 1) c5) (k + 1) (nv (ord R (k + 1)))) := Lib.hid (by
              have e : ord R (k + 1) = ord R k ++ [k] := by
                rw [ord]; exact ins_end R k _ (fun j _ => by rw [r0.out]; omega)
              rw [e]; exact g1)
            clear g1
            go_wp2
            go_roundg g
            case measure => omega
            case rel => exact ⟨k + 1, c5, a5, by omega, by go_num, rfl, G1, g2⟩
          | succ g2 =>
            have hki : k < i := by omega
            obtain ⟨g4, c4', hv, _, _, _, _, hc4⟩ := own_open HO.out (by omega)
            cases hv
            have ck := hc4 k hki
            have hjm := ord_getD R m i k (by omega) hki
            obtain ⟨j, hj⟩ : ∃ j, (ord R i).getD k 0 = j := ⟨_, rfl⟩
            rw [hj] at ck hjm
            have hRx := HR.out.below hb
            have cj := hRx.cell j hjm
            obtain ⟨tj, isj, _, _, TJ⟩ := worst_row (A j) (C j) (L j) wr (hRx.row j hjm) (hRx.wf j hjm) (hRx.le j hjm)
            obtain ⟨Aj, hAj⟩ : ∃ x, A j = x := ⟨_, rfl⟩
            obtain ⟨Cj, hCj⟩ : ∃ x, C j = x := ⟨_, rfl⟩
            obtain ⟨nj, hnj⟩ : ∃ x, (L j).length = x := ⟨_, rfl⟩
            rw [hAj, hCj, hnj] at cj TJ
            have j0 : (j : Int) < (m : Int) := by omega
            have k0 : (k : Int) < (i : Int) := by omega
            clear hj hAj hCj hnj hRx hc4
            go_wp2_with (go_at_call 22; refine (TJ.out 0).mono ?_; rintro e w' ⟨rfl, rfl⟩)
            go_quiet (fail)
            go_wp2
            go_roundg g2
            case measure => omega
            case rel => exact ⟨k + 1, by omega, by go_num, rfl, Lib.hid (own_drewN HO.out _), bdrewN hb _⟩
      | true =>
        obtain ⟨t3, t4, t5⟩ := t1 rfl
        obtain ⟨xi, hxi⟩ : ∃ x, (L i).getD ti 0 = x := ⟨_, rfl⟩
        have r0 : Hid (R i = key xi + 1) := Lib.hid (by rw [rki, rk_some t3 t4, hxi])
        have wxi : xi < 18446744073709551616 := by rw [← hxi]; exact HR.out.wf i hlt ti t5
        have XI : Hid (∀ W : World, Below w.heap.size w W → ∃ bi oi, A i = some ⟨bi, oi, none⟩ ∧ W.cell? ⟨bi, oi + ti, none⟩ = some (.float .f64 xi)) := Lib.hid (fun W hW => by
          obtain ⟨bi, oi, e, hc⟩ := (HR.out.below hW).row i hlt t3
          exact ⟨bi, oi, e, by rw [hc ti t5, hxi]⟩)
        have WXI := Lib.hid wxi
        obtain ⟨Ai, hAi⟩ : ∃ x, A i = x := ⟨_, rfl⟩
        obtain ⟨Ci, hCi⟩ : ∃ x, C i = x := ⟨_, rfl⟩
        obtain ⟨ni, hni⟩ : ∃ x, (L i).length = x := ⟨_, rfl⟩
        rw [hAi, hCi, hni] at ci TW
        rw [hAi] at XI
        rw [hni] at t3 t5
        clear t1 t2 t4 rki hAi hCi hni hxi wxi
        have ti0 : (ti : Int) < (ni : Int) := by omega
        go_wp2_with (go_at_call 22; refine (TW.out 0).mono ?_; rintro e w' ⟨rfl, rfl⟩)
        clear TW HRX
        obtain ⟨wo, hwo⟩ : ∃ wo : World, wo = wr := ⟨_, rfl⟩
        go_loopg [4, 30] i (fun g s4 s30 wx => ∃ k : Nat, k + g = i ∧ s30 = .int .i64 k ∧ s4 = .slice a4 i c4 ∧ Hid (wx.ownsRow w.heap.size 3 1 (.slice a4 i c4) i (nv (ord R i))) ∧ Hid (∀ j, j < k → ¬ R ((ord R i).getD j 0) < R i) ∧ Below w.heap.size w wx)
        case atStart => exact ⟨0, by omega, rfl, rfl, HO, Lib.hid (fun j hj => absurd hj (by omega)), hb⟩
        case round =>
          clear hwo HO hb ci
          obtain ⟨k, hkg, rfl, rfl, HO, HN, hb⟩ := hrel
          cases gk with
          | zero =>
            have hki : k = i := by omega
            subst hki
            have hown := HO.out
            go_wp2_with (at_builtin; refine wpList_append_own _ rfl _ _ 39 rfl w.heap.size 3 i0 (.int .i64 0) 1 8 Try.underlying39 hi hz0 hz1 hz2 rfl (by decide) _ _ _ rfl (hown.alloc _) ⟨wr.heap.size, 0, none⟩ 1 1 [.int .i64 (k : Int)] rfl rfl ?c1 ?c2 ?c3 ?c4 ?c5 ?_)
            case c1 => exact row1 _ _
            case c2 => simp [Value.oneCell']
            case c3 => unfold maxLen; omega
            case c4 => omega
            case c5 => have := hb.size; simp; omega
            intro v' w1 hown' hgrow _
            obtain ⟨g1, g2⟩ := rel_more hb.size hown hb hown' hgrow
            obtain ⟨a5, c5, rfl⟩ := own_slice g1
            clear hown' hgrow hown hb HO
            have G1 : Hid (w1.ownsRow w.heap.size 3 1 (.slice a5 (k + 1) c5) (k + 1) (nv (ord R (k + 1)))) := Lib.hid (by
              have e : ord R (k + 1) = ord R k ++ [k] := by
                rw [ord]; exact ins_end R k _ (fun j hj => HN.out j (by rw [ord_len] at hj; exact hj))
              rw [e]; exact g1)
            clear g1
            go_wp2
            go_roundg g
            case measure => omega
            case rel => exact ⟨k + 1, c5, a5, by omega, by go_num, rfl, G1, g2⟩
          | succ g2 =>
            have hki : k < i := by omega
            obtain ⟨g4, c4', hv, hg4, hg4', hcap4, _, hc4⟩ := own_open HO.out (by omega)
            cases hv
            have ck := hc4 k hki
            have HC4 := Lib.hid hc4
            have hjm := ord_getD R m i k (by omega) hki
            obtain ⟨j, hj⟩ : ∃ j, (ord R i).getD k 0 = j := ⟨_, rfl⟩
            have HJ := Lib.hid hj
            rw [hj] at ck hjm
            have hRx := HR.out.below hb
            have cj := hRx.cell j hjm
            have rkj := HRK.out j
            obtain ⟨tj, isj, u1, u2, TJ⟩ := worst_row (A j) (C j) (L j) wr (hRx.row j hjm) (hRx.wf j hjm) (hRx.le j hjm)
            have j0 : (j : Int) < (m : Int) := by omega
            have k0 : (k : Int) < (i : Int) := by omega
            have k1 : k ≤ c4 := by omega
            have k2 : k < c4 := by omega
            have k3 : k ≤ i := by omega
            have k4 : ¬ c4 = k := by omega
            clear hj hc4
            cases isj with
            | false =>
              have hlt' : Hid (R j < R i) := Lib.hid (by rw [rkj, rk_none (u2 rfl), r0.out]; omega)
              obtain ⟨Aj, hAj⟩ : ∃ x, A j = x := ⟨_, rfl⟩
              obtain ⟨Cj, hCj⟩ : ∃ x, C j = x := ⟨_, rfl⟩
              obtain ⟨nj, hnj⟩ : ∃ x, (L j).length = x := ⟨_, rfl⟩
              rw [hAj, hCj, hnj] at cj TJ
              clear hAj hCj hnj hRx u1 u2 rkj
              go_wp2_with (go_at_call 22; refine (TJ.out 0).mono ?_; rintro e w' ⟨rfl, rfl⟩)
              go_quiet (fail)
              go_wp2
              have hl4 := ord_len R i
              have HD := Lib.hid (part_drop (k := k) hl4 HC4.out)
              have HT4 := Lib.hid (part_take (k := k) hl4 HC4.out)
              have lD : Hid ((nv ((ord R i).drop k)).length = (i - k) * 1) := Lib.hid (by simp [nv, hl4])
              have lT : Hid ((nv ((ord R i).take k)).length = k * 1) := Lib.hid (by simp [nv, hl4]; omega)
              have hnext : Hid (ord R (i + 1) = (ord R i).take k ++ i :: (ord R i).drop k) := Lib.hid (by
                rw [ord]; exact ins_mid R i k _ (by rw [hl4]; exact hki) HN.out (by rw [HJ.out]; exact hlt'.out))
              clear hl4
              go_region_law (first
                | (refine step_append_grows rfl (.tmp 68) (.tmp 71) 39 rfl 3 i0 (.int .i64 0) 1 8 Try.underlying39 hi hz0 hz1 hz2 rfl (by decide) (some ⟨wr.heap.size, 0, none⟩) 1 1 [.int .i64 (i : Int)] (by simp [Act.eval]) (fun h => by cases h) rfl (fun b' hb' j u hu => by cases hb'; exact row1d wr _ _ j u hu) ⟨g4, k, none⟩ (i - k) (c4 - k) (nv ((ord R i).drop k)) (by simp [Act.eval]) lD.out (fun j u hu => past hg4' (HD.out j u hu)) (nv_one _) (by omega) (by unfold maxLen; omega) (by omega) ?_; intro v1 w1 hown1 hgrow1; obtain ⟨g6, c6, rfl, hg6, hc6⟩ := own_open2 hown1 (by omega))
                | (refine step_append_grows rfl (.tmp 66) (.tmp 72) 39 rfl 3 i0 (.int .i64 0) 1 8 Try.underlying39 hi hz0 hz1 hz2 rfl (by decide) (some ⟨g4, 0, none⟩) k k (nv ((ord R i).take k)) (by simp [Act.eval]) (fun h => by cases h) lT.out (fun b' hb' j u hu => by cases hb'; exact hgrow1.cell (past hg4' (HT4.out j u hu)) (by simp)) ⟨g6, 0, none⟩ (1 + (i - k)) c6 ([.int .i64 (i : Int)] ++ nv ((ord R i).drop k)) (by simp [Act.eval]) (by rw [List.length_append, lD.out]; simp) hc6.out (one_nv _ _) (by omega) (by unfold maxLen; omega) (by omega) ?_; intro v2 w2 hown2 hgrow2))
              obtain ⟨G1, G2⟩ := rel_mid hb hb.size hgrow1 hgrow2 hown2 hnext.out
              rw [show k + (1 + (i - k)) = i + 1 by omega] at G1
              obtain ⟨a5, c5, rfl⟩ := own_slice G1
              have G3 := Lib.hid G1
              clear G1 hown1 hown2 hgrow1 hgrow2 hc6 hg6 HD HT4 lD lT hnext HO HC4 hb ck cj
              go_wp2
              go_roundg g
              case measure => omega
              case rel => exact ⟨i + 1, c5, a5, by omega, by go_num, rfl, G3, G2⟩
            | true =>
              obtain ⟨u3, u4, u5⟩ := u1 rfl
              obtain ⟨xj, hxj⟩ : ∃ x, (L j).getD tj 0 = x := ⟨_, rfl⟩
              have wxj : xj < 18446744073709551616 := by rw [← hxj]; exact HR.out.wf j hjm tj u5
              obtain ⟨bj, oj, ej, hcj⟩ := hRx.row j hjm u3
              have xcj := hcj tj u5
              rw [hxj] at xcj
              obtain ⟨bi, oi, ei, xci⟩ := XI.out wr hb
              have hRj : R j = key xj + 1 := by rw [rkj, rk_some u3 u4, hxj]
              have hcmp : 0 < cmp xi xj ↔ R j < R i := by rw [cmp_pos_iff, hRj, r0.out]; omega
              have hcc := fun w => compare_any xi xj WXI.out wxj w
              obtain ⟨c, hcv⟩ : ∃ c, cmp xi xj = c := ⟨_, rfl⟩
              rw [hcv] at hcmp hcc
              have CC := Lib.hid hcc
              obtain ⟨Cj, hCj⟩ : ∃ x, C j = x := ⟨_, rfl⟩
              obtain ⟨nj, hnj⟩ : ∃ x, (L j).length = x := ⟨_, rfl⟩
              rw [ej, hCj, hnj] at cj TJ
              rw [hnj] at u5
              subst ei
              have tj0 : (tj : Int) < (nj : Int) := by omega
              clear hCj hnj hRx u1 u2 u3 u4 rkj hxj hRj hcc hcv hcj ej wxj
              by_cases hpos : 0 < c
              · have hlt' : Hid (R j < R i) := Lib.hid (hcmp.1 hpos)
                clear hcmp
                go_wp2_with (go_at_call 22; refine (TJ.out 0).mono ?_; rintro e w' ⟨rfl, rfl⟩)
                go_quiet ((go_at_call 20; exact quiet_left (CC.out _)))
                go_wp2
                have hl4 := ord_len R i
                have HD := Lib.hid (part_drop (k := k) hl4 HC4.out)
                have HT4 := Lib.hid (part_take (k := k) hl4 HC4.out)
                have lD : Hid ((nv ((ord R i).drop k)).length = (i - k) * 1) := Lib.hid (by simp [nv, hl4])
                have lT : Hid ((nv ((ord R i).take k)).length = k * 1) := Lib.hid (by simp [nv, hl4]; omega)
                have hnext : Hid (ord R (i + 1) = (ord R i).take k ++ i :: (ord R i).drop k) := Lib.hid (by
                  rw [ord]; exact ins_mid R i k _ (by rw [hl4]; exact hki) HN.out (by rw [HJ.out]; exact hlt'.out))
                clear hl4
                go_region_law (first
                  | (refine step_append_grows rfl (.tmp 68) (.tmp 71) 39 rfl 3 i0 (.int .i64 0) 1 8 Try.underlying39 hi hz0 hz1 hz2 rfl (by decide) (some ⟨wr.heap.size, 0, none⟩) 1 1 [.int .i64 (i : Int)] (by simp [Act.eval]) (fun h => by cases h) rfl (fun b' hb' j u hu => by cases hb'; exact row1d wr _ _ j u hu) ⟨g4, k, none⟩ (i - k) (c4 - k) (nv ((ord R i).drop k)) (by simp [Act.eval]) lD.out (fun j u hu => past hg4' (HD.out j u hu)) (nv_one _) (by omega) (by unfold maxLen; omega) (by omega) ?_; intro v1 w1 hown1 hgrow1; obtain ⟨g6, c6, rfl, hg6, hc6⟩ := own_open2 hown1 (by omega))
                  | (refine step_append_grows rfl (.tmp 66) (.tmp 72) 39 rfl 3 i0 (.int .i64 0) 1 8 Try.underlying39 hi hz0 hz1 hz2 rfl (by decide) (some ⟨g4, 0, none⟩) k k (nv ((ord R i).take k)) (by simp [Act.eval]) (fun h => by cases h) lT.out (fun b' hb' j u hu => by cases hb'; exact hgrow1.cell (past hg4' (HT4.out j u hu)) (by simp)) ⟨g6, 0, none⟩ (1 + (i - k)) c6 ([.int .i64 (i : Int)] ++ nv ((ord R i).drop k)) (by simp [Act.eval]) (by rw [List.length_append, lD.out]; simp) hc6.out (one_nv _ _) (by omega) (by unfold maxLen; omega) (by omega) ?_; intro v2 w2 hown2 hgrow2))
                obtain ⟨G1, G2⟩ := rel_mid hb hb.size hgrow1 hgrow2 hown2 hnext.out
                rw [show k + (1 + (i - k)) = i + 1 by omega] at G1
                obtain ⟨a5, c5, rfl⟩ := own_slice G1
                have G3 := Lib.hid G1
                clear G1 hown1 hown2 hgrow1 hgrow2 hc6 hg6 HD HT4 lD lT hnext HO HC4 hb ck cj
                go_wp2
                go_roundg g
                case measure => omega
                case rel => exact ⟨i + 1, c5, a5, by omega, by go_num, rfl, G3, G2⟩
              · have hge := fun h => hpos (hcmp.2 h)
                have HN' : Hid (∀ j, j < k + 1 → ¬ R ((ord R i).getD j 0) < R i) := Lib.hid (fun q hq => by
                  by_cases e : q = k
                  · subst e; rw [HJ.out]; exact hge
                  · exact HN.out q (by omega))
                clear hcmp hge
                go_wp2_with (go_at_call 22; refine (TJ.out 0).mono ?_; rintro e w' ⟨rfl, rfl⟩)
                go_quiet ((go_at_call 20; exact quiet_left (CC.out _)))
                go_wp2
                go_roundg g2
                case measure => omega
                case rel => exact ⟨k + 1, by omega, by go_num, rfl, Lib.hid (own_drewN HO.out _), HN', bdrewN hb _⟩
end Go.Proofs.Ytemeahbggidbkaa.Own
