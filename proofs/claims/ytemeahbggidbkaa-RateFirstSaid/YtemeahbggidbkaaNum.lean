/- What the functions of rate on single floats come to. -/
import Derived.Test.YtemeahbggidbkaaRows
import Derived.Test.YtemeahbggidbkaaBt
import Derived.WalkKit
import Derived.WalkSpells
import Derived.WalkLawsBesides
import Derived.Laws.FloatArith
import Derived.Deep.QuietTactic
import Derived.BigQuiet
import Derived.RegionTactic
import Derived.Lib.Hide
namespace Go.Proofs.Ytemeahbggidbkaa.Own
open Go.RowKit Go.Proofs.Ytemeahbggidbkaa.Fl
open Ieee (double)
theorem neq_self (x : Nat) : (FloatKind.f64.format.order x x != some .eq) = isNaN x := by
  have h : (FloatKind.f64.format.order x x == some .eq) = feq x x := order_eq x x
  rw [bne, h, feq_self]; simp
theorem isnan_any (x : Nat) (w : World) : Calls Try.prog 28 #[.float .f64 x] w fun e w' => e = .returned (.bool (isNaN x)) ∧ w = w' := by
  go_enter Try.func28, Try.ntmps28
  go_wp2
  go_ret
  exact ⟨by rw [← neq_self]; rfl, rfl⟩
theorem run_bits (x : Nat) (w : World) : (callFunc 27 #[.float .f64 x]).run Try.prog w = .ok (.value (.int .u64 x)) w := by
  rw [run_callFunc_extern Try.func27 (by kernel_rfl) (by kernel_rfl) (by kernel_rfl) (show Extern.find Try.f27 = some Extern.MathFloatBits.float64bits by kernel_rfl)]; rfl
theorem wraps_u64 (n : Int) (h₀ : 0 ≤ n) (h₁ : n < 2 ^ 64) : IntKind.u64.wrap n = n := by
  have e : IntKind.u64.wrap n = n % 18446744073709551616 := by simp [IntKind.wrap, IntKind.bits, IntKind.signed]
  rw [e]; omega
theorem or_top (x : Nat) (h : x < 9223372036854775808) : bits .or .u64 x 9223372036854775808 = ((9223372036854775808 + x : Nat) : Int) := by
  have c : bits .or .u64 x 9223372036854775808 = bits .or .u64 9223372036854775808 x := by simp only [bits]; rw [BitVec.or_comm]
  rw [c, bits_join .u64 64 (by decide) wraps_u64 63 9223372036854775808 x (by decide) (by decide) (by decide) (by omega) (by omega) (by omega)]
  omega
theorem not_all (x : Nat) (h : x < 18446744073709551616) : bits .xor .u64 IntKind.u64.max x = ((18446744073709551615 - x : Nat) : Int) := by
  have e : BitVec.ofInt 64 IntKind.u64.max = BitVec.allOnes 64 := by decide
  show IntKind.u64.wrap (((BitVec.ofInt 64 IntKind.u64.max ^^^ BitVec.ofInt 64 (x : Int)).toNat : Nat) : Int) = _
  rw [e, BitVec.allOnes_xor, BitVec.ofInt_natCast, BitVec.toNat_not, BitVec.toNat_ofNat, Nat.mod_eq_of_lt (by omega), wraps_u64 _ (by omega) (by omega)]
theorem key_any (x : Nat) (hx : x < 18446744073709551616) (w : World) : Calls Try.prog 29 #[.float .f64 x] w fun e w' => e = .returned (.int .u64 (key x)) ∧ w = w' := by
  have hb := run_bits x
  cases h : isNaN x
  · by_cases hs : x < 9223372036854775808
    · have h1 : ((x : Int) / 9223372036854775808 == 1) = false := by
        have : (x : Int) / 9223372036854775808 = 0 := by omega
        rw [this]; rfl
      have hk : Hid ((key x : Int) = bits .or .u64 x 9223372036854775808) := Lib.hid (by
        have s : sgn x = false := by unfold sgn; rw [Nat.div_eq_of_lt hs]; rfl
        have r : rung x = x := Nat.mod_eq_of_lt hs
        rw [or_top x hs]; unfold key; rw [h, s, r]; rfl)
      go_enter Try.func29, Try.ntmps29
      go_wp2_with (go_at_call 28; refine (isnan_any x _).mono ?_; rintro e w' ⟨rfl, rfl⟩; rw [h])
      go_ret
      exact ⟨by rw [hk.out]; rfl, rfl⟩
    · have h1 : ((x : Int) / 9223372036854775808 == 1) = true := by
        have : (x : Int) / 9223372036854775808 = 1 := by omega
        rw [this]; rfl
      have hu : IntKind.u64.signed = false := rfl
      have hk : Hid ((key x : Int) = bits .xor .u64 IntKind.u64.max x) := Lib.hid (by
        have s : sgn x = true := by
          unfold sgn
          have : x / 9223372036854775808 = 1 := by omega
          rw [this]; rfl
        have r : rung x = x - 9223372036854775808 := by unfold rung; omega
        rw [not_all x hx]; unfold key; rw [h, s, r]; simp; omega)
      go_enter Try.func29, Try.ntmps29
      go_wp2_with (go_at_call 28; refine (isnan_any x _).mono ?_; rintro e w' ⟨rfl, rfl⟩; rw [h])
      go_ret
      exact ⟨by rw [hk.out]; rfl, rfl⟩
  · have hk : Hid ((key x : Int) = 18446744073709551615) := Lib.hid (by rw [key_nan h]; rfl)
    go_enter Try.func29, Try.ntmps29
    go_wp2_with (go_at_call 28; refine (isnan_any x _).mono ?_; rintro e w' ⟨rfl, rfl⟩; rw [h])
    go_ret
    exact ⟨by rw [hk.out]; rfl, rfl⟩

set_option maxHeartbeats 400000 in
theorem compare_any (a b : Nat) (ha : a < 18446744073709551616) (hb : b < 18446744073709551616) (w : World) : Calls Try.prog 20 #[.float .f64 a, .float .f64 b] w fun e w' => e = .returned (.int .i64 (cmp a b)) ∧ w = w' := by
  have ka := key_any a ha
  have kb := key_any b hb
  obtain ⟨p, hp⟩ : ∃ p, key a = p := ⟨_, rfl⟩
  obtain ⟨q, hq⟩ : ∃ q, key b = q := ⟨_, rfl⟩
  have hc : Hid (cmp a b = if p < q then -1 else if q < p then 1 else 0) := Lib.hid (by unfold cmp; rw [hp, hq])
  rw [hp] at ka; rw [hq] at kb
  have KA := Lib.hid ka
  have KB := Lib.hid kb
  clear ka kb hp hq
  rcases (show p < q ∨ (¬ p < q ∧ q < p) ∨ (¬ p < q ∧ ¬ q < p) by omega) with h | ⟨h, h'⟩ | ⟨h, h'⟩
  all_goals
    go_enter Try.func20, Try.ntmps20
    go_wp2_with fail
    refine (KA.out _).mono ?_
    rintro e w' ⟨rfl, rfl⟩
    go_wp2_with fail
    refine (KB.out _).mono ?_
    rintro e w' ⟨rfl, rfl⟩
    go_wp2
    go_ret
    exact ⟨by rw [hc.out]; simp [*], rfl⟩

/-! ### arithmetic -/
/-- the bits of the NaN that the tape gives for an operation without an answer -/
def nanW (x y : Nat) (w : World) : Nat := (Question.nanBits .f64 x y).cut (w.tape w.drawn (.nanBits .f64 x y))
theorem nanW_nan (x y : Nat) (w : World) : isNaN (nanW x y w) = true ∧ nanW x y w < 18446744073709551616 := by
  unfold nanW
  generalize w.tape w.drawn (.nanBits .f64 x y) = t
  simp only [Question.cut]
  have h1 := Nat.mod_lt t (show 0 < 2 by decide)
  have h2 := Nat.mod_lt (t / 2) (show 0 < 2 ^ 52 - 1 by decide)
  generalize t % 2 = a at *
  generalize t / 2 % (2 ^ 52 - 1) = b at *
  have h3 : b < 4503599627370495 := h2
  have e1 : (2 : Nat) ^ 63 = 9223372036854775808 := by decide
  rw [e1]
  unfold isNaN rung
  refine ⟨decide_eq_true (by omega), by omega⟩
theorem run_arith_some {op : BinOp} {x y r : Nat} (h : floatBits op .f64 x y = some r) (t : TypeId) (w : World) : (binOp op t (.float .f64 x) (.float .f64 y)).run Try.prog w = .ok (.float .f64 r) w :=
  run_float_arith w op t .f64 x y r h
theorem run_add_none {x y : Nat} (h : double.add x y = none) (t : TypeId) (w : World) : (binOp .add t (.float .f64 x) (.float .f64 y)).run Try.prog w = .ok (.float .f64 (nanW x y w)) w.drew := by
  have h' : FloatKind.f64.format.add x y = none := h
  simp [binOp, Op.floatArith, h', nanW, Question.forced]
theorem run_quo_none {x y : Nat} (h : double.div x y = none) (t : TypeId) (w : World) : (binOp .quo t (.float .f64 x) (.float .f64 y)).run Try.prog w = .ok (.float .f64 (nanW x y w)) w.drew := by
  have h' : FloatKind.f64.format.div x y = none := h
  simp [binOp, Op.floatArith, h', nanW, Question.forced]

/-- 'r' is what comes of it; where there is no answer: some NaN -/
def Is (o : Option Nat) (r : Nat) : Prop := r < 18446744073709551616 ∧ (o = some r ∨ o = none ∧ isNaN r = true)
theorem same_self (r : Nat) : same r r = true := by unfold same; cases isNaN r <;> simp
theorem Is.same {o : Option Nat} {r r' : Nat} (h : Is o r) (h' : Is o r') : Fl.same r r' = true := by
  rcases h.2 with a | ⟨a, b⟩ <;> rcases h'.2 with c | ⟨c, d⟩
  · rw [a] at c; cases c; exact same_self r
  · rw [a] at c; cases c
  · rw [a] at c; cases c
  · unfold Fl.same; rw [b, d]; rfl
theorem add_bound {x y r : Nat} (h : double.add x y = some r) : r < 18446744073709551616 := by
  have := Ieee.Format.map_write_lt double h
  exact this
theorem div_bound {x y r : Nat} (h : double.div x y = some r) : r < 18446744073709551616 := by
  have := Ieee.Format.map_write_lt double h
  exact this
theorem add_nan {x y : Nat} (h : isNaN x = true) : double.add x y = none := by
  obtain ⟨f, e⟩ := read_nan h
  unfold Ieee.Format.add
  rw [e]; cases double.read y <;> rfl
theorem div_nan {x y : Nat} (h : isNaN x = true) : double.div x y = none := by
  obtain ⟨f, e⟩ := read_nan h
  unfold Ieee.Format.div
  rw [e]; cases double.read y <;> rfl

/-! ### the reference's Same, below, Compare -/
theorem eq_feq (a b : Nat) : (FloatKind.f64.format.order a b == some .eq) = feq a b := order_eq a b
theorem lt_flt (a b : Nat) : (FloatKind.f64.format.order a b == some .lt) = flt a b := order_lt a b
theorem gt_flt (a b : Nat) : (FloatKind.f64.format.order a b == some .gt) = flt b a := order_gt a b

theorem ret_bool {a b : Bool} (h : a = b) : Ending.returned (.bool a) = .returned (.bool b) := by rw [h]
theorem ret_int {k : IntKind} {a b : Int} (h : a = b) : Ending.returned (.int k a) = .returned (.int k b) := by rw [h]
theorem beq_nat (a b : Nat) : ((a : Int) == (b : Int)) = decide (a = b) := by
  by_cases h : a = b
  · subst h; simp
  · rw [decide_eq_false h]; simp; omega
set_option maxHeartbeats 400000 in
theorem same_any (a b : Nat) (w : World) : Calls Try.prog 14 #[.float .f64 a, .float .f64 b] w fun e w' => e = .returned (.bool (same a b)) ∧ w = w' := by
  have ha := run_bits a
  have hb := run_bits b
  have na := neq_self a
  have nb := neq_self b
  have hs : Hid (same a b = if isNaN a || isNaN b then isNaN a && isNaN b else decide (a = b)) := Lib.hid rfl
  cases ca : isNaN a <;> cases cb : isNaN b <;> rw [ca] at na <;> rw [cb] at nb
  all_goals
    have CA := Lib.hid ca
    have CB := Lib.hid cb
    clear ca cb
    go_enter Try.func14, Try.ntmps14
    go_wp2
    go_ret
    refine ⟨?_, rfl⟩
    rw [hs.out, CA.out, CB.out]
    first | rfl | exact ret_bool (beq_nat a b)
set_option maxHeartbeats 400000 in
theorem below_any (x : Nat) (hx : x < 18446744073709551616) (w : World) : Calls Try.prog 30 #[.float .f64 x] w fun e w' => e = .returned (.bool (sgn x)) ∧ w = w' := by
  have hb := run_bits x
  have hs : Hid (sgn x = decide ((9223372036854775808 : Int) ≤ (x : Int))) := Lib.hid (by
    unfold sgn
    by_cases h : x < 9223372036854775808
    · rw [Nat.div_eq_of_lt h, decide_eq_false (by omega)]; rfl
    · have : x / 9223372036854775808 = 1 := by omega
      rw [this, decide_eq_true (by omega)]; rfl)
  go_enter Try.func30, Try.ntmps30
  go_wp2
  go_ret
  refine ⟨?_, rfl⟩
  rw [hs.out]; rfl
set_option maxHeartbeats 1000000 in
theorem rcompare_any (a b : Nat) (ha : a < 18446744073709551616) (hb : b < 18446744073709551616) (w : World) : Calls Try.prog 21 #[.float .f64 a, .float .f64 b] w fun e w' => e = .returned (.int .i64 (cmp a b)) ∧ w = w' := by
  rw [← rcmp_eq ha hb]
  have na := neq_self a
  have nb := neq_self b
  have he := eq_feq a b
  have hl := lt_flt a b
  have HA := Lib.hid ha
  clear ha hb
  have hs : Hid (rcmp a b = if same a b then 0 else if isNaN a then 1 else if isNaN b then -1 else if feq a b then (if sgn a then -1 else 1) else if flt a b then -1 else 1) := Lib.hid rfl
  cases cs : same a b
  · cases ca : isNaN a
    · cases cb : isNaN b
      · cases ce : feq a b
        · cases cl : flt a b
          all_goals
            rw [ca] at na; rw [cb] at nb; rw [ce] at he; rw [cl] at hl
            have C : Hid (same a b = false ∧ isNaN a = false ∧ isNaN b = false ∧ feq a b = false ∧ flt a b = _) := Lib.hid ⟨cs, ca, cb, ce, cl⟩
            clear ca cb ce cl
            go_enter Try.func21, Try.ntmps21
            go_wp2_with (go_at_call 14; refine (same_any a b _).mono ?_; rintro e w' ⟨rfl, rfl⟩; rw [cs])
            go_ret
            refine ⟨?_, rfl⟩
            obtain ⟨c1, c2, c3, c4, c5⟩ := C.out
            rw [hs.out, c1, c2, c3, c4, c5]; rfl
        · cases cg : sgn a
          all_goals
            rw [ca] at na; rw [cb] at nb; rw [ce] at he
            have C : Hid (same a b = false ∧ isNaN a = false ∧ isNaN b = false ∧ feq a b = true ∧ sgn a = _) := Lib.hid ⟨cs, ca, cb, ce, cg⟩
            clear ca cb ce hl
            go_enter Try.func21, Try.ntmps21
            go_wp2_with (first
              | (go_at_call 14; refine (same_any a b _).mono ?_; rintro e w' ⟨rfl, rfl⟩; rw [cs])
              | (go_at_call 30; refine (below_any a HA.out _).mono ?_; rintro e w' ⟨rfl, rfl⟩; rw [cg]))
            go_ret
            refine ⟨?_, rfl⟩
            obtain ⟨c1, c2, c3, c4, c5⟩ := C.out
            rw [hs.out, c1, c2, c3, c4, c5]; rfl
      · rw [ca] at na; rw [cb] at nb
        have C : Hid (same a b = false ∧ isNaN a = false ∧ isNaN b = true) := Lib.hid ⟨cs, ca, cb⟩
        clear ca cb he hl
        go_enter Try.func21, Try.ntmps21
        go_wp2_with (go_at_call 14; refine (same_any a b _).mono ?_; rintro e w' ⟨rfl, rfl⟩; rw [cs])
        go_ret
        refine ⟨?_, rfl⟩
        obtain ⟨c1, c2, c3⟩ := C.out
        rw [hs.out, c1, c2, c3]; rfl
    · rw [ca] at na
      have C : Hid (same a b = false ∧ isNaN a = true) := Lib.hid ⟨cs, ca⟩
      clear ca nb he hl
      go_enter Try.func21, Try.ntmps21
      go_wp2_with (go_at_call 14; refine (same_any a b _).mono ?_; rintro e w' ⟨rfl, rfl⟩; rw [cs])
      go_ret
      refine ⟨?_, rfl⟩
      obtain ⟨c1, c2⟩ := C.out
      rw [hs.out, c1, c2]; rfl
  · have C : Hid (same a b = true) := Lib.hid cs
    clear na nb he hl
    go_enter Try.func21, Try.ntmps21
    go_wp2_with (go_at_call 14; refine (same_any a b _).mono ?_; rintro e w' ⟨rfl, rfl⟩; rw [cs])
    go_ret
    refine ⟨?_, rfl⟩
    rw [hs.out, C.out]; rfl

/-! ### Part -/
def ofI (n : Int) : Nat := double.write (.number (decide (n < 0)) n.natAbs 0)
theorem ofI_eq (n : Int) : floatOfInt .f64 n = ofI n := rfl
theorem ofI_lt (n : Int) : ofI n < 18446744073709551616 := Ieee.Format.write_lt double _

set_option maxHeartbeats 400000 in
theorem part_any (d a : Int) (w : World) : Calls Try.prog 12 #[.int .i64 d, .int .i64 a] w fun e w' => ∃ r, e = .returned (.float .f64 r) ∧ Is (double.div (ofI d) (ofI a)) r ∧ ∃ n, w' = w.drewN n := by
  have c1 := fun n w => run_convert_int_float (P := Try.prog) (w := w) 3 23 .i64 .f64 n (by kernel_rfl) Try.underlying23
  have e1 := ofI_eq d
  have e2 := ofI_eq a
  cases h : double.div (ofI d) (ofI a) with
  | none =>
    have hq := fun w => run_quo_none h 23 w
    clear h
    go_enter Try.func12, Try.ntmps12
    go_wp2
    go_ret
    exact ⟨_, rfl, ⟨(nanW_nan _ _ _).2, .inr ⟨rfl, (nanW_nan _ _ _).1⟩⟩, 1, rfl⟩
  | some r =>
    have hq := fun w => run_arith_some (op := .quo) (x := ofI d) (y := ofI a) (r := r) h 23 w
    have hb := Lib.hid (div_bound h)
    clear h
    go_enter Try.func12, Try.ntmps12
    go_wp2
    go_ret
    exact ⟨_, rfl, ⟨hb.out, .inl rfl⟩, 0, rfl⟩

/-! ### Smooth -/
theorem fv_one' : fv c1 = 1 := fv_one
theorem c1_fin : fin c1 = true := by decide
theorem sub_pos {w : Nat} (h0 : flt 0 w = true) (h1 : flt w c1 = true) : ∃ a, double.sub c1 w = some a ∧ fin a = true ∧ rung a ≠ 0 ∧ Rd (1 - fv w) a := by
  unfold flt at h0 h1
  simp only [Bool.and_eq_true, Bool.not_eq_true', decide_eq_true_eq] at h0 h1
  have z0 : sv 0 = 0 := by decide
  have hf : fin w = true := by
    have hn := of_decide_eq_false h0.1.2
    unfold fin
    refine decide_eq_true ?_
    by_cases c : rung w = 9218868437227405312
    · exfalso
      have h2 := h0.2; have h3 := h1.2
      have h4 := V_lt (show rung c1 < rung w by rw [c]; decide)
      have h5 : sgn c1 = false := by decide
      unfold sv at h2 h3 z0
      rw [h5] at h3
      cases hs : sgn w
      · rw [hs] at h3; simp only [Bool.false_eq_true, if_false] at h3; omega
      · rw [hs] at h2; simp only [if_true] at h2; omega
    · omega
  obtain ⟨a, ha, hr⟩ := sub_fin c1_fin hf
  rw [fv_one'] at hr
  have hw0 : 0 < fv w := by
    have := (sv_lt_fv 0 w).1 h0.2
    have e : fv 0 = 0 := by rw [fv_sv, z0]; exact Rat.zero_mul _
    rw [e] at this; exact this
  have hw1 : fv w + p2 (-1074) ≤ 1 := by
    have h2 : sv w + 1 ≤ sv c1 := h1.2
    have h3 := Rat.intCast_le_intCast.2 h2
    have h4 := Rat.mul_le_mul_of_nonneg_right h3 (Rat.le_of_lt (p2_pos (-1074)))
    rw [← fv_sv, fv_one', Rat.intCast_add, Rat.add_mul, ← fv_sv] at h4
    have e : ((1 : Int) : Rat) = 1 := rfl
    rw [e, Rat.one_mul] at h4; exact h4
  have hp := p2_pos (-1074)
  have ht : (1 : Rat) ≤ top := by
    have h2 := top_bd
    have h3 := p2_le (show (0 : Int) ≤ 1023 by decide)
    rw [p2_zero] at h3; grind
  have hfa := hr.fin (by grind) (by grind)
  refine ⟨a, ha, hfa, ?_, hr⟩
  obtain ⟨s, r, rfl, hn, h5⟩ := hr
  have hs : s = false := by
    cases s
    · rfl
    · exfalso; simp only [sg, if_true] at h5; grind
  subst hs
  have e1 : rvr 1 = p2 (-1074) := by unfold rvr; rw [show V 1 = 1 from rfl]; exact Rat.one_mul _
  have h6 := (near_self 1).mono hn (by rw [e1]; simp only [sg]; grind)
  rw [rung_word _ (by omega)]; omega

theorem mul_some {x y : Nat} (hx : isNaN x = false) (hy : fin y = true) (h0 : rung y ≠ 0) : ∃ r, double.mul x y = some r := by
  by_cases hf : fin x = true
  · obtain ⟨z, hz, _⟩ := mul_fin hf hy
    exact ⟨z, hz⟩
  · have h1 := of_decide_eq_false hx
    have h2 : rung x = 9218868437227405312 := by
      unfold fin at hf
      have := of_decide_eq_false (Bool.eq_false_iff.2 hf)
      omega
    obtain ⟨m, i, e, _, h3⟩ := read_fin hy
    unfold Ieee.Format.mul
    rw [read_inf h2, e]
    have hm : m ≠ 0 := fun c => h0 (h3.1 c)
    simp only [Ieee.Datum.product, if_neg hm]
    exact ⟨_, rfl⟩

theorem flt_fin {w : Nat} (h0 : flt 0 w = true) (h1 : flt w c1 = true) : fin w = true ∧ rung w ≠ 0 := by
  unfold flt at h0 h1
  simp only [Bool.and_eq_true, Bool.not_eq_true', decide_eq_true_eq] at h0 h1
  have z0 : sv 0 = 0 := by decide
  have hn := of_decide_eq_false h0.1.2
  have h2 := h0.2; have h3 := h1.2
  rw [z0] at h2
  have h5 : sgn c1 = false := by decide
  refine ⟨decide_eq_true ?_, fun c => ?_⟩
  · by_cases c : rung w = 9218868437227405312
    · exfalso
      have h4 := V_lt (show rung c1 < rung w by rw [c]; decide)
      unfold sv at h2 h3
      rw [h5] at h3
      cases hs : sgn w
      · rw [hs] at h3; simp only [Bool.false_eq_true, if_false] at h3; omega
      · rw [hs] at h2; simp only [if_true] at h2; omega
    · omega
  · unfold sv at h2
    rw [c, V_zero] at h2
    cases hs : sgn w <;> rw [hs] at h2 <;> simp at h2

/-- what Smooth reckons -/
def smO (old x w : Nat) : Option Nat :=
  if isNaN x then some old else if isNaN old then some x else if flt 0 w = false then some old else if fle c1 w then some x
  else (double.sub c1 w).bind fun a => (double.mul old a).bind fun b => (double.mul x w).bind fun c => double.add b c

theorem fle_lt {x y : Nat} (hx : isNaN x = false) (hy : isNaN y = false) (h : fle y x = false) : flt x y = true ∧ flt y x = false ∧ feq x y = false := by
  unfold fle at h; unfold flt feq
  rw [hx, hy] at *
  simp only [Bool.not_false, Bool.true_and, decide_eq_false_iff_not, decide_eq_true_eq] at *
  omega

theorem zero_lt_one : sv 0 < sv c1 := by
  rw [sv_lt_fv, fv_one', fv_sv, show sv 0 = 0 by decide]
  have e : ((0 : Int) : Rat) * p2 (-1074) = 0 := Rat.zero_mul _
  rw [e]; decide
/-- the ways through Smooth -/
theorem ways (old x w : Nat) :
    (isNaN x = true ∧ smO old x w = some old) ∨
    (isNaN x = false ∧ isNaN old = true ∧ smO old x w = some x) ∨
    (isNaN x = false ∧ isNaN old = false ∧ flt 0 w = false ∧ flt c1 w = false ∧ feq w c1 = false ∧ smO old x w = some old) ∨
    (isNaN x = false ∧ isNaN old = false ∧ flt 0 w = true ∧ flt w c1 = false ∧ flt c1 w = true ∧ smO old x w = some x) ∨
    (isNaN x = false ∧ isNaN old = false ∧ flt 0 w = true ∧ flt w c1 = false ∧ flt c1 w = false ∧ feq w c1 = true ∧ smO old x w = some x) ∨
    (isNaN x = false ∧ isNaN old = false ∧ flt 0 w = true ∧ flt w c1 = true ∧ flt c1 w = false ∧ feq w c1 = false ∧
      ∃ a b c, double.sub c1 w = some a ∧ double.mul old a = some b ∧ double.mul x w = some c ∧ smO old x w = double.add b c) := by
  unfold smO
  cases hx : isNaN x
  · cases ho : isNaN old
    · simp only [Bool.false_eq_true, if_false]
      cases h0 : flt 0 w
      · refine .inr (.inr (.inl ⟨trivial, trivial, rfl, ?_, ?_, by simp⟩))
        · cases c : flt c1 w
          · rfl
          · exfalso
            unfold flt at h0 c
            have z0 : isNaN 0 = false := by decide
            have zc := zero_lt_one
            rw [z0] at h0
            simp only [Bool.and_eq_true, Bool.not_eq_true', decide_eq_true_eq] at c
            rw [c.1.2] at h0
            simp at h0; omega
        · cases c : feq w c1
          · rfl
          · exfalso
            unfold flt at h0; unfold feq at c
            have z0 : isNaN 0 = false := by decide
            have zc := zero_lt_one
            rw [z0] at h0
            simp only [Bool.and_eq_true, Bool.not_eq_true', decide_eq_true_eq] at c
            rw [c.1.1] at h0
            simp at h0; omega
      · have hw : isNaN w = false := by
          unfold flt at h0
          simp only [Bool.and_eq_true, Bool.not_eq_true', decide_eq_true_eq] at h0
          exact h0.1.2
        have hc : isNaN c1 = false := by decide
        cases hl : fle c1 w
        · obtain ⟨l1, l2, l3⟩ := fle_lt hw hc hl
          obtain ⟨a, ha, hfa, hra, _⟩ := sub_pos h0 l1
          obtain ⟨hfw, hrw⟩ := flt_fin h0 l1
          obtain ⟨b, hb⟩ := mul_some ho hfa hra
          obtain ⟨c, hc'⟩ := mul_some hx hfw hrw
          refine .inr (.inr (.inr (.inr (.inr ⟨trivial, trivial, rfl, l1, l2, l3, a, b, c, ha, hb, hc', ?_⟩))))
          simp [ha, hb, hc']
        · have hnl : flt w c1 = false := by
            unfold fle at hl; unfold flt
            rw [hw, hc] at *
            simp at *; exact hl
          cases hg : flt c1 w
          · refine .inr (.inr (.inr (.inr (.inl ⟨trivial, trivial, rfl, hnl, rfl, ?_, by simp⟩))))
            have := fge_eq w c1
            rw [hg, hl, Bool.false_or] at this; exact this
          · exact .inr (.inr (.inr (.inl ⟨trivial, trivial, rfl, hnl, rfl, by simp⟩)))
    · exact .inr (.inl ⟨rfl, rfl, by simp⟩)
  · exact .inl ⟨rfl, by simp⟩
set_option maxHeartbeats 1000000 in
theorem smooth_any (old x wt : Nat) (ho : old < 18446744073709551616) (hx : x < 18446744073709551616) (w : World) : Calls Try.prog 17 #[.float .f64 old, .float .f64 x, .float .f64 wt] w fun e w' => ∃ r, e = .returned (.float .f64 r) ∧ Is (smO old x wt) r ∧ ∃ n, w' = w.drewN n := by
  have nx := neq_self x
  have no := neq_self old
  have g1 := gt_flt wt 0
  have g2 := gt_flt wt c1
  have g3 := eq_feq wt c1
  have g4 := lt_flt wt c1
  unfold c1 at g2 g3 g4
  have HO := Lib.hid ho
  have HX := Lib.hid hx
  clear ho hx
  rcases ways old x wt with ⟨e1, hr⟩ | ⟨e1, e2, hr⟩ | ⟨e1, e2, e3, e4, e5, hr⟩ | ⟨e1, e2, e3, e4, e5, hr⟩ | ⟨e1, e2, e3, e4, e5, e6, hr⟩ | ⟨e1, e2, e3, e4, e5, e6, a, b, c, ha, hb, hc, hr⟩
  · rw [e1] at nx
    have E1 := Lib.hid e1
    rw [hr]
    clear e1 hr no g1 g2 g3 g4
    go_enter Try.func17, Try.ntmps17
    go_wp2_with (go_at_call 28; refine (isnan_any _ _).mono ?_; rintro e w' ⟨rfl, rfl⟩; rw [E1.out])
    go_ret
    exact ⟨_, rfl, ⟨HO.out, .inl rfl⟩, 0, rfl⟩
  · rw [e1] at nx
    rw [e2] at no
    have E1 := Lib.hid e1
    have E2 := Lib.hid e2
    rw [hr]
    clear e1 e2 hr g1 g2 g3 g4
    go_enter Try.func17, Try.ntmps17
    go_wp2_with (go_at_call 28; refine (isnan_any _ _).mono ?_; rintro e w' ⟨rfl, rfl⟩; first | rw [E1.out] | rw [E2.out])
    go_ret
    exact ⟨_, rfl, ⟨HX.out, .inl rfl⟩, 0, rfl⟩
  · rw [e1] at nx
    rw [e2] at no
    unfold c1 at e4 e5
    rw [e3] at g1
    rw [e4] at g2
    rw [e5] at g3
    have E1 := Lib.hid e1
    have E2 := Lib.hid e2
    rw [hr]
    clear e1 e2 e3 e4 e5 hr g4
    go_enter Try.func17, Try.ntmps17
    go_wp2_with (go_at_call 28; refine (isnan_any _ _).mono ?_; rintro e w' ⟨rfl, rfl⟩; first | rw [E1.out] | rw [E2.out])
    go_ret
    exact ⟨_, rfl, ⟨HO.out, .inl rfl⟩, 0, rfl⟩
  · rw [e1] at nx
    rw [e2] at no
    unfold c1 at e4 e5
    rw [e3] at g1
    rw [e4] at g4
    rw [e5] at g2
    have E1 := Lib.hid e1
    have E2 := Lib.hid e2
    rw [hr]
    clear e1 e2 e3 e4 e5 hr g3
    go_enter Try.func17, Try.ntmps17
    go_wp2_with (go_at_call 28; refine (isnan_any _ _).mono ?_; rintro e w' ⟨rfl, rfl⟩; first | rw [E1.out] | rw [E2.out])
    go_ret
    exact ⟨_, rfl, ⟨HX.out, .inl rfl⟩, 0, rfl⟩
  · rw [e1] at nx
    rw [e2] at no
    unfold c1 at e4 e5 e6
    rw [e3] at g1
    rw [e4] at g4
    rw [e5] at g2
    rw [e6] at g3
    have E1 := Lib.hid e1
    have E2 := Lib.hid e2
    rw [hr]
    clear e1 e2 e3 e4 e5 e6 hr
    go_enter Try.func17, Try.ntmps17
    go_wp2_with (go_at_call 28; refine (isnan_any _ _).mono ?_; rintro e w' ⟨rfl, rfl⟩; first | rw [E1.out] | rw [E2.out])
    go_ret
    exact ⟨_, rfl, ⟨HX.out, .inl rfl⟩, 0, rfl⟩
  · rw [e1] at nx
    rw [e2] at no
    unfold c1 at e4 e5 e6 ha
    rw [e3] at g1
    rw [e4] at g4
    rw [e5] at g2
    rw [e6] at g3
    have E1 := Lib.hid e1
    have E2 := Lib.hid e2
    have q1 := fun w => run_arith_some (op := .sub) (x := 4607182418800017408) (y := wt) (r := a) ha 23 w
    have q2 := fun w => run_arith_some (op := .mul) (x := old) (y := a) (r := b) hb 23 w
    have q3 := fun w => run_arith_some (op := .mul) (x := x) (y := wt) (r := c) hc 23 w
    rw [hr]
    clear e1 e2 e3 e4 e5 e6 hr ha hb hc
    cases h : double.add b c with
    | none =>
      have q4 := fun w => run_add_none h 23 w
      clear h
      go_enter Try.func17, Try.ntmps17
      go_wp2_with (go_at_call 28; refine (isnan_any _ _).mono ?_; rintro e w' ⟨rfl, rfl⟩; first | rw [E1.out] | rw [E2.out])
      go_ret
      exact ⟨_, rfl, ⟨(nanW_nan _ _ _).2, .inr ⟨rfl, (nanW_nan _ _ _).1⟩⟩, 1, rfl⟩
    | some r =>
      have q4 := fun w => run_arith_some (op := .add) (x := b) (y := c) (r := r) h 23 w
      have hr := Lib.hid (add_bound h)
      clear h
      go_enter Try.func17, Try.ntmps17
      go_wp2_with (go_at_call 28; refine (isnan_any _ _).mono ?_; rintro e w' ⟨rfl, rfl⟩; first | rw [E1.out] | rw [E2.out])
      go_ret
      exact ⟨_, rfl, ⟨hr.out, .inl rfl⟩, 0, rfl⟩
set_option maxHeartbeats 1000000 in
theorem rsmooth_any (old x wt : Nat) (ho : old < 18446744073709551616) (hx : x < 18446744073709551616) (w : World) : Calls Try.prog 18 #[.float .f64 old, .float .f64 x, .float .f64 wt] w fun e w' => ∃ r, e = .returned (.float .f64 r) ∧ Is (smO old x wt) r ∧ ∃ n, w' = w.drewN n := by
  have nx := neq_self x
  have no := neq_self old
  have g1 := gt_flt wt 0
  have g2 := gt_flt wt c1
  have g3 := eq_feq wt c1
  have g4 := lt_flt wt c1
  unfold c1 at g2 g3 g4
  have HO := Lib.hid ho
  have HX := Lib.hid hx
  clear ho hx
  rcases ways old x wt with ⟨e1, hr⟩ | ⟨e1, e2, hr⟩ | ⟨e1, e2, e3, e4, e5, hr⟩ | ⟨e1, e2, e3, e4, e5, hr⟩ | ⟨e1, e2, e3, e4, e5, e6, hr⟩ | ⟨e1, e2, e3, e4, e5, e6, a, b, c, ha, hb, hc, hr⟩
  · rw [e1] at nx
    rw [hr]
    clear e1 hr no g1 g2 g3 g4
    go_enter Try.func18, Try.ntmps18
    go_wp2
    go_ret
    exact ⟨_, rfl, ⟨HO.out, .inl rfl⟩, 0, rfl⟩
  · rw [e1] at nx
    rw [e2] at no
    rw [hr]
    clear e1 e2 hr g1 g2 g3 g4
    go_enter Try.func18, Try.ntmps18
    go_wp2
    go_ret
    exact ⟨_, rfl, ⟨HX.out, .inl rfl⟩, 0, rfl⟩
  · rw [e1] at nx
    rw [e2] at no
    unfold c1 at e4 e5
    rw [e3] at g1
    rw [e4] at g2
    rw [e5] at g3
    rw [hr]
    clear e1 e2 e3 e4 e5 hr g4
    go_enter Try.func18, Try.ntmps18
    go_wp2
    go_ret
    exact ⟨_, rfl, ⟨HO.out, .inl rfl⟩, 0, rfl⟩
  · rw [e1] at nx
    rw [e2] at no
    unfold c1 at e4 e5
    rw [e3] at g1
    rw [e4] at g4
    rw [e5] at g2
    rw [hr]
    clear e1 e2 e3 e4 e5 hr g3
    go_enter Try.func18, Try.ntmps18
    go_wp2
    go_ret
    exact ⟨_, rfl, ⟨HX.out, .inl rfl⟩, 0, rfl⟩
  · rw [e1] at nx
    rw [e2] at no
    unfold c1 at e4 e5 e6
    rw [e3] at g1
    rw [e4] at g4
    rw [e5] at g2
    rw [e6] at g3
    rw [hr]
    clear e1 e2 e3 e4 e5 e6 hr
    go_enter Try.func18, Try.ntmps18
    go_wp2
    go_ret
    exact ⟨_, rfl, ⟨HX.out, .inl rfl⟩, 0, rfl⟩
  · rw [e1] at nx
    rw [e2] at no
    unfold c1 at e4 e5 e6 ha
    rw [e3] at g1
    rw [e4] at g4
    rw [e5] at g2
    rw [e6] at g3
    have q1 := fun w => run_arith_some (op := .sub) (x := 4607182418800017408) (y := wt) (r := a) ha 23 w
    have q2 := fun w => run_arith_some (op := .mul) (x := old) (y := a) (r := b) hb 23 w
    have q3 := fun w => run_arith_some (op := .mul) (x := x) (y := wt) (r := c) hc 23 w
    rw [hr]
    clear e1 e2 e3 e4 e5 e6 hr ha hb hc
    cases h : double.add b c with
    | none =>
      have q4 := fun w => run_add_none h 23 w
      clear h
      go_enter Try.func18, Try.ntmps18
      go_wp2
      go_ret
      exact ⟨_, rfl, ⟨(nanW_nan _ _ _).2, .inr ⟨rfl, (nanW_nan _ _ _).1⟩⟩, 1, rfl⟩
    | some r =>
      have q4 := fun w => run_arith_some (op := .add) (x := b) (y := c) (r := r) h 23 w
      have hr := Lib.hid (add_bound h)
      clear h
      go_enter Try.func18, Try.ntmps18
      go_wp2
      go_ret
      exact ⟨_, rfl, ⟨hr.out, .inl rfl⟩, 0, rfl⟩
end Go.Proofs.Ytemeahbggidbkaa.Own
