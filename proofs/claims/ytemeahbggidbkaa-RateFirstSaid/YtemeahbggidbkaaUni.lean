/- Worst in one form, for any row. -/
import Derived.Test.YtemeahbggidbkaaRef
namespace Go.Proofs.Ytemeahbggidbkaa.Own
open Go.RowKit Go.Proofs.Ytemeahbggidbkaa.Fl

/-- which one is the worst rate, and is there one -/
def wT (l : List Nat) : Nat := if l.length = 0 then 0 else wsAt l l.length
def wH (l : List Nat) : Bool := decide (0 < l.length)
theorem worst_uni (a : Option Addr) (cap : Nat) (l : List Nat) (w : World) (hr : RF w a l) (hwf : Wf l) (hle : l.length ≤ 9223372036854775807) :
    Calls Try.prog 22 #[.slice a l.length cap] w fun e w' => e = .returned (.tuple #[.int .i64 (wT l : Int), .bool (wH l)]) ∧ w = w' := by
  by_cases h0 : l.length = 0
  · have e1 : wT l = 0 := by unfold wT; rw [if_pos h0]
    have e2 : wH l = false := by unfold wH; simp [h0]
    rw [e1, e2, h0]; exact worst_none a cap _
  · obtain ⟨b, off, rfl, hc⟩ := hr (by omega)
    have e1 : wT l = wsAt l l.length := by unfold wT; rw [if_neg h0]
    have e2 : wH l = true := by unfold wH; simp; omega
    rw [e1, e2]; exact worst_any b off cap l.length l _ rfl (by omega) hle hwf hc
theorem rworst_uni (a : Option Addr) (cap : Nat) (l : List Nat) (w : World) (hr : RF w a l) (hwf : Wf l) (hle : l.length ≤ 9223372036854775807) :
    Calls Try.prog 23 #[.slice a l.length cap] w fun e w' => e = .returned (.tuple #[.int .i64 (wT l : Int), .bool (wH l)]) ∧ ∃ d, w' = w.drewN d := by
  by_cases h0 : l.length = 0
  · have e1 : wT l = 0 := by unfold wT; rw [if_pos h0]
    have e2 : wH l = false := by unfold wH; simp [h0]
    rw [e1, e2, h0]; exact (rworst_none a cap _).mono fun _ _ ⟨he, hw⟩ => ⟨he, 0, by rw [← hw]; rfl⟩
  · obtain ⟨b, off, rfl, hc⟩ := hr (by omega)
    have e1 : wT l = wsAt l l.length := by unfold wT; rw [if_neg h0]
    have e2 : wH l = true := by unfold wH; simp; omega
    rw [e1, e2]; exact rworst_any b off cap l.length l _ rfl (by omega) hle hwf hc
theorem wT_lt {l : List Nat} (h : 0 < l.length) : wT l < l.length := by
  unfold wT; rw [if_neg (by omega)]; exact ws_lt l _ _ (Nat.le_refl _) h
theorem rk_wT {l : List Nat} (h : 0 < l.length) : rk l = key (l.getD (wT l) 0) + 1 := by
  unfold rk wT; rw [if_neg (by omega), if_neg (by omega)]
end Go.Proofs.Ytemeahbggidbkaa.Own
