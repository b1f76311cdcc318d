/- The walk of WireEncodes. -/
import Derived.Test.YtllmhablpeecfaaLawF
import Derived.Test.YtllmhablpeecfaaLawC
set_option linter.unusedVariables false
set_option linter.unusedSimpArgs false
namespace Go.Proofs.Ytllmhablpeecfaa
open Go.RowKit

theorem encB_len {xs : List Val} : (encB xs).length ≤ 1048576 := by
  unfold encB doneB
  split
  · rename_i h
    unfold doneE at h
    split at h
    · contradiction
    · split at h
      · cases h
      · omega
  · simp

set_option maxHeartbeats 800000 in
theorem wireEncodes_walk (xs : List Val) (S : Nat → Prop) (A : Option Addr) (m c : Nat) (w : World) (hr : Rc S w A (vvs xs)) (hm : Hid (xs.length = m)) (hml : Hid (m ≤ 9223372036854775807)) (hok : ∀ x ∈ xs, x.Ok) :
    Calls Try.prog 7 #[.slice A m c] w (LawP w) := by
  have HOK := Lib.hid hok
  clear hok
  go_enter Try.func7, Try.ntmps7
  go_wp2_with fail
  refine (awake_any w).mono ?_
  rintro en w1 ⟨rfl, hb1⟩
  have hr1 := hr.below hb1
  go_wp2_with fail
  refine (small_any xs S A m c w1 hr1 hm hml HOK).mono ?_
  rintro en w' ⟨rfl, rfl⟩
  by_cases hsm : xs.length ≤ 40 ∧ ∀ x ∈ xs, x.s.size ≤ 400
  · have HS : smallB xs = true := by unfold smallB; rw [decide_eq_true_eq]; exact hsm
    rw [HS]
    have h40 : m ≤ 40 := by have := hm.out; omega
    have hs4 := Lib.hid hsm.2
    clear hsm
    go_wp2_with fail
    refine (encoded_any xs S A m c w1 hr1 hm h40 hs4 HOK).mono ?_
    rintro en w2 ⟨A2, c2, rfl, ho2, hb2⟩
    have hB2 := below_then hb1 hb2 (Nat.le_refl _)
    go_wp2_with fail
    refine (rencode_any xs S A m c w2 (hr1.below hb2) hm h40 hs4 HOK).mono ?_
    rintro en w3 ⟨A3, c3, rfl, ho3, hb3⟩
    have hB3 := below_then hB2 hb3 (Nat.le_refl _)
    have ho23 := own_below ho2 hb3
    go_wp2_with fail
    refine (same_any (encB xs) (encB xs) _ _ A2 A3 _ c2 _ c3 w3 (Rc.of_own ho23) (Rc.of_own ho3) (by show _ = _; simp) (by show _ = _; simp) (by have := encB_len (xs := xs); show _ ≤ _; omega)).mono ?_
    rintro en w6 ⟨rfl, m6, rfl⟩
    rw [show decide (encB xs = encB xs) = true from by simp]
    have hB6 := below_drewN hB3 m6
    go_wp2_with fail
    go_ret
    exact law_ret rfl hB6
  · have HS : smallB xs = false := by unfold smallB; rw [decide_eq_false_iff_not]; exact hsm
    rw [HS]
    clear hsm
    go_wp2_with fail
    go_ret
    exact law_ret rfl hb1
end Go.Proofs.Ytllmhablpeecfaa
