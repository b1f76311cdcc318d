/- The walk of VersionvectorCompares. -/
import Derived.Test.YtckfopdkknckcaaVecI
set_option linter.unusedVariables false
set_option linter.unusedSimpArgs false
namespace Go.Proofs.Ytckfopdkknckcaa
open Go.RowKit
attribute [local irreducible] wpList

theorem padV_get {xs : List Int} (h : okV xs = true) (i : Nat) : (padV xs).getD i 0 = xs.getD i 0 := by
  unfold padV
  rw [if_pos h]
  by_cases hi : i < xs.length
  · simp [List.getD, List.getElem?_append_left hi]
  · rw [List.getD_eq_getElem?_getD, List.getD_eq_getElem?_getD, List.getElem?_append_right (by omega), List.getElem?_replicate]
    have : xs[i]? = none := List.getElem?_eq_none (by omega)
    rw [this]
    split <;> rfl
theorem covL_pad {xs ys : List Int} (hx : okV xs = true) (hy : okV ys = true) : covL (padV xs) (padV ys) = covL xs ys := by
  unfold covL
  simp only [padV_get hx, padV_get hy]

set_option maxRecDepth 100000 in
set_option maxHeartbeats 1600000 in
theorem compares_walk (xs : List Int) (S1 : Nat → Prop) (A1 : Option Addr) (m1 c1 : Nat) (ys : List Int) (S2 : Nat → Prop) (A2 : Option Addr) (m2 c2 : Nat) (w : World) (hr1 : Rc S1 w A1 (ivs xs)) (hm1 : Hid (xs.length = m1)) (hml1 : Hid (m1 ≤ 9223372036854775807))
    (hr2 : Rc S2 w A2 (ivs ys)) (hm2 : Hid (ys.length = m2)) (hml2 : Hid (m2 ≤ 9223372036854775807)) :
    Calls Try.prog 3 #[.slice A1 m1 c1, .slice A2 m2 c2] w (LawP w) := by
  go_enter Try.func3, Try.ntmps3
  go_wp2_with fail
  refine (few_any A1 m1 c1 w).mono ?_
  rintro en w' ⟨rfl, rfl⟩
  by_cases h1 : m1 ≤ 20
  case neg =>
    rw [decide_eq_false h1]
    clear h1
    go_wp2_with fail
    refine (awake_any _).mono ?_
    rintro en w' ⟨rfl, hb⟩
    go_wp2_with fail
    go_ret
    exact law_ret rfl hb
  rw [decide_eq_true h1]
  go_wp2_with fail
  refine (few_any A2 m2 c2 _).mono ?_
  rintro en w' ⟨rfl, rfl⟩
  by_cases h2 : m2 ≤ 20
  case neg =>
    rw [decide_eq_false h2]
    clear h2
    go_wp2_with fail
    refine (awake_any _).mono ?_
    rintro en w' ⟨rfl, hb⟩
    go_wp2_with fail
    go_ret
    exact law_ret rfl hb
  rw [decide_eq_true h2]
  go_wp2_with fail
  refine (compare_any xs ys S1 A1 m1 c1 S2 A2 m2 c2 _ hr1 hm1 hml1 hr2 hm2 hml2).mono ?_
  rintro en w3 ⟨rfl, hb3⟩
  obtain ⟨r, hr⟩ : ∃ r, r = cmpR xs ys := ⟨_, rfl⟩
  rw [← hr]
  have HR := Lib.hid hr
  clear hr
  have hx3 := hr1.below hb3
  have hy3 := hr2.below hb3
  clear hr1 hr2
  go_wp2_with fail
  refine (rvalid_any xs S1 A1 m1 c1 w3 hx3 hm1 (by omega)).mono ?_
  rintro en w' ⟨rfl, rfl⟩
  cases hox : okV xs with
  | false =>
    have hr : r = (0, 1) := by rw [HR.out, cmpR, hox]; rfl
    subst hr
    clear hox HR
    go_wp2_with fail
    refine (awake_any _).mono ?_
    rintro en w4 ⟨rfl, hb4⟩
    go_wp2_with fail
    go_ret
    exact law_ret rfl (below_then hb3 hb4 (Nat.le_refl _))
  | true =>
    have HOX := Lib.hid hox
    clear hox
    go_wp2_with fail
    refine (rvalid_any ys S2 A2 m2 c2 _ hy3 hm2 (by omega)).mono ?_
    rintro en w' ⟨rfl, rfl⟩
    cases hoy : okV ys with
    | false =>
      have hr : r = (0, 1) := by rw [HR.out, cmpR, hoy, HOX.out]; rfl
      subst hr
      clear hoy HR
      go_wp2_with fail
      refine (awake_any _).mono ?_
      rintro en w4 ⟨rfl, hb4⟩
      go_wp2_with fail
      go_ret
      exact law_ret rfl (below_then hb3 hb4 (Nat.le_refl _))
    | true =>
      have HOY := Lib.hid hoy
      clear hoy
      have hrn : r = (if covL xs ys && covL ys xs then 0 else if covL ys xs then 1 else if covL xs ys then 2 else 3, 0) := by
        rw [HR.out, cmpR, HOX.out, HOY.out]
        show (cmpN xs ys, (0 : Int)) = _
        rw [cmpN, covL_pad HOX.out HOY.out, covL_pad HOY.out HOX.out]
      have HRN := Lib.hid hrn
      clear hrn
      go_wp2_with fail
      refine (rcovers_any xs ys S1 S2 A1 A2 m1 c1 m2 c2 _ hx3 hy3 hm1 hm2).mono ?_
      rintro en w' ⟨rfl, rfl⟩
      cases hq1 : covL xs ys with
      | true =>
        have HQ1 := Lib.hid hq1
        clear hq1
        go_wp2_with fail
        refine (rcovers_any ys xs S2 S1 A2 A1 m2 c2 m1 c1 _ hy3 hx3 hm2 hm1).mono ?_
        rintro en w' ⟨rfl, rfl⟩
        cases hq2 : covL ys xs with
        | true =>
          have hr : r = (0, 0) := by rw [HRN.out, HQ1.out, hq2]; rfl
          subst hr
          clear hq2 HR HRN
          go_wp2_with fail
          refine (awake_any _).mono ?_
          rintro en w4 ⟨rfl, hb4⟩
          go_wp2_with fail
          go_ret
          exact law_ret rfl (below_then hb3 hb4 (Nat.le_refl _))
        | false =>
          have hr : r = (2, 0) := by rw [HRN.out, HQ1.out, hq2]; rfl
          subst hr
          have HQ2 := Lib.hid hq2
          clear hq2 HR HRN
          go_wp2_with fail
          refine (rcovers_any ys xs S2 S1 A2 A1 m2 c2 m1 c1 _ hy3 hx3 hm2 hm1).mono ?_
          rintro en w' ⟨rfl, rfl⟩
          rw [HQ2.out]
          go_wp2_with fail
          refine (rcovers_any xs ys S1 S2 A1 A2 m1 c1 m2 c2 _ hx3 hy3 hm1 hm2).mono ?_
          rintro en w' ⟨rfl, rfl⟩
          rw [HQ1.out]
          go_wp2_with fail
          refine (awake_any _).mono ?_
          rintro en w4 ⟨rfl, hb4⟩
          go_wp2_with fail
          go_ret
          exact law_ret rfl (below_then hb3 hb4 (Nat.le_refl _))
      | false =>
        have HQ1 := Lib.hid hq1
        clear hq1
        go_wp2_with fail
        refine (rcovers_any ys xs S2 S1 A2 A1 m2 c2 m1 c1 _ hy3 hx3 hm2 hm1).mono ?_
        rintro en w' ⟨rfl, rfl⟩
        cases hq2 : covL ys xs with
        | true =>
          have hr : r = (1, 0) := by rw [HRN.out, HQ1.out, hq2]; rfl
          subst hr
          clear hq2 HR HRN
          go_wp2_with fail
          refine (awake_any _).mono ?_
          rintro en w4 ⟨rfl, hb4⟩
          go_wp2_with fail
          go_ret
          exact law_ret rfl (below_then hb3 hb4 (Nat.le_refl _))
        | false =>
          have hr : r = (3, 0) := by rw [HRN.out, HQ1.out, hq2]; rfl
          subst hr
          clear hq2 HR HRN
          go_wp2_with fail
          refine (rcovers_any xs ys S1 S2 A1 A2 m1 c1 m2 c2 _ hx3 hy3 hm1 hm2).mono ?_
          rintro en w' ⟨rfl, rfl⟩
          rw [HQ1.out]
          go_wp2_with fail
          refine (awake_any _).mono ?_
          rintro en w4 ⟨rfl, hb4⟩
          go_wp2_with fail
          go_ret
          exact law_ret rfl (below_then hb3 hb4 (Nat.le_refl _))
end Go.Proofs.Ytckfopdkknckcaa
