/- The walk of VersionvectorSets. -/
import Derived.Test.YtckfopdkknckcaaVecN
set_option linter.unusedVariables false
set_option linter.unusedSimpArgs false
namespace Go.Proofs.Ytckfopdkknckcaa
open Go.RowKit
attribute [local irreducible] wpList

set_option maxRecDepth 100000 in
set_option maxHeartbeats 3200000 in
theorem sets_walk (xs : List Int) (S1 : Nat → Prop) (A1 : Option Addr) (m1 c1 : Nat) (d n : Int) (w : World)
    (hr1 : Rc S1 w A1 (ivs xs)) (hm1 : Hid (xs.length = m1)) (hml1 : Hid (m1 ≤ 9223372036854775807)) (hdb : -9223372036854775808 ≤ d ∧ d ≤ 9223372036854775807) (hnb : -9223372036854775808 ≤ n ∧ n ≤ 9223372036854775807) :
    Calls Try.prog 8 #[.slice A1 m1 c1, .int .i64 d, .int .i64 n] w (LawP w) := by
  clear hdb hnb
  go_enter Try.func8, Try.ntmps8
  go_wp2_with fail
  refine (few_any A1 m1 c1 _).mono ?_
  rintro en w' ⟨rfl, rfl⟩
  by_cases h1 : m1 ≤ 20
  case neg =>
    rw [decide_eq_false h1]
    clear h1
    go_wp2_with fail
    refine (awake_any _).mono ?_
    rintro en w' ⟨rfl, hb⟩
    go_wp2_with fail
    go_ret
    exact law_ret rfl hb
  rw [decide_eq_true h1]
  rename World => W0
  go_wp2_with fail
  refine (set_any xs S1 A1 m1 c1 d n W0 hr1 hm1 hml1).mono ?_
  rintro en W1 ⟨As, cs, rfl, hos, hb1⟩
  obtain ⟨r, hr⟩ : ∃ r, r = setR xs d n := ⟨_, rfl⟩
  rw [← hr] at hos ⊢
  have HR := Lib.hid hr
  clear hr
  have hx1 := hr1.below hb1
  go_wp2_with fail
  refine (inc_any xs S1 A1 m1 c1 d W1 hx1 hm1 hml1).mono ?_
  rintro en W2 ⟨Ai, ci, rfl, hoi, hb2⟩
  obtain ⟨q, hq⟩ : ∃ q, q = incR xs d := ⟨_, rfl⟩
  rw [← hq] at hoi ⊢
  have HQ := Lib.hid hq
  clear hq
  have hx2 := hx1.below hb2
  have hos2 := (Rc.of_own hos).below hb2
  have hoi2 := Rc.of_own hoi
  have hB2 := below_then hb1 hb2 (Nat.le_refl _)
  clear hos hoi hx1 hb1 hb2 hr1
  go_wp2_with fail
  refine (rvalid_any xs S1 A1 m1 c1 W2 hx2 hm1 (by omega)).mono ?_
  rintro en w' ⟨rfl, rfl⟩
  cases hox : okV xs with
  | false =>
    have hr : r = ([], 1) := by rw [HR.out, setR, hox]; rfl
    have hq : q = ([], 1) := by rw [HQ.out, incR, hox]; rfl
    subst hr hq
    clear hox HR HQ
    go_wp2_with fail
    refine (awake_any _).mono ?_
    rintro en w4 ⟨rfl, hb4⟩
    go_wp2_with fail
    go_ret
    exact law_ret rfl (below_then hB2 hb4 (Nat.le_refl _))
  | true =>
    have HO := Lib.hid hox
    clear hox
    go_wp2_with fail
    refine (device_any d _).mono ?_
    rintro en w' ⟨rfl, rfl⟩
    cases hd : decide (0 ≤ d ∧ d < 12) with
    | false =>
      have hr : r = ([], 1) := by rw [HR.out, setR, HO.out, dev, hd]; rfl
      have hq : q = ([], 1) := by rw [HQ.out, incR, HO.out, dev, hd]; rfl
      subst hr hq
      clear hd HR HQ
      go_wp2_with fail
      refine (awake_any _).mono ?_
      rintro en w4 ⟨rfl, hb4⟩
      go_wp2_with fail
      go_ret
      exact law_ret rfl (below_then hB2 hb4 (Nat.le_refl _))
    | true =>
      have hd2 : 0 ≤ d ∧ d < 12 := of_decide_eq_true hd
      obtain ⟨p, rfl⟩ := Int.eq_ofNat_of_zero_le hd2.1
      have hp : p < 12 := by omega
      have HD : Hid (dev (p : Int) = true) := hd
      obtain ⟨g, hg⟩ : ∃ g, g = (padV xs).getD p 0 := ⟨_, rfl⟩
      have hg2 : xs.getD p 0 = g := by rw [hg, padV_get HO.out]
      have HG := Lib.hid hg
      have HG2 := Lib.hid hg2
      have hgb : g ≤ 1099511627776 ∧ 0 ≤ g := by rw [hg]; exact pad_le xs p
      obtain ⟨hgb1, hgb0⟩ := hgb
      have hwg : IntKind.i64.wrap (g + 1) = g + 1 := by rw [IntKind.wrap_i64]; omega
      clear hd hd2 hg hg2
      have hq0 : q = (if g = 1099511627776 then ([], 2) else (normL ((padV xs).set p (g + 1)), 0)) := by
        rw [HQ.out, incR, HO.out, HD.out, ← Int.toNat_natCast p]
        simp only [Int.toNat_natCast, ← HG.out]
        rfl
      have HQ0 := Lib.hid hq0
      clear hq0 HQ
      by_cases hn1 : n < 0
      · have hr : r = ([], 1) := by
          rw [HR.out, setR, HO.out, HD.out, show okN n = false by unfold okN; simp; omega]; rfl
        subst hr
        clear HR
        go_wp2_with fail
        refine (rget_any xs S1 A1 m1 c1 p _ hx2 hm1).mono ?_
        rintro en w' ⟨rfl, rfl⟩
        rw [HG2.out]
        by_cases hgm : g = 1099511627776
        · have hq : q = ([], 2) := by rw [HQ0.out, if_pos hgm]
          subst hq
          subst hgm
          clear HQ0
          go_wp2_with fail
          refine (awake_any _).mono ?_
          rintro en w4 ⟨rfl, hb4⟩
          go_wp2_with fail
          go_ret
          exact law_ret rfl (below_then hB2 hb4 (Nat.le_refl _))
        · have hq : q = (normL ((padV xs).set p (g + 1)), 0) := by rw [HQ0.out, if_neg hgm]
          subst hq
          have hgf : (g == 1099511627776) = false := by rw [beq_eq_false_iff_ne]; exact hgm
          clear HQ0 hgm
          obtain ⟨il, hil⟩ : ∃ il, il = normL ((padV xs).set p (g + 1)) := ⟨_, rfl⟩
          rw [← hil] at hoi2 ⊢
          have hi12 : il.length ≤ 12 := by rw [hil]; exact Nat.le_trans (normL_len _) (by rw [List.length_set, padV_length]; exact Nat.le_refl _)
          have HIL := Lib.hid hil
          obtain ⟨ni, hni⟩ : ∃ ni, ni = il.length := ⟨_, rfl⟩
          have HNI : Hid (il.length = ni) := hni.symm
          dsimp only at hoi2 ⊢
          rw [← hni] at hoi2 hi12 ⊢
          clear hni hil
          go_wp2_with fail
          refine (awake_any _).mono ?_
          rintro en w4 ⟨rfl, hb4⟩
          have hx4 := hx2.below hb4
          have hoi4 := hoi2.below hb4
          have hB4 := below_then hB2 hb4 (Nat.le_refl _)
          clear hb4 hx2 hoi2 hB2
          go_wp2_with fail
          refine (rget_any xs S1 A1 m1 c1 p _ hx4 hm1).mono ?_
          rintro en w' ⟨rfl, rfl⟩
          rw [HG2.out]
          go_wp2_with fail
          refine (rset_any xs S1 A1 m1 c1 p (g + 1) _ hx4 hm1 HO.out hp).mono ?_
          rw [← HIL.out]
          rintro en W7 ⟨A7, c7, rfl, ho7, hb7⟩
          have hoi7 := hoi4.below hb7
          have hrc7 := Rc.of_own ho7
          rw [HNI.out] at hrc7 ⊢
          have hB7 := below_then hB4 hb7 (Nat.le_refl _)
          clear hb7 hx4 hoi4 ho7 hB4
          go_wp2_with fail
          refine (ints_any il il _ _ Ai A7 ni ci ni c7 _ hoi7 hrc7 HNI HNI (by omega)).mono ?_
          rintro en w' ⟨rfl, j7, rfl⟩
          rw [show decide (il = il) = true from decide_eq_true rfl]
          have hB8 := below_drewN hB7 j7
          go_wp2_with fail
          go_ret
          exact law_ret rfl hB8
      · by_cases hn2 : 1099511627776 < n
        · have hr : r = ([], 1) := by
            rw [HR.out, setR, HO.out, HD.out, show okN n = false by unfold okN; simp; omega]; rfl
          subst hr
          clear HR
          go_wp2_with fail
          refine (rget_any xs S1 A1 m1 c1 p _ hx2 hm1).mono ?_
          rintro en w' ⟨rfl, rfl⟩
          rw [HG2.out]
          by_cases hgm : g = 1099511627776
          · have hq : q = ([], 2) := by rw [HQ0.out, if_pos hgm]
            subst hq
            subst hgm
            clear HQ0
            go_wp2_with fail
            refine (awake_any _).mono ?_
            rintro en w4 ⟨rfl, hb4⟩
            go_wp2_with fail
            go_ret
            exact law_ret rfl (below_then hB2 hb4 (Nat.le_refl _))
          · have hq : q = (normL ((padV xs).set p (g + 1)), 0) := by rw [HQ0.out, if_neg hgm]
            subst hq
            have hgf : (g == 1099511627776) = false := by rw [beq_eq_false_iff_ne]; exact hgm
            clear HQ0 hgm
            obtain ⟨il, hil⟩ : ∃ il, il = normL ((padV xs).set p (g + 1)) := ⟨_, rfl⟩
            rw [← hil] at hoi2 ⊢
            have hi12 : il.length ≤ 12 := by rw [hil]; exact Nat.le_trans (normL_len _) (by rw [List.length_set, padV_length]; exact Nat.le_refl _)
            have HIL := Lib.hid hil
            obtain ⟨ni, hni⟩ : ∃ ni, ni = il.length := ⟨_, rfl⟩
            have HNI : Hid (il.length = ni) := hni.symm
            dsimp only at hoi2 ⊢
            rw [← hni] at hoi2 hi12 ⊢
            clear hni hil
            go_wp2_with fail
            refine (awake_any _).mono ?_
            rintro en w4 ⟨rfl, hb4⟩
            have hx4 := hx2.below hb4
            have hoi4 := hoi2.below hb4
            have hB4 := below_then hB2 hb4 (Nat.le_refl _)
            clear hb4 hx2 hoi2 hB2
            go_wp2_with fail
            refine (rget_any xs S1 A1 m1 c1 p _ hx4 hm1).mono ?_
            rintro en w' ⟨rfl, rfl⟩
            rw [HG2.out]
            go_wp2_with fail
            refine (rset_any xs S1 A1 m1 c1 p (g + 1) _ hx4 hm1 HO.out hp).mono ?_
            rw [← HIL.out]
            rintro en W7 ⟨A7, c7, rfl, ho7, hb7⟩
            have hoi7 := hoi4.below hb7
            have hrc7 := Rc.of_own ho7
            rw [HNI.out] at hrc7 ⊢
            have hB7 := below_then hB4 hb7 (Nat.le_refl _)
            clear hb7 hx4 hoi4 ho7 hB4
            go_wp2_with fail
            refine (ints_any il il _ _ Ai A7 ni ci ni c7 _ hoi7 hrc7 HNI HNI (by omega)).mono ?_
            rintro en w' ⟨rfl, j7, rfl⟩
            rw [show decide (il = il) = true from decide_eq_true rfl]
            have hB8 := below_drewN hB7 j7
            go_wp2_with fail
            go_ret
            exact law_ret rfl hB8
        · have hr : r = (normL ((padV xs).set p n), 0) := by
            rw [HR.out, setR, HO.out, HD.out, show okN n = true by unfold okN; simp; omega]; rfl
          subst hr
          clear HR
          obtain ⟨sl, hsl⟩ : ∃ sl, sl = normL ((padV xs).set p n) := ⟨_, rfl⟩
          have hRS := rset_any xs S1 A1 m1 c1 p n _ hx2 hm1 HO.out hp
          rw [← hsl] at hRS hos2 ⊢
          have hs12 : sl.length ≤ 12 := by rw [hsl]; exact Nat.le_trans (normL_len _) (by rw [List.length_set, padV_length]; exact Nat.le_refl _)
          obtain ⟨ns, hns⟩ : ∃ ns, ns = sl.length := ⟨_, rfl⟩
          have HNS : Hid (sl.length = ns) := hns.symm
          dsimp only at hos2 ⊢
          rw [← hns] at hos2 hs12 ⊢
          clear hns hsl
          go_wp2_with fail
          refine hRS.mono ?_
          rintro en W5 ⟨A5, c5, rfl, ho5, hb5⟩
          have hx5 := hx2.below hb5
          have hoi5 := hoi2.below hb5
          have hos5 := hos2.below hb5
          have hrc5 := Rc.of_own ho5
          rw [HNS.out] at hrc5 ⊢
          have hB5 := below_then hB2 hb5 (Nat.le_refl _)
          clear hb5 hx2 hoi2 hos2 ho5 hRS hB2
          go_wp2_with fail
          refine (ints_any sl sl _ _ As A5 ns cs ns c5 _ hos5 hrc5 HNS HNS (by omega)).mono ?_
          rintro en w' ⟨rfl, j5, rfl⟩
          rw [show decide (sl = sl) = true from decide_eq_true rfl]
          have hx6 := hx5.drewN j5
          have hoi6 := hoi5.drewN j5
          have hB6 := below_drewN hB5 j5
          clear hx5 hoi5 hos5 hrc5 hB5
          revert hx6 hoi6 hB6
          generalize W5.drewN j5 = W6
          intro hx2 hoi2 hB2
          go_wp2_with fail
          refine (rget_any xs S1 A1 m1 c1 p _ hx2 hm1).mono ?_
          rintro en w' ⟨rfl, rfl⟩
          rw [HG2.out]
          by_cases hgm : g = 1099511627776
          · have hq : q = ([], 2) := by rw [HQ0.out, if_pos hgm]
            subst hq
            subst hgm
            clear HQ0
            go_wp2_with fail
            refine (awake_any _).mono ?_
            rintro en w4 ⟨rfl, hb4⟩
            go_wp2_with fail
            go_ret
            exact law_ret rfl (below_then hB2 hb4 (Nat.le_refl _))
          · have hq : q = (normL ((padV xs).set p (g + 1)), 0) := by rw [HQ0.out, if_neg hgm]
            subst hq
            have hgf : (g == 1099511627776) = false := by rw [beq_eq_false_iff_ne]; exact hgm
            clear HQ0 hgm
            obtain ⟨il, hil⟩ : ∃ il, il = normL ((padV xs).set p (g + 1)) := ⟨_, rfl⟩
            rw [← hil] at hoi2 ⊢
            have hi12 : il.length ≤ 12 := by rw [hil]; exact Nat.le_trans (normL_len _) (by rw [List.length_set, padV_length]; exact Nat.le_refl _)
            have HIL := Lib.hid hil
            obtain ⟨ni, hni⟩ : ∃ ni, ni = il.length := ⟨_, rfl⟩
            have HNI : Hid (il.length = ni) := hni.symm
            dsimp only at hoi2 ⊢
            rw [← hni] at hoi2 hi12 ⊢
            clear hni hil
            go_wp2_with fail
            refine (awake_any _).mono ?_
            rintro en w4 ⟨rfl, hb4⟩
            have hx4 := hx2.below hb4
            have hoi4 := hoi2.below hb4
            have hB4 := below_then hB2 hb4 (Nat.le_refl _)
            clear hb4 hx2 hoi2 hB2
            go_wp2_with fail
            refine (rget_any xs S1 A1 m1 c1 p _ hx4 hm1).mono ?_
            rintro en w' ⟨rfl, rfl⟩
            rw [HG2.out]
            go_wp2_with fail
            refine (rset_any xs S1 A1 m1 c1 p (g + 1) _ hx4 hm1 HO.out hp).mono ?_
            rw [← HIL.out]
            rintro en W7 ⟨A7, c7, rfl, ho7, hb7⟩
            have hoi7 := hoi4.below hb7
            have hrc7 := Rc.of_own ho7
            rw [HNI.out] at hrc7 ⊢
            have hB7 := below_then hB4 hb7 (Nat.le_refl _)
            clear hb7 hx4 hoi4 ho7 hB4
            go_wp2_with fail
            refine (ints_any il il _ _ Ai A7 ni ci ni c7 _ hoi7 hrc7 HNI HNI (by omega)).mono ?_
            rintro en w' ⟨rfl, j7, rfl⟩
            rw [show decide (il = il) = true from decide_eq_true rfl]
            have hB8 := below_drewN hB7 j7
            go_wp2_with fail
            go_ret
            exact law_ret rfl hB8
end Go.Proofs.Ytckfopdkknckcaa
