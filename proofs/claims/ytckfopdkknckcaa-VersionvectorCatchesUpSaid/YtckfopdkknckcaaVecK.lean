/- The walk of VersionvectorMissing. -/
import Derived.Test.YtckfopdkknckcaaVecJ
set_option linter.unusedVariables false
set_option linter.unusedSimpArgs false
namespace Go.Proofs.Ytckfopdkknckcaa
open Go.RowKit
attribute [local irreducible] wpList

theorem missS_pad {xs ys : List Int} (hx : okV xs = true) (hy : okV ys = true) (k : Nat) : missS (padV xs) (padV ys) k = missS xs ys k := by
  unfold missS
  simp only [padV_get hx, padV_get hy]
theorem missS_pre (xs ys : List Int) : ∀ j k, ∃ t, missS xs ys (k + j) = missS xs ys k ++ t
  | 0, k => ⟨[], by simp⟩
  | j + 1, k => by
    obtain ⟨t, h⟩ := missS_pre xs ys j k
    rw [← Nat.add_assoc, missS_succ, h, List.append_assoc]
    exact ⟨_, rfl⟩
theorem missS_at {xs ys : List Int} {k : Nat} (hk : k < 12) (h : xs.getD k 0 < ys.getD k 0) : (missS xs ys 12)[(missS xs ys k).length]? = some ((k : Int), xs.getD k 0 + 1, ys.getD k 0) := by
  obtain ⟨t, ht⟩ := missS_pre xs ys (12 - (k + 1)) (k + 1)
  rw [show k + 1 + (12 - (k + 1)) = 12 by omega] at ht
  rw [ht, missS_succ, if_pos h, List.append_assoc, List.getElem?_append_right (Nat.le_refl _), Nat.sub_self]
  rfl
theorem missS_le (xs ys : List Int) {k : Nat} (hk : k ≤ 12) : (missS xs ys k).length ≤ (missS xs ys 12).length := by
  obtain ⟨t, ht⟩ := missS_pre xs ys (12 - k) k
  rw [show k + (12 - k) = 12 by omega] at ht
  rw [ht, List.length_append]; omega
theorem flatMap_get {α : Type} (f : α → List Value) (sz : Nat) (hf : ∀ x, (f x).length = sz) : ∀ (xs : List α) (k j : Nat) (h : k < xs.length), j < sz → (xs.flatMap f)[k * sz + j]? = (f xs[k])[j]?
  | [], k, j, h, _ => by simp at h
  | x :: xs, 0, j, _, hj => by
    simp only [List.flatMap_cons, List.getElem_cons_zero, Nat.zero_mul, Nat.zero_add]
    rw [List.getElem?_append_left (by rw [hf]; exact hj)]
  | x :: xs, k + 1, j, h, hj => by
    simp only [List.flatMap_cons, List.getElem_cons_succ]
    rw [List.getElem?_append_right (by rw [hf, Nat.succ_mul]; omega), hf, show (k + 1) * sz + j - sz = k * sz + j by rw [Nat.succ_mul]; omega]
    exact flatMap_get f sz hf xs k j (by simpa using h) hj
theorem rvs_get {rs : List (Int × Int × Int)} {i : Nat} {r : Int × Int × Int} (h : rs[i]? = some r) (j : Nat) (hj : j < 3) : (rvs rs)[i * 3 + j]? = (rcells r)[j]? := by
  have hi : i < rs.length := (List.getElem?_eq_some_iff.1 h).1
  have he : rs[i] = r := (List.getElem?_eq_some_iff.1 h).2
  unfold rvs
  rw [flatMap_get rcells 3 (fun _ => rfl) rs i j hi hj, he]

set_option maxRecDepth 100000 in
set_option maxHeartbeats 1600000 in
theorem missing_walk (xs : List Int) (S1 : Nat → Prop) (A1 : Option Addr) (m1 c1 : Nat) (ys : List Int) (S2 : Nat → Prop) (A2 : Option Addr) (m2 c2 : Nat) (w : World) (hr1 : Rc S1 w A1 (ivs xs)) (hm1 : Hid (xs.length = m1)) (hml1 : Hid (m1 ≤ 9223372036854775807))
    (hr2 : Rc S2 w A2 (ivs ys)) (hm2 : Hid (ys.length = m2)) (hml2 : Hid (m2 ≤ 9223372036854775807)) :
    Calls Try.prog 4 #[.slice A1 m1 c1, .slice A2 m2 c2] w (LawP w) := by
  go_enter Try.func4, Try.ntmps4
  go_wp2_with fail
  refine (few_any A1 m1 c1 w).mono ?_
  rintro en w' ⟨rfl, rfl⟩
  by_cases h1 : m1 ≤ 20
  case neg =>
    rw [decide_eq_false h1]
    clear h1
    go_wp2_with fail
    refine (awake_any _).mono ?_
    rintro en w' ⟨rfl, hb⟩
    go_wp2_with fail
    go_ret
    exact law_ret rfl hb
  rw [decide_eq_true h1]
  go_wp2_with fail
  refine (few_any A2 m2 c2 _).mono ?_
  rintro en w' ⟨rfl, rfl⟩
  by_cases h2 : m2 ≤ 20
  case neg =>
    rw [decide_eq_false h2]
    clear h2
    go_wp2_with fail
    refine (awake_any _).mono ?_
    rintro en w' ⟨rfl, hb⟩
    go_wp2_with fail
    go_ret
    exact law_ret rfl hb
  rw [decide_eq_true h2]
  go_wp2_with fail
  refine (missing_any xs ys S1 A1 m1 c1 S2 A2 m2 c2 _ hr1 hm1 hml1 hr2 hm2 hml2).mono ?_
  rintro en w3 ⟨A5, c5, rfl, ho5, hb3⟩
  obtain ⟨r, hr⟩ : ∃ r, r = missR xs ys := ⟨_, rfl⟩
  rw [← hr] at ho5 ⊢
  have HR := Lib.hid hr
  clear hr
  have hx3 := hr1.below hb3
  have hy3 := hr2.below hb3
  clear hr1 hr2
  go_wp2_with fail
  refine (rvalid_any xs S1 A1 m1 c1 w3 hx3 hm1 (by omega)).mono ?_
  rintro en w' ⟨rfl, rfl⟩
  cases hox : okV xs with
  | false =>
    have hr : r = ([], 1) := by rw [HR.out, missR, hox]; rfl
    subst hr
    clear hox HR
    go_wp2_with fail
    refine (awake_any _).mono ?_
    rintro en w4 ⟨rfl, hb4⟩
    go_wp2_with fail
    go_ret
    exact law_ret rfl (below_then hb3 hb4 (Nat.le_refl _))
  | true =>
    have HOX := Lib.hid hox
    clear hox
    go_wp2_with fail
    refine (rvalid_any ys S2 A2 m2 c2 _ hy3 hm2 (by omega)).mono ?_
    rintro en w' ⟨rfl, rfl⟩
    cases hoy : okV ys with
    | false =>
      have hr : r = ([], 1) := by rw [HR.out, missR, hoy, HOX.out]; rfl
      subst hr
      clear hoy HR
      go_wp2_with fail
      refine (awake_any _).mono ?_
      rintro en w4 ⟨rfl, hb4⟩
      go_wp2_with fail
      go_ret
      exact law_ret rfl (below_then hb3 hb4 (Nat.le_refl _))
    | true =>
      have HOY := Lib.hid hoy
      clear hoy
      have hrn : r = (missS xs ys 12, 0) := by
        rw [HR.out, missR, HOX.out, HOY.out]
        show (missS (padV xs) (padV ys) 12, (0 : Int)) = _
        rw [missS_pad HOX.out HOY.out]
      obtain ⟨rs, hrs⟩ : ∃ rs, rs = missS xs ys 12 := ⟨_, rfl⟩
      rw [← hrs] at hrn
      subst hrn
      dsimp only at ho5
      obtain ⟨n, hn⟩ : ∃ n, n = rs.length := ⟨_, rfl⟩
      have hn12 : n ≤ 12 := by rw [hn, hrs]; exact missS_len xs ys 12
      rw [← hn] at ho5
      have hrc := (Rc.of_own ho5).mono (S' := fun _ => True) (fun _ _ _ => trivial)
      have HRS := Lib.hid hrs
      have HN := Lib.hid hn
      clear hrs HR ho5
      dsimp only
      rw [← hn]
      clear hn
      go_wp2_with fail
      go_loopw [7, 8] (fun a i wr => ∃ (at_ k nq : Nat), a = .int .i64 at_ ∧ i = .int .i64 k ∧ k ≤ 12 ∧ Hid (wr = w'.drewN nq) ∧ Hid (at_ = (missS xs ys k).length)) (fun _ i _ => 12 - (intOf i).toNat)
      case atStart => exact ⟨0, 0, 0, rfl, rfl, Nat.zero_le _, rfl, rfl⟩
      case round =>
        obtain ⟨at_, k, no, rfl, rfl, hk, hwr, hat⟩ := hrel
        have DW : ∀ a, Hid (wr.drewN a = w'.drewN (no + a)) := fun a => by show _ = _; rw [hwr.out, World.drewN_drewN]
        have hxw : Rc S1 wr A1 (ivs xs) := by rw [hwr.out]; exact hx3.drewN no
        have hyw : Rc S2 wr A2 (ivs ys) := by rw [hwr.out]; exact hy3.drewN no
        have hlw : Rc (fun _ => True) wr A5 (rvs rs) := by rw [hwr.out]; exact hrc.drewN no
        have hat12 : at_ ≤ 12 := by rw [hat.out]; exact Nat.le_trans (missS_len xs ys k) hk
        by_cases hlt : k < 12
        · have hi1 : (k : Int) < 12 := by omega
          have hi2 : (0 : Int) ≤ (k : Int) := by omega
          have hi3 : (0 : Int) ≤ (at_ : Int) := by omega
          go_wp2_with fail
          refine (rget_any xs S1 A1 m1 c1 k wr hxw hm1).mono ?_
          rintro en w4 ⟨rfl, rfl⟩
          obtain ⟨x, hxx⟩ : ∃ x, x = xs.getD k 0 := ⟨_, rfl⟩
          rw [← hxx]
          have HX := Lib.hid hxx
          clear hxx
          go_wp2_with fail
          refine (rget_any ys S2 A2 m2 c2 k _ hyw hm2).mono ?_
          rintro en w5 ⟨rfl, rfl⟩
          obtain ⟨y, hyy⟩ : ∃ y, y = ys.getD k 0 := ⟨_, rfl⟩
          rw [← hyy]
          have HY := Lib.hid hyy
          clear hyy
          have hxb : x ≤ 1099511627776 ∧ 0 ≤ x := by have := pad_le xs k; rw [padV_get HOX.out, ← HX.out] at this; exact this
          obtain ⟨hxb1, hxb0⟩ := hxb
          have hsu := missS_succ xs ys k
          rw [← HX.out, ← HY.out] at hsu
          by_cases hxy : x < y
          · have hge : decide (y ≤ x) = false := by simp; omega
            rw [if_pos hxy] at hsu
            have hga := missS_at (xs := xs) (ys := ys) hlt (by rw [← HX.out, ← HY.out]; exact hxy)
            rw [← HX.out, ← HY.out, ← HRS.out, ← hat.out] at hga
            have hlt2 : at_ < n := by rw [HN.out]; exact (List.getElem?_eq_some_iff.1 hga).1
            have hi4 : (at_ : Int) < (n : Int) := by omega
            obtain ⟨ad, rfl, _, hq0⟩ := hlw.at_ (u := .int .i64 (k : Int)) (k := at_ * 3 + 0) (by rw [rvs_get hga 0 (by omega)]; rfl)
            rw [Nat.add_zero] at hq0
            have hq1 : w5.cell? (ad.add (at_ * 3 + 1)) = some (.int .i64 (x + 1)) := by
              obtain ⟨ad2, he, _, h⟩ := hlw.at_ (u := .int .i64 (x + 1)) (k := at_ * 3 + 1) (by rw [rvs_get hga 1 (by omega)]; rfl)
              injection he with he; rw [he]; exact h
            have hq2 : w5.cell? (ad.add (at_ * 3 + 2)) = some (.int .i64 y) := by
              obtain ⟨ad2, he, _, h⟩ := hlw.at_ (u := .int .i64 y) (k := at_ * 3 + 2) (by rw [rvs_get hga 2 (by omega)]; rfl)
              injection he with he; rw [he]; exact h
            rw [add_field _ _ _ (by omega)] at hq1 hq2
            have HA2 : Hid (at_ + 1 = (missS xs ys (k + 1)).length) := by show _ = _; rw [hsu, List.length_append, ← hat.out]; rfl
            clear hsu hga hxy
            clear hlw
            have HG1 := fun n => Calls.quiet_of_same (rget_any xs S1 A1 m1 c1 k (w5.drewN n) (hxw.drewN n) hm1)
            have HG2 := fun n => Calls.quiet_of_same (rget_any ys S2 A2 m2 c2 k (w5.drewN n) (hyw.drewN n) hm2)
            simp only [← HX.out, ← HY.out] at HG1 HG2
            have hwx : IntKind.i64.wrap (x + 1) = x + 1 := by rw [IntKind.wrap_i64]; omega
            go_wp2_with fail
            go_quiet (first | (go_at_call 17; with_reducible exact HG1 _) | (go_at_call 17; with_reducible exact HG2 _))
            go_wp2_with fail
            go_roundw
            case rel => exact ⟨at_ + 1, k + 1, _, by go_num, by go_num, by omega, DW _, HA2⟩
            case measure => simp [intOf]; omega
          · have hge : decide (y ≤ x) = true := by simp; omega
            rw [if_neg hxy, List.append_nil] at hsu
            have HA2 : Hid (at_ = (missS xs ys (k + 1)).length) := by show _ = _; rw [hsu]; exact hat.out
            clear hsu hxy
            go_wp2_with fail
            go_roundw
            case rel => exact ⟨at_, k + 1, no, rfl, by go_num, by omega, hwr, HA2⟩
            case measure => simp [intOf]; omega
        · have hk12 : k = 12 := by omega
          have hen : ¬ ((k : Nat) : Int) < 12 := by omega
          have hatn : at_ = n := by rw [hat.out, HN.out, HRS.out, hk12]
          have hbw := below_drewN hb3 no
          rw [← hwr.out] at hbw
          subst hatn
          clear hwr hat hxw hyw hlw hx3 hy3 hrc
          go_wp2_with fail
          refine (awake_any _).mono ?_
          rintro en w4 ⟨rfl, hb4⟩
          go_wp2_with fail
          go_ret
          exact law_ret (by simp) (below_then hbw hb4 (Nat.le_refl _))
end Go.Proofs.Ytckfopdkknckcaa
