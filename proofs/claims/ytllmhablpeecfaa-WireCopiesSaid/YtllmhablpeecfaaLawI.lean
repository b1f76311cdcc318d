/- The walk of WireDistinct. -/
import Derived.Test.YtllmhablpeecfaaLawH
import Derived.Deep.QuietTactic
import Derived.BigQuiet
set_option linter.unusedVariables false
set_option linter.unusedSimpArgs false
namespace Go.Proofs.Ytllmhablpeecfaa
open Go.RowKit

theorem known_any (k : Int) (w : World) : Calls Try.prog 32 #[.int .i64 k] w fun e w' => e = .returned (.bool (decide (1 ≤ k ∧ k ≤ 7))) ∧ w = w' := by
  obtain ⟨r, hr⟩ : ∃ r, r = decide (1 ≤ k ∧ k ≤ 7) := ⟨_, rfl⟩
  have HR := Lib.hid hr
  rw [← hr]
  clear hr
  by_cases h1 : 1 ≤ k
  · have e1 : decide ((1 : Int) ≤ k) = true := by simpa using h1
    go_enter Try.func32, Try.ntmps32
    go_wp2
    go_ret
    exact ⟨ret_bool (by rw [HR.out]; simp [h1]), rfl⟩
  · have e1 : decide ((1 : Int) ≤ k) = false := by simpa using h1
    go_enter Try.func32, Try.ntmps32
    go_wp2
    go_ret
    exact ⟨ret_bool (by rw [HR.out]; simp; omega), rfl⟩

theorem known_same (k : Int) (w : World) : Calls Try.prog 32 #[.int .i64 k] w fun e w' => e = .returned (.bool (decide (1 ≤ k ∧ k ≤ 7))) ∧ w' = w :=
  (known_any k w).mono fun _ _ h => ⟨h.1, h.2.symm⟩

set_option maxRecDepth 100000 in
set_option maxHeartbeats 3200000 in
theorem wireDistinct_walk (xs : List Val) (S : Nat → Prop) (A : Option Addr) (m c : Nat) (ys : List Val) (S' : Nat → Prop) (A' : Option Addr) (m' c' : Nat) (w : World) (hr : Rc S w A (vvs xs)) (hm : Hid (xs.length = m)) (hml : Hid (m ≤ 9223372036854775807)) (hok : ∀ x ∈ xs, x.Ok)
    (hr' : Rc S' w A' (vvs ys)) (hm' : Hid (ys.length = m')) (hml' : Hid (m' ≤ 9223372036854775807)) (hok' : ∀ x ∈ ys, x.Ok) :
    Calls Try.prog 8 #[.slice A m c, .slice A' m' c'] w (LawP w) := by
  have HOK := Lib.hid hok
  have HOK' := Lib.hid hok'
  clear hok hok'
  go_enter Try.func8, Try.ntmps8
  go_wp2_with fail
  refine (awake_any w).mono ?_
  rintro en w1 ⟨rfl, hb1⟩
  have hr1 := hr.below hb1
  have hr1' := hr'.below hb1
  clear hr hr'
  go_wp2_with fail
  refine (small_any xs S A m c w1 hr1 hm hml HOK).mono ?_
  rintro en w' ⟨rfl, rfl⟩
  by_cases hsm : xs.length ≤ 40 ∧ ∀ x ∈ xs, x.s.size ≤ 400
  case neg =>
    have HS : smallB xs = false := by unfold smallB; rw [decide_eq_false_iff_not]; exact hsm
    rw [HS]
    clear hsm
    go_wp2_with fail
    go_ret
    exact law_ret rfl hb1
  have HS : smallB xs = true := by unfold smallB; rw [decide_eq_true_eq]; exact hsm
  rw [HS]
  have h40 : m ≤ 40 := by have := hm.out; omega
  have hs4 := Lib.hid hsm.2
  clear hsm
  go_wp2_with fail
  refine (small_any ys S' A' m' c' w1 hr1' hm' hml' HOK').mono ?_
  rintro en w' ⟨rfl, rfl⟩
  by_cases hsm : ys.length ≤ 40 ∧ ∀ x ∈ ys, x.s.size ≤ 400
  case neg =>
    have HS : smallB ys = false := by unfold smallB; rw [decide_eq_false_iff_not]; exact hsm
    rw [HS]
    clear hsm
    go_wp2_with fail
    go_ret
    exact law_ret rfl hb1
  have HS' : smallB ys = true := by unfold smallB; rw [decide_eq_true_eq]; exact hsm
  rw [HS']
  have h40' : m' ≤ 40 := by have := hm'.out; omega
  have hs4' := Lib.hid hsm.2
  clear hsm
  by_cases hmm : m = m'
  case neg =>
    have e1 : ((m : Int) != (m' : Int)) = true := by rw [bne_iff_ne]; omega
    clear hmm
    go_wp2_with fail
    go_ret
    exact law_ret rfl hb1
  subst hmm
  clear HS HS'
  go_wp2_with fail
  go_loopw [5, 6] (fun e i wr => ∃ (k : Nat) (r : Bool) (n : Nat), e = .bool r ∧ i = .int .i64 k ∧ k ≤ m ∧ Hid (wr = w1.drewN n) ∧ Hid (r = true ↔ ∀ j (h : j < xs.length) (h' : j < ys.length), j < k → EqV xs[j] ys[j]) ∧
      Hid (∀ j (h : j < xs.length) (h' : j < ys.length), j < k → xs[j].kind = ys[j].kind ∧ KnownK xs[j].kind))
    (fun _ i _ => m - (intOf i).toNat)
  case atStart => exact ⟨0, true, 0, rfl, rfl, Nat.zero_le _, rfl, ⟨fun _ j h h' h0 => absurd h0 (by omega), fun _ => rfl⟩, fun j h h' h0 => absurd h0 (by omega)⟩
  case round =>
    obtain ⟨k, r, n, rfl, rfl, hk, hwr, hr, hkn⟩ := hrel
    have hrw := hr1.drewN n
    have hrw' := hr1'.drewN n
    have hbw := below_drewN hb1 n
    rw [← hwr.out] at hrw hrw' hbw
    by_cases hlt : k < m
    · have hkl : k < xs.length := by have := hm.out; omega
      have hkl' : k < ys.length := by have := hm'.out; omega
      obtain ⟨x, hx⟩ : ∃ x, x = xs[k] := ⟨_, rfl⟩
      obtain ⟨y, hy⟩ : ∃ y, y = ys[k] := ⟨_, rfl⟩
      obtain ⟨ad, rfl, _, hat⟩ := vvs_at hrw hkl
      obtain ⟨ad', rfl, _, hat'⟩ := vvs_at hrw' hkl'
      rw [← hx] at hat
      rw [← hy] at hat'
      have HR2 : ∀ q : Bool, (q = true ↔ EqV x y) → Hid ((r && q) = true ↔ ∀ j (h : j < xs.length) (h' : j < ys.length), j < k + 1 → EqV xs[j] ys[j]) := by
        intro q hq
        show _ ↔ _
        rw [Bool.and_eq_true, hr.out, hq]
        constructor
        · rintro ⟨h1, h2⟩ j h h' hj
          rcases Nat.lt_or_ge j k with h3 | h3
          · exact h1 j h h' h3
          · obtain rfl : j = k := by omega
            rw [← hx, ← hy]; exact h2
        · exact fun h => ⟨fun j h1 h2 h3 => h j h1 h2 (by omega), by rw [hx, hy]; exact h k hkl hkl' (by omega)⟩
      have HK2 : x.kind = y.kind → KnownK x.kind → Hid (∀ j (h : j < xs.length) (h' : j < ys.length), j < k + 1 → xs[j].kind = ys[j].kind ∧ KnownK xs[j].kind) := by
        intro h1 h2 j h h' hj
        rcases Nat.lt_or_ge j k with h3 | h3
        · exact hkn.out j h h' h3
        · obtain rfl : j = k := by omega
          rw [← hx, ← hy]; exact ⟨h1, h2⟩
      have HRR := Lib.hid HR2
      have HKK := Lib.hid HK2
      clear HR2 HK2 hx hy hr hkn
      have hc0 := hat.c0
      have hc1 := hat.c1
      have hc2 := hat.c2
      have hc3 := hat.c3
      have hc4 := hat.c4
      have hd0 := hat'.c0
      have hd1 := hat'.c1
      have hd2 := hat'.c2
      have hd3 := hat'.c3
      have hd4 := hat'.c4
      clear hat hat'
      obtain ⟨kd, u, p, b, s, mo⟩ := x
      obtain ⟨kd', u', p', b', s', mo'⟩ := y
      dsimp only at hc0 hc1 hc2 hc3 hc4 hd0 hd1 hd2 hd3 hd4 HRR HKK
      have hi1 : (k : Int) < (m : Int) := by omega
      have hi2 : (0 : Int) ≤ (k : Int) := by omega
      by_cases hkk : kd = kd'
      case neg =>
        have e1 : (kd != kd') = true := by rw [bne_iff_ne]; exact hkk
        clear hkk
        go_wp2_with fail
        go_quiet (fail)
        go_wp2_with fail
        go_ret
        exact law_ret rfl (below_drewN hbw _)
      subst hkk
      have e1 : (kd != kd) = false := by simp
      by_cases hkn : 1 ≤ kd ∧ kd ≤ 7
      case neg =>
        have e2 : decide (1 ≤ kd ∧ kd ≤ 7) = false := by rw [decide_eq_false_iff_not]; exact hkn
        clear hkn
        go_wp2_with fail
        go_quiet ((go_at_call 32; exact Calls.quiet_of_same (known_same _ _)))
        rw [e2]
        go_wp2_with fail
        go_ret
        exact law_ret rfl (below_drewN hbw _)
      have e2 : decide (1 ≤ kd ∧ kd ≤ 7) = true := by rw [decide_eq_true_eq]; exact hkn
      have HK3 := HKK.out rfl hkn
      have DW : ∀ a, Hid (wr.drewN a = w1.drewN (n + a)) := fun a => by show _ = _; rw [hwr.out, World.drewN_drewN]
      clear HKK
      go_wp2_with fail
      go_quiet ((go_at_call 32; exact Calls.quiet_of_same (known_same _ _)))
      rw [e2]
      by_cases k1 : kd = 1
      · subst k1
        have HQ := HRR.out (((u : Int) == (u' : Int))) (by unfold EqV; dsimp only; simp; omega)
        clear HRR
        cases r with
        | false =>
          go_wp2_with fail
          go_quiet (fail)
          go_wp2_with fail
          go_roundw
          case rel => exact ⟨k + 1, false, _, rfl, by go_num, by omega, DW _, HQ, HK3⟩
          case measure => simp [intOf]; omega
        | true =>
          go_wp2_with fail
          go_quiet (fail)
          go_wp2_with fail
          go_roundw
          case rel => exact ⟨k + 1, _, _, rfl, by go_num, by omega, DW _, HQ, HK3⟩
          case measure => simp [intOf]; omega
      by_cases k2 : kd = 2
      · subst k2
        have HQ := HRR.out ((p == p')) (by unfold EqV; dsimp only; simp)
        clear HRR
        cases r with
        | false =>
          go_wp2_with fail
          go_quiet (fail)
          go_wp2_with fail
          go_roundw
          case rel => exact ⟨k + 1, false, _, rfl, by go_num, by omega, DW _, HQ, HK3⟩
          case measure => simp [intOf]; omega
        | true =>
          go_wp2_with fail
          go_quiet (fail)
          go_wp2_with fail
          go_roundw
          case rel => exact ⟨k + 1, _, _, rfl, by go_num, by omega, DW _, HQ, HK3⟩
          case measure => simp [intOf]; omega
      by_cases k7 : kd = 7
      · subst k7
        have HQ := HRR.out ((p == p')) (by unfold EqV; dsimp only; simp)
        clear HRR
        cases r with
        | false =>
          go_wp2_with fail
          go_quiet (fail)
          go_wp2_with fail
          go_roundw
          case rel => exact ⟨k + 1, false, _, rfl, by go_num, by omega, DW _, HQ, HK3⟩
          case measure => simp [intOf]; omega
        | true =>
          go_wp2_with fail
          go_quiet (fail)
          go_wp2_with fail
          go_roundw
          case rel => exact ⟨k + 1, _, _, rfl, by go_num, by omega, DW _, HQ, HK3⟩
          case measure => simp [intOf]; omega
      by_cases k3 : kd = 3
      · subst k3
        have HQ := HRR.out ((b == b')) (by unfold EqV; dsimp only; simp)
        clear HRR
        cases r with
        | false =>
          go_wp2_with fail
          go_quiet (fail)
          go_wp2_with fail
          go_roundw
          case rel => exact ⟨k + 1, false, _, rfl, by go_num, by omega, DW _, HQ, HK3⟩
          case measure => simp [intOf]; omega
        | true =>
          go_wp2_with fail
          go_quiet (fail)
          go_wp2_with fail
          go_roundw
          case rel => exact ⟨k + 1, _, _, rfl, by go_num, by omega, DW _, HQ, HK3⟩
          case measure => simp [intOf]; omega
      · have HQ := HRR.out (s.toList == s'.toList) (by unfold EqV; dsimp only; rw [if_neg k1, if_neg (by omega), if_neg k3, beq_iff_eq, Lib.toList_data, Lib.toList_data]; exact ⟨fun h => sb_inj h, fun h => by rw [h]⟩)
        clear HRR
        have f1 : (kd == 1) = false := by rw [beq_eq_false_iff_ne]; exact k1
        have f2 : (kd == 2) = false := by rw [beq_eq_false_iff_ne]; exact k2
        have f3 : (kd == 3) = false := by rw [beq_eq_false_iff_ne]; exact k3
        have f7 : (kd == 7) = false := by rw [beq_eq_false_iff_ne]; exact k7
        clear k1 k2 k3 k7
        cases r with
        | false =>
          go_wp2_with fail
          go_quiet (fail)
          go_wp2_with fail
          go_roundw
          case rel => exact ⟨k + 1, false, _, rfl, by go_num, by omega, DW _, HQ, HK3⟩
          case measure => simp [intOf]; omega
        | true =>
          go_wp2_with fail
          go_quiet (fail)
          go_wp2_with fail
          go_roundw
          case rel => exact ⟨k + 1, _, _, rfl, by go_num, by omega, DW _, HQ, HK3⟩
          case measure => simp [intOf]; omega
    · have hkm : k = m := by omega
      subst hkm
      have HX := Lib.hid hkn.out
      clear hk hlt hkn
      go_wp2_with fail
      refine (encoded_any xs S A k c wr hrw hm h40 hs4 HOK).mono ?_
      rintro en w2 ⟨A2, c2, rfl, ho2, hb2⟩
      have hB2 := below_then hbw hb2 (Nat.le_refl _)
      go_wp2_with fail
      refine (encoded_any ys S' A' k c' w2 (hrw'.below hb2) hm' h40 hs4' HOK').mono ?_
      rintro en w3 ⟨A3, c3, rfl, ho3, hb3⟩
      have hB3 := below_then hB2 hb3 (Nat.le_refl _)
      have ho23 := own_below ho2 hb3
      by_cases e1 : encE xs = 0
      case neg =>
        have e1' : (encE xs != 0) = true := by rw [bne_iff_ne]; exact e1
        clear e1
        go_wp2_with fail
        go_ret
        exact law_ret rfl hB3
      have e1' : (encE xs != 0) = false := by rw [e1]; rfl
      have E1 := Lib.hid e1
      clear e1
      by_cases e2 : encE ys = 0
      case neg =>
        have e2' : (encE ys != 0) = true := by rw [bne_iff_ne]; exact e2
        clear e2
        go_wp2_with fail
        go_ret
        exact law_ret rfl hB3
      have e2' : (encE ys != 0) = false := by rw [e2]; rfl
      have E2 := Lib.hid e2
      clear e2
      have HF : Hid (decide (encB xs = encB ys) = r) := by
        obtain ⟨f1, f2⟩ := encE_ok E1.out
        obtain ⟨f3, f4⟩ := encE_ok E2.out
        show _ = _
        have := flat_inj xs ys (by rw [hm.out, hm'.out]) (fun v hv => ⟨HOK.out v hv, f1 v hv⟩) (fun v hv => ⟨HOK'.out v hv, f3 v hv⟩) (fun j h h' => HX.out j h h' (by have := hm.out; omega))
        rw [f2, f4]
        rw [Bool.eq_iff_iff, decide_eq_true_iff, this, hr.out]
        exact ⟨fun h j h1 h2 _ => h j h1 h2, fun h j h1 h2 => h j h1 h2 (by have := hm.out; omega)⟩
      go_wp2_with fail
      refine (same_any (encB xs) (encB ys) _ _ A2 A3 _ c2 _ c3 w3 (Rc.of_own ho23) (Rc.of_own ho3) (by show _ = _; simp) (by show _ = _; simp) (by have := encB_len (xs := xs); show _ ≤ _; omega)).mono ?_
      rintro en w6 ⟨rfl, m6, rfl⟩
      rw [HF.out]
      have hB6 := below_drewN hB3 m6
      go_wp2_with fail
      go_ret
      exact law_ret (by simp) hB6
end Go.Proofs.Ytllmhablpeecfaa
