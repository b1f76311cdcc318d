/- The reference: Ints, Valid, Get, Covers. -/
import Derived.Test.YtckfopdkknckcaaVecB
set_option linter.unusedVariables false
set_option linter.unusedSimpArgs false
namespace Go.Proofs.Ytckfopdkknckcaa
open Go.RowKit
attribute [local irreducible] wpList

set_option maxRecDepth 100000 in
set_option maxHeartbeats 800000 in
theorem ints_any (xs ys : List Int) (S S' : Nat → Prop) (A A' : Option Addr) (m c m' c' : Nat) (w : World) (hx : Rc S w A (ivs xs)) (hy : Rc S' w A' (ivs ys)) (hm : Hid (xs.length = m)) (hm' : Hid (ys.length = m')) (h100 : m ≤ 100) :
    Calls Try.prog 23 #[.slice A m c, .slice A' m' c'] w fun en w' => en = .returned (.bool (decide (xs = ys))) ∧ ∃ n, w' = w.drewN n := by
  obtain ⟨r, hrr⟩ : ∃ r, r = decide (xs = ys) := ⟨_, rfl⟩
  rw [← hrr]
  have HRR := Lib.hid hrr
  clear hrr
  by_cases hmm : m = m'
  case neg =>
    have e1 : ((m : Int) != (m' : Int)) = true := by rw [bne_iff_ne]; omega
    have HNE := Lib.hid hmm
    clear hmm
    go_enter Try.func23, Try.ntmps23
    go_wp2_with fail
    go_ret
    refine ⟨?_, 0, rfl⟩
    rw [HRR.out, decide_eq_false]
    · rfl
    · intro h
      have h1 := hm.out
      have h2 := hm'.out
      rw [h] at h1
      exact HNE.out (h1.symm.trans h2)
  subst hmm
  go_enter Try.func23, Try.ntmps23
  go_wp2_with fail
  go_loopw [5] (fun i wr => ∃ (k n : Nat), i = .int .i64 k ∧ k ≤ m ∧ Hid (wr = w.drewN n) ∧ Hid (∀ j (h : j < xs.length) (h' : j < ys.length), j < k → xs[j] = ys[j])) (fun i _ => m - (intOf i).toNat)
  case atStart => exact ⟨0, 0, rfl, Nat.zero_le _, rfl, fun j h h' h0 => absurd h0 (by omega)⟩
  case round =>
    obtain ⟨k, n, rfl, hk, hwr, hok⟩ := hrel
    by_cases hlt : k < m
    · have hkl : k < xs.length := by have := hm.out; omega
      have hkl' : k < ys.length := by have := hm'.out; omega
      have hrw := hx.drewN n
      have hrw' := hy.drewN n
      rw [← hwr.out] at hrw hrw'
      obtain ⟨ad, rfl, _, hc⟩ := hrw.at_ (ivs_get xs k hkl)
      obtain ⟨ad', rfl, _, hc'⟩ := hrw'.at_ (ivs_get ys k hkl')
      have hi1 : (k : Int) < (m : Int) := by omega
      have hi2 : (0 : Int) ≤ (k : Int) := by omega
      obtain ⟨x, hxx⟩ : ∃ x, x = xs[k] := ⟨_, rfl⟩
      obtain ⟨y, hyy⟩ : ∃ y, y = ys[k] := ⟨_, rfl⟩
      rw [← hxx] at hc
      rw [← hyy] at hc'
      have HX := Lib.hid hxx
      have HY := Lib.hid hyy
      have DW : ∀ a, Hid (wr.drewN a = w.drewN (n + a)) := fun a => by show _ = _; rw [hwr.out, World.drewN_drewN]
      clear hxx hyy hrw hrw'
      by_cases hxy : x = y
      · have e1 : (x != y) = false := by rw [hxy]; simp
        have HXY := Lib.hid hxy
        clear hxy
        go_wp2_with fail
        go_quiet (fail)
        go_wp2_with fail
        go_roundw
        case rel => exact ⟨k + 1, _, by go_num, by omega, DW _, by
          intro j h h' hj
          rcases Nat.lt_or_ge j k with h3 | h3
          · exact hok.out j h h' h3
          · obtain rfl : j = k := by omega
            rw [← HX.out, ← HY.out]; exact HXY.out⟩
        case measure => simp [intOf]; omega
      · have e1 : (x != y) = true := by rw [bne_iff_ne]; exact hxy
        have HXY := Lib.hid hxy
        clear hxy
        go_wp2_with fail
        go_quiet (fail)
        go_wp2_with fail
        go_ret
        refine ⟨?_, _, (DW _).out⟩
        rw [HRR.out, decide_eq_false]
        · rfl
        · intro h
          apply HXY.out
          rw [HX.out, HY.out]
          simp only [h]
    · have hen : ¬ ((k : Nat) : Int) < (m : Int) := by omega
      go_wp2_with fail
      go_ret
      refine ⟨?_, n, hwr.out⟩
      rw [HRR.out, decide_eq_true]
      · rfl
      · apply List.ext_getElem (by rw [hm.out, hm'.out])
        intro j h h'
        exact hok.out j h h' (by have := hm.out; omega)

set_option maxRecDepth 100000 in
set_option maxHeartbeats 800000 in
theorem rvalid_any (xs : List Int) (S : Nat → Prop) (A : Option Addr) (m c : Nat) (w : World) (hr : Rc S w A (ivs xs)) (hm : Hid (xs.length = m)) (h100 : m ≤ 100) :
    Calls Try.prog 14 #[.slice A m c] w fun en w' => en = .returned (.bool (okV xs)) ∧ w' = w := by
  obtain ⟨r, hrr⟩ : ∃ r, r = okV xs := ⟨_, rfl⟩
  rw [← hrr]
  have HRR := Lib.hid hrr
  clear hrr
  go_enter Try.func14, Try.ntmps14
  go_wp2_with fail
  go_loopw [3] (fun i wr => ∃ (k : Nat), i = .int .i64 k ∧ k ≤ m ∧ Hid (wr = w) ∧ Hid (∀ j (h : j < xs.length), j < k → okN xs[j] = true)) (fun i _ => m - (intOf i).toNat)
  case atStart => exact ⟨0, rfl, Nat.zero_le _, rfl, fun j h h0 => absurd h0 (by omega)⟩
  case round =>
    obtain ⟨k, rfl, hk, hwr, hok⟩ := hrel
    by_cases hlt : k < m
    · have hkl : k < xs.length := by have := hm.out; omega
      have hrw : Rc S wr A (ivs xs) := by rw [hwr.out]; exact hr
      obtain ⟨ad, rfl, _, hc⟩ := hrw.at_ (ivs_get xs k hkl)
      have hi1 : (k : Int) < (m : Int) := by omega
      have hi2 : (0 : Int) ≤ (k : Int) := by omega
      obtain ⟨x, hx⟩ : ∃ x, x = xs[k] := ⟨_, rfl⟩
      rw [← hx] at hc
      have HX := Lib.hid hx
      clear hx hrw
      by_cases h1 : x < 0
      · have HO : Hid (okN x = false) := by show _ = _; unfold okN; simp; omega
        go_wp2_with fail
        go_ret
        refine ⟨?_, hwr.out⟩
        have : xs.all okN = false := by
          rw [List.all_eq_false]
          exact ⟨x, by rw [HX.out]; exact List.getElem_mem _, by rw [HO.out]; simp⟩
        rw [HRR.out, okV, this]; simp
      · by_cases h2 : 1099511627776 < x
        · have HO : Hid (okN x = false) := by show _ = _; unfold okN; simp; omega
          go_wp2_with fail
          go_ret
          refine ⟨?_, hwr.out⟩
          have : xs.all okN = false := by
            rw [List.all_eq_false]
            exact ⟨x, by rw [HX.out]; exact List.getElem_mem _, by rw [HO.out]; simp⟩
          rw [HRR.out, okV, this]; simp
        · have HO : Hid (okN x = true) := by show _ = _; unfold okN; simp; omega
          go_wp2_with fail
          go_roundw
          case rel => exact ⟨k + 1, by go_num, by omega, hwr, by
            intro j h hj
            rcases Nat.lt_or_ge j k with h3 | h3
            · exact hok.out j h h3
            · obtain rfl : j = k := by omega
              rw [← HX.out]; exact HO.out⟩
          case measure => simp [intOf]; omega
    · have hen : ¬ ((k : Nat) : Int) < (m : Int) := by omega
      go_wp2_with fail
      go_ret
      refine ⟨?_, hwr.out⟩
      have : xs.all okN = true := by
        rw [List.all_eq_true]
        intro x hx
        obtain ⟨j, hj, rfl⟩ := List.getElem_of_mem hx
        exact hok.out j hj (by have := hm.out; omega)
      rw [HRR.out, okV, this, hm.out]
      simp
      omega

set_option maxHeartbeats 800000 in
theorem rget_any (xs : List Int) (S : Nat → Prop) (A : Option Addr) (m c : Nat) (i : Nat) (w : World) (hr : Rc S w A (ivs xs)) (hm : Hid (xs.length = m)) :
    Calls Try.prog 17 #[.slice A m c, .int .i64 i] w fun en w' => en = .returned (.int .i64 (xs.getD i 0)) ∧ w' = w := by
  obtain ⟨r, hrr⟩ : ∃ r, r = xs.getD i 0 := ⟨_, rfl⟩
  rw [← hrr]
  by_cases h : i < m
  · have hkl : i < xs.length := by have := hm.out; omega
    obtain ⟨ad, rfl, _, hc⟩ := hr.at_ (ivs_get xs i hkl)
    have hq : xs[i] = r := by rw [hrr]; simp [List.getD, hkl]
    rw [hq] at hc
    clear hq hrr
    have hi1 : (i : Int) < (m : Int) := by omega
    have hi2 : (0 : Int) ≤ (i : Int) := by omega
    go_enter Try.func17, Try.ntmps17
    go_wp2
    go_ret
    exact ⟨rfl, rfl⟩
  · have hr0 : r = 0 := by rw [hrr]; have := hm.out; simp [List.getD, show ¬ i < xs.length by omega]
    subst hr0
    clear hrr
    have hi1 : ¬ (i : Int) < (m : Int) := by omega
    have hi2 : (0 : Int) ≤ (i : Int) := by omega
    go_enter Try.func17, Try.ntmps17
    go_wp2
    go_ret
    exact ⟨rfl, rfl⟩

set_option maxRecDepth 100000 in
set_option maxHeartbeats 800000 in
theorem rcovers_any (xs ys : List Int) (S S' : Nat → Prop) (A A' : Option Addr) (m c m' c' : Nat) (w : World) (hx : Rc S w A (ivs xs)) (hy : Rc S' w A' (ivs ys)) (hm : Hid (xs.length = m)) (hm' : Hid (ys.length = m')) :
    Calls Try.prog 15 #[.slice A m c, .slice A' m' c'] w fun en w' => en = .returned (.bool (covL xs ys)) ∧ w' = w := by
  obtain ⟨r, hrr⟩ : ∃ r, r = covL xs ys := ⟨_, rfl⟩
  rw [← hrr]
  have HRR := Lib.hid hrr
  clear hrr
  go_enter Try.func15, Try.ntmps15
  go_wp2_with fail
  go_loopw [5] (fun i wr => ∃ (k : Nat), i = .int .i64 k ∧ k ≤ 12 ∧ Hid (wr = w) ∧ Hid (∀ j, j < k → ys.getD j 0 ≤ xs.getD j 0)) (fun i _ => 12 - (intOf i).toNat)
  case atStart => exact ⟨0, rfl, Nat.zero_le _, rfl, fun j h => absurd h (by omega)⟩
  case round =>
    obtain ⟨k, rfl, hk, hwr, hok⟩ := hrel
    by_cases hlt : k < 12
    · have hrw : Rc S wr A (ivs xs) := by rw [hwr.out]; exact hx
      have hrw' : Rc S' wr A' (ivs ys) := by rw [hwr.out]; exact hy
      have hi1 : (k : Int) < 12 := by omega
      go_wp2_with fail
      refine (rget_any xs S A m c k wr hrw hm).mono ?_
      rintro en w' ⟨rfl, rfl⟩
      obtain ⟨x, hxx⟩ : ∃ x, x = xs.getD k 0 := ⟨_, rfl⟩
      rw [← hxx]
      have HX := Lib.hid hxx
      clear hxx
      go_wp2_with fail
      refine (rget_any ys S' A' m' c' k _ hrw' hm').mono ?_
      rintro en w' ⟨rfl, rfl⟩
      obtain ⟨y, hyy⟩ : ∃ y, y = ys.getD k 0 := ⟨_, rfl⟩
      rw [← hyy]
      have HY := Lib.hid hyy
      clear hyy hrw hrw'
      by_cases hxy : x < y
      · have HXY := Lib.hid hxy
        have e1 : decide (x < y) = true := decide_eq_true hxy
        clear hxy
        go_wp2_with fail
        go_ret
        refine ⟨?_, hwr.out⟩
        rw [HRR.out]
        have : covL xs ys = false := by
          unfold covL
          rw [List.all_eq_false]
          exact ⟨k, by simp [hlt], by have := HXY.out; rw [← HX.out, ← HY.out]; simp; omega⟩
        rw [this]
        rfl
      · have HXY := Lib.hid hxy
        have e1 : decide (x < y) = false := decide_eq_false hxy
        clear hxy
        go_wp2_with fail
        go_roundw
        case rel => exact ⟨k + 1, by go_num, by omega, hwr, fun j hj => by
          rcases Nat.lt_or_ge j k with h5 | h5
          · exact hok.out j h5
          · obtain rfl : j = k := by omega
            rw [← HX.out, ← HY.out]; have := HXY.out; omega⟩
        case measure => simp [intOf]; omega
    · have hen : ¬ ((k : Nat) : Int) < 12 := by omega
      go_wp2_with fail
      go_ret
      refine ⟨?_, hwr.out⟩
      rw [HRR.out]
      have : covL xs ys = true := by
        unfold covL
        rw [List.all_eq_true]
        intro j hj
        have := hok.out j (by simp at hj; omega)
        simpa using this
      rw [this]
      rfl
end Go.Proofs.Ytckfopdkknckcaa
