/- The walks of WireInverse and WireNumbers. -/
import Derived.Test.YtllmhablpeecfaaLawB
set_option linter.unusedVariables false
set_option linter.unusedSimpArgs false
namespace Go.Proofs.Ytllmhablpeecfaa
open Go.RowKit

/-- A law's end: it returned true; old memory is as it was. -/
def LawP (w : World) (en : Ending) (w' : World) : Prop := en = .returned (.bool true) ∧ Below w.heap.size w w'
theorem law_ret {w w' : World} {b : Bool} (h : b = true) (hb : Below w.heap.size w w') : LawP w (.returned (.bool b)) w' := ⟨ret_bool h, hb⟩

def tailLen (m : Nat) : Nat := if m = 0 then 0 else (num m).length
theorem tail_step (n : Nat) : (num n).length = 1 + tailLen (n / 128) := by
  unfold tailLen
  by_cases h : n < 128
  · rw [num_lt h, if_pos (by omega)]; simp
  · rw [num_ge (by omega), if_neg (by omega), List.length_cons]; omega

set_option maxHeartbeats 800000 in
theorem wireInverse_walk (n : Nat) (k : Int) (w : World) (hn : Hid (n < 18446744073709551616)) (hk : Hid (-9223372036854775808 ≤ k ∧ k ≤ 9223372036854775807)) :
    Calls Try.prog 4 #[.int .u64 n, .int .i64 k] w (LawP w) := by
  go_enter Try.func4, Try.ntmps4
  go_wp2_with fail
  refine (awake_any w).mono ?_
  rintro en w1 ⟨rfl, hb1⟩
  go_wp2_with fail
  refine (zigzag_any k w1 hk).mono ?_
  rintro en w' ⟨rfl, rfl⟩
  go_wp2_with fail
  refine (unzigzag_any (zz k) w1 (zz_lt hk.out.1 hk.out.2)).mono ?_
  rintro en w' ⟨rfl, rfl⟩
  rw [unzz_zz]
  go_wp2_with fail
  refine (unzigzag_any n w1 hn).mono ?_
  rintro en w' ⟨rfl, rfl⟩
  go_wp2_with fail
  refine (zigzag_any (unzz n) w1 (unzz_bd hn.out)).mono ?_
  rintro en w' ⟨rfl, rfl⟩
  rw [zz_unzz]
  go_wp2_with fail
  go_loopw [5, 6] (fun s m wr => ∃ (q t : Nat), s = .int .i64 q ∧ m = .int .u64 t ∧ t ≤ n ∧ Hid ((num n).length = q + tailLen t) ∧ wr = w1) (fun _ m _ => (intOf m).toNat)
  case atStart => exact ⟨1, n / 128, rfl, by go_num, by omega, tail_step n, rfl⟩
  case round =>
    obtain ⟨q, t, rfl, rfl, ht, hq, rfl⟩ := hrel
    have hq10 : q ≤ 10 := by have h1 := hq.out; have h2 := num_len hn.out; omega
    by_cases h0 : 0 < t
    · go_wp2_with fail
      go_roundw
      case rel => exact ⟨q + 1, t / 128, by go_num, by go_num, by omega, by
        show _ = _
        rw [hq.out]
        have h1 := tail_step t
        have h2 : tailLen t = (num t).length := by unfold tailLen; rw [if_neg (by omega)]
        omega, by first | rfl | trivial⟩
      case measure => simp [intOf]; omega
    · have HQ : Hid ((num n).length = q) := by
        show _ = _
        rw [hq.out]; unfold tailLen; rw [if_pos (by omega)]; rfl
      clear hq
      go_wp2_with fail
      refine (uintSize_any n _ hn).mono ?_
      rintro en w' ⟨rfl, rfl⟩
      rw [HQ.out]
      go_wp2_with fail
      refine (appendUint_any [] n (fun _ => True) none 0 0 _ (Rc.nil _ _ _) rfl (by omega) hn).mono ?_
      rintro en w2 ⟨A2, c2, rfl, ho2, hb2⟩
      rw [show (([] : List UInt8) ++ num n).length = q from HQ.out]
      have hB2 := below_then hb1 hb2 (Nat.le_refl _)
      go_wp2_with fail
      go_ret
      exact law_ret rfl hB2

set_option maxHeartbeats 1600000 in
theorem wireNumbers_walk (xs : List UInt8) (S : Nat → Prop) (A : Option Addr) (m c : Nat) (n : Nat) (k : Int) (w : World) (hr : Rc S w A (bvs xs)) (hm : Hid (xs.length = m)) (hml : Hid (m ≤ 9223372036854775807)) (hn : Hid (n < 18446744073709551616)) (hk : Hid (-9223372036854775808 ≤ k ∧ k ≤ 9223372036854775807)) :
    Calls Try.prog 3 #[.slice A m c, .int .u64 n, .int .i64 k] w (LawP w) := by
  by_cases h1000 : 1000 < m
  · go_enter Try.func3, Try.ntmps3
    go_wp2_with fail
    refine (awake_any w).mono ?_
    rintro en w1 ⟨rfl, hb1⟩
    go_wp2_with fail
    go_ret
    exact law_ret rfl hb1
  · have hx : xs.length ≤ 1000 := by rw [hm.out]; omega
    have HX := Lib.hid hx
    clear hx
    go_enter Try.func3, Try.ntmps3
    go_wp2_with fail
    refine (awake_any w).mono ?_
    rintro en w1 ⟨rfl, hb1⟩
    have hr1 := hr.below hb1
    have hs1 := hb1.size
    go_wp2_with (at_builtin; refine wpl_append_bytes w1.heap.size rfl (.tmp 13) _ 22 5 rfl Try.underlying22 info_u8 (.slice (some ⟨w1.heap.size, 0, none⟩) 0 0) [] xs S A m c rfl rfl (own_lit0 w1 _) (hr1.alloc _) hm.out (by simp) (by have := HX.out; have := hm.out; simp; omega) ?_)
    intro v2 w2 hown2 hg2 hat2
    have hb2 : Below w1.heap.size w1 w2 := ((Below.refl _ _).alloc (Nat.le_refl _) _).grown hg2 (by simp) (by intro k hk; simp [Value.ownBlock] at hk; omega)
    have hown2' : w2.ownsRow w1.heap.size 5 1 v2 xs.length (bvs xs) := by simpa using hown2
    clear hown2 hg2 hat2
    obtain ⟨A2, c2, rfl, _, _⟩ := own_slice hown2'
    go_wp2_with fail
    refine (rnumber_any n w2 hn).mono ?_
    rintro en w3 ⟨A3, c3, rfl, ho3, hb3⟩
    have hown3 := own_below hown2' hb3
    go_wp2_with (at_builtin; refine wpl_append_bytes w1.heap.size rfl (.tmp 15) _ 22 5 rfl Try.underlying22 info_u8 _ xs (num n) _ A3 (num n).length c3 rfl rfl hown3 (Rc.of_own ho3) rfl (Nat.le_trans hb2.size hb3.size) (by have := HX.out; have := num_len hn.out; omega) ?_)
    intro v4 w4 hown4 hg4 hat4
    have hb4 : Below w1.heap.size w1 w4 := (below_then hb2 hb3 (Nat.le_refl _)).grown hg4 (Nat.le_trans hb2.size hb3.size) (fun k hk => (own_lt hown3 hk).1)
    clear hat4 hg4 hown3 ho3 hown2'
    obtain ⟨A4, c4, rfl, _, _⟩ := own_slice hown4
    have hr4 := hr1.below hb4
    have hB4 := below_then hb1 hb4 (Nat.le_refl _)
    go_wp2_with fail
    refine (appendUint_any xs n S A m c w4 hr4 hm (by omega) hn).mono ?_
    rintro en w5 ⟨A5, c5, rfl, ho5, hb5⟩
    have hown5 := own_below hown4 hb5
    have hB5 := below_then hB4 hb5 (Nat.le_refl _)
    go_wp2_with fail
    refine (same_any (xs ++ num n) (xs ++ num n) _ _ A5 A4 _ c5 _ c4 w5 (Rc.of_own ho5) (Rc.of_own hown5) (by show _ = _; simp) (by show _ = _; simp) (by have := HX.out; have := num_len hn.out; show _ ≤ _; omega)).mono ?_
    rintro en w6 ⟨rfl, m6, rfl⟩
    rw [show decide (xs ++ num n = xs ++ num n) = true from by simp]
    have hB6 := below_drewN hB5 m6
    go_wp2_with fail
    refine (uintSize_any n _ hn).mono ?_
    rintro en w' ⟨rfl, rfl⟩
    go_wp2_with fail
    refine (rnumber_any n _ hn).mono ?_
    rintro en w7 ⟨A7, c7, rfl, ho7, hb7⟩
    have hB7 := below_then hB6 hb7 (Nat.le_refl _)
    go_wp2_with fail
    refine (zigzag_any k _ hk).mono ?_
    rintro en w' ⟨rfl, rfl⟩
    go_wp2_with fail
    refine (rzigzag_any k _ hk).mono ?_
    rintro en w' ⟨rfl, rfl⟩
    go_wp2_with fail
    refine (unzigzag_any n _ hn).mono ?_
    rintro en w' ⟨rfl, rfl⟩
    go_wp2_with fail
    refine (runzigzag_any n _ hn).mono ?_
    rintro en w' ⟨rfl, rfl⟩
    go_wp2_with fail
    go_ret
    exact law_ret rfl hB7
end Go.Proofs.Ytllmhablpeecfaa
