/- The walk of WireCanonical. -/
import Derived.Test.YtllmhablpeecfaaLawO
import Derived.Deep.RegionHeld3
set_option linter.unusedVariables false
set_option linter.unusedSimpArgs false
namespace Go.Proofs.Ytllmhablpeecfaa
open Go.RowKit

set_option maxRecDepth 100000 in
set_option maxHeartbeats 3200000 in
theorem wireCanonical_walk (bs : List UInt8) (S : Nat → Prop) (A : Option Addr) (m c : Nat) (ks : List Val) (S1 : Nat → Prop) (A1 : Option Addr) (m1 c1 : Nat) (w : World)
    (hr : Rc S w A (bvs bs)) (hm : Hid (bs.length = m)) (hml : Hid (m ≤ 9223372036854775807))
    (hr1 : Rc S1 w A1 (vvs ks)) (hm1 : Hid (ks.length = m1)) (hml1 : Hid (m1 ≤ 9223372036854775807)) (hok1 : ∀ x ∈ ks, x.Ok) :
    Calls Try.prog 11 #[.slice A m c, .slice A1 m1 c1] w (LawP w) := by
  have HOK1 := Lib.hid hok1
  clear hok1
  go_enter Try.func11, Try.ntmps11
  go_wp2_with fail
  refine (awake_any w).mono ?_
  rintro en w1 ⟨rfl, hb1⟩
  by_cases h1000 : 1000 < m
  case pos =>
    go_wp2_with fail
    go_ret
    exact law_ret rfl hb1
  by_cases h40 : 40 < m1
  case pos =>
    go_wp2_with fail
    go_ret
    exact law_ret rfl hb1
  have hrb := hr.below hb1
  have hrk := (hr1.below hb1).lt
  clear hr hr1
  go_wp2_with fail
  refine (newReader_any bs S A m c w1 hrb hm (by show _ ≤ _; omega)).mono ?_
  rintro en w2 ⟨g, v, rfl, hrd, hb2, hg, hv⟩
  have HBB := Lib.hid hb1
  clear hb1
  go_wp2_with fail
  refine (newWriter_any w2).mono ?_
  rintro en w3 ⟨rfl, rfl⟩
  obtain ⟨g2, hg2⟩ : ∃ g2, g2 = w2.heap.size := ⟨_, rfl⟩
  have hB3 : Below w2.heap.size w2 (w2.alloc (.cells #[.slice none 0 0, .int .i64 0] 64)) := (Below.refl _ _).alloc (Nat.le_refl _) _
  have HR3 : Hid (RW w1.heap.size w1 (w2.alloc (.cells #[.slice none 0 0, .int .i64 0] 64)) g g2 v (.slice none 0 0) bs 0 0 0 [] 0) :=
    ⟨hrd.below hB3, by rw [hg2]; exact Wr.new w2, below_then hb2 hB3 (Nat.le_refl _), Nat.le_refl _, hg, by rw [hg2]; exact hb2.size, by intro b hb; simp [Value.ownBlock] at hb⟩
  rw [← hg2]
  clear hg2 hB3 hrd hb2 hg hv
  revert HR3
  generalize (w2.alloc (.cells #[.slice none 0 0, .int .i64 0] 64)) = w3
  intro HR3
  go_wp2_with fail
  go_loopw [7] (fun i wr => ∃ (k p l : Nat) (e : Int) (ys : List UInt8) (we : Int) (v2 : Value), i = .int .i64 k ∧ k ≤ m1 ∧ Hid (RW w1.heap.size w1 wr g g2 v v2 bs p l e ys we) ∧ Hid (Canon bs p e ys we) ∧ Hid (ys.length ≤ k * 1010)) (fun i _ => m1 - (intOf i).toNat)
  case atStart => exact ⟨0, 0, 0, 0, [], 0, _, rfl, Nat.zero_le _, HR3, fun _ => ⟨rfl, rfl⟩, Nat.zero_le _⟩
  case round =>
    obtain ⟨k, p, l, e, ys, we, v2, rfl, hk, hrw, hcan, hyl⟩ := hrel
    by_cases hlt : k < m1
    · have hkl : k < ks.length := by have := hm1.out; omega
      obtain ⟨x, hx⟩ : ∃ x, x = ks[k] := ⟨_, rfl⟩
      obtain ⟨ad, rfl, hS, hat⟩ := vvs_at (hrk.below hrw.out.bl) hkl
      rw [← hx] at hat
      have hok := HOK1.out x (by rw [hx]; exact List.getElem_mem _)
      have hmo := Lib.hid hok.m.2
      have hmo2 := Lib.hid hok.m
      have hadb : (ad.add (k * 6)).block < w1.heap.size := by rw [add_blk]; exact hS.2
      have HA := Lib.hid hadb
      have hc0 := hat.c0
      have hc5 := hat.c5
      have hi1 : (k : Int) < (m1 : Int) := by omega
      have hi2 : (0 : Int) ≤ (k : Int) := by omega
      have hx5 : Hid (bs.length ≤ 140737488355328) := by have := hm.out; show _ ≤ _; omega
      obtain ⟨kd, u, n, b, s, mo⟩ := x
      dsimp only at hc0 hc5 hmo hmo2
      clear hat hx hok hadb hS
      go_wp2_with fail
      refine (known_same kd _).mono ?_
      rintro en w' ⟨rfl, rfl⟩
      by_cases hkn : 1 ≤ kd ∧ kd ≤ 7
      case neg =>
        have e2 : decide (1 ≤ kd ∧ kd ≤ 7) = false := by rw [decide_eq_false_iff_not]; exact hkn
        rw [e2]
        clear hkn
        go_wp2_with fail
        go_roundw
        case rel => exact ⟨k + 1, p, l, e, ys, we, v2, by go_num, by omega, hrw, hcan, by have := hyl.out; show _ ≤ _; omega⟩
        case measure => simp [intOf]; omega
      have e2 : decide (1 ≤ kd ∧ kd ≤ 7) = true := by rw [decide_eq_true_eq]; exact hkn
      rw [e2]
      obtain ⟨o, ho⟩ : ∃ o, o = getF kd mo bs p l e := ⟨_, rfl⟩
      have hcs := canon_step (mo := mo) (l := l) hkn hrw.out.rd.le hcan.out
      have hgo := getF_ok (p := p) (l := l) (e := e) (xs := bs) hkn hmo2.out (by have := hx5.out; omega)
      rw [← ho] at hcs hgo
      have HO := Lib.hid ho
      have HCS := Lib.hid hcs
      have HGO := Lib.hid hgo
      clear ho hcs hgo hkn e2 hmo2
      have HD := Lib.hid hrw.out.drew
      have H0 : Hid (w'.drew.cell? (ad.add (k * 6)) = some (.int .i64 kd) ∧ w'.drew.cell? ⟨(ad.add (k * 6)).block, (ad.add (k * 6)).off + 5, none⟩ = some (.int .i64 mo)) := ⟨hc0, hc5⟩
      go_wp2_with fail
      go_region_held3 (fun w' => w'.cell? (ad.add (k * 6)) = some (.int .i64 kd) ∧ w'.cell? ⟨(ad.add (k * 6)).block, (ad.add (k * 6)).off + 5, none⟩ = some (.int .i64 mo))
        (first
          | with_reducible exact H0.out
          | with_reducible exact c05_bl H0.out (Kp.below (B := w1.heap.size) hk3 (Nat.le_trans HD.out.bw HD.out.bl.size) (fun k h1 h2 => by have := HD.out.bg; omega)) HA.out
          | with_reducible exact H4.out
          | fail)
        (first
          | (go_at_call 33; refine (get_any g v bs p l _ kd mo e (by with_reducible exact HD.out.rd) hmo hx5).mono ?_; rw [← HO.out]; rintro en w3 ⟨rfl, hr3, hk3⟩; have HR4 := Lib.hid (HD.out.get hr3 hk3))
          | (go_at_call 36; refine (put_any g2 v2 ys we o.1 _ (by with_reducible exact HR4.out.wr) (by have := hyl.out; show _ ≤ _; omega) HGO.out.1 (by have := HGO.out.2; have := hm.out; show _ ≤ _; omega)).mono ?_; rintro en w4 ⟨rfl, v4, hw4, hs4⟩; have HR5 := Lib.hid (HR4.out.put hw4 hs4);
              have H4 := Lib.hid (c05_bl (B := w1.heap.size) (c05_bl H0.out (Kp.below (B := w1.heap.size) hk3 (Nat.le_trans HD.out.bw HD.out.bl.size) (fun k h1 h2 => by have := HD.out.bg; omega)) HA.out) (hs4.kp.below (Nat.le_trans HR4.out.bw HR4.out.bl.size) (fun k h1 h2 => by have := HR4.out.bg2; have h5 := HR4.out.vb k; rcases h2 with h2 | h2 <;> first | omega | (have := (h5 h2.symm).1; omega))) HA.out))
          | fail)
      have HL4 : Hid ((putX (encV o.1) ys we).length ≤ (k + 1) * 1010) := by
        have h1 := putX_len2 HGO.out.1 (by have := HGO.out.2; have := hm.out; omega) ys we
        have h2 := hyl.out
        show _ ≤ _
        omega
      go_wp2_with fail
      go_roundw
      case rel => exact ⟨k + 1, _, _, _, _, _, v4, by go_num, by omega, HR5, HCS, HL4⟩
      case measure => simp [intOf]; omega
    · have hen : ¬ ((k : Nat) : Int) < (m1 : Int) := by omega
      clear hrk
      go_wp2_with fail
      refine (end_any g v bs p l e wr hrw.out.rd).mono ?_
      rintro en w' ⟨rfl, n7, rfl⟩
      have hpl : Hid (p ≤ m) := by have := hrw.out.rd.le; have := hm.out; show _ ≤ _; omega
      have hBw := below_drewN (HBB.out.trans ((hrw.out.bl).mono HBB.out.size)) n7
      obtain ⟨q, hq⟩ : ∃ q, q = endE e p bs.length := ⟨_, rfl⟩
      rw [← hq]
      by_cases he : q = 0
      case neg =>
        have e1 : (q != 0) = true := by rw [bne_iff_ne]; exact he
        have e2 : decide ((0 : Int) ≤ (p : Int)) = true := by simp
        have e3 : decide ((p : Int) ≤ (m : Int)) = true := by have := hpl.out; simp; omega
        clear he hq
        go_wp2_with fail
        go_ret
        exact law_ret (by simp [hpl.out]) hBw
      have hee : e = 0 ∧ ¬ p < bs.length := by
        rw [he] at hq
        unfold endE at hq
        split at hq
        · omega
        · rename_i h1
          exact ⟨hq.symm, fun h2 => h1 ⟨hq.symm, h2⟩⟩
      obtain ⟨hys, hwe⟩ := hcan.out hee.1
      have hpm : p = m := by have := hpl.out; have := hm.out; omega
      have hys2 : ys = bs := by rw [hys]; exact List.take_of_length_le (by omega)
      clear hys hcan hq hee
      subst he hys2 hwe hpm
      go_wp2_with fail
      refine (done_any g2 v2 ys 0 _ (hrw.out.wr.drewN n7)).mono ?_
      rintro en w5 ⟨A5, c5, rfl, ho5, hb5⟩
      have hd1 : doneE 0 ys = 0 := by unfold doneE; rw [if_neg (by omega), if_neg (by have := hm.out; omega)]
      have hd2 : doneB 0 ys = ys := by unfold doneB; rw [if_pos hd1]
      rw [hd1, hd2]
      rw [hd2] at ho5
      have hB5 := below_then hBw hb5 (Nat.le_refl _)
      have hrb5 := hrb.below ((below_drewN hrw.out.bl n7).trans (hb5.mono (by have := hrw.out.bl.size; exact this)))
      clear hd1 hd2 hrb
      go_wp2_with fail
      refine (same_any ys ys S _ A A5 p c _ c5 w5 hrb5 (Rc.of_own ho5) hm (by show _ = _; rfl) (by show _ ≤ _; omega)).mono ?_
      rintro en w6 ⟨rfl, n8, rfl⟩
      rw [show decide (ys = ys) = true from decide_eq_true rfl]
      have hB6 := below_drewN hB5 n8
      go_wp2_with fail
      go_ret
      exact law_ret (by simp) hB6
end Go.Proofs.Ytllmhablpeecfaa
