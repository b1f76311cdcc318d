/- The walk of WireReturns. -/
import Derived.Test.YtllmhablpeecfaaLawM
import Derived.Test.YtllmhablpeecfaaLawI
set_option linter.unusedVariables false
set_option linter.unusedSimpArgs false
namespace Go.Proofs.Ytllmhablpeecfaa
open Go.RowKit

theorem flat_take {vs : List Val} {k : Nat} (hk : k < vs.length) : flatV (vs.take (k + 1)) = flatV (vs.take k) ++ (encV vs[k]).getD [] := by
  unfold flatV
  rw [List.take_succ_eq_append_getElem hk, List.flatMap_append]
  simp
theorem flat_drop {vs : List Val} {k : Nat} (hk : k < vs.length) : (flatV vs).drop (flatV (vs.take k)).length = (encV vs[k]).getD [] ++ flatV (vs.drop (k + 1)) := by
  have h1 : flatV vs = flatV (vs.take k) ++ flatV (vs.drop k) := by
    unfold flatV; rw [← List.flatMap_append, List.take_append_drop]
  have h2 : flatV (vs.drop k) = (encV vs[k]).getD [] ++ flatV (vs.drop (k + 1)) := by
    unfold flatV; rw [List.drop_eq_getElem_cons hk, List.flatMap_cons]
  rw [h1, List.drop_left, h2]

set_option maxRecDepth 100000 in
set_option maxHeartbeats 3200000 in
theorem wireReturns_walk (xs : List Val) (S : Nat → Prop) (A : Option Addr) (m c : Nat) (w : World) (hr : Rc S w A (vvs xs)) (hm : Hid (xs.length = m)) (hml : Hid (m ≤ 9223372036854775807)) (hok : ∀ x ∈ xs, x.Ok) :
    Calls Try.prog 10 #[.slice A m c] w (LawP w) := by
  have HOK := Lib.hid hok
  clear hok
  go_enter Try.func10, Try.ntmps10
  go_wp2_with fail
  refine (awake_any w).mono ?_
  rintro en w1 ⟨rfl, hb1⟩
  have hr1 := hr.below hb1
  clear hr
  go_wp2_with fail
  refine (small_any xs S A m c w1 hr1 hm hml HOK).mono ?_
  rintro en w' ⟨rfl, rfl⟩
  by_cases hsm : xs.length ≤ 40 ∧ ∀ x ∈ xs, x.s.size ≤ 400
  case neg =>
    have HS : smallB xs = false := by unfold smallB; rw [decide_eq_false_iff_not]; exact hsm
    rw [HS]
    clear hsm
    go_wp2_with fail
    go_ret
    exact law_ret rfl hb1
  have HS : smallB xs = true := by unfold smallB; rw [decide_eq_true_eq]; exact hsm
  rw [HS]
  have h40 : m ≤ 40 := by have := hm.out; omega
  have hs4 := Lib.hid hsm.2
  clear hsm HS
  go_wp2_with fail
  refine (encoded_any xs S A m c w1 hr1 hm h40 hs4 HOK).mono ?_
  rintro en w2 ⟨A2, c2, rfl, ho2, hb2⟩
  have hB2 := below_then hb1 hb2 (Nat.le_refl _)
  by_cases e1 : encE xs = 0
  case neg =>
    have e1' : (encE xs != 0) = true := by rw [bne_iff_ne]; exact e1
    clear e1
    go_wp2_with fail
    go_ret
    exact law_ret rfl hB2
  have e1' : (encE xs != 0) = false := by rw [e1]; rfl
  obtain ⟨hsome, hflat⟩ := encE_ok e1
  have HSM := Lib.hid hsome
  clear e1 hsome
  have hlen : (encB xs).length ≤ 1048576 := encB_len
  obtain ⟨bs, hbs⟩ : ∃ bs, bs = encB xs := ⟨_, rfl⟩
  rw [hflat] at hbs
  rw [← hbs] at hflat
  have HBS := Lib.hid hbs
  rw [hflat] at ho2 hlen ⊢
  clear hflat hbs
  have hrk0 := hr1.lt.below hb2
  go_wp2_with fail
  refine (newReader_any bs _ A2 _ c2 w2 (Rc.of_own ho2) (by show _ = _; rfl) (by show _ ≤ _; omega)).mono ?_
  rintro en w3 ⟨g, v, rfl, hrd, hb3, hg, hv⟩
  have hB3 := below_then hB2 hb3 (Nat.le_refl _)
  have hrk := hrk0.below hb3
  have HG := Lib.hid hg
  have HBB := Lib.hid hB3
  have HW1 := Lib.hid hb1.size
  have HW2 := Lib.hid hb2.size
  clear hv hg hB3 hB2 hb1 hb2 hb3 hrk0 hr1 ho2
  go_wp2_with fail
  go_loopw [6] (fun i wr => ∃ (k p l : Nat), i = .int .i64 k ∧ k ≤ m ∧ Rd wr g v bs p l 0 ∧ Kp (fun k => k = g) w3 wr ∧ Hid (p = (flatV (xs.take k)).length)) (fun i _ => m - (intOf i).toNat)
  case atStart => exact ⟨0, 0, 0, rfl, Nat.zero_le _, hrd, Kp.refl _ _, by show _ = _; simp [flatV]⟩
  case round =>
    obtain ⟨k, p, l, rfl, hk, hrd1, hkp, hp⟩ := hrel
    by_cases hlt : k < m
    · have hkl : k < xs.length := by have := hm.out; omega
      obtain ⟨x, hx⟩ : ∃ x, x = xs[k] := ⟨_, rfl⟩
      obtain ⟨ad, rfl, hS, hat⟩ := vvs_at (hrk.kp hkp (by rintro k ⟨_, h⟩ rfl; have := HG.out; have := HW2.out; omega)) hkl
      rw [← hx] at hat
      have hmem : x ∈ xs := by rw [hx]; exact List.getElem_mem _
      have hok := HOK.out x hmem
      have hs400 := hs4.out x hmem
      have hmx := Lib.hid hok.n.2
      obtain ⟨a, ha⟩ := Option.isSome_iff_exists.1 (HSM.out x hmem)
      have hpd : Hid (bs.drop p = a ++ flatV (xs.drop (k + 1))) := by
        show _ = _
        rw [HBS.out, hp.out, flat_drop hkl, ← hx, ha]; rfl
      have hpn : Hid (p + a.length = (flatV (xs.take (k + 1))).length) := by
        show _ = _
        rw [flat_take hkl, ← hx, ha, List.length_append, hp.out]; rfl
      have HOKX := Lib.hid hok
      have HA := Lib.hid ha
      clear hx hmem hok ha hS
      have hc0 := hat.c0
      have hc1 := hat.c1
      have hc2 := hat.c2
      have hc3 := hat.c3
      have hc4 := hat.c4
      have hc5 := hat.c5
      have hi1 : (k : Int) < (m : Int) := by omega
      have hi2 : (0 : Int) ≤ (k : Int) := by omega
      have hx5 : Hid (bs.length ≤ 140737488355328) := by show _ ≤ _; omega
      clear hat
      go_wp2_with fail
      refine (known_same x.kind _).mono ?_
      rintro en w' ⟨rfl, rfl⟩
      have PQ := Lib.hid (p6_new (Kp.refl (fun k => k = g) wr) hrd1 x.kind x.u x.n x.b x.s x.most)
      revert PQ
      generalize (wr.alloc (.cells #[.int .i64 x.kind, .int .u64 x.u, .int .i64 x.n, .bool x.b, .string x.s, .int .i64 x.most] 51)) = W5
      generalize wr.heap.size = B
      intro PQ
      clear hc0 hc1 hc2 hc3 hc4 hc5 hrk
      by_cases hkn : 1 ≤ x.kind ∧ x.kind ≤ 7
      case neg =>
        have e2 : decide (1 ≤ x.kind ∧ x.kind ≤ 7) = false := by rw [decide_eq_false_iff_not]; exact hkn
        rw [e2]
        have ha0 : Hid (a = []) := by
          have h1 := HA.out
          unfold encV at h1
          rw [if_neg (by omega), if_neg (by omega), if_neg (by omega), if_neg (by omega), if_neg (by omega), if_neg (by omega), if_neg (by omega)] at h1
          show _ = _
          injection h1 with h1
          exact h1.symm
        clear hkn
        go_wp2_with fail
        go_roundw
        case rel => exact ⟨k + 1, p, l, by go_num, by omega, PQ.out.rd, hkp.trans PQ.out.kp (fun _ _ h => h), by show _ = _; rw [← hpn.out, ha0.out]; rfl⟩
        case measure => simp [intOf]; omega
      have e2 : decide (1 ≤ x.kind ∧ x.kind ≤ 7) = true := by rw [decide_eq_true_eq]; exact hkn
      rw [e2]
      have hz0 : W5.cell? ⟨B, 0, none⟩ = some (.int .i64 x.kind) := blk_cell PQ.out.blk 0
      have hz2 : W5.cell? ⟨B, 2, none⟩ = some (.int .i64 x.n) := blk_cell PQ.out.blk 2
      have hz4 : W5.cell? ⟨B, 4, none⟩ = some (.string x.s) := blk_cell PQ.out.blk 4
      go_wp2_with fail
      have hmo : Hid (max x.n (x.s.size : Int) ≤ 9223372036854775807) := by have := hmx.out; show _ ≤ _; omega
      obtain ⟨y, hy, y1, y2, y3, y4⟩ := getF_enc (l := l) HOKX.out hkn HA.out hpd.out
      refine (get_any g v bs p l W5 x.kind (max x.n (x.s.size : Int)) 0 PQ.out.rd hmo hx5).mono ?_
      rw [hy]
      rintro en w6 ⟨rfl, hr6, hk6⟩
      clear hy hz0 hz2 hz4 HOKX HA hpd hmo hx5 e2
      obtain ⟨yk, yu, yn, yb, ys, ym⟩ := y
      dsimp only at hr6 y1 y2 y3 y4 ⊢
      have hB6 : w6.heap[B]? = some (.cells #[.int .i64 x.kind, .int .u64 x.u, .int .i64 x.n, .bool x.b, .string x.s, .int .i64 x.most] 51 (0, 0)) := hk6.blk PQ.out.blk PQ.out.ne
      have PY := Lib.hid (p6_new hk6 hr6 yk yu yn yb ys ym)
      have hz0 : (w6.alloc (.cells #[.int .i64 yk, .int .u64 yu, .int .i64 yn, .bool yb, .string ys, .int .i64 ym] 51)).cell? ⟨B, 0, none⟩ = some (.int .i64 x.kind) := blk_cell (blk_alloc hB6 _) 0
      have hz1 : (w6.alloc (.cells #[.int .i64 yk, .int .u64 yu, .int .i64 yn, .bool yb, .string ys, .int .i64 ym] 51)).cell? ⟨B, 1, none⟩ = some (.int .u64 x.u) := blk_cell (blk_alloc hB6 _) 1
      have hz2 : (w6.alloc (.cells #[.int .i64 yk, .int .u64 yu, .int .i64 yn, .bool yb, .string ys, .int .i64 ym] 51)).cell? ⟨B, 2, none⟩ = some (.int .i64 x.n) := blk_cell (blk_alloc hB6 _) 2
      have hz3 : (w6.alloc (.cells #[.int .i64 yk, .int .u64 yu, .int .i64 yn, .bool yb, .string ys, .int .i64 ym] 51)).cell? ⟨B, 3, none⟩ = some (.bool x.b) := blk_cell (blk_alloc hB6 _) 3
      have hz4 : (w6.alloc (.cells #[.int .i64 yk, .int .u64 yu, .int .i64 yn, .bool yb, .string ys, .int .i64 ym] 51)).cell? ⟨B, 4, none⟩ = some (.string x.s) := blk_cell (blk_alloc hB6 _) 4
      have hy1 : (w6.alloc (.cells #[.int .i64 yk, .int .u64 yu, .int .i64 yn, .bool yb, .string ys, .int .i64 ym] 51)).cell? ⟨w6.heap.size, 1, none⟩ = some (.int .u64 yu) := blk_cell (blk_new _ _ _) 1
      have hy2 : (w6.alloc (.cells #[.int .i64 yk, .int .u64 yu, .int .i64 yn, .bool yb, .string ys, .int .i64 ym] 51)).cell? ⟨w6.heap.size, 2, none⟩ = some (.int .i64 yn) := blk_cell (blk_new _ _ _) 2
      have hy3 : (w6.alloc (.cells #[.int .i64 yk, .int .u64 yu, .int .i64 yn, .bool yb, .string ys, .int .i64 ym] 51)).cell? ⟨w6.heap.size, 3, none⟩ = some (.bool yb) := blk_cell (blk_new _ _ _) 3
      have hy4 : (w6.alloc (.cells #[.int .i64 yk, .int .u64 yu, .int .i64 yn, .bool yb, .string ys, .int .i64 ym] 51)).cell? ⟨w6.heap.size, 4, none⟩ = some (.string ys) := blk_cell (blk_new _ _ _) 4
      clear hB6
      by_cases kq : x.kind = 1
      · obtain rfl : yu = x.u := y1 kq
        have f1 : (x.kind == 1) = true := by rw [beq_iff_eq]; exact kq
        have fe : ((x.u : Int) != (x.u : Int)) = false := by simp
        clear y1 y2 y3 y4 hkn kq
        go_wp2_with fail
        go_roundw
        case rel => exact ⟨k + 1, _, _, by go_num, by omega, PY.out.rd, (hkp.trans PQ.out.kp (fun _ _ h => h)).trans PY.out.kp (fun _ _ h => h), hpn⟩
        case measure => simp [intOf]; omega
      by_cases kq : x.kind = 2
      · obtain rfl : yn = x.n := y2 (Or.inl kq)
        have f1 : (x.kind == 1) = false := by rw [beq_eq_false_iff_ne]; omega
        have f2 : (x.kind == 2) = true := by rw [beq_iff_eq]; omega
        have fe : (x.n != x.n) = false := by simp
        clear y1 y2 y3 y4 hkn kq
        go_wp2_with fail
        go_roundw
        case rel => exact ⟨k + 1, _, _, by go_num, by omega, PY.out.rd, (hkp.trans PQ.out.kp (fun _ _ h => h)).trans PY.out.kp (fun _ _ h => h), hpn⟩
        case measure => simp [intOf]; omega
      by_cases kq : x.kind = 7
      · obtain rfl : yn = x.n := y2 (Or.inr kq)
        have f1 : (x.kind == 1) = false := by rw [beq_eq_false_iff_ne]; omega
        have f2 : (x.kind == 2) = false := by rw [beq_eq_false_iff_ne]; omega
        have f7 : (x.kind == 7) = true := by rw [beq_iff_eq]; omega
        have fe : (x.n != x.n) = false := by simp
        clear y1 y2 y3 y4 hkn kq
        go_wp2_with fail
        go_roundw
        case rel => exact ⟨k + 1, _, _, by go_num, by omega, PY.out.rd, (hkp.trans PQ.out.kp (fun _ _ h => h)).trans PY.out.kp (fun _ _ h => h), hpn⟩
        case measure => simp [intOf]; omega
      by_cases kq : x.kind = 3
      · obtain rfl : yb = x.b := y3 kq
        have f1 : (x.kind == 1) = false := by rw [beq_eq_false_iff_ne]; omega
        have f2 : (x.kind == 2) = false := by rw [beq_eq_false_iff_ne]; omega
        have f7 : (x.kind == 7) = false := by rw [beq_eq_false_iff_ne]; omega
        have f3 : (x.kind == 3) = true := by rw [beq_iff_eq]; omega
        have fe : (x.b != x.b) = false := by simp
        clear y1 y2 y3 y4 hkn kq
        go_wp2_with fail
        go_roundw
        case rel => exact ⟨k + 1, _, _, by go_num, by omega, PY.out.rd, (hkp.trans PQ.out.kp (fun _ _ h => h)).trans PY.out.kp (fun _ _ h => h), hpn⟩
        case measure => simp [intOf]; omega
      · obtain rfl : ys = x.s := y4 (by omega)
        have f1 : (x.kind == 1) = false := by rw [beq_eq_false_iff_ne]; omega
        have f2 : (x.kind == 2) = false := by rw [beq_eq_false_iff_ne]; omega
        have f7 : (x.kind == 7) = false := by rw [beq_eq_false_iff_ne]; omega
        have f3 : (x.kind == 3) = false := by rw [beq_eq_false_iff_ne]; omega
        have fe : (x.s.toList != x.s.toList) = false := by simp
        clear y1 y2 y3 y4 hkn
        go_wp2_with fail
        go_roundw
        case rel => exact ⟨k + 1, _, _, by go_num, by omega, PY.out.rd, (hkp.trans PQ.out.kp (fun _ _ h => h)).trans PY.out.kp (fun _ _ h => h), hpn⟩
        case measure => simp [intOf]; omega
    · have hkm : k = m := by omega
      clear hrk hlt
      have hpe : Hid (p = bs.length) := by show _ = _; rw [hp.out, HBS.out, hkm, ← hm.out, List.take_length]
      clear hp hk
      go_wp2_with fail
      refine (end_any g v bs p l 0 wr hrd1).mono ?_
      rintro en w' ⟨rfl, n7, rfl⟩
      have HEE : endE 0 p bs.length = 0 := by unfold endE; rw [hpe.out]; simp
      rw [HEE, hpe.out]
      go_wp2_with fail
      go_ret
      refine law_ret (by simp) (HBB.out.trans (Kp.below (hkp.drewN n7) (B := w.heap.size) ?_ ?_))
      · exact HBB.out.size
      · rintro i hi rfl
        have := HG.out
        have := HW1.out
        have := HW2.out
        omega
end Go.Proofs.Ytllmhablpeecfaa
