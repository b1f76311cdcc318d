/- versionvector: Set, Inc; the reference's Set and Device. -/
import Derived.Test.YtckfopdkknckcaaVecL
import Derived.Laws.MakeOwn
set_option linter.unusedVariables false
set_option linter.unusedSimpArgs false
namespace Go.Proofs.Ytckfopdkknckcaa
open Go.RowKit
attribute [local irreducible] wpList

set_option maxHeartbeats 400000 in
theorem known_any (d : Int) (w : World) : Calls Try.prog 38 #[.int .i64 d] w fun en w' => en = .returned (.bool (decide (0 ≤ d ∧ d < 12))) ∧ w' = w := by
  have key : decide (0 ≤ d ∧ d < 12) = (decide (0 ≤ d) && decide (d < 12)) := by rw [Bool.decide_and]
  rw [key]
  clear key
  by_cases h1 : 0 ≤ d
  · go_enter Try.func38, Try.ntmps38
    go_wp2
    go_ret
    simp [h1]
  · go_enter Try.func38, Try.ntmps38
    go_wp2
    go_ret
    simp [h1]
    omega
set_option maxHeartbeats 400000 in
theorem device_any (d : Int) (w : World) : Calls Try.prog 27 #[.int .i64 d] w fun en w' => en = .returned (.bool (decide (0 ≤ d ∧ d < 12))) ∧ w' = w := by
  have key : decide (0 ≤ d ∧ d < 12) = (decide (0 ≤ d) && decide (d < 12)) := by rw [Bool.decide_and]
  rw [key]
  clear key
  by_cases h1 : 0 ≤ d
  · go_enter Try.func27, Try.ntmps27
    go_wp2
    go_ret
    simp [h1]
  · go_enter Try.func27, Try.ntmps27
    go_wp2
    go_ret
    simp [h1]
    omega

def dev (d : Int) : Bool := decide (0 ≤ d ∧ d < 12)
def setR (xs : List Int) (d n : Int) : List Int × Int := if okV xs && dev d && okN n then (normL ((padV xs).set d.toNat n), 0) else ([], 1)
def incR (xs : List Int) (d : Int) : List Int × Int := if okV xs && dev d then (if (padV xs).getD d.toNat 0 = 1099511627776 then ([], 2) else (normL ((padV xs).set d.toNat ((padV xs).getD d.toNat 0 + 1)), 0)) else ([], 1)
theorem set_vec {xs : List Int} {p : Nat} {n : Int} : (ivs xs).toArray.setIfInBounds p (.int .i64 n) = (ivs (xs.set p n)).toArray := by
  unfold ivs; simp

set_option maxRecDepth 100000 in
set_option maxHeartbeats 1600000 in
theorem set_any (xs : List Int) (S : Nat → Prop) (A : Option Addr) (m c : Nat) (d n : Int) (w : World) (hr : Rc S w A (ivs xs)) (hm : Hid (xs.length = m)) (hml : Hid (m ≤ 9223372036854775807)) :
    Calls Try.prog 25 #[.slice A m c, .int .i64 d, .int .i64 n] w (IntsE w (setR xs d n)) := by
  obtain ⟨r, hrr⟩ : ∃ r, r = setR xs d n := ⟨_, rfl⟩
  rw [← hrr]
  have HRR := Lib.hid hrr
  clear hrr
  go_enter Try.func25, Try.ntmps25
  go_wp2_with fail
  refine (padded_any xs S A m c w hr hm hml).mono ?_
  rintro en w1 ⟨rfl, hb1⟩
  obtain ⟨V1, hV1⟩ : ∃ L, L = (ivs (padV xs)).toArray := ⟨_, rfl⟩
  have hV1s : V1.size = 12 := by rw [hV1]; exact vec_size (padV_length xs)
  have hV1o : ∀ v ∈ V1, v.oneCell' = true := by rw [hV1]; exact vec_one _
  rw [← hV1]
  have HV1 := Lib.hid hV1
  have hx1 := blk_new w1 55 V1
  have hb1' := below_alloc hb1 (Nat.le_refl _) (.cells V1 55)
  have hle := Lib.hid hb1.size
  clear hb1 hr hV1
  cases hox : okV xs with
  | false =>
    have hr : r = ([], 1) := by rw [HRR.out, setR, hox]; rfl
    subst hr
    clear hox HRR
    go_wp2_with (first
      | refine st_new (o := ⟨none, .store _ (.tmp 8) (.tmp 13), _, _, _, _⟩) rfl (.tmp 8) (.tmp 13) rfl w1 V1 _ rfl rfl rfl rfl hV1s hV1o ?_)
    go_ret2
    exact ⟨none, 0, rfl, own_nil _ _ _ _, hb1'⟩
  | true =>
    have HO := Lib.hid hox
    clear hox
    go_wp2_with (first
      | refine st_new (o := ⟨none, .store _ (.tmp 8) (.tmp 13), _, _, _, _⟩) rfl (.tmp 8) (.tmp 13) rfl w1 V1 _ rfl rfl rfl rfl hV1s hV1o ?_)
    refine (known_any d _).mono ?_
    rintro en w' ⟨rfl, rfl⟩
    cases hd : decide (0 ≤ d ∧ d < 12) with
    | false =>
      have hr : r = ([], 1) := by rw [HRR.out, setR, HO.out, dev, hd]; rfl
      subst hr
      clear hd HRR
      go_wp2_with fail
      go_ret2
      exact ⟨none, 0, rfl, own_nil _ _ _ _, hb1'⟩
    | true =>
      have hd2 : 0 ≤ d ∧ d < 12 := of_decide_eq_true hd
      obtain ⟨p, rfl⟩ := Int.eq_ofNat_of_zero_le hd2.1
      by_cases hn1 : n < 0
      · have hr : r = ([], 1) := by
          rw [HRR.out, setR, HO.out, dev, hd, show okN n = false by unfold okN; simp; omega]; rfl
        subst hr
        clear hd HRR hd2
        go_wp2_with fail
        go_ret2
        exact ⟨none, 0, rfl, own_nil _ _ _ _, hb1'⟩
      by_cases hn2 : 1099511627776 < n
      · have hr : r = ([], 1) := by
          rw [HRR.out, setR, HO.out, dev, hd, show okN n = false by unfold okN; simp; omega]; rfl
        subst hr
        clear hd HRR hd2
        go_wp2_with fail
        go_ret2
        exact ⟨none, 0, rfl, own_nil _ _ _ _, hb1'⟩
      have hr : r = (normL ((padV xs).set p n), 0) := by
        rw [HRR.out, setR, HO.out, dev, hd, show okN n = true by unfold okN; simp; omega]; rfl
      have HR2 := Lib.hid hr
      have hp1 : (p : Int) < 12 := hd2.2
      have hp0 : (0 : Int) ≤ (p : Int) := hd2.1
      have hpn : Hid (p < 12) := by show _ < _; omega
      clear hd HRR hd2 hr
      revert hx1 hb1'
      generalize (w1.alloc (.cells V1 55)) = W1
      generalize hB : w1.heap.size = b1
      intro hx1 hb1
      have hle2 : Hid (w.heap.size ≤ b1) := by have := hle.out; show _ ≤ _; omega
      have hc : W1.cell? ⟨b1, p, none⟩ = some (.int .i64 ((padV xs).getD p 0)) := by rw [blk_cell hx1, HV1.out, vec_get (padV_length xs) hpn.out]
      have hf : W1.frozen? ⟨b1, p, none⟩ = false := blk_frozen hx1 p
      have hx2 := blk_set hx1 p (.int .i64 n)
      rw [HV1.out, set_vec] at hx2
      have hb2 : Below w.heap.size w (W1.setCell ⟨b1, p, none⟩ (.int .i64 n)) := hb1.trans (((Kp.refl (fun i => i = b1) W1).setCell (p := ⟨b1, p, none⟩) (fun _ => rfl) _).below (B := w.heap.size) hb1.size (fun i h1 h2 => by have := hle2.out; omega))
      obtain ⟨V2, hV2⟩ : ∃ L, L = (ivs ((padV xs).set p n)).toArray := ⟨_, rfl⟩
      have hl12 : ((padV xs).set p n).length = 12 := by rw [List.length_set]; exact padV_length xs
      have hV2s : V2.size = 12 := by rw [hV2]; exact vec_size hl12
      have HN := normal_any ((padV xs).set p n) hl12
      rw [← hV2] at HN hx2
      clear hV2 hl12 hB hle hx1 hb1
      go_wp2_with (first
        | refine ld_vec (o := ⟨some 33, _, _, _, _, _⟩) rfl (.tmp 8) rfl b1 rfl V2 hx2 hV2s ?_)
      refine (HN _).mono ?_
      rintro en w5 ⟨A5, c5, rfl, ho5, hb5⟩
      have hB5 := Lib.hid (below_then hb2 hb5 (Nat.le_refl _))
      have ho6 := Lib.hid (own_weaken ho5 hb2.size)
      clear ho5 hb5 HN
      go_wp2_with fail
      go_ret2
      rw [HR2.out]
      exact ⟨A5, c5, rfl, ho6.out, hB5.out⟩

set_option maxRecDepth 100000 in
set_option maxHeartbeats 1600000 in
theorem inc_any (xs : List Int) (S : Nat → Prop) (A : Option Addr) (m c : Nat) (d : Int) (w : World) (hr : Rc S w A (ivs xs)) (hm : Hid (xs.length = m)) (hml : Hid (m ≤ 9223372036854775807)) :
    Calls Try.prog 26 #[.slice A m c, .int .i64 d] w (IntsE w (incR xs d)) := by
  obtain ⟨r, hrr⟩ : ∃ r, r = incR xs d := ⟨_, rfl⟩
  rw [← hrr]
  have HRR := Lib.hid hrr
  clear hrr
  go_enter Try.func26, Try.ntmps26
  go_wp2_with fail
  refine (padded_any xs S A m c w hr hm hml).mono ?_
  rintro en w1 ⟨rfl, hb1⟩
  obtain ⟨V1, hV1⟩ : ∃ L, L = (ivs (padV xs)).toArray := ⟨_, rfl⟩
  have hV1s : V1.size = 12 := by rw [hV1]; exact vec_size (padV_length xs)
  have hV1o : ∀ v ∈ V1, v.oneCell' = true := by rw [hV1]; exact vec_one _
  rw [← hV1]
  have HV1 := Lib.hid hV1
  have hx1 := blk_new w1 55 V1
  have hb1' := below_alloc hb1 (Nat.le_refl _) (.cells V1 55)
  have hle := Lib.hid hb1.size
  clear hb1 hr hV1
  cases hox : okV xs with
  | false =>
    have hr : r = ([], 1) := by rw [HRR.out, incR, hox]; rfl
    subst hr
    clear hox HRR
    go_wp2_with (first
      | refine st_new (o := ⟨none, .store _ (.tmp 6) (.tmp 11), _, _, _, _⟩) rfl (.tmp 6) (.tmp 11) rfl w1 V1 _ rfl rfl rfl rfl hV1s hV1o ?_)
    go_ret2
    exact ⟨none, 0, rfl, own_nil _ _ _ _, hb1'⟩
  | true =>
    have HO := Lib.hid hox
    clear hox
    go_wp2_with (first
      | refine st_new (o := ⟨none, .store _ (.tmp 6) (.tmp 11), _, _, _, _⟩) rfl (.tmp 6) (.tmp 11) rfl w1 V1 _ rfl rfl rfl rfl hV1s hV1o ?_)
    refine (known_any d _).mono ?_
    rintro en w' ⟨rfl, rfl⟩
    cases hd : decide (0 ≤ d ∧ d < 12) with
    | false =>
      have hr : r = ([], 1) := by rw [HRR.out, incR, HO.out, dev, hd]; rfl
      subst hr
      clear hd HRR
      go_wp2_with fail
      go_ret2
      exact ⟨none, 0, rfl, own_nil _ _ _ _, hb1'⟩
    | true =>
      have hd2 : 0 ≤ d ∧ d < 12 := of_decide_eq_true hd
      obtain ⟨p, rfl⟩ := Int.eq_ofNat_of_zero_le hd2.1
      have hr0 : r = (if (padV xs).getD p 0 = 1099511627776 then ([], 2) else (normL ((padV xs).set p ((padV xs).getD p 0 + 1)), 0)) := by
        rw [HRR.out, incR, HO.out, dev, hd]; rfl
      obtain ⟨x, hxx⟩ : ∃ x, x = (padV xs).getD p 0 := ⟨_, rfl⟩
      have hxb : x ≤ 1099511627776 ∧ 0 ≤ x := by rw [hxx]; exact pad_le xs p
      obtain ⟨hxb1, hxb0⟩ := hxb
      rw [← hxx] at hr0
      have HX := Lib.hid hxx
      clear hxx
      by_cases hn1 : x = 1099511627776
      · have hr : r = ([], 2) := by rw [hr0, if_pos hn1]
        subst hr
        have hpn : p < 12 := by omega
        have hp1 : (p : Int) < 12 := hd2.2
        have hp0 : (0 : Int) ≤ (p : Int) := hd2.1
        have hc : (w1.alloc (.cells V1 55)).cell? ⟨w1.heap.size, p, none⟩ = some (.int .i64 1099511627776) := by rw [blk_cell hx1, HV1.out, vec_get (padV_length xs) hpn, ← HX.out, hn1]
        clear hd HRR hd2 hr0 hn1 hpn
        go_wp2_with fail
        go_ret2
        exact ⟨none, 0, rfl, own_nil _ _ _ _, hb1'⟩
      have hne : (x == 1099511627776) = false := by rw [beq_eq_false_iff_ne]; exact hn1
      have hwx : IntKind.i64.wrap (x + 1) = x + 1 := by rw [IntKind.wrap_i64]; omega
      obtain ⟨n, hn⟩ : ∃ n, n = x + 1 := ⟨_, rfl⟩
      have hr : r = (normL ((padV xs).set p n), 0) := by
        rw [hr0, if_neg hn1, hn]
      have HR2 := Lib.hid hr
      have hp1 : (p : Int) < 12 := hd2.2
      have hp0 : (0 : Int) ≤ (p : Int) := hd2.1
      have hpn : Hid (p < 12) := by show _ < _; omega
      clear hd HRR hd2 hr hr0 hn1
      revert hx1 hb1'
      generalize (w1.alloc (.cells V1 55)) = W1
      generalize hB : w1.heap.size = b1
      intro hx1 hb1
      have hle2 : Hid (w.heap.size ≤ b1) := by have := hle.out; show _ ≤ _; omega
      have hc : W1.cell? ⟨b1, p, none⟩ = some (.int .i64 x) := by rw [blk_cell hx1, HV1.out, vec_get (padV_length xs) hpn.out, ← HX.out]
      have hf : W1.frozen? ⟨b1, p, none⟩ = false := blk_frozen hx1 p
      have hx2 := blk_set hx1 p (.int .i64 n)
      rw [HV1.out, set_vec] at hx2
      have hb2 : Below w.heap.size w (W1.setCell ⟨b1, p, none⟩ (.int .i64 n)) := hb1.trans (((Kp.refl (fun i => i = b1) W1).setCell (p := ⟨b1, p, none⟩) (fun _ => rfl) _).below (B := w.heap.size) hb1.size (fun i h1 h2 => by have := hle2.out; omega))
      obtain ⟨V2, hV2⟩ : ∃ L, L = (ivs ((padV xs).set p n)).toArray := ⟨_, rfl⟩
      have hl12 : ((padV xs).set p n).length = 12 := by rw [List.length_set]; exact padV_length xs
      have hV2s : V2.size = 12 := by rw [hV2]; exact vec_size hl12
      have HN := normal_any ((padV xs).set p n) hl12
      rw [← hV2] at HN hx2
      subst hn
      clear hV2 hl12 hB hle hx1 hb1
      go_wp2_with (first
        | refine ld_vec (o := ⟨some 29, _, _, _, _, _⟩) rfl (.tmp 6) rfl b1 rfl V2 hx2 hV2s ?_)
      refine (HN _).mono ?_
      rintro en w5 ⟨A5, c5, rfl, ho5, hb5⟩
      have hB5 := Lib.hid (below_then hb2 hb5 (Nat.le_refl _))
      have ho6 := Lib.hid (own_weaken ho5 hb2.size)
      clear ho5 hb5 HN
      go_wp2_with fail
      go_ret2
      rw [HR2.out]
      exact ⟨A5, c5, rfl, ho6.out, hB5.out⟩

theorem toList_madei (n : Nat) : (madeCells #[Value.int .i64 0] n).toList = List.replicate n (Value.int .i64 0) := toList_madeCells_one _ _
theorem run_make_i64 (W : World) :
    (Instr.makeSlice 22 (.int .i64 12) (.int .i64 12)).run Try.prog W = .ok (.slice (some ⟨W.heap.size, 0, none⟩) 12 12) (W.alloc (.cells (ivs (List.replicate 12 0)).toArray 3)) := by
  obtain ⟨i0, hi, hz0, hz1, hz2⟩ := info_parts info_int
  have hr := run_make (P := Try.prog) W 22 3 i0 (.int .i64 0) Try.underlying22 hi hz0 .i64 .i64 (12 : Int) (12 : Int) (by omega) (by omega) (by rw [hz2]; omega) (by omega)
  rw [hr]
  congr 3
  have h2 := toList_madei 12
  have h3 : ivs (List.replicate 12 0) = List.replicate 12 (Value.int .i64 0) := by unfold ivs; rw [List.map_replicate]
  rw [h3, ← h2]
  simp [hz1]
  rfl

set_option maxRecDepth 100000 in
set_option maxHeartbeats 1600000 in
theorem rset_any (xs : List Int) (S : Nat → Prop) (A : Option Addr) (m c : Nat) (p : Nat) (n : Int) (w : World) (hr : Rc S w A (ivs xs)) (hm : Hid (xs.length = m)) (hox : Hid (okV xs = true)) (hp : p < 12) :
    Calls Try.prog 28 #[.slice A m c, .int .i64 p, .int .i64 n] w (IntsP w (normL ((padV xs).set p n))) := by
  have hm12 : m ≤ 12 := by have h1 := hox.out; have h2 := hm.out; unfold okV at h1; simp at h1; omega
  have hpad : padV xs = xs ++ List.replicate (12 - xs.length) 0 := by unfold padV; rw [if_pos hox.out]
  have HP := Lib.hid hpad
  clear hpad
  have hp1 : (p : Int) < 12 := by omega
  have hp0 : (0 : Int) ≤ (p : Int) := by omega
  go_enter Try.func28, Try.ntmps28
  have hmk := run_make_i64 w
  have hb1 := blk_new w 3 (ivs (List.replicate 12 0)).toArray
  have hr1 := hr.alloc (.cells (ivs (List.replicate 12 0)).toArray 3)
  have hbl : Below w.heap.size w (w.alloc (.cells (ivs (List.replicate 12 0)).toArray 3)) := (Below.refl _ _).alloc (Nat.le_refl _) _
  obtain ⟨W1, hW1⟩ : ∃ W, W = w.alloc (.cells (ivs (List.replicate 12 0)).toArray 3) := ⟨_, rfl⟩
  rw [← hW1] at hmk hb1 hr1 hbl
  clear hW1
  obtain ⟨b, hb⟩ : ∃ b, b = w.heap.size := ⟨_, rfl⟩
  rw [← hb] at hmk hb1
  have HB := Lib.hid hb
  clear hb
  go_wp2_with (refine wpList_copy_splice (o := ⟨some 11, _, _, _, _, _⟩) rfl (.tmp 9) (.tmp 10) 22 22 rfl 3 Try.underlying22 (by kernel_rfl) (some ⟨b, 0, none⟩) A 12 12 m c rfl rfl b 0 (ivs (List.replicate 12 0)) 3 hb1 (ivs xs) ?c1 ?c2 ?c3 (ivs_one xs) b W1 (Below.refl _ _) (Nat.le_refl _) ?_)
  case c1 => rw [ivs_length, hm.out]; exact (Nat.min_eq_left hm12).symm
  case c2 =>
    intro h
    obtain ⟨ad, rfl, _, hc⟩ := hr1 (by intro e; rw [e] at h; simp at h)
    first | exact ⟨rfl, ad, rfl, hc⟩ | exact ⟨ad, rfl, hc⟩
  case c3 => rw [ivs_length, ivs_length, hm.out]; simpa using hm12
  intro w2 HG2 hB2
  have hsp : splice (ivs (List.replicate 12 0)) 0 (ivs xs) = ivs (padV xs) := by
    rw [HP.out]
    simp only [splice, ivs, List.map_append, List.map_replicate, List.take_zero, List.nil_append, List.drop_replicate, List.length_map, Nat.zero_add]
  have hg3 : w2.heap[b]? = some (.cells (ivs (padV xs)).toArray 3 (0, 0)) := by
    rw [← hsp]; exact HG2.out
  have hc : w2.cell? ⟨b, p, none⟩ = some (.int .i64 ((padV xs).getD p 0)) := by rw [blk_cell hg3, vec_get (padV_length xs) hp]
  have hf : w2.frozen? ⟨b, p, none⟩ = false := blk_frozen hg3 p
  have hx2 := blk_set hg3 p (.int .i64 n)
  rw [set_vec] at hx2
  have hl12 : ((padV xs).set p n).length = 12 := by rw [List.length_set]; exact padV_length xs
  have hBB : Below w.heap.size w w2 := hbl.trans (hB2.mono (by rw [HB.out]; exact Nat.le_refl _))
  have hb2 : Below w.heap.size w (w2.setCell ⟨b, p, none⟩ (.int .i64 n)) := hBB.trans (((Kp.refl (fun i => i = b) w2).setCell (p := ⟨b, p, none⟩) (fun _ => rfl) _).below (B := w.heap.size) hBB.size (fun i h1 h2 => by have := HB.out; omega))
  have hrc := Rc.blk hx2
  have HN := rnormal_any ((padV xs).set p n) (fun i => i = b) (some ⟨b, 0, none⟩) 12 12 _ hrc hl12 (by omega) (by omega)
  obtain ⟨q, hq⟩ : ∃ q, q = normL ((padV xs).set p n) := ⟨_, rfl⟩
  rw [← hq] at HN
  have HQ := Lib.hid hq
  clear hq hsp HG2 hg3 hx2 hrc hl12 hB2 hbl hb1 hr1 hr hBB
  go_wp2_with fail
  refine HN.mono ?_
  rintro en w5 ⟨A5, c5, rfl, ho5, hb5⟩
  have hB5 := Lib.hid (below_then hb2 hb5 (Nat.le_refl _))
  have ho6 := Lib.hid (own_weaken ho5 hb2.size)
  clear ho5 hb5 HN
  go_wp2_with fail
  go_ret
  rw [← HQ.out]
  exact ⟨A5, c5, rfl, ho6.out, hB5.out⟩
end Go.Proofs.Ytckfopdkknckcaa
