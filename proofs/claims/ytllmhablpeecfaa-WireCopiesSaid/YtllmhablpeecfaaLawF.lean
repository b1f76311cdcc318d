/- The walk of the reference's Encode. -/
import Derived.Test.YtllmhablpeecfaaLawE
import Derived.Test.YtllmhablpeecfaaStep
set_option linter.unusedVariables false
set_option linter.unusedSimpArgs false
namespace Go.Proofs.Ytllmhablpeecfaa
open Go.RowKit

theorem encW_err : ∀ (l2 l1 : List Val), (encW l1).2 = 1 → (encW (l1 ++ l2)).2 = 1
  | [], l1, h => by simpa using h
  | v :: l2, l1, h => by
    have := encW_err l2 (l1 ++ [v]) (by rw [encW_snoc, h]; cases encV v <;> rfl)
    simpa using this
theorem encE_err {xs : List Val} {k : Nat} (h : (encW (xs.take k)).2 = 1) : encE xs = 1 ∧ encB xs = [] := by
  have h1 := encW_err (xs.drop k) (xs.take k) h
  rw [List.take_append_drop] at h1
  have h2 : encE xs = 1 := by unfold encE doneE; rw [h1]; rfl
  refine ⟨h2, ?_⟩
  unfold encB doneB
  unfold encE at h2
  rw [h2]
  rfl

theorem off_new {k m : Nat} {a b : Option Nat} (h : b = a ∨ b = some m) (h1 : some k ≠ a) (h2 : k < m) : some k ≠ b := by
  rcases h with rfl | rfl
  · exact h1
  · simp; omega

set_option maxRecDepth 100000 in
set_option maxHeartbeats 12800000 in
theorem rencode_any (xs : List Val) (S : Nat → Prop) (A : Option Addr) (m c : Nat) (w : World) (hr : Rc S w A (vvs xs)) (hm : Hid (xs.length = m)) (h40 : m ≤ 40) (hs : Hid (∀ x ∈ xs, x.s.size ≤ 400)) (hok : Hid (∀ x ∈ xs, x.Ok)) :
    Calls Try.prog 31 #[.slice A m c] w (BytesE w (encB xs) (encE xs)) := by
  go_enter Try.func31, Try.ntmps31
  go_wp2_with fail
  go_loopw [4, 5] (fun b i wr => ∃ (k : Nat) (ys : List UInt8), i = .int .i64 k ∧ k ≤ m ∧ Hid (encW (xs.take k) = (ys, 0)) ∧ Hid (ys.length ≤ k * 410) ∧ wr.ownsRow w.heap.size 5 1 b ys.length (bvs ys) ∧ Below w.heap.size w wr)
    (fun _ i _ => m - (intOf i).toNat)
  case atStart => exact ⟨0, [], rfl, Nat.zero_le _, rfl, Nat.zero_le _, own_lit0 w _, (Below.refl _ _).alloc (Nat.le_refl _) _⟩
  case round =>
    obtain ⟨k, ys, rfl, hk, henc, hyl, hown, hB⟩ := hrel
    by_cases hlt : k < m
    · have hkl : k < xs.length := by have := hm.out; omega
      obtain ⟨x, hx⟩ : ∃ x, x = xs[k] := ⟨_, rfl⟩
      obtain ⟨ad, rfl, _, hat⟩ := vvs_at (hr.below hB) (k := k) (by omega)
      rw [← hx] at hat
      have hxm : x ∈ xs := by rw [hx]; exact List.getElem_mem _
      have hxs := hs.out x hxm
      have hxok := Lib.hid (hok.out x hxm)
      have htk : xs.take (k + 1) = xs.take k ++ [x] := by rw [hx, List.take_succ_eq_append_getElem (by omega)]
      have HE2 : Hid (encW (xs.take (k + 1)) = (putX (encV x) ys 0, putE (encV x) 0)) := by
        show _ = _
        rw [htk, encW_snoc, henc.out]
      have HL2 : Hid ((putX (encV x) ys 0).length ≤ (k + 1) * 410) := by
        have := putX_len hxok.out hxs ys 0
        have := hyl.out
        show _ ≤ _
        omega
      have hc0 := hat.c0
      have hc1 := hat.c1
      have hc2 := hat.c2
      have hc3 := hat.c3
      have hc4 := hat.c4
      have hc5 := hat.c5
      have hyl5 : ys.length ≤ 20000 := by have := hyl.out; omega
      have HY5 := Lib.hid hyl5
      have hszw : Hid (w.heap.size ≤ wr.heap.size) := hB.size
      clear hx hat hxm htk henc hyl5
      obtain ⟨kd, u, n, b, s, mo⟩ := x
      have hkb := Lib.hid hxok.out.k
      have hu := Lib.hid hxok.out.u
      have hn := Lib.hid hxok.out.n
      clear hxok
      dsimp only at hkb hu hn hxs hc0 hc1 hc2 hc3 hc4 hc5
      obtain ⟨o, ho⟩ : ∃ o, o = encV ⟨kd, u, n, b, s, mo⟩ := ⟨_, rfl⟩
      rw [← ho] at HE2 HL2
      by_cases k1 : kd = 1
      · subst k1
        have HO : Hid (o = some (num u)) := ho
        clear ho
        go_wp2_with fail
        refine (rnumber_any u _ hu).mono ?_
        rintro en w3 ⟨A3, c3, rfl, ho3, hb3⟩
        have hown3 := own_below (hown.alloc _) hb3
        have hB3 := below_then (below_alloc hB (Nat.le_refl _) _) hb3 (Nat.le_refl _)
        go_wp2_with (at_builtin; refine wpl_append_bytes w.heap.size rfl _ _ 22 5 rfl Try.underlying22 info_u8 u4 ys (num u) _ A3 (num u).length c3 rfl rfl hown3 (Rc.of_own ho3) rfl (by exact hB3.size) (by have := HY5.out; have := num_len hu.out; simp; omega) ?_)
        intro v4 w4 hown4 hg4 hat4
        have hB4 : Below w.heap.size w w4 := (hB3).grown hg4 (by exact hB3.size) (fun k hk => (own_lt hown hk).1)
        have hown5 : w4.ownsRow w.heap.size 5 1 v4 (ys ++ (num u)).length (bvs (ys ++ (num u))) := by simpa using hown4
        clear hown4 hat4 hg4
        go_wp2_with fail
        go_roundw
        case rel => exact ⟨k + 1, ys ++ (num u), by go_num, by omega, by show _ = _; rw [HE2.out, HO.out]; rfl, by have := HL2.out; rw [HO.out] at this; exact this, hown5, hB4⟩
        case measure => simp [intOf]; omega
      by_cases k2 : kd = 2
      · subst k2
        have HO : Hid (o = some (num (zz n))) := ho
        clear ho k1
        go_wp2_with fail
        refine (rzigzag_any n _ hn).mono ?_
        rintro en w' ⟨rfl, rfl⟩
        go_wp2_with fail
        refine (rnumber_any (zz n) _ (by have := zz_lt hn.out.1 hn.out.2; exact this)).mono ?_
        rintro en w3 ⟨A3, c3, rfl, ho3, hb3⟩
        have hown3 := own_below (hown.alloc _) hb3
        have hB3 := below_then (below_alloc hB (Nat.le_refl _) _) hb3 (Nat.le_refl _)
        go_wp2_with (at_builtin; refine wpl_append_bytes w.heap.size rfl _ _ 22 5 rfl Try.underlying22 info_u8 u4 ys (num (zz n)) _ A3 (num (zz n)).length c3 rfl rfl hown3 (Rc.of_own ho3) rfl (by exact hB3.size) (by have := HY5.out; have := num_len (zz_lt hn.out.1 hn.out.2); simp; omega) ?_)
        intro v4 w4 hown4 hg4 hat4
        have hB4 : Below w.heap.size w w4 := (hB3).grown hg4 (by exact hB3.size) (fun k hk => (own_lt hown hk).1)
        have hown5 : w4.ownsRow w.heap.size 5 1 v4 (ys ++ (num (zz n))).length (bvs (ys ++ (num (zz n)))) := by simpa using hown4
        clear hown4 hat4 hg4
        go_wp2_with fail
        go_roundw
        case rel => exact ⟨k + 1, ys ++ (num (zz n)), by go_num, by omega, by show _ = _; rw [HE2.out, HO.out]; rfl, by have := HL2.out; rw [HO.out] at this; exact this, hown5, hB4⟩
        case measure => simp [intOf]; omega
      by_cases k3 : kd = 3
      · subst k3
        have HO : Hid (o = some [if b then 1 else 0]) := ho
        clear ho k1 k2
        cases b with
        | true =>
          go_wp2_with (at_builtin; refine wpl_append_bytes w.heap.size rfl _ _ 22 5 rfl Try.underlying22 info_u8 u4 ys [1] _ (some ⟨wr.heap.size + 1, 0, none⟩) 1 1 rfl rfl ((hown.alloc _).alloc _) (by have := rc_byte (w := wr.alloc (.cells #[.int .i64 3, .int .u64 u, .int .i64 n, .bool true, .string s, .int .i64 mo] 51)) (t := 5) (x := 1) (b := 1) rfl; rw [World.size_alloc] at this; exact this) rfl (by (have := hszw.out; simp; omega)) (by have := HY5.out; skip; simp; omega) ?_)
          intro v4 w4 hown4 hg4 hat4
          have hB4 : Below w.heap.size w w4 := (below_alloc (below_alloc hB (Nat.le_refl _) _) (Nat.le_refl _) _).grown hg4 (by (have := hszw.out; simp; omega)) (fun k hk => (own_lt hown hk).1)
          have hown5 : w4.ownsRow w.heap.size 5 1 v4 (ys ++ [1]).length (bvs (ys ++ [1])) := by simpa using hown4
          clear hown4 hat4 hg4
          go_wp2_with fail
          go_roundw
          case rel => exact ⟨k + 1, ys ++ [1], by go_num, by omega, by show _ = _; rw [HE2.out, HO.out]; rfl, by have := HL2.out; rw [HO.out] at this; exact this, hown5, hB4⟩
          case measure => simp [intOf]; omega
        | false =>
          go_wp2_with (at_builtin; refine wpl_append_bytes w.heap.size rfl _ _ 22 5 rfl Try.underlying22 info_u8 u4 ys [0] _ (some ⟨wr.heap.size + 1, 0, none⟩) 1 1 rfl rfl ((hown.alloc _).alloc _) (by have := rc_byte (w := wr.alloc (.cells #[.int .i64 3, .int .u64 u, .int .i64 n, .bool false, .string s, .int .i64 mo] 51)) (t := 5) (x := 0) (b := 0) rfl; rw [World.size_alloc] at this; exact this) rfl (by (have := hszw.out; simp; omega)) (by have := HY5.out; skip; simp; omega) ?_)
          intro v4 w4 hown4 hg4 hat4
          have hB4 : Below w.heap.size w w4 := (below_alloc (below_alloc hB (Nat.le_refl _) _) (Nat.le_refl _) _).grown hg4 (by (have := hszw.out; simp; omega)) (fun k hk => (own_lt hown hk).1)
          have hown5 : w4.ownsRow w.heap.size 5 1 v4 (ys ++ [0]).length (bvs (ys ++ [0])) := by simpa using hown4
          clear hown4 hat4 hg4
          go_wp2_with fail
          go_roundw
          case rel => exact ⟨k + 1, ys ++ [0], by go_num, by omega, by show _ = _; rw [HE2.out, HO.out]; rfl, by have := HL2.out; rw [HO.out] at this; exact this, hown5, hB4⟩
          case measure => simp [intOf]; omega
      by_cases k4 : kd = 4
      · subst k4
        have HO : Hid (o = some (num s.size ++ sb s)) := ho
        clear ho k1 k2 k3
        have hs64 : IntKind.u64.wrap (s.size : Int) = (s.size : Int) := by rw [IntKind.wrap_u64]; omega
        have hsz : Hid (s.size < 18446744073709551616) := by show _ < _; omega
        have hnl := num_len hsz.out
        have hne : some wr.heap.size ≠ u4.ownBlock := fun h => by have := (own_lt hown h.symm).2; omega
        have HN := Lib.hid hne
        clear hne
        go_wp2_with fail
        go_region_held3 (fun w' => w'.cell? ⟨wr.heap.size, 4, none⟩ = some (.string s))
          (first
            | go_keep
            | (rw [hb3.cell (p := ⟨wr.heap.size, 4, none⟩) (by simp)]; go_keep)
            | exact World.grownBy.cell hg4 (by assumption) HN.out
            | exact World.grownBy.cell hg5 (by assumption) HN5.out)
          (first
            | (go_at_call 13; refine (rnumber_any s.size _ hsz).mono ?_; rintro en w3 ⟨A3, c3, rfl, ho3, hb3⟩)
            | (refine step_append_bytes (o := ⟨some 54, _, _, _, _, _⟩) w.heap.size (by rfl) (.tmp 48) (.tmp 53) 22 5 (by rfl) Try.underlying22 info_u8 u4 ys (num s.size) _ A3 (num s.size).length c3 (by rfl) (by rfl) (own_below (hown.alloc _).drew hb3) (Rc.of_own ho3) rfl (by have h1 := hb3.size; have h2 := hszw.out; simp at h1; omega) (by have := HY5.out; omega) ?_; intro v4 w4 hown4 hg4 hat4; have HN5 : Hid (some wr.heap.size ≠ v4.ownBlock) := off_new hat4 HN.out (by have h1 := hb3.size; simp at h1; omega))
            | (refine step_append_str (o := ⟨some 57, _, _, _, _, _⟩) w.heap.size (by rfl) (.tmp 54) (.tmp 56) 22 9 5 (by rfl) Try.underlying22 Try.underlying9 info_u8 v4 (ys ++ num s.size) s (by rfl) (by rfl) hown4 (by have h1 := hb3.size; have h2 := hszw.out; have h3 := hg4.size; simp at h1; omega) (by have := HY5.out; simp; omega) ?_; intro v5 w5 hown5 hg5)
            | fail)
        all_goals
          have hB3 := below_then ((below_alloc hB (Nat.le_refl _) _).drew) hb3 (Nat.le_refl _)
          have hlt4 : ∀ j, v4.ownBlock = some j → w.heap.size ≤ j := fun j hj => (own_lt hown4 hj).1
          have hB4 := hB3.grown hg4 (by exact hB3.size) (fun k hk => (own_lt hown hk).1)
          have hB5 := hB4.grown hg5 (by exact hB4.size) hlt4
          have hown6 : w5.ownsRow w.heap.size 5 1 v5 (ys ++ (num s.size ++ sb s)).length (bvs (ys ++ (num s.size ++ sb s))) := by rw [← List.append_assoc]; exact hown5
          clear hown4 hat4 hg4 hg5 hown5 hlt4
          go_wp2_with fail
          go_roundw
          case rel => exact ⟨k + 1, ys ++ (num s.size ++ sb s), by go_num, by omega, by show _ = _; rw [HE2.out, HO.out]; rfl, by have := HL2.out; rw [HO.out] at this; exact this, hown6, hB5⟩
          case measure => simp [intOf]; omega
      by_cases k5 : kd = 5
      · subst k5
        have HO : Hid (o = some (num s.size ++ sb s)) := ho
        clear ho k1 k2 k3 k4
        have hs64 : IntKind.u64.wrap (s.size : Int) = (s.size : Int) := by rw [IntKind.wrap_u64]; omega
        have hsz : Hid (s.size < 18446744073709551616) := by show _ < _; omega
        have hnl := num_len hsz.out
        have hne : some wr.heap.size ≠ u4.ownBlock := fun h => by have := (own_lt hown h.symm).2; omega
        have HN := Lib.hid hne
        clear hne
        go_wp2_with fail
        go_region_held3 (fun w' => w'.cell? ⟨wr.heap.size, 4, none⟩ = some (.string s))
          (first
            | go_keep
            | (rw [hb3.cell (p := ⟨wr.heap.size, 4, none⟩) (by simp)]; go_keep)
            | exact World.grownBy.cell hg4 (by assumption) HN.out
            | exact World.grownBy.cell hg5 (by assumption) HN5.out)
          (first
            | (go_at_call 13; refine (rnumber_any s.size _ hsz).mono ?_; rintro en w3 ⟨A3, c3, rfl, ho3, hb3⟩)
            | (refine step_append_bytes (o := ⟨some 54, _, _, _, _, _⟩) w.heap.size (by rfl) (.tmp 48) (.tmp 53) 22 5 (by rfl) Try.underlying22 info_u8 u4 ys (num s.size) _ A3 (num s.size).length c3 (by rfl) (by rfl) (own_below (hown.alloc _).drew hb3) (Rc.of_own ho3) rfl (by have h1 := hb3.size; have h2 := hszw.out; simp at h1; omega) (by have := HY5.out; omega) ?_; intro v4 w4 hown4 hg4 hat4; have HN5 : Hid (some wr.heap.size ≠ v4.ownBlock) := off_new hat4 HN.out (by have h1 := hb3.size; simp at h1; omega))
            | (refine step_append_str (o := ⟨some 57, _, _, _, _, _⟩) w.heap.size (by rfl) (.tmp 54) (.tmp 56) 22 9 5 (by rfl) Try.underlying22 Try.underlying9 info_u8 v4 (ys ++ num s.size) s (by rfl) (by rfl) hown4 (by have h1 := hb3.size; have h2 := hszw.out; have h3 := hg4.size; simp at h1; omega) (by have := HY5.out; simp; omega) ?_; intro v5 w5 hown5 hg5)
            | fail)
        all_goals
          have hB3 := below_then ((below_alloc hB (Nat.le_refl _) _).drew) hb3 (Nat.le_refl _)
          have hlt4 : ∀ j, v4.ownBlock = some j → w.heap.size ≤ j := fun j hj => (own_lt hown4 hj).1
          have hB4 := hB3.grown hg4 (by exact hB3.size) (fun k hk => (own_lt hown hk).1)
          have hB5 := hB4.grown hg5 (by exact hB4.size) hlt4
          have hown6 : w5.ownsRow w.heap.size 5 1 v5 (ys ++ (num s.size ++ sb s)).length (bvs (ys ++ (num s.size ++ sb s))) := by rw [← List.append_assoc]; exact hown5
          clear hown4 hat4 hg4 hg5 hown5 hlt4
          go_wp2_with fail
          go_roundw
          case rel => exact ⟨k + 1, ys ++ (num s.size ++ sb s), by go_num, by omega, by show _ = _; rw [HE2.out, HO.out]; rfl, by have := HL2.out; rw [HO.out] at this; exact this, hown6, hB5⟩
          case measure => simp [intOf]; omega
      by_cases k6 : kd = 6
      · subst k6
        have HO : Hid (o = if s.size = 32 then some (sb s) else none) := ho
        clear ho k1 k2 k3 k4 k5
        by_cases h32 : s.size = 32
        · have HO2 : Hid (o = some (sb s)) := by show _ = _; rw [HO.out, if_pos h32]
          have h32' : ((s.size : Int) == 32) = true := by rw [h32]; rfl
          have HS32 := Lib.hid h32
          clear h32
          go_wp2_with (at_builtin; refine wpl_append_str (o := ⟨some 67, _, _, _, _, _⟩) w.heap.size (by rfl) (.tmp 64) (.tmp 66) 22 9 5 (by rfl) Try.underlying22 Try.underlying9 info_u8 u4 ys s (by rfl) (by rfl) (hown.alloc _) (by have h2 := hszw.out; simp; omega) (by have := HY5.out; omega) ?_)
          intro v4 w4 hown4 hg4
          have hB4 : Below w.heap.size w w4 := (below_alloc hB (Nat.le_refl _) _).grown hg4 (by have h2 := hszw.out; simp; omega) (fun k hk => (own_lt hown hk).1)
          clear hg4
          go_wp2_with fail
          go_roundw
          case rel => exact ⟨k + 1, ys ++ sb s, by go_num, by omega, by show _ = _; rw [HE2.out, HO2.out]; rfl, by have := HL2.out; rw [HO2.out] at this; exact this, by simpa using hown4, hB4⟩
          case measure => simp [intOf]; omega
        · have h32' : ((s.size : Int) == 32) = false := by rw [beq_eq_false_iff_ne]; omega
          have HE3 := Lib.hid (encE_err (xs := xs) (k := k + 1) (by rw [HE2.out, HO.out, if_neg h32]; rfl))
          have HS32 := Lib.hid h32
          clear h32
          go_wp2_with fail
          go_ret2
          rw [HE3.out.1, HE3.out.2]
          exact ⟨none, 0, rfl, own_nil _ _ _ _, below_alloc hB (Nat.le_refl _) _⟩
      by_cases k7 : kd = 7
      · subst k7
        have HO : Hid (o = if 0 ≤ n then some (num n.toNat) else none) := ho
        clear ho k1 k2 k3 k4 k5 k6
        by_cases hn0 : 0 ≤ n
        · obtain ⟨p, rfl⟩ := Int.eq_ofNat_of_zero_le hn0
          have HO2 : Hid (o = some (num p)) := by show _ = _; rw [HO.out, if_pos hn0, Int.toNat_natCast]
          have hn1 : decide ((p : Int) < 0) = false := by rw [decide_eq_false_iff_not]; omega
          have hn64 : IntKind.u64.wrap (p : Int) = (p : Int) := by rw [IntKind.wrap_u64]; have := hn.out.2; omega
          have hnn : Hid (p < 18446744073709551616) := by show _ < _; have := hn.out.2; omega
          clear hn0
          go_wp2_with fail
          refine (rnumber_any p _ hnn).mono ?_
          rintro en w3 ⟨A3, c3, rfl, ho3, hb3⟩
          have hown3 := own_below (hown.alloc _) hb3
          have hB3 := below_then (below_alloc hB (Nat.le_refl _) _) hb3 (Nat.le_refl _)
          go_wp2_with (at_builtin; refine wpl_append_bytes w.heap.size rfl _ _ 22 5 rfl Try.underlying22 info_u8 u4 ys (num p) _ A3 (num p).length c3 rfl rfl hown3 (Rc.of_own ho3) rfl (by exact hB3.size) (by have := HY5.out; have := num_len hnn.out; simp; omega) ?_)
          intro v4 w4 hown4 hg4 hat4
          have hB4 : Below w.heap.size w w4 := (hB3).grown hg4 (by exact hB3.size) (fun k hk => (own_lt hown hk).1)
          have hown5 : w4.ownsRow w.heap.size 5 1 v4 (ys ++ (num p)).length (bvs (ys ++ (num p))) := by simpa using hown4
          clear hown4 hat4 hg4
          go_wp2_with fail
          go_roundw
          case rel => exact ⟨k + 1, ys ++ (num p), by go_num, by omega, by show _ = _; rw [HE2.out, HO2.out]; rfl, by have := HL2.out; rw [HO2.out] at this; exact this, hown5, hB4⟩
          case measure => simp [intOf]; omega
        · have hn1 : decide (n < 0) = true := by rw [decide_eq_true_eq]; omega
          have HE3 := Lib.hid (encE_err (xs := xs) (k := k + 1) (by rw [HE2.out, HO.out, if_neg hn0]; rfl))
          clear hn0
          go_wp2_with fail
          go_ret2
          rw [HE3.out.1, HE3.out.2]
          exact ⟨none, 0, rfl, own_nil _ _ _ _, below_alloc hB (Nat.le_refl _) _⟩
      · have HO : Hid (o = some []) := by
          show _ = _
          rw [ho]; unfold encV
          dsimp only
          rw [if_neg k1, if_neg k2, if_neg k3, if_neg k4, if_neg k5, if_neg k6, if_neg k7]
        have e1 : (kd == 1) = false := by rw [beq_eq_false_iff_ne]; exact k1
        have e2 : (kd == 2) = false := by rw [beq_eq_false_iff_ne]; exact k2
        have e3 : (kd == 3) = false := by rw [beq_eq_false_iff_ne]; exact k3
        have e4 : (kd == 4) = false := by rw [beq_eq_false_iff_ne]; exact k4
        have e5 : (kd == 5) = false := by rw [beq_eq_false_iff_ne]; exact k5
        have e6 : (kd == 6) = false := by rw [beq_eq_false_iff_ne]; exact k6
        have e7 : (kd == 7) = false := by rw [beq_eq_false_iff_ne]; exact k7
        clear ho k1 k2 k3 k4 k5 k6 k7
        go_wp2_with fail
        go_roundw
        case rel => exact ⟨k + 1, ys, by go_num, by omega, by show _ = _; rw [HE2.out, HO.out]; simp [putX, putE, wput], by have := hyl.out; show _ ≤ _; omega, hown.alloc _, below_alloc hB (Nat.le_refl _) _⟩
        case measure => simp [intOf]; omega
    · have hkm : k = m := by omega
      subst hkm
      obtain ⟨A1, c1, rfl, _, _⟩ := own_slice hown
      have HE : Hid (encE xs = doneE 0 ys ∧ encB xs = doneB 0 ys) := by
        have := henc.out
        rw [← hm.out, List.take_length] at this
        unfold encE encB
        rw [this]
        exact ⟨rfl, rfl⟩
      by_cases hx : 1048576 < ys.length
      · have h1 : doneE 0 ys = 2 := by unfold doneE; rw [if_neg (by simp), if_pos hx]
        have h2 : doneB 0 ys = [] := by unfold doneB; rw [h1]; rfl
        have HF : Hid (encE xs = 2 ∧ encB xs = []) := ⟨HE.out.1.trans h1, HE.out.2.trans h2⟩
        clear h1 h2
        go_wp2_with fail
        go_ret2
        rw [HF.out.1, HF.out.2]
        exact ⟨none, 0, rfl, own_nil _ _ _ _, hB⟩
      · have h1 : doneE 0 ys = 0 := by unfold doneE; rw [if_neg (by simp), if_neg hx]
        have h2 : doneB 0 ys = ys := by unfold doneB; rw [h1]; rfl
        have HF : Hid (encE xs = 0 ∧ encB xs = ys) := ⟨HE.out.1.trans h1, HE.out.2.trans h2⟩
        clear h1 h2
        go_wp2_with fail
        go_ret2
        rw [HF.out.1, HF.out.2]
        exact ⟨A1, c1, rfl, hown, hB⟩
end Go.Proofs.Ytllmhablpeecfaa
