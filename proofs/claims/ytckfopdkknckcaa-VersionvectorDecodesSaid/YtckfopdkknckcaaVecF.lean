/- versionvector: Missing. -/
import Derived.Test.YtckfopdkknckcaaVecD
import Derived.Test.YtckfopdkknckcaaStep
set_option linter.unusedVariables false
set_option linter.unusedSimpArgs false
namespace Go.Proofs.Ytckfopdkknckcaa
open Go.RowKit
attribute [local irreducible] wpList

set_option maxHeartbeats 400000 in
theorem isnan_any (a : Int) (w : World) : Calls Try.prog 51 #[.int .i64 a] w fun en w' => en = .returned (.bool false) ∧ w' = w := by
  have e : (a != a) = false := by simp
  go_enter Try.func51, Try.ntmps51
  go_wp2
  go_ret
  exact ⟨by simp, rfl⟩
set_option maxHeartbeats 400000 in
theorem less_any (a b : Int) (w : World) : Calls Try.prog 34 #[.int .i64 a, .int .i64 b] w fun en w' => en = .returned (.bool (decide (a < b))) ∧ w' = w := by
  go_enter Try.func34, Try.ntmps34
  go_wp2_with fail
  refine (isnan_any a w).mono ?_
  rintro en w' ⟨rfl, rfl⟩
  go_wp2_with fail
  go_ret
  exact ⟨by simp, rfl⟩

def rcells (r : Int × Int × Int) : List Value := [.int .i64 r.1, .int .i64 r.2.1, .int .i64 r.2.2]
def rvs (rs : List (Int × Int × Int)) : List Value := rs.flatMap rcells
def missS (xs ys : List Int) (k : Nat) : List (Int × Int × Int) := (List.range k).flatMap fun i => if xs.getD i 0 < ys.getD i 0 then [((i : Int), xs.getD i 0 + 1, ys.getD i 0)] else []
theorem missS_succ (xs ys : List Int) (k : Nat) : missS xs ys (k + 1) = missS xs ys k ++ (if xs.getD k 0 < ys.getD k 0 then [((k : Int), xs.getD k 0 + 1, ys.getD k 0)] else []) := by
  unfold missS; rw [List.range_succ, List.flatMap_append]; simp
theorem missS_len (xs ys : List Int) (k : Nat) : (missS xs ys k).length ≤ k := by
  induction k with
  | zero => simp [missS]
  | succ k ih => rw [missS_succ, List.length_append]; split <;> simp <;> omega
def missR (xs ys : List Int) : List (Int × Int × Int) × Int := if okV xs && okV ys then (missS (padV xs) (padV ys) 12, 0) else ([], 1)
theorem rvs_len (rs : List (Int × Int × Int)) : (rvs rs).length = rs.length * 3 := by
  induction rs with
  | nil => rfl
  | cons r t ih => unfold rvs at *; rw [List.flatMap_cons, List.length_append, ih]; simp [rcells]; omega
/-- The end of a call that gives ranges and an error. -/
def RangesE (w : World) (r : List (Int × Int × Int) × Int) (en : Ending) (w' : World) : Prop :=
  ∃ A c, en = .returned (.tuple #[.slice A r.1.length c, .int .i64 r.2]) ∧ w'.ownsRow w.heap.size 34 3 (.slice A r.1.length c) r.1.length (rvs r.1) ∧ Below w.heap.size w w'
theorem info_range : (Try.prog.info? 34).map (fun i => (i.zero, i.size, i.bytes)) = some (some (.agg #[.int .i64 0, .int .i64 0, .int .i64 0]), 3, 24) := by kernel_rfl
theorem pad_le (xs : List Int) (k : Nat) : (padV xs).getD k 0 ≤ 1099511627776 ∧ 0 ≤ (padV xs).getD k 0 := by
  have : ∀ x ∈ padV xs, x ≤ 1099511627776 ∧ 0 ≤ x := by
    intro x hx
    unfold padV at hx
    split at hx
    · rename_i h
      rcases List.mem_append.1 hx with hx | hx
      · unfold okV at h
        have := (List.all_eq_true.1 (by simpa using (Bool.and_eq_true_iff.1 h).2 : xs.all okN = true)) x hx
        unfold okN at this
        simp at this
        omega
      · have := List.eq_of_mem_replicate hx; omega
    · have := List.eq_of_mem_replicate hx; omega
  by_cases hk : k < (padV xs).length
  · have h2 : (padV xs).getD k 0 = (padV xs)[k] := by simp [List.getD, hk]
    rw [h2]; exact this _ (List.getElem_mem hk)
  · have h2 : (padV xs).getD k 0 = 0 := by simp [List.getD, hk]
    rw [h2]; omega

structure Ms (w W : World) (b1 b2 : Nat) (V1 V2 : Array Value) (v : Value) (rs : List (Int × Int × Int)) : Prop where
  b1 : W.heap[b1]? = some (.cells V1 55 (0, 0))
  b2 : W.heap[b2]? = some (.cells V2 55 (0, 0))
  bl : Below w.heap.size w W
  row : W.ownsRow w.heap.size 34 3 v rs.length (rvs rs)
theorem Ms.drewN {w W : World} {b1 b2 : Nat} {V1 V2 : Array Value} {v : Value} {rs : List (Int × Int × Int)} (h : Ms w W b1 b2 V1 V2 v rs) (n : Nat) : Ms w (W.drewN n) b1 b2 V1 V2 v rs :=
  ⟨h.b1, h.b2, below_drewN h.bl n, ((Kp.refl (fun _ => False) W).drewN n).own h.row (fun _ _ h => h)⟩
theorem cc_grown {w w' : World} {b1 b2 k : Nat} {x y : Value} {row : Option Nat} (h : w.cell? ⟨b1, k, none⟩ = some x ∧ w.cell? ⟨b2, k, none⟩ = some y) (hg : w.grownBy w' row) (h1 : some b1 ≠ row) (h2 : some b2 ≠ row) : w'.cell? ⟨b1, k, none⟩ = some x ∧ w'.cell? ⟨b2, k, none⟩ = some y :=
  ⟨World.grownBy.cell hg h.1 h1, World.grownBy.cell hg h.2 h2⟩

set_option maxRecDepth 100000 in
set_option maxHeartbeats 1600000 in
theorem missing_any (xs ys : List Int) (S1 : Nat → Prop) (A1 : Option Addr) (m1 c1 : Nat) (S2 : Nat → Prop) (A2 : Option Addr) (m2 c2 : Nat) (w : World) (hr1 : Rc S1 w A1 (ivs xs)) (hm1 : Hid (xs.length = m1)) (hml1 : Hid (m1 ≤ 9223372036854775807))
    (hr2 : Rc S2 w A2 (ivs ys)) (hm2 : Hid (ys.length = m2)) (hml2 : Hid (m2 ≤ 9223372036854775807)) :
    Calls Try.prog 16 #[.slice A1 m1 c1, .slice A2 m2 c2] w (RangesE w (missR xs ys)) := by
  obtain ⟨r, hrr⟩ : ∃ r, r = missR xs ys := ⟨_, rfl⟩
  rw [← hrr]
  have HRR := Lib.hid hrr
  clear hrr
  go_enter Try.func16, Try.ntmps16
  go_wp2_with fail
  refine (padded_any xs S1 A1 m1 c1 w hr1 hm1 hml1).mono ?_
  rintro en w1 ⟨rfl, hb1⟩
  obtain ⟨V1, hV1⟩ : ∃ L, L = (ivs (padV xs)).toArray := ⟨_, rfl⟩
  obtain ⟨V2, hV2⟩ : ∃ L, L = (ivs (padV ys)).toArray := ⟨_, rfl⟩
  have hV1s : V1.size = 12 := by rw [hV1]; exact vec_size (padV_length xs)
  have hV1o : ∀ v ∈ V1, v.oneCell' = true := by rw [hV1]; exact vec_one _
  have hV2s : V2.size = 12 := by rw [hV2]; exact vec_size (padV_length ys)
  have hV2o : ∀ v ∈ V2, v.oneCell' = true := by rw [hV2]; exact vec_one _
  rw [← hV1]
  have HV1 := Lib.hid hV1
  have HV2 := Lib.hid hV2
  clear hV1 hV2
  have hx1 := blk_new w1 55 V1
  have hr2' := (hr2.below hb1).alloc (.cells V1 55)
  have hb1' := below_alloc hb1 (Nat.le_refl _) (.cells V1 55)
  clear hb1 hr1 hr2
  go_wp2_with (first
    | refine st_new (o := ⟨none, .store _ (.tmp 6) (.tmp 15), _, _, _, _⟩) rfl (.tmp 6) (.tmp 15) rfl w1 V1 _ rfl rfl rfl rfl hV1s hV1o ?_)
  revert hx1 hr2' hb1'
  generalize (w1.alloc (.cells V1 55)) = W1
  generalize w1.heap.size = b1
  intro hx1 hr2 hb1
  refine (padded_any ys S2 A2 m2 c2 W1 hr2 hm2 hml2).mono ?_
  rintro en w2 ⟨rfl, hb2⟩
  rw [← HV2.out]
  have hy1 := blk_alloc ((hb2.block b1 (blk_lt hx1)).trans hx1) (.cells V2 55)
  have hy2 := blk_new w2 55 V2
  have hb2' := below_then hb1 (below_alloc hb2 (Nat.le_refl _) (.cells V2 55)) (Nat.le_refl _)
  clear hx1 hb1 hb2 hr2
  cases hox : okV xs with
  | false =>
    have HO := Lib.hid hox
    clear hox
    go_wp2_with (first
      | refine st_new (o := ⟨none, .store _ (.tmp 8) (.tmp 20), _, _, _, _⟩) rfl (.tmp 8) (.tmp 20) rfl w2 V2 _ rfl rfl rfl rfl hV2s hV2o ?_)
    go_ret2
    rw [HRR.out, missR, HO.out]
    exact ⟨none, 0, rfl, own_nil _ _ _ _, hb2'⟩
  | true =>
    have HO := Lib.hid hox
    clear hox
    cases hoy : okV ys with
    | false =>
      have HO2 := Lib.hid hoy
      clear hoy
      go_wp2_with (first
        | refine st_new (o := ⟨none, .store _ (.tmp 8) (.tmp 20), _, _, _, _⟩) rfl (.tmp 8) (.tmp 20) rfl w2 V2 _ rfl rfl rfl rfl hV2s hV2o ?_)
      go_ret2
      rw [HRR.out, missR, HO.out, HO2.out]
      exact ⟨none, 0, rfl, own_nil _ _ _ _, hb2'⟩
    | true =>
      have HO2 := Lib.hid hoy
      clear hoy
      go_wp2_with (first
        | refine st_new (o := ⟨none, .store _ (.tmp 8) (.tmp 20), _, _, _, _⟩) rfl (.tmp 8) (.tmp 20) rfl w2 V2 _ rfl rfl rfl rfl hV2s hV2o ?_)
      have hs0 : Hid (Ms w (w2.alloc (.cells V2 55)) b1 w2.heap.size V1 V2 (.slice none 0 0) (missS (padV xs) (padV ys) 0)) := ⟨hy1, hy2, hb2', own_nil _ _ _ _⟩
      clear hy1 hy2 hb2'
      revert hs0
      generalize (w2.alloc (.cells V2 55)) = W2
      generalize w2.heap.size = b2
      intro hs0
      go_loopw [10, 28] (fun o i wr => ∃ (k : Nat) (v : Value), o = v ∧ i = .int .i64 k ∧ k ≤ 12 ∧ Hid (Ms w wr b1 b2 V1 V2 v (missS (padV xs) (padV ys) k))) (fun _ i _ => 12 - (intOf i).toNat)
      case atStart => exact ⟨0, _, rfl, rfl, Nat.zero_le _, hs0⟩
      case round =>
        obtain ⟨k, v, rfl, rfl, hk, hms⟩ := hrel
        clear hs0
        by_cases hlt : k < 12
        · obtain ⟨x, hxx⟩ : ∃ x, x = (padV xs).getD k 0 := ⟨_, rfl⟩
          obtain ⟨y, hyy⟩ : ∃ y, y = (padV ys).getD k 0 := ⟨_, rfl⟩
          have hc1 : wr.cell? ⟨b1, k, none⟩ = some (.int .i64 x) := by rw [blk_cell hms.out.b1, HV1.out, vec_get (padV_length xs) hlt, hxx]
          have hc2 : wr.cell? ⟨b2, k, none⟩ = some (.int .i64 y) := by rw [blk_cell hms.out.b2, HV2.out, vec_get (padV_length ys) hlt, hyy]
          have hsu := missS_succ (padV xs) (padV ys) k
          rw [← hxx, ← hyy] at hsu
          have hi1 : (k : Int) < 12 := by omega
          have hi2 : (0 : Int) ≤ (k : Int) := by omega
          have hxb : x ≤ 1099511627776 ∧ 0 ≤ x := by rw [hxx]; exact pad_le xs k
          obtain ⟨hxb1, hxb0⟩ := hxb
          clear hxx hyy
          by_cases hxy : x < y
          · rw [if_pos hxy] at hsu
            have HSU := Lib.hid hsu
            have e1 : decide (x < y) = true := decide_eq_true hxy
            clear hxy hsu
            go_wp2_with fail
            go_quiet ((go_at_call 34; exact Calls.quiet_of_same (less_any _ _ _)))
            rw [e1]
            have hm2 := Lib.hid (hms.out.drewN nq)
            have hd1 : (wr.drewN nq).cell? ⟨b1, k, none⟩ = some (.int .i64 x) := hc1
            have hd2 : (wr.drewN nq).cell? ⟨b2, k, none⟩ = some (.int .i64 y) := hc2
            clear hms hc1 hc2
            revert hm2 hd1 hd2
            generalize wr.drewN nq = Wd
            intro hm2 hd1 hd2
            have N1 : Hid (some b1 ≠ Value.ownBlock u10) := by
              intro e
              exact own_blk_ne hm2.out.row hm2.out.b1 (by decide) e.symm
            have N2 : Hid (some b2 ≠ Value.ownBlock u10) := by
              intro e
              exact own_blk_ne hm2.out.row hm2.out.b2 (by decide) e.symm
            have hml := missS_len (padV xs) (padV ys) k
            obtain ⟨rs, hrs⟩ : ∃ rs, rs = missS (padV xs) (padV ys) k := ⟨_, rfl⟩
            rw [← hrs] at hm2 hml
            have HRS := Lib.hid hrs
            have HRW := hm2.out.row
            have HBS := Lib.hid hm2.out.bl.size
            clear hrs
            have HRW3 : Hid (((Wd.alloc (.cells #[.int .i64 k, .int .i64 (IntKind.i64.wrap (x + 1)), .int .i64 y] 34)).drew).ownsRow w.heap.size 34 3 u10 rs.length (rvs rs)) :=
              (((Kp.of_below (fun _ => False) ((Below.refl _ Wd).alloc (Nat.le_refl _) _)).drewN 1)).own HRW (fun _ _ h => h)
            have HBS3 : Hid (w.heap.size ≤ ((Wd.alloc (.cells #[.int .i64 k, .int .i64 (IntKind.i64.wrap (x + 1)), .int .i64 y] 34)).drew).heap.size) := by
              have h1 := HBS.out
              have h2 := size_alloc Wd (.cells #[.int .i64 k, .int .i64 (IntKind.i64.wrap (x + 1)), .int .i64 y] 34)
              show _ ≤ (Wd.alloc _).heap.size
              omega
            go_wp2_with fail
            go_region_held3 (fun w' => w'.cell? ⟨b1, k, none⟩ = some (.int .i64 x) ∧ w'.cell? ⟨b2, k, none⟩ = some (.int .i64 y))
              (first
                | exact ⟨hd1, hd2⟩
                | go_keep
                | exact cc_grown (by assumption) hg4 N1.out N2.out
                | fail)
              (first
                | (refine step_append_rc (o := ⟨some 49, _, _, _, _, _⟩) w.heap.size (by rfl) (.tmp 38) (.tmp 48) 29 34 (.agg #[.int .i64 0, .int .i64 0, .int .i64 0]) 3 24 (by rfl) Try.underlying29 info_range rfl (by omega) (by omega) u10 rs.length (rvs rs) (fun i => i = Wd.heap.size) (some ⟨Wd.heap.size, 0, none⟩) 1 1 [.int .i64 k, .int .i64 (IntKind.i64.wrap (x + 1)), .int .i64 y] (by rfl) (by rfl) HRW3.out (Rc.lit Wd #[.int .i64 k, .int .i64 (IntKind.i64.wrap (x + 1)), .int .i64 y] _).drew rfl (by intro u hu; simp at hu; rcases hu with rfl | rfl | rfl <;> rfl) HBS3.out (by omega) ?_; intro v4 w4 hown4 hg4 hat4)
                | fail)
            all_goals
              have hw1 : IntKind.i64.wrap (x + 1) = x + 1 := by rw [IntKind.wrap_i64]; omega
              have hkp := Kp.of_grown hg4
              have hq1 := hkp.blk (blk_alloc (w := Wd) hm2.out.b1 _) N1.out
              have hq2 := hkp.blk (blk_alloc (w := Wd) hm2.out.b2 _) N2.out
              have hbl4 : Below w.heap.size w w4 := (below_drewN (below_alloc hm2.out.bl (Nat.le_refl _) _) 1).grown hg4 HBS3.out (by intro i hi; have := own_lt HRW hi; omega)
              have hm5 : Hid (Ms w w4 b1 b2 V1 V2 v4 (missS (padV xs) (padV ys) (k + 1))) := by
                refine ⟨hq1, hq2, hbl4, ?_⟩
                rw [HSU.out, ← HRS.out, List.length_append]
                have hrv : rvs (rs ++ [((k : Int), x + 1, y)]) = rvs rs ++ [.int .i64 k, .int .i64 (IntKind.i64.wrap (x + 1)), .int .i64 y] := by
                  rw [hw1]; unfold rvs; rw [List.flatMap_append]; rfl
                rw [hrv]; exact hown4
              clear hq1 hq2 hbl4 hm2 hkp hown4
              go_wp2_with fail
              go_roundw
              case rel => exact ⟨k + 1, v4, rfl, by go_num, by omega, hm5⟩
              case measure => simp [intOf]; omega
          · rw [if_neg hxy, List.append_nil] at hsu
            have HSU := Lib.hid hsu
            have e1 : decide (x < y) = false := decide_eq_false hxy
            clear hxy hsu
            go_wp2_with fail
            go_quiet ((go_at_call 34; exact Calls.quiet_of_same (less_any _ _ _)))
            rw [e1]
            have hm2 : Hid (Ms w (wr.drewN nq) b1 b2 V1 V2 u10 (missS (padV xs) (padV ys) (k + 1))) := by rw [HSU.out]; exact hms.out.drewN nq
            clear hms
            go_wp2_with fail
            go_roundw
            case rel => exact ⟨k + 1, u10, rfl, by go_num, by omega, hm2⟩
            case measure => simp [intOf]; omega
        · have hk12 : k = 12 := by omega
          have hen : ¬ ((k : Nat) : Int) < 12 := by omega
          have hrow := hms.out.row
          have HBL := Lib.hid hms.out.bl
          rw [hk12] at hrow
          obtain ⟨A5, c5, rfl, _, _⟩ := own_slice hrow
          have HROW := Lib.hid hrow
          clear hms hrow
          go_wp2_with fail
          go_ret2
          rw [HRR.out, missR, HO.out, HO2.out]
          exact ⟨A5, c5, rfl, HROW.out, HBL.out⟩
end Go.Proofs.Ytckfopdkknckcaa
