/- Joins: the plain law, slices of slices, the walk. -/
import Derived.Test.YtckfopdkknckcaaVecR
import Derived.Test.YtckfopdkknckcaaVecE
set_option linter.unusedVariables false
set_option linter.unusedSimpArgs false
namespace Go.Proofs.Ytckfopdkknckcaa
open Go.RowKit
attribute [local irreducible] wpList

/-- A slice of slices of numbers, each within its room. -/
def RlC (S : Nat → Prop) (w : World) (A : Option Addr) (ls : List (List Int)) : Prop :=
  ∀ i (h : i < ls.length), ∃ ad Ai ci, A = some ad ∧ w.cell? (ad.add i) = some (.slice Ai ls[i].length ci) ∧ Rc S w Ai (ivs ls[i]) ∧ ls[i].length ≤ ci
theorem RlC.rl {S : Nat → Prop} {w : World} {A : Option Addr} {ls : List (List Int)} (h : RlC S w A ls) : Rl S w A ls := fun i hi => by
  obtain ⟨ad, Ai, ci, h1, h2, h3, _⟩ := h i hi
  exact ⟨ad, Ai, ci, h1, h2, h3⟩
theorem RlC.below {S : Nat → Prop} {w w' : World} {A : Option Addr} {ls : List (List Int)} (h : RlC S w A ls) (hb : Below w.heap.size w w') : RlC S w' A ls := fun i hi => by
  obtain ⟨ad, Ai, ci, h1, h2, h3, h4⟩ := h i hi
  exact ⟨ad, Ai, ci, h1, (World.cell?_of_block (w := w) (hb.block _ (World.block_lt_of_cell? w _ h2))).trans h2, h3.below hb, h4⟩

def jx (ls : List (List Int)) : List Int := ls.foldl (fun x l => normL (joinL max x l)) []
def cy (ls : List (List Int)) : List Int := match ls with
  | [] => []
  | l :: t => t.foldl (fun y z => normL (joinL min y z)) (normL (joinL min (normL l) l))
theorem jx_take {ls : List (List Int)} {k : Nat} (hk : k < ls.length) : jx (ls.take (k + 1)) = normL (joinL max (jx (ls.take k)) ls[k]) := by
  unfold jx; rw [List.take_succ_eq_append_getElem hk, List.foldl_append]; rfl
theorem cy_take {ls : List (List Int)} {k : Nat} (hk : k < ls.length) : cy (ls.take (k + 1)) = normL (joinL min (if k = 0 then normL ls[k] else cy (ls.take k)) ls[k]) := by
  cases ls with
  | nil => simp at hk
  | cons x t =>
    cases k with
    | zero => simp [cy]
    | succ j =>
      have hj : j < t.length := by simpa using hk
      rw [if_neg (by omega), List.take_succ_cons, List.take_succ_cons]
      unfold cy
      dsimp only
      rw [List.take_succ_eq_append_getElem hj, List.foldl_append]
      rfl
theorem join_get0 {op : Int → Int → Int} (h0 : op 0 0 = 0) {u v : List Int} (hu : ∀ i, 12 ≤ i → u.getD i 0 = 0) (hv : ∀ i, 12 ≤ i → v.getD i 0 = 0) (i : Nat) : (joinL op u v).getD i 0 = op (u.getD i 0) (v.getD i 0) := by
  by_cases hi : i < 12
  · exact joinL_get hi
  · rw [hu i (by omega), hv i (by omega), h0]; simp [List.getD, joinL, hi]
theorem okV_far {xs : List Int} (h : okV xs = true) (i : Nat) (hi : 12 ≤ i) : xs.getD i 0 = 0 := by
  have : xs.length ≤ 12 := by unfold okV at h; simp at h; exact h.1
  simp [List.getD, show ¬ i < xs.length by omega]
theorem len12_far {xs : List Int} (h : xs.length = 12) (i : Nat) (hi : 12 ≤ i) : xs.getD i 0 = 0 := by simp [List.getD, show ¬ i < xs.length by omega]
theorem okV_nonneg {xs : List Int} (h : okV xs = true) (i : Nat) : 0 ≤ xs.getD i 0 := by
  have h2 : xs.all okN = true := by unfold okV at h; exact (Bool.and_eq_true_iff.1 h).2
  exact (of_decide_eq_true (okN_get h2 i)).1
theorem zeros_get (i : Nat) : (List.replicate 12 (0 : Int)).getD i 0 = 0 := by
  rw [List.getD_eq_getElem?_getD, List.getElem?_replicate]; split <;> rfl
theorem jx_get {ls : List (List Int)} (hall : ls.all okV = true) : ∀ k, k ≤ ls.length → ∀ i, (jx (ls.take k)).getD i 0 = (foldL max (ls.take k)).getD i 0
  | 0, _, i => by
    have h1 : (jx (ls.take 0)).getD i 0 = 0 := by simp [jx]
    rw [h1]
    simp only [List.take_zero, foldL]
    exact (zeros_get i).symm
  | k + 1, hk, i => by
    have ih := jx_get hall k (by omega)
    have hok : okV ls[k] = true := List.all_eq_true.1 hall _ (List.getElem_mem _)
    have hfar : ∀ i, 12 ≤ i → (jx (ls.take k)).getD i 0 = 0 := fun i hi => by rw [ih i]; exact len12_far (foldL_len _) i hi
    rw [jx_take (by omega), normL_get, join_get0 rfl hfar (okV_far hok), foldL_take (by omega)]
    by_cases h0 : k = 0
    · subst h0
      rw [if_pos rfl, padV_get hok]
      have : (jx (ls.take 0)).getD i 0 = 0 := by simp [jx]
      rw [this]
      have := okV_nonneg hok i
      omega
    · rw [if_neg h0, join_get0 rfl (len12_far (foldL_len _)) (len12_far (padV_length _)), ih i, padV_get hok]
theorem jx_eq {ls : List (List Int)} (hall : ls.all okV = true) : jx ls = normL (foldL max ls) := by
  by_cases h0 : ls = []
  · subst h0; decide
  · obtain ⟨k, hk⟩ : ∃ k, ls.length = k + 1 := ⟨ls.length - 1, by have := List.length_pos_iff.2 h0; omega⟩
    have h1 := jx_take (ls := ls) (k := k) (by omega)
    rw [← hk, List.take_length] at h1
    have h2 := jx_get hall ls.length (Nat.le_refl _)
    rw [List.take_length] at h2
    rw [h1]
    refine norm_congr (fun i => ?_)
    rw [← h2 i, h1, normL_get]
theorem cy_get {ls : List (List Int)} (hall : ls.all okV = true) : ∀ k, k < ls.length → ∀ i, (cy (ls.take (k + 1))).getD i 0 = (foldL min (ls.take (k + 1))).getD i 0
  | k, hk, i => by
    have hok : okV ls[k] = true := List.all_eq_true.1 hall _ (List.getElem_mem _)
    rw [cy_take hk, normL_get, foldL_take hk]
    by_cases h0 : k = 0
    · subst h0
      rw [if_pos rfl, if_pos rfl, join_get0 rfl (fun i hi => by rw [normL_get]; exact okV_far hok i hi) (okV_far hok), normL_get, padV_get hok]
      omega
    · obtain ⟨j, rfl⟩ : ∃ j, k = j + 1 := ⟨k - 1, by omega⟩
      have ih := cy_get hall j (by omega)
      rw [if_neg h0, if_neg h0, join_get0 rfl (fun i hi => by rw [ih i]; exact len12_far (foldL_len _) i hi) (okV_far hok), join_get0 rfl (len12_far (foldL_len _)) (len12_far (padV_length _)), ih i, padV_get hok]
theorem cy_eq {ls : List (List Int)} (hall : ls.all okV = true) : cy ls = normL (foldL min ls) := by
  by_cases h0 : ls = []
  · subst h0; decide
  · obtain ⟨k, hk⟩ : ∃ k, ls.length = k + 1 := ⟨ls.length - 1, by have := List.length_pos_iff.2 h0; omega⟩
    have h1 := cy_take (ls := ls) (k := k) (by omega)
    rw [← hk, List.take_length] at h1
    have h2 := cy_get hall k (by omega)
    rw [← hk, List.take_length] at h2
    rw [h1]
    refine norm_congr (fun i => ?_)
    rw [← h2 i, h1, normL_get]

theorem jx_len {ls : List (List Int)} : (jx ls).length ≤ 12 := by
  unfold jx
  have : ∀ (l : List (List Int)) (a : List Int), a.length ≤ 12 → (l.foldl (fun x l => normL (joinL max x l)) a).length ≤ 12 := by
    intro l
    induction l with
    | nil => intro a h; exact h
    | cons y t ih => intro a _; exact ih _ (Nat.le_trans (normL_len _) (by rw [joinL_len]; exact Nat.le_refl _))
  exact this ls [] (by simp)
theorem cy_len {ls : List (List Int)} : (cy ls).length ≤ 12 := by
  cases ls with
  | nil => simp [cy]
  | cons x t =>
    unfold cy
    have : ∀ (l : List (List Int)) (a : List Int), a.length ≤ 12 → (l.foldl (fun y z => normL (joinL min y z)) a).length ≤ 12 := by
      intro l
      induction l with
      | nil => intro a h; exact h
      | cons y t ih => intro a _; exact ih _ (Nat.le_trans (normL_len _) (by rw [joinL_len]; exact Nat.le_refl _))
    exact this t _ (Nat.le_trans (normL_len _) (by rw [joinL_len]; exact Nat.le_refl _))
/-- A value that is a row of these numbers. -/
def IsRow (w : World) (v : Value) (xs : List Int) : Prop := ∃ A c, v = .slice A xs.length c ∧ Rc (fun _ => True) w A (ivs xs)
theorem IsRow.below {w w' : World} {v : Value} {xs : List Int} (h : IsRow w v xs) (hb : Below w.heap.size w w') : IsRow w' v xs := by
  obtain ⟨A, c, h1, h2⟩ := h; exact ⟨A, c, h1, h2.below hb⟩
theorem IsRow.nil (w : World) (A : Option Addr) (c : Nat) : IsRow w (.slice A 0 c) [] := ⟨A, c, rfl, Rc.nil _ _ _⟩

set_option maxRecDepth 100000 in
set_option maxHeartbeats 3200000 in
theorem joins_walk (ls : List (List Int)) (S1 : Nat → Prop) (A1 : Option Addr) (n c1 : Nat) (w : World) (hr1 : RlC S1 w A1 ls) (hm1 : Hid (ls.length = n)) (hs : Hid (∀ x ∈ ls, x.length ≤ 9223372036854775807)) :
    Calls Try.prog 5 #[.slice A1 n c1] w (LawP w) := by
  go_enter Try.func5, Try.ntmps5
  by_cases h6 : 6 < n
  · go_wp2_with fail
    refine (awake_any _).mono ?_
    rintro en w' ⟨rfl, hb⟩
    go_wp2_with fail
    go_ret
    exact law_ret rfl hb
  go_wp2_with fail
  go_loopw [3, 4] (fun o i wr => ∃ (k : Nat) (r : Bool), o = .bool r ∧ i = .int .i64 k ∧ k ≤ n ∧ Hid (wr = w) ∧ Hid (r = (ls.take k).all okV) ∧ Hid (∀ j (h : j < ls.length), j < k → ls[j].length ≤ 20)) (fun _ i _ => n - (intOf i).toNat)
  case atStart => exact ⟨0, true, rfl, rfl, Nat.zero_le _, rfl, rfl, fun j h h0 => absurd h0 (by omega)⟩
  case round =>
    obtain ⟨k, r, rfl, rfl, hk, hwr, hrr, hle⟩ := hrel
    by_cases hlt : k < n
    · have hkl : k < ls.length := by have := hm1.out; omega
      have hrw : RlC S1 wr A1 ls := by rw [hwr.out]; exact hr1
      obtain ⟨ad, Ai, ci, rfl, hc, hrc, hcc⟩ := hrw k hkl
      obtain ⟨x, hx⟩ : ∃ x, x = ls[k] := ⟨_, rfl⟩
      have htk : (ls.take (k + 1)).all okV = ((ls.take k).all okV && okV ls[k]) := by
        rw [List.take_succ_eq_append_getElem hkl, List.all_append]; simp
      rw [← hx] at hc hrc hcc htk
      obtain ⟨m, hm⟩ : ∃ m, m = x.length := ⟨_, rfl⟩
      have HM : Hid (x.length = m) := hm.symm
      rw [← hm] at hc hcc
      have HX := Lib.hid hx
      rw [← hrr.out] at htk
      have HTK := Lib.hid htk
      have hi1 : (k : Int) < (n : Int) := by omega
      have hi2 : (0 : Int) ≤ (k : Int) := by omega
      clear hx hm htk hrw hcc
      go_wp2_with fail
      refine (few_any Ai m ci wr).mono ?_
      rintro en w' ⟨rfl, rfl⟩
      by_cases h20 : m ≤ 20
      case neg =>
        rw [decide_eq_false h20]
        have hww := hwr.out
        clear h20
        go_wp2_with fail
        refine (awake_any _).mono ?_
        rintro en w5 ⟨rfl, hb⟩
        go_wp2_with fail
        go_ret
        first
          | exact law_ret rfl hb
          | (rw [hww] at hb; exact law_ret rfl hb)
      rw [decide_eq_true h20]
      have hle2 : Hid (∀ j (h : j < ls.length), j < k + 1 → ls[j].length ≤ 20) := by
        intro j h hj
        rcases Nat.lt_or_ge j k with h3 | h3
        · exact hle.out j h h3
        · obtain rfl : j = k := by omega
          rw [← HX.out, HM.out]; exact h20
      cases r with
      | false =>
        have hr2 : Hid (false = (ls.take (k + 1)).all okV) := by show _ = _; rw [HTK.out]; rfl
        go_wp2_with fail
        go_roundw
        case rel => exact ⟨k + 1, false, rfl, by go_num, by omega, hwr, hr2, hle2⟩
        case measure => simp [intOf]; omega
      | true =>
        go_wp2_with fail
        refine (rvalid_any x S1 Ai m ci _ hrc HM (by omega)).mono ?_
        rintro en w5 ⟨rfl, rfl⟩
        obtain ⟨q, hq⟩ : ∃ q, q = okV x := ⟨_, rfl⟩
        rw [← hq]
        have hr2 : Hid (q = (ls.take (k + 1)).all okV) := by show _ = _; rw [HTK.out, hq]; rfl
        clear hq
        go_wp2_with fail
        go_roundw
        case rel => exact ⟨k + 1, q, rfl, by go_num, by omega, hwr, hr2, hle2⟩
        case measure => simp [intOf]; omega
    · have hen : ¬ ((k : Nat) : Int) < (n : Int) := by omega
      have hall : ls.take k = ls := List.take_of_length_le (by have := hm1.out; omega)
      rw [hall] at hrr
      have hl20 : Hid (∀ j (h : j < ls.length), ls[j].length ≤ 20) := fun j h => hle.out j h (by have := hm1.out; omega)
      have hr2 : RlC S1 wr A1 ls := by rw [hwr.out]; exact hr1
      have HWR := Lib.hid hwr.out
      clear hall hle hwr
      go_wp2_with fail
      refine (merge_any ls S1 A1 n c1 wr hr2.rl hm1 (by omega) hs).mono ?_
      rintro en W1 ⟨Am, cm, rfl, hom, hb1⟩
      obtain ⟨rm, hrm⟩ : ∃ r, r = mergeR max ls := ⟨_, rfl⟩
      rw [← hrm] at hom ⊢
      have HRM := Lib.hid hrm
      have hr3 := hr2.below hb1
      clear hrm hr2
      go_wp2_with fail
      refine (meet_any ls S1 A1 n c1 W1 hr3.rl hm1 (by omega) hs).mono ?_
      rintro en W2 ⟨An, cn, rfl, hon, hb2⟩
      obtain ⟨rn, hrn⟩ : ∃ r, r = mergeR min ls := ⟨_, rfl⟩
      rw [← hrn] at hon ⊢
      have HRN := Lib.hid hrn
      have hr4 := hr3.below hb2
      have hB2 := below_then hb1 hb2 (Nat.le_refl _)
      rw [HWR.out] at hB2
      have hmr := (Rc.of_own hom).below hb2
      have hnr := Rc.of_own hon
      clear hrn hr3 hb1 hb2 hom hon
      cases r with
      | false =>
        have h1 : rm = ([], 1) := by rw [HRM.out, mergeR, ← hrr.out]; rfl
        have h2 : rn = ([], 1) := by rw [HRN.out, mergeR, ← hrr.out]; rfl
        subst h1 h2
        clear HRM HRN
        go_wp2_with fail
        refine (awake_any _).mono ?_
        rintro en w5 ⟨rfl, hb⟩
        go_wp2_with fail
        go_ret
        exact law_ret rfl (below_then hB2 hb (Nat.le_refl _))
      | true =>
        have hall := hrr.out.symm
        have h1 : rm = (jx ls, 0) := by rw [HRM.out, mergeR, if_pos hall, jx_eq hall]
        have h2 : rn = (cy ls, 0) := by rw [HRN.out, mergeR, if_pos hall, cy_eq hall]
        subst h1 h2
        clear HRM HRN hall
        dsimp only at hmr hnr ⊢
        have HMR := Lib.hid (hmr.mono (S' := fun _ => True) (fun _ _ _ => trivial))
        have HNR := Lib.hid (hnr.mono (S' := fun _ => True) (fun _ _ _ => trivial))
        have hb4 : Hid (Below W2.heap.size W2 ((W2.alloc (.cells #[] 3)).alloc (.cells #[] 3))) := ((Below.refl _ _).alloc (Nat.le_refl _) _).alloc (by rw [size_alloc]; omega) _
        clear hmr hnr
        go_wp2_with fail
        revert hb4
        generalize ((W2.alloc (.cells #[] 3)).alloc (.cells #[] 3)) = W3
        intro hb4
        go_loopw [9, 10, 11] (fun x y i wt => ∃ (k : Nat) (vx vy : Value), x = vx ∧ y = vy ∧ i = .int .i64 k ∧ k ≤ n ∧ Hid (IsRow wt vx (jx (ls.take k))) ∧ Hid (IsRow wt vy (cy (ls.take k))) ∧ Hid (Below W2.heap.size W2 wt)) (fun _ _ i _ => n - (intOf i).toNat)
        case atStart => exact ⟨0, _, _, rfl, rfl, rfl, Nat.zero_le _, IsRow.nil _ _ _, IsRow.nil _ _ _, hb4⟩
        case round =>
          rename World => wt
          obtain ⟨k, vx, vy, rfl, rfl, rfl, hk, hxr, hyr, hbt⟩ := hrel
          clear hb4
          by_cases hlt : k < n
          · have hkl : k < ls.length := by have := hm1.out; omega
            obtain ⟨ad, Ai, ci, rfl, hc, hrc, hcc⟩ := (hr4.below hbt.out) k hkl
            obtain ⟨x, hx⟩ : ∃ x, x = ls[k] := ⟨_, rfl⟩
            have hjx := jx_take hkl
            have hcy := cy_take hkl
            have h20 := hl20.out k hkl
            rw [← hx] at hc hrc hcc hjx hcy h20
            obtain ⟨m, hm⟩ : ∃ m, m = x.length := ⟨_, rfl⟩
            have HM : Hid (x.length = m) := hm.symm
            rw [← hm] at hc hcc h20
            have HJX := Lib.hid hjx
            have HCY := Lib.hid hcy
            have hi1 : (k : Int) < (n : Int) := by omega
            have hi2 : (0 : Int) ≤ (k : Int) := by omega
            obtain ⟨Ax, cx, hvx, hrx⟩ := hxr.out
            subst hvx
            clear hx hm hjx hcy hxr
            go_wp2_with fail
            refine (rjoin_any (jx (ls.take k)) x _ S1 Ax Ai _ cx m ci wt hrx hrc (by show _ = _; rfl) HM).mono ?_
            rw [← HJX.out]
            rintro en W7 ⟨A7, c7, rfl, ho7, hb7⟩
            have hxr7 : Hid (IsRow W7 (.slice A7 (jx (ls.take (k + 1))).length c7) (jx (ls.take (k + 1)))) := ⟨A7, c7, rfl, (Rc.of_own ho7).mono (fun _ _ _ => trivial)⟩
            have hyr7 := Lib.hid (hyr.out.below hb7)
            have hbt7 := Lib.hid (below_then hbt.out hb7 (Nat.le_refl _))
            have hc7 := (World.cell?_of_block (w := wt) (hb7.block _ (World.block_lt_of_cell? wt _ hc))).trans hc
            have hrc7 := hrc.below hb7
            clear hyr hbt hc hrc hrx ho7 hb7
            by_cases hk0 : k = 0
            · have hkt : ((k : Int) == 0) = true := by rw [beq_iff_eq]; omega
              rw [if_pos hk0] at HCY
              clear hk0
              go_wp2_with fail
              refine (rnormal_any x S1 Ai m ci W7 hrc7 HM (by omega) hcc).mono ?_
              rintro en W8 ⟨A8, c8, rfl, ho8, hb8⟩
              have hxr8 := Lib.hid (hxr7.out.below hb8)
              have hbt8 := Lib.hid (below_then hbt7.out hb8 (Nat.le_refl _))
              have hc8 := (World.cell?_of_block (w := W7) (hb8.block _ (World.block_lt_of_cell? W7 _ hc7))).trans hc7
              have hrc8 := hrc7.below hb8
              have hry8 := Rc.of_own ho8
              clear hxr7 hyr7 hbt7 hc7 hrc7 ho8 hb8
              go_wp2_with fail
              refine (rcommon_any (normL x) x _ S1 A8 Ai _ c8 m ci W8 hry8 hrc8 (by show _ = _; rfl) HM).mono ?_
              rw [← HCY.out]
              rintro en W9 ⟨A9, c9, rfl, ho9, hb9⟩
              have hxr9 := Lib.hid (hxr8.out.below hb9)
              have hbt9 := Lib.hid (below_then hbt8.out hb9 (Nat.le_refl _))
              have hyr9 : Hid (IsRow W9 (.slice A9 (cy (ls.take (k + 1))).length c9) (cy (ls.take (k + 1)))) := ⟨A9, c9, rfl, (Rc.of_own ho9).mono (fun _ _ _ => trivial)⟩
              clear hxr8 hbt8 hc8 hrc8 hry8 ho9 hb9
              go_wp2_with fail
              go_roundw
              case rel => exact ⟨k + 1, _, _, rfl, rfl, by go_num, by omega, hxr9, hyr9, hbt9⟩
              case measure => simp [intOf]; omega
            · have hkf : ((k : Int) == 0) = false := by rw [beq_eq_false_iff_ne]; omega
              rw [if_neg hk0] at HCY
              obtain ⟨Ay, cy2, hvy, hry⟩ := hyr7.out
              subst hvy
              clear hk0 hyr7
              go_wp2_with fail
              refine (rcommon_any (cy (ls.take k)) x _ S1 Ay Ai _ cy2 m ci W7 hry hrc7 (by show _ = _; rfl) HM).mono ?_
              rw [← HCY.out]
              rintro en W9 ⟨A9, c9, rfl, ho9, hb9⟩
              have hxr9 := Lib.hid (hxr7.out.below hb9)
              have hbt9 := Lib.hid (below_then hbt7.out hb9 (Nat.le_refl _))
              have hyr9 : Hid (IsRow W9 (.slice A9 (cy (ls.take (k + 1))).length c9) (cy (ls.take (k + 1)))) := ⟨A9, c9, rfl, (Rc.of_own ho9).mono (fun _ _ _ => trivial)⟩
              clear hxr7 hbt7 hc7 hrc7 hry ho9 hb9
              go_wp2_with fail
              go_roundw
              case rel => exact ⟨k + 1, _, _, rfl, rfl, by go_num, by omega, hxr9, hyr9, hbt9⟩
              case measure => simp [intOf]; omega
          · have hen : ¬ ((k : Nat) : Int) < (n : Int) := by omega
            have hall : ls.take k = ls := List.take_of_length_le (by have := hm1.out; omega)
            rw [hall] at hxr hyr
            obtain ⟨Ax, cx, hvx, hrx⟩ := hxr.out
            obtain ⟨Ay, cy2, hvy, hry⟩ := hyr.out
            subst hvx hvy
            have hmr := HMR.out.below hbt.out
            have hnr := HNR.out.below hbt.out
            have hB3 := hB2.trans (hbt.out.mono hB2.size)
            have hj12 := jx_len (ls := ls)
            have hc12 := cy_len (ls := ls)
            obtain ⟨jl, hjl⟩ : ∃ jl, jl = jx ls := ⟨_, rfl⟩
            obtain ⟨cl, hcl⟩ : ∃ cl, cl = cy ls := ⟨_, rfl⟩
            rw [← hjl] at hmr hrx hj12 ⊢
            rw [← hcl] at hnr hry hc12 ⊢
            obtain ⟨nj, hnj⟩ : ∃ nj, nj = jl.length := ⟨_, rfl⟩
            obtain ⟨nc, hnc⟩ : ∃ nc, nc = cl.length := ⟨_, rfl⟩
            have HNJ : Hid (jl.length = nj) := hnj.symm
            have HNC : Hid (cl.length = nc) := hnc.symm
            rw [← hnj] at hj12 ⊢
            rw [← hnc] at hc12 ⊢
            clear hall hxr hyr hbt HMR HNR hr4 hjl hcl hnj hnc
            go_wp2_with fail
            refine (awake_any _).mono ?_
            rintro en W9 ⟨rfl, hb9⟩
            have hmr9 := hmr.below hb9
            have hnr9 := hnr.below hb9
            have hrx9 := hrx.below hb9
            have hry9 := hry.below hb9
            have hB9 := below_then hB3 hb9 (Nat.le_refl _)
            clear hmr hnr hrx hry hb9 hB3
            go_wp2_with fail
            refine (ints_any jl jl _ _ Am Ax nj cm nj cx W9 hmr9 hrx9 HNJ HNJ (by omega)).mono ?_
            rintro en w' ⟨rfl, j9, rfl⟩
            rw [show decide (jl = jl) = true from decide_eq_true rfl]
            have hnr10 := hnr9.drewN j9
            have hry10 := hry9.drewN j9
            have hB10 := below_drewN hB9 j9
            clear hmr9 hnr9 hrx9 hry9 hB9
            revert hnr10 hry10 hB10
            generalize W9.drewN j9 = W10
            intro hnr10 hry10 hB10
            go_wp2_with fail
            refine (ints_any cl cl _ _ An Ay nc cn nc cy2 W10 hnr10 hry10 HNC HNC (by omega)).mono ?_
            rintro en w' ⟨rfl, j10, rfl⟩
            rw [show decide (cl = cl) = true from decide_eq_true rfl]
            have hB11 := below_drewN hB10 j10
            go_wp2_with fail
            go_ret
            exact law_ret rfl hB11
end Go.Proofs.Ytckfopdkknckcaa
