/- The walk of VersionvectorCatchesUp. -/
import Derived.Test.YtckfopdkknckcaaVecP
set_option linter.unusedVariables false
set_option linter.unusedSimpArgs false
namespace Go.Proofs.Ytckfopdkknckcaa
open Go.RowKit
attribute [local irreducible] wpList

theorem missS_mem {xs ys : List Int} {k : Nat} {r : Int × Int × Int} (h : r ∈ missS xs ys k) : ∃ i, i < k ∧ xs.getD i 0 < ys.getD i 0 ∧ r = ((i : Int), xs.getD i 0 + 1, ys.getD i 0) := by
  unfold missS at h
  obtain ⟨i, hi, h⟩ := List.mem_flatMap.1 h
  split at h
  · rename_i hlt
    rw [List.mem_singleton] at h
    exact ⟨i, by simpa using hi, hlt, h⟩
  · cases h
theorem missS_ranges {va vb : List Int} (ha : V12 va) (hb : V12 vb) : ∀ r ∈ missS va vb 12, RangeOk r := by
  intro r hr
  obtain ⟨i, hi, hlt, rfl⟩ := missS_mem hr
  have h1 := of_decide_eq_true (ha.ok i)
  have h2 := of_decide_eq_true (hb.ok i)
  exact ⟨by dsimp only; omega, by dsimp only; omega, by dsimp only; omega, by dsimp only; omega, by dsimp only; omega⟩
theorem extS_ge (v : List Int) (rs : List (Int × Int × Int)) (i : Nat) : v.getD i 0 ≤ (extS v rs).getD i 0 := by
  unfold extS
  induction rs generalizing v with
  | nil => exact Int.le_refl _
  | cons r t ih =>
    rw [List.foldl_cons]
    refine Int.le_trans ?_ (ih _)
    rw [set_getD]
    split
    · rename_i h; rw [h.1]; omega
    · exact Int.le_refl _
theorem missS_steps {va vb : List Int} : ∀ k (h : k < (missS va vb 12).length), (missS va vb 12)[k].2.1 ≤ (extS va ((missS va vb 12).take k)).getD (missS va vb 12)[k].1.toNat 0 + 1 := by
  intro k h
  obtain ⟨i, hi, hlt, he⟩ := missS_mem (List.getElem_mem h)
  rw [he]
  have := extS_ge va ((missS va vb 12).take k) i
  dsimp only
  rw [Int.toNat_natCast]
  omega
theorem extS_miss {va vb : List Int} (ha : va.length = 12) : ∀ k, k ≤ 12 → ∀ i, i < 12 → (extS va (missS va vb k)).getD i 0 = if i < k then max (va.getD i 0) (vb.getD i 0) else va.getD i 0
  | 0, _, i, _ => by simp [missS, extS]
  | k + 1, hk, i, hi => by
    have ih := extS_miss ha (vb := vb) k (by omega)
    rw [missS_succ]
    by_cases hlt : va.getD k 0 < vb.getD k 0
    · rw [if_pos hlt]
      have h1 : extS va (missS va vb k ++ [((k : Int), va.getD k 0 + 1, vb.getD k 0)]) = (extS va (missS va vb k)).set k (max ((extS va (missS va vb k)).getD k 0) (vb.getD k 0)) := by
        unfold extS; rw [List.foldl_append]; simp only [List.foldl_cons, List.foldl_nil, Int.toNat_natCast]
      have hk0 : (extS va (missS va vb k)).getD k 0 = va.getD k 0 := by rw [ih k (by omega), if_neg (show ¬ k < k by omega)]
      rw [h1, set_getD, extS_len, ha, hk0]
      by_cases hki : k = i
      · subst hki
        rw [if_pos ⟨rfl, by omega⟩, if_pos (show k < k + 1 by omega)]
      · rw [if_neg (fun h => hki h.1), ih i hi]
        by_cases h5 : i < k
        · rw [if_pos h5, if_pos (by omega)]
        · rw [if_neg h5, if_neg (by omega)]
    · rw [if_neg hlt, List.append_nil, ih i hi]
      by_cases h5 : i < k
      · rw [if_pos h5, if_pos (by omega)]
      · by_cases h6 : i = k
        · subst h6; rw [if_neg h5, if_pos (by omega)]; omega
        · rw [if_neg h5, if_neg (by omega)]
theorem extS_join {va vb : List Int} (ha : va.length = 12) : extS va (missS va vb 12) = joinL max va vb :=
  ext12 (by rw [extS_len, ha]) joinL_len (fun i hi => by rw [extS_miss ha 12 (Nat.le_refl _) i hi, if_pos hi, joinL_get hi])
theorem missS_nil {va vb : List Int} (h : ∀ i, i < 12 → ¬ va.getD i 0 < vb.getD i 0) : ∀ k, k ≤ 12 → missS va vb k = []
  | 0, _ => rfl
  | k + 1, hk => by rw [missS_succ, missS_nil h k (by omega), if_neg (h k (by omega))]; rfl
theorem cov_join {va vb : List Int} : covL (joinL max va vb) va = true := by
  unfold covL; rw [List.all_eq_true]
  intro i hi
  have hi : i < 12 := by simpa using hi
  rw [joinL_get hi]; exact decide_eq_true (by omega)
theorem cov_miss {va vb : List Int} : covL va (joinL max va vb) = decide ((missS va vb 12).length = 0) := by
  rw [Bool.eq_iff_iff, decide_eq_true_iff]
  unfold covL
  rw [List.all_eq_true]
  constructor
  · intro h
    rw [missS_nil (fun i hi => by have h2 := of_decide_eq_true (h i (by simpa using hi)); rw [joinL_get hi] at h2; omega) 12 (Nat.le_refl _)]; rfl
  · intro h i hi
    have hi : i < 12 := by simpa using hi
    rw [joinL_get hi]
    refine decide_eq_true ?_
    by_cases hlt : va.getD i 0 < vb.getD i 0
    · exfalso
      have := missS_at (xs := va) (ys := vb) hi hlt
      rw [List.eq_nil_of_length_eq_zero h] at this
      cases this
    · omega

set_option maxRecDepth 100000 in
set_option maxHeartbeats 3200000 in
theorem catches_walk (xs : List Int) (S1 : Nat → Prop) (A1 : Option Addr) (m1 c1 : Nat) (ys : List Int) (S2 : Nat → Prop) (A2 : Option Addr) (m2 c2 : Nat) (w : World) (hr1 : Rc S1 w A1 (ivs xs)) (hm1 : Hid (xs.length = m1)) (hml1 : Hid (m1 ≤ 9223372036854775807))
    (hr2 : Rc S2 w A2 (ivs ys)) (hm2 : Hid (ys.length = m2)) (hml2 : Hid (m2 ≤ 9223372036854775807)) :
    Calls Try.prog 7 #[.slice A1 m1 c1, .slice A2 m2 c2] w (LawP w) := by
  go_enter Try.func7, Try.ntmps7
  go_wp2_with fail
  refine (few_any A1 m1 c1 _).mono ?_
  rintro en w' ⟨rfl, rfl⟩
  by_cases h1 : m1 ≤ 20
  case neg =>
    rw [decide_eq_false h1]
    clear h1
    go_wp2_with fail
    refine (awake_any _).mono ?_
    rintro en w' ⟨rfl, hb⟩
    go_wp2_with fail
    go_ret
    exact law_ret rfl hb
  rw [decide_eq_true h1]
  go_wp2_with fail
  refine (few_any A2 m2 c2 _).mono ?_
  rintro en w' ⟨rfl, rfl⟩
  by_cases h2 : m2 ≤ 20
  case neg =>
    rw [decide_eq_false h2]
    clear h2
    go_wp2_with fail
    refine (awake_any _).mono ?_
    rintro en w' ⟨rfl, hb⟩
    go_wp2_with fail
    go_ret
    exact law_ret rfl hb
  rw [decide_eq_true h2]
  go_wp2_with fail
  refine (rvalid_any xs S1 A1 m1 c1 _ hr1 hm1 (by omega)).mono ?_
  rintro en w' ⟨rfl, rfl⟩
  by_cases ho1 : okV xs = true
  case neg =>
    rw [show okV xs = false by simpa using ho1]
    clear ho1
    go_wp2_with fail
    refine (awake_any _).mono ?_
    rintro en w' ⟨rfl, hb⟩
    go_wp2_with fail
    go_ret
    exact law_ret rfl hb
  rw [ho1]
  have HO1 := Lib.hid ho1
  clear ho1
  go_wp2_with fail
  refine (rvalid_any ys S2 A2 m2 c2 _ hr2 hm2 (by omega)).mono ?_
  rintro en w' ⟨rfl, rfl⟩
  by_cases ho2 : okV ys = true
  case neg =>
    rw [show okV ys = false by simpa using ho2]
    clear ho2
    go_wp2_with fail
    refine (awake_any _).mono ?_
    rintro en w' ⟨rfl, hb⟩
    go_wp2_with fail
    go_ret
    exact law_ret rfl hb
  rw [ho2]
  have HO2 := Lib.hid ho2
  clear ho2
  rename World => W0
  obtain ⟨va, hva⟩ : ∃ v, v = padV xs := ⟨_, rfl⟩
  have Va : Hid (V12 va) := by rw [hva]; exact V12.pad xs
  have Pa : Hid (padV xs = va) := hva.symm
  obtain ⟨vb, hvb⟩ : ∃ v, v = padV ys := ⟨_, rfl⟩
  have Vb : Hid (V12 vb) := by rw [hvb]; exact V12.pad ys
  have Pb : Hid (padV ys = vb) := hvb.symm
  clear hva hvb
  go_wp2_with fail
  refine (missing_any xs ys S1 A1 m1 c1 S2 A2 m2 c2 W0 hr1 hm1 hml1 hr2 hm2 hml2).mono ?_
  have hmr : missR xs ys = (missS va vb 12, 0) := by rw [missR, HO1.out, HO2.out, Pa.out, Pb.out]; rfl
  rw [hmr]
  clear hmr
  rintro en W1 ⟨Al, cl, rfl, hol, hb1⟩
  obtain ⟨rs, hrs⟩ : ∃ rs, rs = missS va vb 12 := ⟨_, rfl⟩
  have HRS := Lib.hid hrs
  have hn12 : rs.length ≤ 12 := by rw [hrs]; exact missS_len va vb 12
  rw [← hrs] at hol ⊢
  obtain ⟨n, hn⟩ : ∃ n, n = rs.length := ⟨_, rfl⟩
  have HN : Hid (rs.length = n) := hn.symm
  dsimp only at hol ⊢
  rw [← hn] at hol hn12 ⊢
  have hx1 := hr1.below hb1
  have hy1 := hr2.below hb1
  have hrl := (Rc.of_own hol).mono (S' := fun _ => True) (fun _ _ _ => trivial)
  have HB1 := Lib.hid hb1
  clear hr1 hr2 hol hn hrs hb1
  go_wp2_with fail
  obtain ⟨vj, hvj⟩ : ∃ v, v = joinL max va vb := ⟨_, rfl⟩
  have HVJ := Lib.hid hvj
  have Vj : Hid (V12 vj) := by rw [hvj]; exact V12.join max_or Va.out Vb.out
  have hext : extS (padV xs) rs = vj := by rw [Pa.out, HRS.out, hvj]; exact extS_join Va.out.len
  refine (extend_any xs S1 A1 m1 c1 rs (fun _ => True) Al n cl W1 hx1 hm1 hml1 hrl HN (by omega) HO1.out (by rw [HRS.out]; exact missS_ranges Va.out Vb.out) (by rw [HRS.out, Pa.out]; exact missS_steps)).mono ?_
  rw [hext]
  clear hext hvj
  rintro en W2 ⟨Ax, cx, rfl, hox, hb2⟩
  obtain ⟨rx, hrx⟩ : ∃ rx, rx = normL vj := ⟨_, rfl⟩
  have HRX := Lib.hid hrx
  have KX : Hid (okV rx = true) := by rw [hrx]; exact norm_ok Vj.out
  have PX : Hid (padV rx = vj) := by rw [hrx]; exact pad_norm Vj.out
  have hx12 : rx.length ≤ 12 := by rw [hrx]; exact Nat.le_trans (normL_len _) (by rw [Vj.out.len]; exact Nat.le_refl _)
  rw [← hrx] at hox ⊢
  obtain ⟨nx, hnx⟩ : ∃ nx, nx = rx.length := ⟨_, rfl⟩
  have HNX : Hid (rx.length = nx) := hnx.symm
  dsimp only at hox ⊢
  rw [← hnx] at hox hx12 ⊢
  have HR2 : Hid (Rows_ W2 [(Ax, rx), (A1, xs), (A2, ys)]) := by
    intro p hp
    simp at hp
    rcases hp with rfl | rfl | rfl
    · exact (Rc.of_own hox).mono (fun _ _ _ => trivial)
    · exact (hx1.below hb2).mono (fun _ _ _ => trivial)
    · exact (hy1.below hb2).mono (fun _ _ _ => trivial)
  have HB2 := Lib.hid (below_then HB1.out hb2 (Nat.le_refl _))
  clear hrx hnx hox hb2 hx1 hy1 hrl HB1
  go_wp2_with fail
  refine (merge2_any (r := rx) HR2 (xs := xs) (ys := ys) (by simp) (by simp) hm1 hm2 HO1.out HO2.out (by rw [HRX.out, HVJ.out, Pa.out, Pb.out])).mono ?_
  rintro en W3 ⟨Am, cm, nm, rfl, hmm, hm12, HR3, hb⟩
  have HB3 := Lib.hid (below_then HB2.out hb (Nat.le_refl _))
  clear HR2 HB2 hb
  go_wp2_with fail
  refine (missing_any rx ys (fun _ => True) Ax nx cx (fun _ => True) A2 m2 c2 W3 (HR3.out (Ax, rx) (by simp)) HNX (by show _ ≤ _; omega) (HR3.out (A2, ys) (by simp)) hm2 hml2).mono ?_
  have hmr : missR rx ys = ([], 0) := by
    rw [missR, KX.out, HO2.out, PX.out, Pb.out, missS_nil (fun i hi => by rw [HVJ.out, joinL_get hi]; omega) 12 (Nat.le_refl _)]; rfl
  rw [hmr]
  clear hmr
  rintro en W4 ⟨An, cn, rfl, hon, hb⟩
  have HR4 := Lib.hid (HR3.out.below hb)
  have HB4 := Lib.hid (below_then HB3.out hb (Nat.le_refl _))
  clear HR3 HB3 hb hon
  dsimp only
  go_wp2_with fail
  refine (compare_any rx xs (fun _ => True) Ax nx cx (fun _ => True) A1 m1 c1 W4 (HR4.out (Ax, rx) (by simp)) HNX (by show _ ≤ _; omega) (HR4.out (A1, xs) (by simp)) hm1 hml1).mono ?_
  have hcr : cmpR rx xs = (if n = 0 then 0 else 2, 0) := by
    rw [cmpR, KX.out, HO1.out]
    show (cmpN rx xs, (0 : Int)) = _
    rw [cmpN, PX.out, Pa.out, HVJ.out, cov_join, cov_miss, ← HRS.out, HN.out]
    by_cases h : n = 0 <;> simp [h]
  rw [hcr]
  clear hcr
  rintro en W5 ⟨rfl, hb⟩
  have HR5 := Lib.hid (HR4.out.below hb)
  have HB5 := Lib.hid (below_then HB4.out hb (Nat.le_refl _))
  clear HR4 HB4 hb
  dsimp only
  by_cases hn0 : n = 0
  all_goals
    first | rw [if_pos hn0] | rw [if_neg hn0]
    have hne : ((n : Int) == 0) = decide (n = 0) := by rw [Bool.eq_iff_iff]; simp
    have hne2 : ((n : Int) == 0) = decide (n = 0) := hne
    first | rw [decide_eq_true hn0] at hne | rw [decide_eq_false hn0] at hne
    clear hn0 hne2
    go_wp2_with fail
    refine (awake_any _).mono ?_
    rintro en W6 ⟨rfl, hb⟩
    have HR6 := Lib.hid (HR5.out.below hb)
    have HB6 := Lib.hid (below_then HB5.out hb (Nat.le_refl _))
    clear HR5 HB5 hb
    go_wp2_with fail
    refine (ints_any rx rx (fun _ => True) (fun _ => True) Ax Am nx cx nm cm W6 (HR6.out (Ax, rx) (by simp)) (HR6.out (Am, rx) (by simp)) HNX hmm (by omega)).mono ?_
    rintro en w' ⟨rfl, j7, rfl⟩
    rw [show decide (rx = rx) = true from decide_eq_true rfl]
    have hB8 := below_drewN HB6.out j7
    go_wp2_with fail
    go_ret
    exact law_ret (by simp_all) hB8
end Go.Proofs.Ytckfopdkknckcaa
