/- VersionvectorEncodes: the walk. -/
import Derived.Test.YtckfopdkknckcaaVecU
import Derived.Test.YtckfopdkknckcaaVecV
set_option linter.unusedVariables false
set_option linter.unusedSimpArgs false
namespace Go.Proofs.Ytckfopdkknckcaa
open Go.RowKit
attribute [local irreducible] wpList

theorem num_len9 {n : Nat} (h : n ≤ 1099511627776) : (num n).length ≤ 10 := num_len (n := n) (by omega)
theorem encI_len {ns : List Int} (h : ∀ x ∈ ns, 0 ≤ x ∧ x ≤ 1099511627776) (hl : ns.length ≤ 12) : (encI ns).length ≤ 1000 := by
  have h1 := flat_len ns h
  have h2 := num_len9 (n := ns.length) (by omega)
  unfold encI
  rw [List.length_append]
  omega
theorem norm_norm (xs : List Int) : normL (normL xs) = normL xs := norm_congr (normL_get xs)
theorem okV_norm {xs : List Int} (h : okV xs = true) : okV (normL xs) = true := by
  unfold okV at h ⊢
  have h1 := Bool.and_eq_true_iff.1 h
  have h2 := of_decide_eq_true h1.1
  rw [Bool.and_eq_true_iff]
  exact ⟨decide_eq_true (Nat.le_trans (normL_len xs) h2), List.all_eq_true.2 (fun x hx => List.all_eq_true.1 h1.2 x (List.mem_of_mem_take hx))⟩

set_option maxRecDepth 100000 in
set_option maxHeartbeats 3200000 in
theorem encodes_walk (xs : List Int) (S1 : Nat → Prop) (A1 : Option Addr) (n c1 : Nat) (w : World) (hr1 : Rc S1 w A1 (ivs xs)) (hm1 : Hid (xs.length = n)) (hml1 : Hid (n ≤ 9223372036854775807)) (hnc : n ≤ c1) :
    Calls Try.prog 9 #[.slice A1 n c1] w (LawP w) := by
  go_enter Try.func9, Try.ntmps9
  go_wp2_with fail
  refine (few_any A1 n c1 w).mono ?_
  rintro en w' ⟨rfl, rfl⟩
  by_cases h20 : n ≤ 20
  case neg =>
    rw [decide_eq_false h20]
    clear h20
    go_wp2_with fail
    refine (awake_any _).mono ?_
    rintro en w5 ⟨rfl, hb⟩
    go_wp2_with fail
    go_ret
    exact law_ret rfl hb
  rw [decide_eq_true h20]
  go_wp2_with fail
  refine (encode_any xs S1 A1 n c1 _ hr1 hm1 hml1).mono ?_
  rintro en W1 ⟨Ab, cb, rfl, hob, hb1⟩
  have hr2 := hr1.below hb1
  have hrb := Rc.of_own hob
  clear hr1 hob
  obtain ⟨r, hr⟩ : ∃ r, r = encR xs := ⟨_, rfl⟩
  rw [← hr] at hrb ⊢
  have HR := Lib.hid hr
  clear hr
  go_wp2_with fail
  refine (rvalid_any xs S1 A1 n c1 W1 hr2 hm1 (by omega)).mono ?_
  rintro en w' ⟨rfl, rfl⟩
  cases hox : okV xs with
  | false =>
    have hr : r = ([], 1) := by rw [HR.out, encR, hox]; rfl
    subst hr
    clear hox HR
    go_wp2_with fail
    refine (awake_any _).mono ?_
    rintro en w4 ⟨rfl, hb4⟩
    go_wp2_with fail
    go_ret
    exact law_ret rfl (below_then hb1 hb4 (Nat.le_refl _))
  | true =>
    have HOX := Lib.hid hox
    obtain ⟨nl, hnl⟩ : ∃ nl, nl = normL xs := ⟨_, rfl⟩
    obtain ⟨eb, heb⟩ : ∃ eb, eb = encI (normL xs) := ⟨_, rfl⟩
    have hr : r = (eb, 0) := by rw [HR.out, encR, hox, heb, norm_pad HOX.out]; rfl
    subst hr
    have hnlb : ∀ x ∈ nl, 0 ≤ x ∧ x ≤ 1099511627776 := by
      intro x hx
      rw [hnl] at hx
      have h1 : xs.all okN = true := by have := HOX.out; unfold okV at this; exact (Bool.and_eq_true_iff.1 this).2
      exact of_decide_eq_true (List.all_eq_true.1 h1 x (List.mem_of_mem_take hx))
    have hn12 : n ≤ 12 := by have h1 := HOX.out; have h2 := hm1.out; unfold okV at h1; simp at h1; omega
    have hnl12 : nl.length ≤ 12 := by rw [hnl]; exact Nat.le_trans (normL_len _) (by rw [hm1.out]; exact hn12)
    have hel : eb.length ≤ 1000 := by rw [heb, ← hnl]; exact encI_len hnlb hnl12
    have hdec : ∀ r, DecR eb r → r = (nl, 0) := fun r h => h.2.2 nl (by rw [hnl]; exact okV_norm HOX.out) (by rw [hnl]; exact norm_norm xs) (by rw [heb, hnl])
    have HDEC := Lib.hid hdec
    have HEB := Lib.hid heb
    have HNV := Lib.hid hnl
    have HRB := Lib.hid hrb
    have HR1 := Lib.hid hr2
    obtain ⟨nb, hnb⟩ : ∃ nb, nb = eb.length := ⟨_, rfl⟩
    obtain ⟨nv, hnv⟩ : ∃ nv, nv = nl.length := ⟨_, rfl⟩
    have HNB : Hid (eb.length = nb) := hnb.symm
    have HNL : Hid (nl.length = nv) := hnv.symm
    dsimp only
    rw [← hnb] at hel ⊢
    rw [← hnv] at hnl12
    clear hr2 hrb hox heb hnl hnlb hdec hnb hnv HR
    go_wp2_with fail
    refine (decode_any eb _ Ab nb cb _ HRB.out HNB hel).mono ?_
    rintro en W2 ⟨r, hdr, Aw, cw, rfl, how, hb2⟩
    have hr := HDEC.out r hdr
    subst hr
    dsimp only at how ⊢
    rw [HNL.out]
    have HRW := Lib.hid (Rc.of_own how)
    have hB2 := below_then hb1 hb2 (Nat.le_refl _)
    have HRB2 := Lib.hid (HRB.out.below hb2)
    have HR12 := Lib.hid (HR1.out.below hb2)
    clear HRB HR1 hb1 hb2 how hdr
    have HRB := HRB2
    have HR1 := HR12
    clear HRB2 HR12
    go_wp2_with fail
    refine wp_region_held_drew (S := fun w' => Below W2.heap.size W2 w') (by kernel_rfl) (below_drewN (Below.refl _ W2) 1) (fun hHeld => ?_)
    refine wpAnyH_ready (rs := [0]) (by kernel_rfl) (by simp) (AllReadyH.cons (o := ⟨some 34, _, _, _, _, _⟩) rfl (fun K hK => ?_) AllReadyH.nil)
    go_simp
    refine (awake_any _).mono ?_
    rintro en wA ⟨rfl, hbA⟩
    go_wp2_with fail
    refine hK.out _ _ (below_then hHeld hbA (Nat.le_refl _)) (fun hHeld1 => ?_)
    clear hK K
    try simp only [Act.put, List.setIfInBounds_toArray, List.set_cons_zero, List.set_cons_succ]
    refine wpAnyH_take (i := 1) (oi := ⟨some 35, _, _, _, _, _⟩) (v := Value.bool true) rfl (by kernel_rfl) (by kernel_rfl) (by kernel_rfl) (fun _ _ _ h => h) (Or.inl ⟨by rfl, by intro w hSw; go_simp⟩) hHeld1 ?_
    try simp only [Act.put, List.setIfInBounds_toArray, List.set_cons_zero, List.set_cons_succ]
    refine wpAnyH_take (i := 2) (oi := ⟨some 36, _, _, _, _, _⟩) (v := .int .i64 0) rfl (by kernel_rfl) (by kernel_rfl) (by kernel_rfl) (fun _ _ _ h => h) (Or.inl ⟨by rfl, by intro w hSw; go_simp⟩) hHeld1 ?_
    try simp only [Act.put, List.setIfInBounds_toArray, List.set_cons_zero, List.set_cons_succ]
    refine wpAnyH_take (i := 3) (oi := ⟨some 37, _, _, _, _, _⟩) (v := Value.bool true) rfl (by kernel_rfl) (by kernel_rfl) (by kernel_rfl) (fun _ _ _ h => h) (Or.inl ⟨by rfl, by intro w hSw; go_simp⟩) hHeld1 ?_
    try simp only [Act.put, List.setIfInBounds_toArray, List.set_cons_zero, List.set_cons_succ]
    refine wpAnyH_take (i := 4) (oi := ⟨some 38, _, _, _, _, _⟩) (v := Value.bool true) rfl (by kernel_rfl) (by kernel_rfl) (by kernel_rfl) (fun _ _ _ h => h) (Or.inl ⟨by rfl, by intro w hSw; go_simp⟩) hHeld1 ?_
    try simp only [Act.put, List.setIfInBounds_toArray, List.set_cons_zero, List.set_cons_succ]
    refine wpAnyH_take (i := 5) (oi := ⟨some 39, _, _, _, _, _⟩) (v := Value.bool true) rfl (by kernel_rfl) (by kernel_rfl) (by kernel_rfl) (fun _ _ _ h => h) (Or.inl ⟨by rfl, by intro w hSw; go_simp⟩) hHeld1 ?_
    try simp only [Act.put, List.setIfInBounds_toArray, List.set_cons_zero, List.set_cons_succ]
    refine wpAnyH_take (i := 6) (oi := ⟨some 40, _, _, _, _, _⟩) (v := .slice Ab nb cb) rfl (by kernel_rfl) (by kernel_rfl) (by kernel_rfl) (fun _ _ _ h => h) (Or.inl ⟨by rfl, by intro w hSw; go_simp⟩) hHeld1 ?_
    try simp only [Act.put, List.setIfInBounds_toArray, List.set_cons_zero, List.set_cons_succ]
    refine wpAnyH_take (i := 8) (oi := ⟨some 42, _, _, _, _, _⟩) (v := .slice A1 n c1) rfl (by kernel_rfl) (by kernel_rfl) (by kernel_rfl) (fun _ _ _ h => h) (Or.inl ⟨by rfl, by intro w hSw; go_simp⟩) hHeld1 ?_
    try simp only [Act.put, List.setIfInBounds_toArray, List.set_cons_zero, List.set_cons_succ]
    refine wpAnyH_take (i := 7) (oi := ⟨some 41, _, _, _, _, _⟩) (v := .string (mkS eb)) rfl (by kernel_rfl) (by kernel_rfl) (by kernel_rfl) (fun _ _ _ h => h) (Or.inl ⟨by rfl, by intro w hSw; have hsx := run_string_rc (P := Try.prog) 48 9 5 Try.underlying48 Try.underlying5 Try.underlying9 nb cb HNB.out (HRB.out.below hSw); go_simp⟩) hHeld1 ?_
    try simp only [Act.put, List.setIfInBounds_toArray, List.set_cons_zero, List.set_cons_succ]
    refine wpAnyH_ready (rs := [9]) (by kernel_rfl) (by simp) (AllReadyH.cons (o := ⟨some 43, _, _, _, _, _⟩) rfl (fun K hK => ?_) AllReadyH.nil)
    go_simp
    refine (rencode_any xs S1 A1 n c1 _ (HR1.out.below hHeld1) hm1 hnc HOX).mono ?_
    rw [← HEB.out]
    rintro en wE ⟨Ae, ce, rfl, hoe, hbE⟩
    rw [HNB.out]
    go_wp2_with fail
    refine hK.out _ _ (below_then hHeld1 hbE (Nat.le_refl _)) (fun hHeld2 => ?_)
    clear hK K
    try simp only [Act.put, List.setIfInBounds_toArray, List.set_cons_zero, List.set_cons_succ]
    have hsx := run_string_rc (P := Try.prog) 48 9 5 Try.underlying48 Try.underlying5 Try.underlying9 nb ce HNB.out (Rc.of_own hoe)
    refine wpAnyH_ready (rs := [10]) (by kernel_rfl) (by simp) (AllReadyH.cons (o := ⟨some 44, _, _, _, _, _⟩) rfl (fun K hK => ?_) AllReadyH.nil)
    go_simp
    refine hK.out _ _ hHeld2 (fun hHeld3 => ?_)
    clear hK K
    try simp only [Act.put, List.setIfInBounds_toArray, List.set_cons_zero, List.set_cons_succ]
    clear hsx hoe
    refine wpAnyH_take (i := 11) (oi := ⟨some 45, _, _, _, _, _⟩) (v := Value.bool true) rfl (by kernel_rfl) (by kernel_rfl) (by kernel_rfl) (fun _ _ _ h => h) (Or.inl ⟨by rfl, by intro w hSw; go_simp⟩) hHeld3 ?_
    try simp only [Act.put, List.setIfInBounds_toArray, List.set_cons_zero, List.set_cons_succ]
    refine wpAnyH_take (i := 12) (oi := ⟨some 46, _, _, _, _, _⟩) (v := Value.bool true) rfl (by kernel_rfl) (by kernel_rfl) (by kernel_rfl) (fun _ _ _ h => h) (Or.inl ⟨by rfl, by intro w hSw; go_simp⟩) hHeld3 ?_
    try simp only [Act.put, List.setIfInBounds_toArray, List.set_cons_zero, List.set_cons_succ]
    refine wpAnyH_take (i := 13) (oi := ⟨some 47, _, _, _, _, _⟩) (v := Value.bool true) rfl (by kernel_rfl) (by kernel_rfl) (by kernel_rfl) (fun _ _ _ h => h) (Or.inl ⟨by rfl, by intro w hSw; go_simp⟩) hHeld3 ?_
    try simp only [Act.put, List.setIfInBounds_toArray, List.set_cons_zero, List.set_cons_succ]
    refine wpAnyH_take (i := 14) (oi := ⟨some 48, _, _, _, _, _⟩) (v := .int .i64 0) rfl (by kernel_rfl) (by kernel_rfl) (by kernel_rfl) (fun _ _ _ h => h) (Or.inl ⟨by rfl, by intro w hSw; go_simp⟩) hHeld3 ?_
    try simp only [Act.put, List.setIfInBounds_toArray, List.set_cons_zero, List.set_cons_succ]
    refine wpAnyH_take (i := 15) (oi := ⟨some 49, _, _, _, _, _⟩) (v := Value.bool true) rfl (by kernel_rfl) (by kernel_rfl) (by kernel_rfl) (fun _ _ _ h => h) (Or.inl ⟨by rfl, by intro w hSw; go_simp⟩) hHeld3 ?_
    try simp only [Act.put, List.setIfInBounds_toArray, List.set_cons_zero, List.set_cons_succ]
    refine wpAnyH_take (i := 16) (oi := ⟨some 50, _, _, _, _, _⟩) (v := Value.bool true) rfl (by kernel_rfl) (by kernel_rfl) (by kernel_rfl) (fun _ _ _ h => h) (Or.inl ⟨by rfl, by intro w hSw; go_simp⟩) hHeld3 ?_
    try simp only [Act.put, List.setIfInBounds_toArray, List.set_cons_zero, List.set_cons_succ]
    refine wpAnyH_take (i := 17) (oi := ⟨some 51, _, _, _, _, _⟩) (v := Value.bool true) rfl (by kernel_rfl) (by kernel_rfl) (by kernel_rfl) (fun _ _ _ h => h) (Or.inl ⟨by rfl, by intro w hSw; go_simp⟩) hHeld3 ?_
    try simp only [Act.put, List.setIfInBounds_toArray, List.set_cons_zero, List.set_cons_succ]
    refine wpAnyH_take (i := 18) (oi := ⟨some 52, _, _, _, _, _⟩) (v := .slice Aw nv cw) rfl (by kernel_rfl) (by kernel_rfl) (by kernel_rfl) (fun _ _ _ h => h) (Or.inl ⟨by rfl, by intro w hSw; go_simp⟩) hHeld3 ?_
    try simp only [Act.put, List.setIfInBounds_toArray, List.set_cons_zero, List.set_cons_succ]
    refine wpAnyH_take (i := 19) (oi := ⟨some 53, _, _, _, _, _⟩) (v := .slice A1 n c1) rfl (by kernel_rfl) (by kernel_rfl) (by kernel_rfl) (fun _ _ _ h => h) (Or.inl ⟨by rfl, by intro w hSw; go_simp⟩) hHeld3 ?_
    try simp only [Act.put, List.setIfInBounds_toArray, List.set_cons_zero, List.set_cons_succ]
    refine wpAnyH_ready (rs := [20]) (by kernel_rfl) (by simp) (AllReadyH.cons (o := ⟨some 54, _, _, _, _, _⟩) rfl (fun K hK => ?_) AllReadyH.nil)
    go_simp
    refine (rnormal_any xs S1 A1 n c1 _ (HR1.out.below hHeld3) hm1 (by omega) hnc).mono ?_
    rw [← HNV.out]
    rintro en wN ⟨An, cn, rfl, hon, hbN⟩
    rw [HNL.out]
    go_wp2_with fail
    refine hK.out _ _ (below_then hHeld3 hbN (Nat.le_refl _)) (fun hHeld4 => ?_)
    clear hK K
    try simp only [Act.put, List.setIfInBounds_toArray, List.set_cons_zero, List.set_cons_succ]
    refine wpAnyH_ready (rs := [21]) (by kernel_rfl) (by simp) (AllReadyH.cons (o := ⟨some 55, _, _, _, _, _⟩) rfl (fun K hK => ?_) AllReadyH.nil)
    go_simp
    refine (ints_any nl nl _ _ Aw An nv cw nv cn _ (HRW.out.below hHeld4) (Rc.of_own hon) HNL HNL (by omega)).mono ?_
    rintro en w' ⟨rfl, jI, rfl⟩
    rw [show decide (nl = nl) = true from decide_eq_true rfl]
    go_wp2_with fail
    refine hK.out _ _ (below_drewN hHeld4 jI) (fun hHeld5 => ?_)
    clear hK K
    try simp only [Act.put, List.setIfInBounds_toArray, List.set_cons_zero, List.set_cons_succ]
    refine wpAnyH_take (i := 22) (oi := ⟨some 56, _, _, _, _, _⟩) (v := Value.bool true) rfl (by kernel_rfl) (by kernel_rfl) (by kernel_rfl) (fun _ _ _ h => h) (Or.inl ⟨by rfl, by intro w hSw; go_simp⟩) hHeld5 ?_
    try simp only [Act.put, List.setIfInBounds_toArray, List.set_cons_zero, List.set_cons_succ]
    refine wpAnyH_take (i := 23) (oi := ⟨some 2, _, _, _, _, _⟩) (v := Value.bool true) rfl (by kernel_rfl) (by kernel_rfl) (by kernel_rfl) (fun _ _ _ h => h) (Or.inl ⟨by rfl, by intro w hSw; go_simp⟩) hHeld5 ?_
    try simp only [Act.put, List.setIfInBounds_toArray, List.set_cons_zero, List.set_cons_succ]
    refine wpAnyH_done (by kernel_rfl) ?_ _
    go_wp2_with fail
    go_ret
    exact law_ret rfl (below_then hB2 hHeld5 (Nat.le_refl _))
end Go.Proofs.Ytckfopdkknckcaa
