/- The walk of VersionvectorLattice. -/
import Derived.Test.YtckfopdkknckcaaVecL
set_option linter.unusedVariables false
set_option linter.unusedSimpArgs false
namespace Go.Proofs.Ytckfopdkknckcaa
open Go.RowKit
attribute [local irreducible] wpList

theorem join_comm {op : Int → Int → Int} (h : ∀ a b, op a b = op b a) (u v : List Int) : joinL op u v = joinL op v u := by
  unfold joinL; apply List.map_congr_left; intro i _; exact h _ _
theorem join_assoc {op : Int → Int → Int} (h : ∀ a b c, op (op a b) c = op a (op b c)) (u v w : List Int) : joinL op (joinL op u v) w = joinL op u (joinL op v w) :=
  ext12 joinL_len joinL_len (fun i hi => by rw [joinL_get hi, joinL_get hi, joinL_get hi, joinL_get hi, h])
theorem join_idem {op : Int → Int → Int} (h : ∀ a, op a a = a) {u : List Int} (hu : u.length = 12) : joinL op u u = u :=
  ext12 joinL_len hu (fun i hi => by rw [joinL_get hi, h])
theorem join_absorb {op oq : Int → Int → Int} (h : ∀ a b, op a (oq a b) = a) {u : List Int} (v : List Int) (hu : u.length = 12) : joinL op u (joinL oq u v) = u :=
  ext12 joinL_len hu (fun i hi => by rw [joinL_get hi, joinL_get hi, h])
theorem Rows_.drewN {W : World} {l : List (Option Addr × List Int)} (h : Rows_ W l) (n : Nat) : Rows_ (W.drewN n) l := fun p hp => (h p hp).drewN n

set_option maxRecDepth 100000 in
set_option maxHeartbeats 6400000 in
theorem lattice_walk (xs : List Int) (S1 : Nat → Prop) (A1 : Option Addr) (m1 c1 : Nat) (ys : List Int) (S2 : Nat → Prop) (A2 : Option Addr) (m2 c2 : Nat) (zs : List Int) (S3 : Nat → Prop) (A3 : Option Addr) (m3 c3 : Nat) (w : World)
    (hr1 : Rc S1 w A1 (ivs xs)) (hm1 : Hid (xs.length = m1)) (hml1 : Hid (m1 ≤ 9223372036854775807)) (hnc1 : m1 ≤ c1)
    (hr2 : Rc S2 w A2 (ivs ys)) (hm2 : Hid (ys.length = m2)) (hml2 : Hid (m2 ≤ 9223372036854775807)) (hnc2 : m2 ≤ c2)
    (hr3 : Rc S3 w A3 (ivs zs)) (hm3 : Hid (zs.length = m3)) (hml3 : Hid (m3 ≤ 9223372036854775807)) (hnc3 : m3 ≤ c3) :
    Calls Try.prog 6 #[.slice A1 m1 c1, .slice A2 m2 c2, .slice A3 m3 c3] w (LawP w) := by
  go_enter Try.func6, Try.ntmps6
  go_wp2_with fail
  refine (few_any A1 m1 c1 _).mono ?_
  rintro en w' ⟨rfl, rfl⟩
  by_cases h1 : m1 ≤ 20
  case neg =>
    rw [decide_eq_false h1]
    clear h1
    go_wp2_with fail
    refine (awake_any _).mono ?_
    rintro en w' ⟨rfl, hb⟩
    go_wp2_with fail
    go_ret
    exact law_ret rfl hb
  rw [decide_eq_true h1]
  go_wp2_with fail
  refine (few_any A2 m2 c2 _).mono ?_
  rintro en w' ⟨rfl, rfl⟩
  by_cases h2 : m2 ≤ 20
  case neg =>
    rw [decide_eq_false h2]
    clear h2
    go_wp2_with fail
    refine (awake_any _).mono ?_
    rintro en w' ⟨rfl, hb⟩
    go_wp2_with fail
    go_ret
    exact law_ret rfl hb
  rw [decide_eq_true h2]
  go_wp2_with fail
  refine (few_any A3 m3 c3 _).mono ?_
  rintro en w' ⟨rfl, rfl⟩
  by_cases h3 : m3 ≤ 20
  case neg =>
    rw [decide_eq_false h3]
    clear h3
    go_wp2_with fail
    refine (awake_any _).mono ?_
    rintro en w' ⟨rfl, hb⟩
    go_wp2_with fail
    go_ret
    exact law_ret rfl hb
  rw [decide_eq_true h3]
  go_wp2_with fail
  refine (rvalid_any xs S1 A1 m1 c1 _ hr1 hm1 (by omega)).mono ?_
  rintro en w' ⟨rfl, rfl⟩
  by_cases ho1 : okV xs = true
  case neg =>
    rw [show okV xs = false by simpa using ho1]
    clear ho1
    go_wp2_with fail
    refine (awake_any _).mono ?_
    rintro en w' ⟨rfl, hb⟩
    go_wp2_with fail
    go_ret
    exact law_ret rfl hb
  rw [ho1]
  have HO1 := Lib.hid ho1
  clear ho1
  go_wp2_with fail
  refine (rvalid_any ys S2 A2 m2 c2 _ hr2 hm2 (by omega)).mono ?_
  rintro en w' ⟨rfl, rfl⟩
  by_cases ho2 : okV ys = true
  case neg =>
    rw [show okV ys = false by simpa using ho2]
    clear ho2
    go_wp2_with fail
    refine (awake_any _).mono ?_
    rintro en w' ⟨rfl, hb⟩
    go_wp2_with fail
    go_ret
    exact law_ret rfl hb
  rw [ho2]
  have HO2 := Lib.hid ho2
  clear ho2
  go_wp2_with fail
  refine (rvalid_any zs S3 A3 m3 c3 _ hr3 hm3 (by omega)).mono ?_
  rintro en w' ⟨rfl, rfl⟩
  by_cases ho3 : okV zs = true
  case neg =>
    rw [show okV zs = false by simpa using ho3]
    clear ho3
    go_wp2_with fail
    refine (awake_any _).mono ?_
    rintro en w' ⟨rfl, hb⟩
    go_wp2_with fail
    go_ret
    exact law_ret rfl hb
  rw [ho3]
  have HO3 := Lib.hid ho3
  clear ho3
  go_wp2_with fail
  rename World => W0
  obtain ⟨va, hva⟩ : ∃ v, v = padV xs := ⟨_, rfl⟩
  have Vva : Hid (V12 va) := by rw [hva]; exact V12.pad xs
  have P1 : Hid (padV xs = va) := hva.symm
  clear hva
  obtain ⟨vb, hvb⟩ : ∃ v, v = padV ys := ⟨_, rfl⟩
  have Vvb : Hid (V12 vb) := by rw [hvb]; exact V12.pad ys
  have P2 : Hid (padV ys = vb) := hvb.symm
  clear hvb
  obtain ⟨vc, hvc⟩ : ∃ v, v = padV zs := ⟨_, rfl⟩
  have Vvc : Hid (V12 vc) := by rw [hvc]; exact V12.pad zs
  have P3 : Hid (padV zs = vc) := hvc.symm
  clear hvc
  have HR0 : Hid (Rows_ W0 [(A1, xs), (A2, ys), (A3, zs)]) := by
    intro p hp
    simp at hp
    rcases hp with rfl | rfl | rfl
    · exact hr1.mono (fun _ _ _ => trivial)
    · exact hr2.mono (fun _ _ _ => trivial)
    · exact hr3.mono (fun _ _ _ => trivial)
  have HB0 : Hid (Below W0.heap.size W0 W0) := Below.refl _ _
  clear hr1 hr2 hr3
  obtain ⟨r_ab, he_ab⟩ : ∃ r, r = normL (joinL max va vb) := ⟨_, rfl⟩
  have V_ab : Hid (V12 (joinL max va vb)) := V12.join max_or Vva.out Vvb.out
  have K_ab : Hid (okV r_ab = true) := by rw [he_ab]; exact norm_ok V_ab.out
  have P_ab : Hid (padV r_ab = (joinL max va vb)) := by rw [he_ab]; exact pad_norm V_ab.out
  have E_ab := Lib.hid he_ab
  clear he_ab
  refine (merge2_any (r := r_ab) HR0 (by simp) (by simp) hm1 hm2 HO1.out HO2.out (by rw [P1.out, P2.out, E_ab.out])).mono ?_
  rintro en W1 ⟨A_ab, c_ab, n_ab, rfl, hm_ab, h12_ab, HR1, hb⟩
  have HB1 := Lib.hid (below_then HB0.out hb (Nat.le_refl _))
  clear HR0 HB0 hb
  go_wp2_with fail
  obtain ⟨r_ba, he_ba⟩ : ∃ r, r = normL (joinL max vb va) := ⟨_, rfl⟩
  have V_ba : Hid (V12 (joinL max vb va)) := V12.join max_or Vvb.out Vva.out
  have K_ba : Hid (okV r_ba = true) := by rw [he_ba]; exact norm_ok V_ba.out
  have P_ba : Hid (padV r_ba = (joinL max vb va)) := by rw [he_ba]; exact pad_norm V_ba.out
  have E_ba := Lib.hid he_ba
  clear he_ba
  refine (merge2_any (r := r_ba) HR1 (by simp) (by simp) hm2 hm1 HO2.out HO1.out (by rw [P2.out, P1.out, E_ba.out])).mono ?_
  rintro en W2 ⟨A_ba, c_ba, n_ba, rfl, hm_ba, h12_ba, HR2, hb⟩
  have HB2 := Lib.hid (below_then HB1.out hb (Nat.le_refl _))
  clear HR1 HB1 hb
  go_wp2_with fail
  obtain ⟨r_bc, he_bc⟩ : ∃ r, r = normL (joinL max vb vc) := ⟨_, rfl⟩
  have V_bc : Hid (V12 (joinL max vb vc)) := V12.join max_or Vvb.out Vvc.out
  have K_bc : Hid (okV r_bc = true) := by rw [he_bc]; exact norm_ok V_bc.out
  have P_bc : Hid (padV r_bc = (joinL max vb vc)) := by rw [he_bc]; exact pad_norm V_bc.out
  have E_bc := Lib.hid he_bc
  clear he_bc
  refine (merge2_any (r := r_bc) HR2 (by simp) (by simp) hm2 hm3 HO2.out HO3.out (by rw [P2.out, P3.out, E_bc.out])).mono ?_
  rintro en W3 ⟨A_bc, c_bc, n_bc, rfl, hm_bc, h12_bc, HR3, hb⟩
  have HB3 := Lib.hid (below_then HB2.out hb (Nat.le_refl _))
  clear HR2 HB2 hb
  go_wp2_with fail
  obtain ⟨r_x, he_x⟩ : ∃ r, r = normL (joinL max (joinL max va vb) vc) := ⟨_, rfl⟩
  have V_x : Hid (V12 (joinL max (joinL max va vb) vc)) := V12.join max_or V_ab.out Vvc.out
  have K_x : Hid (okV r_x = true) := by rw [he_x]; exact norm_ok V_x.out
  have P_x : Hid (padV r_x = (joinL max (joinL max va vb) vc)) := by rw [he_x]; exact pad_norm V_x.out
  have E_x := Lib.hid he_x
  clear he_x
  refine (merge2_any (r := r_x) HR3 (by simp) (by simp) hm_ab hm3 K_ab.out HO3.out (by rw [P_ab.out, P3.out, E_x.out])).mono ?_
  rintro en W4 ⟨A_x, c_x, n_x, rfl, hm_x, h12_x, HR4, hb⟩
  have HB4 := Lib.hid (below_then HB3.out hb (Nat.le_refl _))
  clear HR3 HB3 hb
  go_wp2_with fail
  obtain ⟨r_y, he_y⟩ : ∃ r, r = normL (joinL max va (joinL max vb vc)) := ⟨_, rfl⟩
  have V_y : Hid (V12 (joinL max va (joinL max vb vc))) := V12.join max_or Vva.out V_bc.out
  have K_y : Hid (okV r_y = true) := by rw [he_y]; exact norm_ok V_y.out
  have P_y : Hid (padV r_y = (joinL max va (joinL max vb vc))) := by rw [he_y]; exact pad_norm V_y.out
  have E_y := Lib.hid he_y
  clear he_y
  refine (merge2_any (r := r_y) HR4 (by simp) (by simp) hm1 hm_bc HO1.out K_bc.out (by rw [P1.out, P_bc.out, E_y.out])).mono ?_
  rintro en W5 ⟨A_y, c_y, n_y, rfl, hm_y, h12_y, HR5, hb⟩
  have HB5 := Lib.hid (below_then HB4.out hb (Nat.le_refl _))
  clear HR4 HB4 hb
  go_wp2_with fail
  obtain ⟨r_aa, he_aa⟩ : ∃ r, r = normL (joinL max va va) := ⟨_, rfl⟩
  have V_aa : Hid (V12 (joinL max va va)) := V12.join max_or Vva.out Vva.out
  have K_aa : Hid (okV r_aa = true) := by rw [he_aa]; exact norm_ok V_aa.out
  have P_aa : Hid (padV r_aa = (joinL max va va)) := by rw [he_aa]; exact pad_norm V_aa.out
  have E_aa := Lib.hid he_aa
  clear he_aa
  refine (merge2_any (r := r_aa) HR5 (by simp) (by simp) hm1 hm1 HO1.out HO1.out (by rw [P1.out, E_aa.out])).mono ?_
  rintro en W6 ⟨A_aa, c_aa, n_aa, rfl, hm_aa, h12_aa, HR6, hb⟩
  have HB6 := Lib.hid (below_then HB5.out hb (Nat.le_refl _))
  clear HR5 HB5 hb
  go_wp2_with fail
  obtain ⟨r_m, he_m⟩ : ∃ r, r = normL (joinL min va vb) := ⟨_, rfl⟩
  have V_m : Hid (V12 (joinL min va vb)) := V12.join min_or Vva.out Vvb.out
  have K_m : Hid (okV r_m = true) := by rw [he_m]; exact norm_ok V_m.out
  have P_m : Hid (padV r_m = (joinL min va vb)) := by rw [he_m]; exact pad_norm V_m.out
  have E_m := Lib.hid he_m
  clear he_m
  refine (meet2_any (r := r_m) HR6 (by simp) (by simp) hm1 hm2 HO1.out HO2.out (by rw [P1.out, P2.out, E_m.out])).mono ?_
  rintro en W7 ⟨A_m, c_m, n_m, rfl, hm_m, h12_m, HR7, hb⟩
  have HB7 := Lib.hid (below_then HB6.out hb (Nat.le_refl _))
  clear HR6 HB6 hb
  go_wp2_with fail
  obtain ⟨r_n, he_n⟩ : ∃ r, r = normL (joinL min vb va) := ⟨_, rfl⟩
  have V_n : Hid (V12 (joinL min vb va)) := V12.join min_or Vvb.out Vva.out
  have K_n : Hid (okV r_n = true) := by rw [he_n]; exact norm_ok V_n.out
  have P_n : Hid (padV r_n = (joinL min vb va)) := by rw [he_n]; exact pad_norm V_n.out
  have E_n := Lib.hid he_n
  clear he_n
  refine (meet2_any (r := r_n) HR7 (by simp) (by simp) hm2 hm1 HO2.out HO1.out (by rw [P2.out, P1.out, E_n.out])).mono ?_
  rintro en W8 ⟨A_n, c_n, n_n, rfl, hm_n, h12_n, HR8, hb⟩
  have HB8 := Lib.hid (below_then HB7.out hb (Nat.le_refl _))
  clear HR7 HB7 hb
  go_wp2_with fail
  obtain ⟨r_bm, he_bm⟩ : ∃ r, r = normL (joinL min vb vc) := ⟨_, rfl⟩
  have V_bm : Hid (V12 (joinL min vb vc)) := V12.join min_or Vvb.out Vvc.out
  have K_bm : Hid (okV r_bm = true) := by rw [he_bm]; exact norm_ok V_bm.out
  have P_bm : Hid (padV r_bm = (joinL min vb vc)) := by rw [he_bm]; exact pad_norm V_bm.out
  have E_bm := Lib.hid he_bm
  clear he_bm
  refine (meet2_any (r := r_bm) HR8 (by simp) (by simp) hm2 hm3 HO2.out HO3.out (by rw [P2.out, P3.out, E_bm.out])).mono ?_
  rintro en W9 ⟨A_bm, c_bm, n_bm, rfl, hm_bm, h12_bm, HR9, hb⟩
  have HB9 := Lib.hid (below_then HB8.out hb (Nat.le_refl _))
  clear HR8 HB8 hb
  go_wp2_with fail
  obtain ⟨r_u, he_u⟩ : ∃ r, r = normL (joinL min (joinL min va vb) vc) := ⟨_, rfl⟩
  have V_u : Hid (V12 (joinL min (joinL min va vb) vc)) := V12.join min_or V_m.out Vvc.out
  have K_u : Hid (okV r_u = true) := by rw [he_u]; exact norm_ok V_u.out
  have P_u : Hid (padV r_u = (joinL min (joinL min va vb) vc)) := by rw [he_u]; exact pad_norm V_u.out
  have E_u := Lib.hid he_u
  clear he_u
  refine (meet2_any (r := r_u) HR9 (by simp) (by simp) hm_m hm3 K_m.out HO3.out (by rw [P_m.out, P3.out, E_u.out])).mono ?_
  rintro en W10 ⟨A_u, c_u, n_u, rfl, hm_u, h12_u, HR10, hb⟩
  have HB10 := Lib.hid (below_then HB9.out hb (Nat.le_refl _))
  clear HR9 HB9 hb
  go_wp2_with fail
  obtain ⟨r_v, he_v⟩ : ∃ r, r = normL (joinL min va (joinL min vb vc)) := ⟨_, rfl⟩
  have V_v : Hid (V12 (joinL min va (joinL min vb vc))) := V12.join min_or Vva.out V_bm.out
  have K_v : Hid (okV r_v = true) := by rw [he_v]; exact norm_ok V_v.out
  have P_v : Hid (padV r_v = (joinL min va (joinL min vb vc))) := by rw [he_v]; exact pad_norm V_v.out
  have E_v := Lib.hid he_v
  clear he_v
  refine (meet2_any (r := r_v) HR10 (by simp) (by simp) hm1 hm_bm HO1.out K_bm.out (by rw [P1.out, P_bm.out, E_v.out])).mono ?_
  rintro en W11 ⟨A_v, c_v, n_v, rfl, hm_v, h12_v, HR11, hb⟩
  have HB11 := Lib.hid (below_then HB10.out hb (Nat.le_refl _))
  clear HR10 HB10 hb
  go_wp2_with fail
  obtain ⟨r_p, he_p⟩ : ∃ r, r = normL (joinL min va (joinL max va vb)) := ⟨_, rfl⟩
  have V_p : Hid (V12 (joinL min va (joinL max va vb))) := V12.join min_or Vva.out V_ab.out
  have K_p : Hid (okV r_p = true) := by rw [he_p]; exact norm_ok V_p.out
  have P_p : Hid (padV r_p = (joinL min va (joinL max va vb))) := by rw [he_p]; exact pad_norm V_p.out
  have E_p := Lib.hid he_p
  clear he_p
  refine (meet2_any (r := r_p) HR11 (by simp) (by simp) hm1 hm_ab HO1.out K_ab.out (by rw [P1.out, P_ab.out, E_p.out])).mono ?_
  rintro en W12 ⟨A_p, c_p, n_p, rfl, hm_p, h12_p, HR12, hb⟩
  have HB12 := Lib.hid (below_then HB11.out hb (Nat.le_refl _))
  clear HR11 HB11 hb
  go_wp2_with fail
  obtain ⟨r_q, he_q⟩ : ∃ r, r = normL (joinL max va (joinL min va vb)) := ⟨_, rfl⟩
  have V_q : Hid (V12 (joinL max va (joinL min va vb))) := V12.join max_or Vva.out V_m.out
  have K_q : Hid (okV r_q = true) := by rw [he_q]; exact norm_ok V_q.out
  have P_q : Hid (padV r_q = (joinL max va (joinL min va vb))) := by rw [he_q]; exact pad_norm V_q.out
  have E_q := Lib.hid he_q
  clear he_q
  refine (merge2_any (r := r_q) HR12 (by simp) (by simp) hm1 hm_m HO1.out K_m.out (by rw [P1.out, P_m.out, E_q.out])).mono ?_
  rintro en W13 ⟨A_q, c_q, n_q, rfl, hm_q, h12_q, HR13, hb⟩
  have HB13 := Lib.hid (below_then HB12.out hb (Nat.le_refl _))
  clear HR12 HB12 hb
  go_wp2_with fail
  refine (rnormal_any xs (fun _ => True) A1 m1 c1 W13 (HR13.out (A1, xs) (by simp)) hm1 (by omega) hnc1).mono ?_
  rintro en W14 ⟨A_o, c_o, rfl, ho, hb⟩
  obtain ⟨r_o, he_o⟩ : ∃ r, r = normL xs := ⟨_, rfl⟩
  have E_o := Lib.hid he_o
  rw [← he_o] at ho ⊢
  obtain ⟨n_o, hn_o⟩ : ∃ n, n = r_o.length := ⟨_, rfl⟩
  have hm_o : Hid (r_o.length = n_o) := hn_o.symm
  have h12_o : n_o ≤ 20 := by rw [hn_o, he_o]; exact Nat.le_trans (normL_len xs) (by have := hm1.out; omega)
  rw [← hn_o] at ho ⊢
  have HR14 := Lib.hid ((HR13.out.below hb).cons ((Rc.of_own ho).mono (S' := fun _ => True) (fun _ _ _ => trivial)))
  have HB14 := Lib.hid (below_then HB13.out hb (Nat.le_refl _))
  clear HR13 HB13 hb ho he_o hn_o
  go_wp2_with fail
  refine (awake_any _).mono ?_
  rintro en W15 ⟨rfl, hb⟩
  have HR15 := Lib.hid (HR14.out.below hb)
  have HB15 := Lib.hid (below_then HB14.out hb (Nat.le_refl _))
  clear HR14 HB14 hb
  go_wp2_with fail
  refine (ints_any r_ab r_ba (fun _ => True) (fun _ => True) A_ab A_ba n_ab c_ab n_ba c_ba W15 (HR15.out (A_ab, r_ab) (by simp)) (HR15.out (A_ba, r_ba) (by simp)) hm_ab hm_ba (by omega)).mono ?_
  rintro en w' ⟨rfl, j15, rfl⟩
  rw [decide_eq_true (show r_ab = r_ba from by rw [E_ab.out, E_ba.out, join_comm (fun a b => by omega)])]
  have HR16 := Lib.hid (HR15.out.drewN j15)
  have HB16 := Lib.hid (below_drewN HB15.out j15)
  clear HR15 HB15
  revert HR16 HB16
  generalize W15.drewN j15 = W16
  intro HR16 HB16
  go_wp2_with fail
  refine (ints_any r_x r_y (fun _ => True) (fun _ => True) A_x A_y n_x c_x n_y c_y W16 (HR16.out (A_x, r_x) (by simp)) (HR16.out (A_y, r_y) (by simp)) hm_x hm_y (by omega)).mono ?_
  rintro en w' ⟨rfl, j16, rfl⟩
  rw [decide_eq_true (show r_x = r_y from by rw [E_x.out, E_y.out, join_assoc (fun a b c => by omega)])]
  have HR17 := Lib.hid (HR16.out.drewN j16)
  have HB17 := Lib.hid (below_drewN HB16.out j16)
  clear HR16 HB16
  revert HR17 HB17
  generalize W16.drewN j16 = W17
  intro HR17 HB17
  go_wp2_with fail
  refine (ints_any r_aa r_o (fun _ => True) (fun _ => True) A_aa A_o n_aa c_aa n_o c_o W17 (HR17.out (A_aa, r_aa) (by simp)) (HR17.out (A_o, r_o) (by simp)) hm_aa hm_o (by omega)).mono ?_
  rintro en w' ⟨rfl, j17, rfl⟩
  rw [decide_eq_true (show r_aa = r_o from by rw [E_aa.out, E_o.out, join_idem (fun a => by omega) Vva.out.len, ← P1.out, norm_pad HO1.out])]
  have HR18 := Lib.hid (HR17.out.drewN j17)
  have HB18 := Lib.hid (below_drewN HB17.out j17)
  clear HR17 HB17
  revert HR18 HB18
  generalize W17.drewN j17 = W18
  intro HR18 HB18
  go_wp2_with fail
  refine (ints_any r_m r_n (fun _ => True) (fun _ => True) A_m A_n n_m c_m n_n c_n W18 (HR18.out (A_m, r_m) (by simp)) (HR18.out (A_n, r_n) (by simp)) hm_m hm_n (by omega)).mono ?_
  rintro en w' ⟨rfl, j18, rfl⟩
  rw [decide_eq_true (show r_m = r_n from by rw [E_m.out, E_n.out, join_comm (fun a b => by omega)])]
  have HR19 := Lib.hid (HR18.out.drewN j18)
  have HB19 := Lib.hid (below_drewN HB18.out j18)
  clear HR18 HB18
  revert HR19 HB19
  generalize W18.drewN j18 = W19
  intro HR19 HB19
  go_wp2_with fail
  refine (ints_any r_u r_v (fun _ => True) (fun _ => True) A_u A_v n_u c_u n_v c_v W19 (HR19.out (A_u, r_u) (by simp)) (HR19.out (A_v, r_v) (by simp)) hm_u hm_v (by omega)).mono ?_
  rintro en w' ⟨rfl, j19, rfl⟩
  rw [decide_eq_true (show r_u = r_v from by rw [E_u.out, E_v.out, join_assoc (fun a b c => by omega)])]
  have HR20 := Lib.hid (HR19.out.drewN j19)
  have HB20 := Lib.hid (below_drewN HB19.out j19)
  clear HR19 HB19
  revert HR20 HB20
  generalize W19.drewN j19 = W20
  intro HR20 HB20
  go_wp2_with fail
  refine (ints_any r_p r_o (fun _ => True) (fun _ => True) A_p A_o n_p c_p n_o c_o W20 (HR20.out (A_p, r_p) (by simp)) (HR20.out (A_o, r_o) (by simp)) hm_p hm_o (by omega)).mono ?_
  rintro en w' ⟨rfl, j20, rfl⟩
  rw [decide_eq_true (show r_p = r_o from by rw [E_p.out, E_o.out, join_absorb (fun a b => by omega) _ Vva.out.len, ← P1.out, norm_pad HO1.out])]
  have HR21 := Lib.hid (HR20.out.drewN j20)
  have HB21 := Lib.hid (below_drewN HB20.out j20)
  clear HR20 HB20
  revert HR21 HB21
  generalize W20.drewN j20 = W21
  intro HR21 HB21
  go_wp2_with fail
  refine (ints_any r_q r_o (fun _ => True) (fun _ => True) A_q A_o n_q c_q n_o c_o W21 (HR21.out (A_q, r_q) (by simp)) (HR21.out (A_o, r_o) (by simp)) hm_q hm_o (by omega)).mono ?_
  rintro en w' ⟨rfl, j21, rfl⟩
  rw [decide_eq_true (show r_q = r_o from by rw [E_q.out, E_o.out, join_absorb (fun a b => by omega) _ Vva.out.len, ← P1.out, norm_pad HO1.out])]
  have HR22 := Lib.hid (HR21.out.drewN j21)
  have HB22 := Lib.hid (below_drewN HB21.out j21)
  clear HR21 HB21
  revert HR22 HB22
  generalize W21.drewN j21 = W22
  intro HR22 HB22
  go_wp2_with fail
  go_ret
  exact law_ret rfl HB22.out
end Go.Proofs.Ytckfopdkknckcaa
