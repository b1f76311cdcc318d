/- versionvector: Extend, over ranges that fit. -/
import Derived.Test.YtckfopdkknckcaaVecK
import Derived.Test.YtckfopdkknckcaaVecL
import Derived.Test.YtckfopdkknckcaaVecN
set_option linter.unusedVariables false
set_option linter.unusedSimpArgs false
namespace Go.Proofs.Ytckfopdkknckcaa
open Go.RowKit
attribute [local irreducible] wpList

def extS (v : List Int) (rs : List (Int × Int × Int)) : List Int := rs.foldl (fun v r => v.set r.1.toNat (max (v.getD r.1.toNat 0) r.2.2)) v
theorem extS_take {v : List Int} {rs : List (Int × Int × Int)} {k : Nat} (hk : k < rs.length) : extS v (rs.take (k + 1)) = (extS v (rs.take k)).set rs[k].1.toNat (max ((extS v (rs.take k)).getD rs[k].1.toNat 0) rs[k].2.2) := by
  unfold extS; rw [List.take_succ_eq_append_getElem hk, List.foldl_append]; rfl
theorem extS_len (v : List Int) (rs : List (Int × Int × Int)) : (extS v rs).length = v.length := by
  unfold extS
  induction rs generalizing v with
  | nil => rfl
  | cons r t ih => rw [List.foldl_cons, ih, List.length_set]
structure RangeOk (r : Int × Int × Int) : Prop where
  d0 : 0 ≤ r.1
  d1 : r.1 < 12
  f : 1 ≤ r.2.1
  ft : r.2.1 ≤ r.2.2
  t : r.2.2 ≤ 1099511627776

theorem set_getD (v : List Int) (p : Nat) (u : Int) (i : Nat) : (v.set p u).getD i 0 = if p = i ∧ p < v.length then u else v.getD i 0 := by
  simp only [List.getD, List.getElem?_set]
  by_cases h : p = i
  · subst h
    by_cases h2 : p < v.length
    · simp [h2]
    · simp [h2]
  · simp [h]
theorem extS_ok {v : List Int} {rs : List (Int × Int × Int)} (hv : V12 v) (h : ∀ r ∈ rs, RangeOk r) : V12 (extS v rs) := by
  unfold extS
  induction rs generalizing v with
  | nil => exact hv
  | cons r t ih =>
    rw [List.foldl_cons]
    refine ih ⟨by rw [List.length_set]; exact hv.len, fun i => ?_⟩ (fun r hr => h r (List.mem_cons_of_mem _ hr))
    have hr := h r List.mem_cons_self
    rw [set_getD]
    split
    · have h1 := hv.ok r.1.toNat
      have h2 := hr.f
      have h3 := hr.ft
      have h4 := hr.t
      unfold okN at h1 ⊢
      have h1 := of_decide_eq_true h1
      exact decide_eq_true (by omega)
    · exact hv.ok i

/-- The gathering array, and a range that was laid beside it. -/
structure Er (w W : World) (b B : Nat) (L : List Int) (p : Nat) (f t : Int) : Prop where
  fo : Fo w W b L
  r : W.heap[B]? = some (.cells #[.int .i64 p, .int .i64 f, .int .i64 t] 34 (0, 0))
  ne : B ≠ b
theorem er_new {w W : World} {b : Nat} {L : List Int} (h : Fo w W b L) (p : Nat) (f t : Int) : Er w (W.alloc (.cells #[.int .i64 p, .int .i64 f, .int .i64 t] 34)) b W.heap.size L p f t :=
  ⟨⟨blk_alloc h.b1 _, below_alloc h.bl (Nat.le_refl _) _, h.le⟩, blk_new _ _ _, by have := blk_lt h.b1; omega⟩
theorem Er.drewN {w W : World} {b B : Nat} {L : List Int} {p : Nat} {f t : Int} (h : Er w W b B L p f t) (n : Nat) : Er w (W.drewN n) b B L p f t := ⟨⟨h.fo.b1, below_drewN h.fo.bl n, h.fo.le⟩, h.r, h.ne⟩
theorem Er.put {w W : World} {b B : Nat} {L : List Int} {p : Nat} {f t : Int} (h : Er w W b B L p f t) (u : Int) : Fo w (W.setCell ⟨b, p, none⟩ (.int .i64 u)) b (L.set p u) := by
  have h2 := blk_set h.fo.b1 p (.int .i64 u)
  have h3 : (ivs L).toArray.setIfInBounds p (.int .i64 u) = (ivs (L.set p u)).toArray := by unfold ivs; simp
  rw [h3] at h2
  exact ⟨h2, h.fo.bl.trans (((Kp.refl (fun i => i = b) W).setCell (p := ⟨b, p, none⟩) (fun _ => rfl) _).below (B := w.heap.size) h.fo.bl.size (fun i h1 h2 => by have := h.fo.le; omega)), h.fo.le⟩

set_option maxRecDepth 100000 in
set_option maxHeartbeats 3200000 in
theorem extend_any (xs : List Int) (S1 : Nat → Prop) (A1 : Option Addr) (m1 c1 : Nat) (rs : List (Int × Int × Int)) (S2 : Nat → Prop) (A2 : Option Addr) (n c2 : Nat) (w : World) (hr1 : Rc S1 w A1 (ivs xs)) (hm1 : Hid (xs.length = m1)) (hml1 : Hid (m1 ≤ 9223372036854775807))
    (hr2 : Rc S2 w A2 (rvs rs)) (hm2 : Hid (rs.length = n)) (hn : n ≤ 100) (hox : okV xs = true) (hv : Hid (∀ r ∈ rs, RangeOk r)) (hst : Hid (∀ k (h : k < rs.length), rs[k].2.1 ≤ (extS (padV xs) (rs.take k)).getD rs[k].1.toNat 0 + 1)) :
    Calls Try.prog 24 #[.slice A1 m1 c1, .slice A2 n c2] w (IntsE w (normL (extS (padV xs) rs), 0)) := by
  obtain ⟨r, hrr⟩ : ∃ r, r = normL (extS (padV xs) rs) := ⟨_, rfl⟩
  rw [← hrr]
  have HRR := Lib.hid hrr
  have HO := Lib.hid hox
  clear hrr
  go_enter Try.func24, Try.ntmps24
  go_wp2_with fail
  refine (padded_any xs S1 A1 m1 c1 w hr1 hm1 hml1).mono ?_
  rintro en w1 ⟨rfl, hb1⟩
  rw [hox]
  obtain ⟨V1, hV1⟩ : ∃ L, L = (ivs (padV xs)).toArray := ⟨_, rfl⟩
  have hV1s : V1.size = 12 := by rw [hV1]; exact vec_size (padV_length xs)
  have hV1o : ∀ v ∈ V1, v.oneCell' = true := by rw [hV1]; exact vec_one _
  rw [← hV1]
  have hf0 : Hid (Fo w (w1.alloc (.cells V1 55)) w1.heap.size (padV xs)) := ⟨by rw [← hV1]; exact blk_new _ _ _, below_alloc hb1 (Nat.le_refl _) _, hb1.size⟩
  clear hb1 hr1 hV1 hox
  go_wp2_with (first
    | refine st_new (o := ⟨none, .store _ (.tmp 6) (.tmp 15), _, _, _, _⟩) rfl (.tmp 6) (.tmp 15) rfl w1 V1 _ rfl rfl rfl rfl hV1s hV1o ?_)
  revert hf0
  generalize (w1.alloc (.cells V1 55)) = W1
  generalize w1.heap.size = b
  intro hf0
  go_loopw [21] (fun i wr => ∃ (k : Nat), i = .int .i64 k ∧ k ≤ n ∧ Hid (Fo w wr b (padV xs))) (fun i _ => n - (intOf i).toNat)
  case atStart => exact ⟨0, rfl, Nat.zero_le _, hf0⟩
  case round =>
    obtain ⟨k, rfl, hk, hfo⟩ := hrel
    clear hf0
    by_cases hlt : k < n
    · have hkl : k < rs.length := by have := hm2.out; omega
      have hro := hv.out _ (List.getElem_mem hkl)
      obtain ⟨e, he⟩ : ∃ e, e = rs[k] := ⟨_, rfl⟩
      have hga : rs[k]? = some e := by rw [he]; exact List.getElem?_eq_getElem hkl
      rw [← he] at hro
      obtain ⟨d, f, t⟩ := e
      obtain ⟨p, rfl⟩ := Int.eq_ofNat_of_zero_le hro.d0
      have hlw := hr2.below hfo.out.bl
      obtain ⟨ad, rfl, _, hq0⟩ := hlw.at_ (u := .int .i64 (p : Int)) (k := k * 3 + 0) (by rw [rvs_get hga 0 (by omega)]; rfl)
      rw [Nat.add_zero] at hq0
      have hq1 : wr.cell? (ad.add (k * 3 + 1)) = some (.int .i64 f) := by
        obtain ⟨ad2, h, _, h2⟩ := hlw.at_ (u := .int .i64 f) (k := k * 3 + 1) (by rw [rvs_get hga 1 (by omega)]; rfl)
        injection h with h; rw [h]; exact h2
      have hq2 : wr.cell? (ad.add (k * 3 + 2)) = some (.int .i64 t) := by
        obtain ⟨ad2, h, _, h2⟩ := hlw.at_ (u := .int .i64 t) (k := k * 3 + 2) (by rw [rvs_get hga 2 (by omega)]; rfl)
        injection h with h; rw [h]; exact h2
      rw [add_field _ _ _ (by omega)] at hq1 hq2
      have hf1 : ¬ f < 1 := by have := hro.f; dsimp only at this; omega
      have hf2 : ¬ t < f := by have := hro.ft; dsimp only at this; omega
      have hf3 : ¬ 1099511627776 < t := by have := hro.t; dsimp only at this; omega
      have hdk : decide (0 ≤ (p : Int) ∧ (p : Int) < 12) = true := decide_eq_true ⟨by omega, hro.d1⟩
      have hi1 : (k : Int) < (n : Int) := by omega
      have hi2 : (0 : Int) ≤ (k : Int) := by omega
      have her := Lib.hid (er_new hfo.out p f t)
      clear he hga hro hlw hfo
      go_wp2_with fail
      revert her
      generalize (wr.alloc (.cells #[.int .i64 p, .int .i64 f, .int .i64 t] 34)) = W5
      generalize wr.heap.size = B
      intro her
      clear hq0 hq1 hq2
      refine (known_any _ W5).mono ?_
      rintro en w' ⟨rfl, rfl⟩
      rw [hdk]
      have hz0 : w'.cell? ⟨B, 0, none⟩ = some (.int .i64 p) := blk_cell her.out.r 0
      have hz1 : w'.cell? ⟨B, 1, none⟩ = some (.int .i64 f) := blk_cell her.out.r 1
      have hz2 : w'.cell? ⟨B, 2, none⟩ = some (.int .i64 t) := blk_cell her.out.r 2
      have hfo2 := Lib.hid her.out.fo
      clear her hdk
      go_wp2_with fail
      go_roundw
      case rel => exact ⟨k + 1, by go_num, by omega, hfo2⟩
      case measure => simp [intOf]; omega
    · have hen : ¬ ((k : Nat) : Int) < (n : Int) := by omega
      have hfo0 : Hid (Fo w wr b (extS (padV xs) (rs.take 0))) := hfo
      clear hfo
      go_wp2_with fail
      clear hlt hen hk
      go_loopw [49] (fun i wr => ∃ (k : Nat), i = .int .i64 k ∧ k ≤ n ∧ Hid (Fo w wr b (extS (padV xs) (rs.take k)))) (fun i _ => n - (intOf i).toNat)
      case atStart => exact ⟨0, rfl, Nat.zero_le _, hfo0⟩
      case round =>
        rename World => wq
        obtain ⟨k, rfl, hk, hfo⟩ := hrel
        clear hfo0
        by_cases hlt : k < n
        · have hkl : k < rs.length := by have := hm2.out; omega
          have hro := hv.out _ (List.getElem_mem hkl)
          have hsk := hst.out k hkl
          have htk := extS_take (v := padV xs) hkl
          obtain ⟨e, he⟩ : ∃ e, e = rs[k] := ⟨_, rfl⟩
          have hga : rs[k]? = some e := by rw [he]; exact List.getElem?_eq_getElem hkl
          rw [← he] at hro hsk htk
          obtain ⟨d, f, t⟩ := e
          obtain ⟨p, rfl⟩ := Int.eq_ofNat_of_zero_le hro.d0
          dsimp only at hsk htk
          rw [Int.toNat_natCast] at hsk htk
          obtain ⟨L, hL⟩ : ∃ L, L = extS (padV xs) (rs.take k) := ⟨_, rfl⟩
          have hLl : L.length = 12 := by rw [hL, extS_len]; exact padV_length xs
          rw [← hL] at hsk htk hfo
          obtain ⟨g, hg⟩ : ∃ g, g = L.getD p 0 := ⟨_, rfl⟩
          rw [← hg] at hsk htk
          have hlw := hr2.below hfo.out.bl
          obtain ⟨ad, rfl, _, hq0⟩ := hlw.at_ (u := .int .i64 (p : Int)) (k := k * 3 + 0) (by rw [rvs_get hga 0 (by omega)]; rfl)
          rw [Nat.add_zero] at hq0
          have hq1 : wq.cell? (ad.add (k * 3 + 1)) = some (.int .i64 f) := by
            obtain ⟨ad2, h, _, h2⟩ := hlw.at_ (u := .int .i64 f) (k := k * 3 + 1) (by rw [rvs_get hga 1 (by omega)]; rfl)
            injection h with h; rw [h]; exact h2
          have hq2 : wq.cell? (ad.add (k * 3 + 2)) = some (.int .i64 t) := by
            obtain ⟨ad2, h, _, h2⟩ := hlw.at_ (u := .int .i64 t) (k := k * 3 + 2) (by rw [rvs_get hga 2 (by omega)]; rfl)
            injection h with h; rw [h]; exact h2
          rw [add_field _ _ _ (by omega)] at hq1 hq2
          have hp12 : p < 12 := by have := hro.d1; dsimp only at this; omega
          have hp1 : (p : Int) < 12 := by omega
          have hp0 : (0 : Int) ≤ (p : Int) := by omega
          have hi1 : (k : Int) < (n : Int) := by omega
          have hi2 : (0 : Int) ≤ (k : Int) := by omega
          have her := Lib.hid (er_new hfo.out p f t)
          have HG := Lib.hid hg
          have HLL := Lib.hid hLl
          have HTK := Lib.hid htk
          have hfb : 1 ≤ f ∧ f ≤ 1099511627776 := ⟨hro.f, by have h1 := hro.ft; have h2 := hro.t; dsimp only at h1 h2; omega⟩
          have hLv : V12 L := by rw [hL]; exact extS_ok (V12.pad xs) (fun r hr => hv.out r (List.mem_of_mem_take hr))
          have hgb := of_decide_eq_true (hLv.ok p)
          rw [← hg] at hgb
          obtain ⟨hg0, hg1⟩ := hgb
          have hwg : IntKind.i64.wrap (g + 1) = g + 1 := by rw [IntKind.wrap_i64]; omega
          have hlf : ¬ g + 1 < f := by omega
          clear he hga hro hlw hfo hg hLl htk hsk hfb hL hLv
          go_wp2_with fail
          revert her
          generalize (wq.alloc (.cells #[.int .i64 p, .int .i64 f, .int .i64 t] 34)) = W5
          generalize wq.heap.size = B
          intro her
          clear hq0 hq1 hq2
          have hz0 : W5.cell? ⟨B, 0, none⟩ = some (.int .i64 p) := blk_cell her.out.r 0
          have hz1 : W5.cell? ⟨B, 1, none⟩ = some (.int .i64 f) := blk_cell her.out.r 1
          have hz2 : W5.cell? ⟨B, 2, none⟩ = some (.int .i64 t) := blk_cell her.out.r 2
          have hzb : W5.cell? ⟨b, p, none⟩ = some (.int .i64 g) := by rw [blk_cell her.out.fo.b1, vec_get HLL.out hp12, ← HG.out]
          go_quiet (fail)
          have her2 := Lib.hid (her.out.drewN nq)
          clear hz0 hz1 hz2 hzb her
          revert her2
          generalize W5.drewN nq = W6
          intro her
          have her3 : Hid (Er w W6.drew b B L p f t) := her.out.drewN 1
          have hz0 : W6.drew.cell? ⟨B, 0, none⟩ = some (.int .i64 p) := blk_cell her3.out.r 0
          have hz2 : W6.drew.cell? ⟨B, 2, none⟩ = some (.int .i64 t) := blk_cell her3.out.r 2
          have hzb : W6.drew.cell? ⟨b, p, none⟩ = some (.int .i64 g) := by rw [blk_cell her3.out.fo.b1, vec_get HLL.out hp12, ← HG.out]
          have hzf : W6.drew.frozen? ⟨b, p, none⟩ = false := blk_frozen her3.out.fo.b1 p
          have hfin : Hid (Fo w (W6.drew.setCell ⟨b, p, none⟩ (.int .i64 (max g t))) b (extS (padV xs) (rs.take (k + 1)))) := by rw [HTK.out]; exact her3.out.put _
          clear her her3
          go_wp2_with fail
          go_region_with (fail)
          all_goals
            go_wp2_with fail
            go_roundw
            case rel => exact ⟨k + 1, by go_num, by omega, hfin⟩
            case measure => simp [intOf]; omega
        · have hen : ¬ ((k : Nat) : Int) < (n : Int) := by omega
          have hall : rs.take k = rs := List.take_of_length_le (by have := hm2.out; omega)
          rw [hall] at hfo
          obtain ⟨V2, hV2⟩ : ∃ L, L = (ivs (extS (padV xs) rs)).toArray := ⟨_, rfl⟩
          have hl12 : (extS (padV xs) rs).length = 12 := by rw [extS_len]; exact padV_length xs
          have hV2s : V2.size = 12 := by rw [hV2]; exact vec_size hl12
          have HN := normal_any (extS (padV xs) rs) hl12
          have hx2 := hfo.out.b1
          rw [← hV2] at HN hx2
          have HBL := Lib.hid hfo.out.bl
          rw [← HRR.out] at HN
          clear hV2 hl12 hfo hall
          go_wp2_with (first
            | refine ld_vec (o := ⟨some 72, _, _, _, _, _⟩) rfl (.tmp 6) rfl b rfl V2 hx2 hV2s ?_)
          refine (HN _).mono ?_
          rintro en w5 ⟨A5, c5, rfl, ho5, hb5⟩
          have hB5 := Lib.hid (below_then HBL.out hb5 (Nat.le_refl _))
          have ho6 := Lib.hid (own_weaken ho5 HBL.out.size)
          clear ho5 hb5 HN
          go_wp2_with fail
          go_ret2
          exact ⟨A5, c5, rfl, ho6.out, hB5.out⟩
end Go.Proofs.Ytckfopdkknckcaa
