/- versionvector: Compare. -/
import Derived.Test.YtckfopdkknckcaaVecB
set_option linter.unusedVariables false
set_option linter.unusedSimpArgs false
namespace Go.Proofs.Ytckfopdkknckcaa
open Go.RowKit
attribute [local irreducible] wpList

def cmpN (a b : List Int) : Int := if covL (padV a) (padV b) && covL (padV b) (padV a) then 0 else if covL (padV b) (padV a) then 1 else if covL (padV a) (padV b) then 2 else 3
def cmpR (a b : List Int) : Int × Int := if okV a && okV b then (cmpN a b, 0) else (0, 1)

theorem rng_of {w : World} {b : Nat} {t : TypeId} {L : List Value} (h : w.heap[b]? = some (.cells L.toArray t (0, 0))) : w.rangeAt b 0 L := fun j v hv => by
  rw [Nat.zero_add, blk_cell h j]; simpa using hv
theorem rng_below {w w' : World} {b1 b2 : Nat} {L1 L2 : List Value} (h : w.rangeAt b1 0 L1 ∧ w.rangeAt b2 0 L2) (hb : Below w.heap.size w w') : w'.rangeAt b1 0 L1 ∧ w'.rangeAt b2 0 L2 := by
  refine ⟨fun j v hv => ?_, fun j v hv => ?_⟩
  · have h1 := h.1 j v hv
    exact (World.cell?_of_block (w := w) (hb.block _ (World.block_lt_of_cell? w _ h1))).trans h1
  · have h1 := h.2 j v hv
    exact (World.cell?_of_block (w := w) (hb.block _ (World.block_lt_of_cell? w _ h1))).trans h1

set_option maxRecDepth 100000 in
set_option maxHeartbeats 800000 in
theorem compare_any (xs ys : List Int) (S1 : Nat → Prop) (A1 : Option Addr) (m1 c1 : Nat) (S2 : Nat → Prop) (A2 : Option Addr) (m2 c2 : Nat) (w : World) (hr1 : Rc S1 w A1 (ivs xs)) (hm1 : Hid (xs.length = m1)) (hml1 : Hid (m1 ≤ 9223372036854775807))
    (hr2 : Rc S2 w A2 (ivs ys)) (hm2 : Hid (ys.length = m2)) (hml2 : Hid (m2 ≤ 9223372036854775807)) :
    Calls Try.prog 13 #[.slice A1 m1 c1, .slice A2 m2 c2] w fun en w' => en = .returned (.tuple #[.int .i64 (cmpR xs ys).1, .int .i64 (cmpR xs ys).2]) ∧ Below w.heap.size w w' := by
  obtain ⟨r, hrr⟩ : ∃ r, r = cmpR xs ys := ⟨_, rfl⟩
  rw [← hrr]
  have HRR := Lib.hid hrr
  clear hrr
  go_enter Try.func13, Try.ntmps13
  go_wp2_with fail
  refine (padded_any xs S1 A1 m1 c1 w hr1 hm1 hml1).mono ?_
  rintro en w1 ⟨rfl, hb1⟩
  obtain ⟨L1, hL1⟩ : ∃ L, L = ivs (padV xs) := ⟨_, rfl⟩
  obtain ⟨L2, hL2⟩ : ∃ L, L = ivs (padV ys) := ⟨_, rfl⟩
  have hV1s : L1.toArray.size = 12 := by rw [hL1]; exact vec_size (padV_length xs)
  have hV1o : ∀ v ∈ L1.toArray, v.oneCell' = true := by rw [hL1]; exact vec_one _
  have hV2s : L2.toArray.size = 12 := by rw [hL2]; exact vec_size (padV_length ys)
  have hV2o : ∀ v ∈ L2.toArray, v.oneCell' = true := by rw [hL2]; exact vec_one _
  have HC12 := covers_any (padV xs) (padV ys) (padV_length xs) (padV_length ys)
  have HC21 := covers_any (padV ys) (padV xs) (padV_length ys) (padV_length xs)
  rw [← hL1, ← hL2] at HC12 HC21
  rw [← hL1]
  have HL2 := Lib.hid hL2
  clear hL1 hL2
  have hx1 := blk_new w1 55 L1.toArray
  have hr2' := (hr2.below hb1).alloc (.cells L1.toArray 55)
  have hb1' := below_alloc hb1 (Nat.le_refl _) (.cells L1.toArray 55)
  clear hb1 hr1 hr2
  go_wp2_with (first
    | refine st_new (o := ⟨none, .store _ (.tmp 6) (.tmp 15), _, _, _, _⟩) rfl (.tmp 6) (.tmp 15) rfl w1 L1.toArray _ rfl rfl rfl rfl hV1s hV1o ?_)
  revert hx1 hr2' hb1'
  generalize (w1.alloc (.cells L1.toArray 55)) = W1
  generalize w1.heap.size = b1
  intro hx1 hr2 hb1
  refine (padded_any ys S2 A2 m2 c2 W1 hr2 hm2 hml2).mono ?_
  rintro en w2 ⟨rfl, hb2⟩
  rw [← HL2.out]
  have hy1 := blk_alloc ((hb2.block b1 (blk_lt hx1)).trans hx1) (.cells L2.toArray 55)
  have hy2 := blk_new w2 55 L2.toArray
  have hb2' := below_then hb1 (below_alloc hb2 (Nat.le_refl _) (.cells L2.toArray 55)) (Nat.le_refl _)
  clear hx1 hb1 hb2 hr2
  cases hox : okV xs with
  | false =>
    have HO := Lib.hid hox
    clear hox
    go_wp2_with (first
      | refine st_new (o := ⟨none, .store _ (.tmp 8) (.tmp 20), _, _, _, _⟩) rfl (.tmp 8) (.tmp 20) rfl w2 L2.toArray _ rfl rfl rfl rfl hV2s hV2o ?_)
    go_ret2
    refine ⟨?_, hb2'⟩
    rw [HRR.out, cmpR, HO.out]
    rfl
  | true =>
    have HO := Lib.hid hox
    clear hox
    cases hoy : okV ys with
    | false =>
      have HO2 := Lib.hid hoy
      clear hoy
      go_wp2_with (first
        | refine st_new (o := ⟨none, .store _ (.tmp 8) (.tmp 20), _, _, _, _⟩) rfl (.tmp 8) (.tmp 20) rfl w2 L2.toArray _ rfl rfl rfl rfl hV2s hV2o ?_)
      go_ret2
      refine ⟨?_, hb2'⟩
      rw [HRR.out, cmpR, HO.out, HO2.out]
      rfl
    | true =>
      have HO2 := Lib.hid hoy
      clear hoy
      go_wp2_with (first
        | refine st_new (o := ⟨none, .store _ (.tmp 8) (.tmp 20), _, _, _, _⟩) rfl (.tmp 8) (.tmp 20) rfl w2 L2.toArray _ rfl rfl rfl rfl hV2s hV2o ?_)
      revert hy1 hy2 hb2'
      generalize (w2.alloc (.cells L2.toArray 55)) = W2
      generalize w2.heap.size = b2
      intro hy1 hy2 hb2
      have hu : Try.prog.underlying 55 = some (.array 12 3) := by kernel_rfl
      have hi1 : (Try.prog.info? 55).map (·.size) = some L1.length := by have := vec_info hV1s; simpa using this
      have hi2 : (Try.prog.info? 55).map (·.size) = some L2.length := by have := vec_info hV2s; simpa using this
      have H0 : Hid (W2.drew.rangeAt b1 0 L1 ∧ W2.drew.rangeAt b2 0 L2) := ⟨rng_of (w := W2.drew) hy1, rng_of (w := W2.drew) hy2⟩
      refine wp_region_held_drew (S := fun w' => w'.rangeAt b1 0 L1 ∧ w'.rangeAt b2 0 L2) (by kernel_rfl) H0.out (fun hHeld => ?_)
      refine wpAnyH_take (i := 0) (oi := ⟨some 28, _, _, _, _, _⟩) (v := .agg L1.toArray) rfl (by kernel_rfl) (by kernel_rfl) (by kernel_rfl) (fun _ _ _ h => h) (yieldsIf_load_mid (by rfl) _ (.tmp 6) rfl b1 0 rfl L1 (.array 12 3) (fun w h => h.1) hu rfl hi1) hHeld ?_
      try simp only [Act.put, List.setIfInBounds_toArray, List.set_cons_zero, List.set_cons_succ]
      refine wpAnyH_take (i := 1) (oi := ⟨some 29, _, _, _, _, _⟩) (v := .agg L2.toArray) rfl (by kernel_rfl) (by kernel_rfl) (by kernel_rfl) (fun _ _ _ h => h) (yieldsIf_load_mid (by rfl) _ (.tmp 8) rfl b2 0 rfl L2 (.array 12 3) (fun w h => h.2) hu rfl hi2) hHeld ?_
      try simp only [Act.put, List.setIfInBounds_toArray, List.set_cons_zero, List.set_cons_succ]
      refine wpAnyH_take (i := 3) (oi := ⟨some 31, _, _, _, _, _⟩) (v := .agg L2.toArray) rfl (by kernel_rfl) (by kernel_rfl) (by kernel_rfl) (fun _ _ _ h => h) (yieldsIf_load_mid (by rfl) _ (.tmp 8) rfl b2 0 rfl L2 (.array 12 3) (fun w h => h.2) hu rfl hi2) hHeld ?_
      try simp only [Act.put, List.setIfInBounds_toArray, List.set_cons_zero, List.set_cons_succ]
      refine wpAnyH_take (i := 4) (oi := ⟨some 32, _, _, _, _, _⟩) (v := .agg L1.toArray) rfl (by kernel_rfl) (by kernel_rfl) (by kernel_rfl) (fun _ _ _ h => h) (yieldsIf_load_mid (by rfl) _ (.tmp 6) rfl b1 0 rfl L1 (.array 12 3) (fun w h => h.1) hu rfl hi1) hHeld ?_
      try simp only [Act.put, List.setIfInBounds_toArray, List.set_cons_zero, List.set_cons_succ]
      refine wpAnyH_ready (rs := [2]) (by kernel_rfl) (by simp) (AllReadyH.cons (o := ⟨some 30, _, _, _, _, _⟩) rfl (fun K hK => ?_) AllReadyH.nil)
      go_simp
      refine (HC12 _).mono ?_
      rintro en wA ⟨rfl, hbA⟩
      go_wp2_with fail
      refine hK.out _ _ (rng_below hHeld hbA) (fun hHeld2 => ?_)
      clear hK K
      try simp only [Act.put, List.setIfInBounds_toArray, List.set_cons_zero, List.set_cons_succ]
      refine wpAnyH_ready (rs := [5]) (by kernel_rfl) (by simp) (AllReadyH.cons (o := ⟨some 33, _, _, _, _, _⟩) rfl (fun K hK => ?_) AllReadyH.nil)
      go_simp
      refine (HC21 _).mono ?_
      rintro en wB ⟨rfl, hbB⟩
      go_wp2_with fail
      refine hK.out _ _ (rng_below hHeld2 hbB) (fun hHeld3 => ?_)
      clear hK K
      try simp only [Act.put, List.setIfInBounds_toArray, List.set_cons_zero, List.set_cons_succ]
      refine wpAnyH_take (i := 6) (oi := ⟨some 10, _, _, _, _, _⟩) (v := .bool (covL (padV xs) (padV ys))) rfl (by kernel_rfl) (by kernel_rfl) (by kernel_rfl) (fun _ _ _ h => h) (Or.inl ⟨by rfl, by intro w hSw; go_simp⟩) hHeld3 ?_
      try simp only [Act.put, List.setIfInBounds_toArray, List.set_cons_zero, List.set_cons_succ]
      refine wpAnyH_take (i := 7) (oi := ⟨some 11, _, _, _, _, _⟩) (v := .bool (covL (padV ys) (padV xs))) rfl (by kernel_rfl) (by kernel_rfl) (by kernel_rfl) (fun _ _ _ h => h) (Or.inl ⟨by rfl, by intro w hSw; go_simp⟩) hHeld3 ?_
      try simp only [Act.put, List.setIfInBounds_toArray, List.set_cons_zero, List.set_cons_succ]
      refine wpAnyH_done (by kernel_rfl) ?_ _
      clear hHeld hHeld2 hHeld3 hy1 hy2 H0 HC12 HC21
      have hbl := below_then (below_then (below_then hb2 (below_drewN (Below.refl _ W2) 1) (Nat.le_refl _)) hbA (Nat.le_refl _)) hbB (Nat.le_refl _)
      have HR : Hid (r = (cmpN xs ys, 0)) := by show _ = _; rw [HRR.out, cmpR, HO.out, HO2.out]; rfl
      clear HRR hb2 hbA hbB
      cases hq1 : covL (padV xs) (padV ys) <;> cases hq2 : covL (padV ys) (padV xs)
      all_goals
        have HQ : Hid (r = (cmpN xs ys, 0) ∧ covL (padV xs) (padV ys) = covL (padV xs) (padV ys)) := ⟨HR.out, rfl⟩
        have HN := HR.out
        unfold cmpN at HN
        rw [hq1, hq2] at HN
        have HN2 := Lib.hid HN
        clear HN HR HQ hq1 hq2
        go_wp2_with fail
        go_ret2
        exact ⟨by rw [HN2.out]; rfl, hbl⟩
end Go.Proofs.Ytckfopdkknckcaa
