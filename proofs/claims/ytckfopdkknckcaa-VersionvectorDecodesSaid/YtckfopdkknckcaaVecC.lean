/- versionvector: join. -/
import Derived.Test.YtckfopdkknckcaaVecB
set_option linter.unusedVariables false
set_option linter.unusedSimpArgs false
namespace Go.Proofs.Ytckfopdkknckcaa
open Go.RowKit
attribute [local irreducible] wpList

structure Jn (w W : World) (b1 b2 b3 : Nat) (V1 V2 V3 : Array Value) : Prop where
  b1 : W.heap[b1]? = some (.cells V1 55 (0, 0))
  b2 : W.heap[b2]? = some (.cells V2 55 (0, 0))
  b3 : W.heap[b3]? = some (.cells V3 55 (0, 0))
  bl : Below w.heap.size w W
theorem jn (w : World) (V1 V2 V3 : Array Value) : Jn w (((w.alloc (.cells V1 55)).alloc (.cells V2 55)).alloc (.cells V3 55)) w.heap.size (w.heap.size + 1) (w.heap.size + 2) V1 V2 V3 := by
  have h := two12 w V1 V2
  have hs : ((w.alloc (.cells V1 55)).alloc (.cells V2 55)).heap.size = w.heap.size + 2 := by rw [size_alloc, size_alloc]
  refine ⟨blk_alloc h.b1 _, blk_alloc h.b2 _, ?_, h.bl.alloc (by omega) _⟩
  rw [← hs]; exact blk_new _ _ _
theorem Jn.set {w W : World} {b1 b2 b3 : Nat} {V1 V2 V3 : Array Value} (h : Jn w W b1 b2 b3 V1 V2 V3) (hb : w.heap.size ≤ b1) (h2 : b2 ≠ b1) (h3 : b3 ≠ b1) (k : Nat) (u : Value) : Jn w (W.drew.setCell ⟨b1, k, none⟩ u) b1 b2 b3 (V1.setIfInBounds k u) V2 V3 :=
  ⟨blk_set (w := W.drew) h.b1 k u, blk_far (w := W.drew) (p := ⟨b1, k, none⟩) h.b2 h2 u, blk_far (w := W.drew) (p := ⟨b1, k, none⟩) h.b3 h3 u,
   (below_drewN h.bl 1).trans (((Kp.refl (fun i => i = b1) W.drew).setCell (p := ⟨b1, k, none⟩) (fun _ => rfl) u).below (B := w.heap.size) h.bl.size (fun i h1 h2 => by omega))⟩

set_option maxRecDepth 100000 in
set_option maxHeartbeats 800000 in
theorem join_max (xs ys : List Int) (hx : Hid (xs.length = 12)) (hy : Hid (ys.length = 12)) (w : World) :
    Calls Try.prog 52 #[.agg (ivs xs).toArray, .agg (ivs ys).toArray, .func (Fn.func 36) #[] #[]] w fun en w' => en = .returned (.agg (ivs (joinL max xs ys)).toArray) ∧ Below w.heap.size w w' := by
  obtain ⟨V1, hV1⟩ : ∃ V, V = (ivs xs).toArray := ⟨_, rfl⟩
  obtain ⟨V2, hV2⟩ : ∃ V, V = (ivs ys).toArray := ⟨_, rfl⟩
  rw [← hV1, ← hV2]
  have HV2 := Lib.hid hV2
  have HV1 : Hid (V1 = (ivs (midL max xs ys 0)).toArray) := by show _ = _; rw [midL_zero hx.out]; exact hV1
  clear hV1 hV2
  have h2 := jn w V1 V2 #[.int .i64 0, .int .i64 0, .int .i64 0, .int .i64 0, .int .i64 0, .int .i64 0, .int .i64 0, .int .i64 0, .int .i64 0, .int .i64 0, .int .i64 0, .int .i64 0]
  go_enter Try.func52, Try.ntmps52
  go_wp2_with fail
  revert h2
  generalize (((w.alloc (.cells V1 55)).alloc (.cells V2 55)).alloc (.cells #[.int .i64 0, .int .i64 0, .int .i64 0, .int .i64 0, .int .i64 0, .int .i64 0, .int .i64 0, .int .i64 0, .int .i64 0, .int .i64 0, .int .i64 0, .int .i64 0] 55)) = W
  generalize hB3 : w.heap.size + 2 = b3
  generalize hB2 : w.heap.size + 1 = b2
  generalize hB1 : w.heap.size = b1
  intro h2
  have n1 : Hid (w.heap.size ≤ b1) := by show _ ≤ _; omega
  have n2 : Hid (b2 ≠ b1) := by show _ ≠ _; omega
  have n3 : Hid (b3 ≠ b1) := by show _ ≠ _; omega
  have n4 : Hid (w.heap.size ≤ b3) := by show _ ≤ _; omega
  clear hB1 hB2 hB3
  go_loopw [8] (fun i wr => ∃ (k : Nat), i = .int .i64 k ∧ k ≤ 12 ∧ Hid (∃ V3, V3.size = 12 ∧ Jn w wr b1 b2 b3 (ivs (midL max xs ys k)).toArray V2 V3)) (fun i _ => 12 - (intOf i).toNat)
  case atStart => exact ⟨0, rfl, Nat.zero_le _, _, rfl, by rw [← HV1.out]; exact h2⟩
  case round =>
    obtain ⟨k, rfl, hk, h3⟩ := hrel
    clear h2
    by_cases hlt : k < 12
    · obtain ⟨V3, hV3, h3⟩ := h3.out
      obtain ⟨x, hxx⟩ : ∃ x, x = xs.getD k 0 := ⟨_, rfl⟩
      obtain ⟨y, hyy⟩ : ∃ y, y = ys.getD k 0 := ⟨_, rfl⟩
      have hc1 : wr.drew.cell? ⟨b1, k, none⟩ = some (.int .i64 x) := by rw [blk_cell (w := wr.drew) h3.b1, vec_get (midL_len k) hlt, midL_get hlt, hxx]
      have hc2 : wr.drew.cell? ⟨b2, k, none⟩ = some (.int .i64 y) := by rw [blk_cell (w := wr.drew) h3.b2, HV2.out, vec_get hy.out hlt, hyy]
      have hf1 : wr.drew.frozen? ⟨b1, k, none⟩ = false := blk_frozen (w := wr.drew) h3.b1 k
      have hi1 : (k : Int) < 12 := by omega
      have hi2 : (0 : Int) ≤ (k : Int) := by omega
      have h4 := Lib.hid (h3.set n1.out n2.out n3.out k (.int .i64 (max x y)))
      have H5 : Hid (∃ V3, V3.size = 12 ∧ Jn w (wr.drew.setCell ⟨b1, k, none⟩ (.int .i64 (max x y))) b1 b2 b3 (ivs (midL max xs ys (k + 1))).toArray V2 V3) := by
        refine ⟨V3, hV3, ?_⟩
        rw [← midL_step hlt, ← hxx, ← hyy]; exact h4.out
      clear h4 h3 hV3 hxx hyy
      have HC := isop_max x y
      go_wp2_with fail
      go_region_with
        (first
          | (go_at_call 36; refine (HC _).mono ?_; rintro en w3 ⟨rfl, rfl⟩)
          | (refine (HC _).mono ?_; rintro en w3 ⟨rfl, rfl⟩)
          | fail)
      all_goals
        go_wp2_with fail
        go_roundw
        case rel => exact ⟨k + 1, by go_num, by omega, H5⟩
        case measure => simp [intOf]; omega
    · obtain ⟨V3, hV3, h3⟩ := h3.out
      have hk12 : k = 12 := by omega
      have hen : ¬ ((k : Nat) : Int) < 12 := by omega
      obtain ⟨V, hV⟩ : ∃ V, V = (ivs (joinL max xs ys)).toArray := ⟨_, rfl⟩
      have hb := h3.b1
      rw [hk12, midL_all, ← hV] at hb
      have hVs : V.size = 12 := by rw [hV]; exact vec_size joinL_len
      have hVo : ∀ v ∈ V, v.oneCell' = true := by rw [hV]; exact vec_one _
      have hb3 := h3.b3
      have HBL := Lib.hid h3.bl
      have HV := Lib.hid hV
      clear h3 hV
      go_wp2_with (first
        | refine ld_vec (o := ⟨some 22, _, _, _, _, _⟩) rfl (.tmp 3) rfl b1 rfl V hb hVs ?_
        | refine st_vec (o := ⟨none, .store _ (.tmp 6) (.tmp 22), _, _, _, _⟩) rfl (.tmp 6) (.tmp 22) rfl b3 V V3 rfl rfl hb3 hV3 hVs hVo ?_)
      refine bodyPost_ret (join_res (setRow_heap _ _ _ V _ _ hb3) hVs rfl) rfl ⟨?_, below_setRow HBL.out n4.out _⟩
      rw [HV.out]

set_option maxRecDepth 100000 in
set_option maxHeartbeats 800000 in
theorem join_min (xs ys : List Int) (hx : Hid (xs.length = 12)) (hy : Hid (ys.length = 12)) (w : World) :
    Calls Try.prog 52 #[.agg (ivs xs).toArray, .agg (ivs ys).toArray, .func (Fn.func 37) #[] #[]] w fun en w' => en = .returned (.agg (ivs (joinL min xs ys)).toArray) ∧ Below w.heap.size w w' := by
  obtain ⟨V1, hV1⟩ : ∃ V, V = (ivs xs).toArray := ⟨_, rfl⟩
  obtain ⟨V2, hV2⟩ : ∃ V, V = (ivs ys).toArray := ⟨_, rfl⟩
  rw [← hV1, ← hV2]
  have HV2 := Lib.hid hV2
  have HV1 : Hid (V1 = (ivs (midL min xs ys 0)).toArray) := by show _ = _; rw [midL_zero hx.out]; exact hV1
  clear hV1 hV2
  have h2 := jn w V1 V2 #[.int .i64 0, .int .i64 0, .int .i64 0, .int .i64 0, .int .i64 0, .int .i64 0, .int .i64 0, .int .i64 0, .int .i64 0, .int .i64 0, .int .i64 0, .int .i64 0]
  go_enter Try.func52, Try.ntmps52
  go_wp2_with fail
  revert h2
  generalize (((w.alloc (.cells V1 55)).alloc (.cells V2 55)).alloc (.cells #[.int .i64 0, .int .i64 0, .int .i64 0, .int .i64 0, .int .i64 0, .int .i64 0, .int .i64 0, .int .i64 0, .int .i64 0, .int .i64 0, .int .i64 0, .int .i64 0] 55)) = W
  generalize hB3 : w.heap.size + 2 = b3
  generalize hB2 : w.heap.size + 1 = b2
  generalize hB1 : w.heap.size = b1
  intro h2
  have n1 : Hid (w.heap.size ≤ b1) := by show _ ≤ _; omega
  have n2 : Hid (b2 ≠ b1) := by show _ ≠ _; omega
  have n3 : Hid (b3 ≠ b1) := by show _ ≠ _; omega
  have n4 : Hid (w.heap.size ≤ b3) := by show _ ≤ _; omega
  clear hB1 hB2 hB3
  go_loopw [8] (fun i wr => ∃ (k : Nat), i = .int .i64 k ∧ k ≤ 12 ∧ Hid (∃ V3, V3.size = 12 ∧ Jn w wr b1 b2 b3 (ivs (midL min xs ys k)).toArray V2 V3)) (fun i _ => 12 - (intOf i).toNat)
  case atStart => exact ⟨0, rfl, Nat.zero_le _, _, rfl, by rw [← HV1.out]; exact h2⟩
  case round =>
    obtain ⟨k, rfl, hk, h3⟩ := hrel
    clear h2
    by_cases hlt : k < 12
    · obtain ⟨V3, hV3, h3⟩ := h3.out
      obtain ⟨x, hxx⟩ : ∃ x, x = xs.getD k 0 := ⟨_, rfl⟩
      obtain ⟨y, hyy⟩ : ∃ y, y = ys.getD k 0 := ⟨_, rfl⟩
      have hc1 : wr.drew.cell? ⟨b1, k, none⟩ = some (.int .i64 x) := by rw [blk_cell (w := wr.drew) h3.b1, vec_get (midL_len k) hlt, midL_get hlt, hxx]
      have hc2 : wr.drew.cell? ⟨b2, k, none⟩ = some (.int .i64 y) := by rw [blk_cell (w := wr.drew) h3.b2, HV2.out, vec_get hy.out hlt, hyy]
      have hf1 : wr.drew.frozen? ⟨b1, k, none⟩ = false := blk_frozen (w := wr.drew) h3.b1 k
      have hi1 : (k : Int) < 12 := by omega
      have hi2 : (0 : Int) ≤ (k : Int) := by omega
      have h4 := Lib.hid (h3.set n1.out n2.out n3.out k (.int .i64 (min x y)))
      have H5 : Hid (∃ V3, V3.size = 12 ∧ Jn w (wr.drew.setCell ⟨b1, k, none⟩ (.int .i64 (min x y))) b1 b2 b3 (ivs (midL min xs ys (k + 1))).toArray V2 V3) := by
        refine ⟨V3, hV3, ?_⟩
        rw [← midL_step hlt, ← hxx, ← hyy]; exact h4.out
      clear h4 h3 hV3 hxx hyy
      have HC := isop_min x y
      go_wp2_with fail
      go_region_with
        (first
          | (go_at_call 37; refine (HC _).mono ?_; rintro en w3 ⟨rfl, rfl⟩)
          | (refine (HC _).mono ?_; rintro en w3 ⟨rfl, rfl⟩)
          | fail)
      all_goals
        go_wp2_with fail
        go_roundw
        case rel => exact ⟨k + 1, by go_num, by omega, H5⟩
        case measure => simp [intOf]; omega
    · obtain ⟨V3, hV3, h3⟩ := h3.out
      have hk12 : k = 12 := by omega
      have hen : ¬ ((k : Nat) : Int) < 12 := by omega
      obtain ⟨V, hV⟩ : ∃ V, V = (ivs (joinL min xs ys)).toArray := ⟨_, rfl⟩
      have hb := h3.b1
      rw [hk12, midL_all, ← hV] at hb
      have hVs : V.size = 12 := by rw [hV]; exact vec_size joinL_len
      have hVo : ∀ v ∈ V, v.oneCell' = true := by rw [hV]; exact vec_one _
      have hb3 := h3.b3
      have HBL := Lib.hid h3.bl
      have HV := Lib.hid hV
      clear h3 hV
      go_wp2_with (first
        | refine ld_vec (o := ⟨some 22, _, _, _, _, _⟩) rfl (.tmp 3) rfl b1 rfl V hb hVs ?_
        | refine st_vec (o := ⟨none, .store _ (.tmp 6) (.tmp 22), _, _, _, _⟩) rfl (.tmp 6) (.tmp 22) rfl b3 V V3 rfl rfl hb3 hV3 hVs hVo ?_)
      refine bodyPost_ret (join_res (setRow_heap _ _ _ V _ _ hb3) hVs rfl) rfl ⟨?_, below_setRow HBL.out n4.out _⟩
      rw [HV.out]
end Go.Proofs.Ytckfopdkknckcaa
