/- versionvector: awake. -/
import Derived.Test.YtckfopdkknckcaaVecE
import Derived.Test.YtckfopdkknckcaaVecF
import Derived.Test.YtckfopdkknckcaaVecG
import Derived.Test.YtckfopdkknckcaaVecH
import Derived.Test.YtckfopdkknckcaaWireL
set_option linter.unusedVariables false
set_option linter.unusedSimpArgs false
namespace Go.Proofs.Ytckfopdkknckcaa
open Go.RowKit
attribute [local irreducible] wpList

def LawP (w : World) (en : Ending) (w' : World) : Prop := en = .returned (.bool true) ∧ Below w.heap.size w w'
theorem law_ret {w w' : World} {b : Bool} (h : b = true) (hb : Below w.heap.size w w') : LawP w (.returned (.bool b)) w' := ⟨ret_bool h, hb⟩

theorem aw_cmp1 : cmpR [1] [1, 1] = (1, 0) := by decide
theorem aw_cmp2 : cmpR [2, 0] [1, 1] = (3, 0) := by decide
theorem aw_mrg : mergeR max [[2, 0, 0], [1, 1]] = ([2, 1], 0) := by decide
theorem aw_mis : missR [1] [3, 0, 2] = ([(0, 2, 3), (2, 1, 2)], 0) := by decide
theorem aw_enc : encR [1, 0, 300, 0] = ([3, 1, 0, 172, 2], 0) := by
  have h1 : okV [1, 0, 300, 0] = true := by decide
  have h2 : normL (padV [1, 0, 300, 0]) = [1, 0, 300] := by decide
  unfold encR
  rw [h1, if_pos rfl, h2]
  have n1 : num 3 = [3] := num_lt (by omega)
  have n2 : num 1 = [1] := num_lt (by omega)
  have n3 : num 0 = [0] := num_lt (by omega)
  have n4 : num 300 = [172, 2] := by rw [num_ge (by omega), num_lt (by omega)]; rfl
  simp [encI, n1, n2, n3, n4]
structure Lit2 (w W : World) (L1 L2 : List Value) : Prop where
  r1 : Rc (fun k => k = w.heap.size) W (some ⟨w.heap.size, 0, none⟩) L1
  r2 : Rc (fun k => k = w.heap.size + 1) W (some ⟨w.heap.size + 1, 0, none⟩) L2
  bl : Below w.heap.size w W
theorem lit2 (w : World) (c1 c2 : Array Value) (t t2 : TypeId) : Lit2 w ((w.alloc (.cells c1 t)).alloc (.cells c2 t2)) c1.toList c2.toList := by
  refine ⟨(Rc.lit w c1 t).alloc _, ?_, ((Below.refl _ _).alloc (Nat.le_refl _) _).alloc (by rw [size_alloc]; omega) _⟩
  have h := Rc.lit (w.alloc (.cells c1 t)) c2 t2
  rw [size_alloc] at h
  exact h
theorem aw_rl (w : World) : Rl (fun _ => True) (((w.alloc (.cells #[.int .i64 2, .int .i64 0, .int .i64 0] 3)).alloc (.cells #[.int .i64 1, .int .i64 1] 3)).alloc (.cells #[.slice (some ⟨w.heap.size, 0, none⟩) 3 3, .slice (some ⟨w.heap.size + 1, 0, none⟩) 2 2] 22)) (some ⟨w.heap.size + 2, 0, none⟩) [[2, 0, 0], [1, 1]] := by
  have h := lit2 w #[.int .i64 2, .int .i64 0, .int .i64 0] #[.int .i64 1, .int .i64 1] 3 3
  have hs : ((w.alloc (.cells #[.int .i64 2, .int .i64 0, .int .i64 0] 3)).alloc (.cells #[.int .i64 1, .int .i64 1] 3)).heap.size = w.heap.size + 2 := by rw [size_alloc, size_alloc]
  have hb := blk_new ((w.alloc (.cells #[.int .i64 2, .int .i64 0, .int .i64 0] 3)).alloc (.cells #[.int .i64 1, .int .i64 1] 3)) 22 #[.slice (some ⟨w.heap.size, 0, none⟩) 3 3, .slice (some ⟨w.heap.size + 1, 0, none⟩) 2 2]
  rw [hs] at hb
  intro i hi
  match i, hi with
  | 0, _ => exact ⟨_, _, 3, rfl, by rw [add_plain, blk_cell hb]; rfl, (h.r1.alloc _).mono (fun _ _ _ => trivial)⟩
  | 1, _ => exact ⟨_, _, 2, rfl, by rw [add_plain, blk_cell hb]; rfl, (h.r2.alloc _).mono (fun _ _ _ => trivial)⟩
theorem own_cells {w : World} {base size n c : Nat} {e : TypeId} {A : Option Addr} {xs : List Value} (h : w.ownsRow base e size (.slice A n c) n xs) (h0 : 0 < n) : ∃ g, A = some ⟨g, 0, none⟩ ∧ ∀ j u, xs[j]? = some u → w.cell? ⟨g, j, none⟩ = some u := by
  rcases h.2 with ⟨_, h2⟩ | ⟨g, cap, cur, hv, _, hh, _, _, hc, ht⟩
  · omega
  · injection hv with h1 h2 h3
    refine ⟨g, h1, fun j u hu => ?_⟩
    rw [blk_cell hh j]
    rw [← ht, List.getElem?_take] at hu
    split at hu
    · simpa using hu
    · cases hu

set_option maxRecDepth 100000 in
set_option maxHeartbeats 1600000 in
theorem awake_any (w : World) : Calls Try.prog 12 #[] w (LawP w) := by
  go_enter Try.func12, Try.ntmps12
  go_wp2_with fail
  have l1 := lit2 w #[.int .i64 1] #[.int .i64 1, .int .i64 1] 3 3
  refine (compare_any [1] [1, 1] _ _ 1 1 _ _ 2 2 _ l1.r1 (by show _ = _; rfl) (by show _ ≤ _; omega) l1.r2 (by show _ = _; rfl) (by show _ ≤ _; omega)).mono ?_
  rintro en w1 ⟨rfl, hb1⟩
  have hB1 := below_then l1.bl hb1 (Nat.le_refl _)
  rw [aw_cmp1]
  clear l1 hb1
  go_wp2_with fail
  have l2 := lit2 w1 #[.int .i64 2, .int .i64 0] #[.int .i64 1, .int .i64 1] 3 3
  refine (compare_any [2, 0] [1, 1] _ _ 2 2 _ _ 2 2 _ l2.r1 (by show _ = _; rfl) (by show _ ≤ _; omega) l2.r2 (by show _ = _; rfl) (by show _ ≤ _; omega)).mono ?_
  rintro en w2 ⟨rfl, hb2⟩
  have hB2 := below_then (below_then hB1 l2.bl (Nat.le_refl _)) hb2 (Nat.le_refl _)
  rw [aw_cmp2]
  clear l2 hb2 hB1
  go_wp2_with fail
  have l3 := aw_rl w2
  have b3 := (lit2 w2 #[.int .i64 2, .int .i64 0, .int .i64 0] #[.int .i64 1, .int .i64 1] 3 3).bl.alloc (Nat.le_trans (Nat.le_refl _) (lit2 w2 #[.int .i64 2, .int .i64 0, .int .i64 0] #[.int .i64 1, .int .i64 1] 3 3).bl.size) (.cells #[.slice (some ⟨w2.heap.size, 0, none⟩) 3 3, .slice (some ⟨w2.heap.size + 1, 0, none⟩) 2 2] 22)
  refine (merge_any [[2, 0, 0], [1, 1]] (fun _ => True) _ 2 2 _ l3 (by show _ = _; rfl) (by omega) (by intro x hx; simp at hx; rcases hx with rfl | rfl <;> simp)).mono ?_
  rintro en w3 ⟨Am, cm, rfl, hom, hb3⟩
  have hB3 := below_then (below_then hB2 b3 (Nat.le_refl _)) hb3 (Nat.le_refl _)
  rw [aw_mrg] at hom ⊢
  clear l3 b3 hb3 hB2
  go_wp2_with fail
  have l4 := lit2 w3 #[.int .i64 1] #[.int .i64 3, .int .i64 0, .int .i64 2] 3 3
  refine (missing_any [1] [3, 0, 2] _ _ 1 1 _ _ 3 3 _ l4.r1 (by show _ = _; rfl) (by show _ ≤ _; omega) l4.r2 (by show _ = _; rfl) (by show _ ≤ _; omega)).mono ?_
  rintro en w4 ⟨Al, cl, rfl, hol, hb4⟩
  have hB4 := below_then (below_then hB3 l4.bl (Nat.le_refl _)) hb4 (Nat.le_refl _)
  have hom4 := own_below (own_below hom l4.bl) hb4
  rw [aw_mis] at hol ⊢
  clear l4 hb4 hB3 hom
  go_wp2_with fail
  refine (encode_any [1, 0, 300, 0] _ _ 4 4 _ (Rc.lit w4 #[.int .i64 1, .int .i64 0, .int .i64 300, .int .i64 0] 3) (by show _ = _; rfl) (by show _ ≤ _; omega)).mono ?_
  rintro en w5 ⟨Ax, cx, rfl, hox, hb5⟩
  have b5 : Below w4.heap.size w4 (w4.alloc (.cells #[.int .i64 1, .int .i64 0, .int .i64 300, .int .i64 0] 3)) := (Below.refl _ _).alloc (Nat.le_refl _) _
  have hB5 := below_then (below_then hB4 b5 (Nat.le_refl _)) hb5 (Nat.le_refl _)
  have hom5 := own_below (own_below hom4 b5) hb5
  have hol5 := own_below (own_below hol b5) hb5
  rw [aw_enc] at hox ⊢
  clear b5 hb5 hB4 hom4 hol
  go_wp2_with fail
  have b6 : Below w5.heap.size w5 (w5.alloc (.cells #[.int .i64 2, .int .i64 1] 3)) := (Below.refl _ _).alloc (Nat.le_refl _) _
  refine (ints_any [2, 1] [2, 1] _ _ Am _ 2 cm 2 2 _ (Rc.of_own (own_below hom5 b6)) (Rc.lit w5 #[.int .i64 2, .int .i64 1] 3) (by show _ = _; rfl) (by show _ = _; rfl) (by omega)).mono ?_
  rintro en w6 ⟨rfl, n6, rfl⟩
  rw [show decide (([2, 1] : List Int) = [2, 1]) = true from rfl]
  have hB6 := below_drewN (below_then hB5 b6 (Nat.le_refl _)) n6
  have hol6 := ((Kp.refl (fun _ => False) (w5.alloc (.cells #[.int .i64 2, .int .i64 1] 3))).drewN n6).own (own_below hol5 b6) (fun _ _ h => h)
  have hox6 := ((Kp.refl (fun _ => False) (w5.alloc (.cells #[.int .i64 2, .int .i64 1] 3))).drewN n6).own (own_below hox b6) (fun _ _ h => h)
  clear b6 hom5 hol5 hox hB5
  revert hB6 hol6 hox6
  generalize ((w5.alloc (.cells #[.int .i64 2, .int .i64 1] 3)).drewN n6) = W6
  intro hB6 hol6 hox6
  obtain ⟨gl, rfl, hcl⟩ := own_cells hol6 (by decide)
  have q0 := hcl 0 (.int .i64 0) rfl
  have q1 := hcl 1 (.int .i64 2) rfl
  have q2 := hcl 2 (.int .i64 3) rfl
  have hsx := run_string_rc (P := Try.prog) 48 9 5 Try.underlying48 Try.underlying5 Try.underlying9 5 cx rfl (Rc.of_own hox6)
  clear hcl hol6 hox6
  go_wp2_with fail
  go_ret
  exact law_ret (by rw [Lib.toList_data]; rfl) hB6

set_option maxHeartbeats 400000 in
theorem few_any (A : Option Addr) (m c : Nat) (w : World) : Calls Try.prog 11 #[.slice A m c] w fun en w' => en = .returned (.bool (decide (m ≤ 20))) ∧ w' = w := by
  go_enter Try.func11, Try.ntmps11
  go_wp2
  go_ret
  refine ⟨?_, rfl⟩
  have : decide ((m : Int) ≤ 20) = decide (m ≤ 20) := by rw [decide_eq_decide]; omega
  rw [← this]
  rfl
end Go.Proofs.Ytckfopdkknckcaa
