/- The reference's Join and Common. -/
import Derived.Test.YtckfopdkknckcaaVecL
set_option linter.unusedVariables false
set_option linter.unusedSimpArgs false
namespace Go.Proofs.Ytckfopdkknckcaa
open Go.RowKit
attribute [local irreducible] wpList

def joinK (op : Int → Int → Int) (xs ys : List Int) (k : Nat) : List Int := (List.range k).map fun i => op (xs.getD i 0) (ys.getD i 0)
theorem joinK_succ (op : Int → Int → Int) (xs ys : List Int) (k : Nat) : joinK op xs ys (k + 1) = joinK op xs ys k ++ [op (xs.getD k 0) (ys.getD k 0)] := by
  unfold joinK; rw [List.range_succ, List.map_append]; rfl
theorem joinK_len (op : Int → Int → Int) (xs ys : List Int) (k : Nat) : (joinK op xs ys k).length = k := by unfold joinK; simp
/-- The row that grows. -/
structure Gr (w W : World) (v : Value) (L : List Int) : Prop where
  row : W.ownsRow w.heap.size 3 1 v L.length (ivs L)
  bl : Below w.heap.size w W

set_option maxRecDepth 100000 in
set_option maxHeartbeats 1600000 in
theorem rjoin_any (xs ys : List Int) (S S' : Nat → Prop) (A A' : Option Addr) (m c m' c' : Nat) (w : World) (hx : Rc S w A (ivs xs)) (hy : Rc S' w A' (ivs ys)) (hm : Hid (xs.length = m)) (hm' : Hid (ys.length = m')) :
    Calls Try.prog 20 #[.slice A m c, .slice A' m' c'] w (IntsP w (normL (joinL max xs ys))) := by
  obtain ⟨q, hq⟩ : ∃ q, q = normL (joinL max xs ys) := ⟨_, rfl⟩
  rw [← hq]
  have HQ := Lib.hid hq
  clear hq
  have hg0 : Hid (Gr w (w.alloc (.cells #[] 3)) (.slice (some ⟨w.heap.size, 0, none⟩) 0 0) (joinK max xs ys 0)) := ⟨own_lit0i w, (Below.refl _ _).alloc (Nat.le_refl _) _⟩
  go_enter Try.func20, Try.ntmps20
  go_wp2_with fail
  revert hg0
  generalize (w.alloc (.cells #[] 3)) = W0
  generalize (Value.slice (some ⟨w.heap.size, 0, none⟩) 0 0) = v0
  intro hg0
  go_loopw [5, 6] (fun o i wr => ∃ (k : Nat) (v : Value), o = v ∧ i = .int .i64 k ∧ k ≤ 12 ∧ Hid (Gr w wr v (joinK max xs ys k))) (fun _ i _ => 12 - (intOf i).toNat)
  case atStart => exact ⟨0, _, rfl, rfl, Nat.zero_le _, hg0⟩
  case round =>
    obtain ⟨k, v, rfl, rfl, hk, hgr⟩ := hrel
    clear hg0
    by_cases hlt : k < 12
    · have hi1 : (k : Int) < 12 := by omega
      have hi2 : (0 : Int) ≤ (k : Int) := by omega
      have hxw := hx.below hgr.out.bl
      have hyw := hy.below hgr.out.bl
      go_wp2_with fail
      refine (rget_any xs S A m c k wr hxw hm).mono ?_
      rintro en w4 ⟨rfl, rfl⟩
      obtain ⟨x, hxx⟩ : ∃ x, x = xs.getD k 0 := ⟨_, rfl⟩
      rw [← hxx]
      have HX := Lib.hid hxx
      clear hxx
      go_wp2_with fail
      refine (rget_any ys S' A' m' c' k _ hyw hm').mono ?_
      rintro en w5 ⟨rfl, rfl⟩
      obtain ⟨y, hyy⟩ : ∃ y, y = ys.getD k 0 := ⟨_, rfl⟩
      rw [← hyy]
      have HY := Lib.hid hyy
      clear hyy hxw hyw
      have hjs := joinK_succ max xs ys k
      rw [← HX.out, ← HY.out] at hjs
      have HJS := Lib.hid hjs
      have hjl := joinK_len max xs ys k
      obtain ⟨L, hL⟩ : ∃ L, L = joinK max xs ys k := ⟨_, rfl⟩
      rw [← hL] at hgr hjl
      have HL := Lib.hid hL
      have hrow := hgr.out.row
      have hbl := hgr.out.bl
      have hsz := size_alloc w5 (.cells #[.int .i64 (max x y)] 3)
      clear hjs hL hgr
      go_wp2_with (at_builtin; refine wpl_append w.heap.size rfl (.tmp 12) (.tmp 20) 22 3 (.int .i64 0) 1 8 rfl Try.underlying22 info_int rfl (by omega) (by omega) u5 L.length (ivs L) (fun i => i = w5.heap.size) (some ⟨w5.heap.size, 0, none⟩) 1 1 [.int .i64 (max x y)] rfl rfl (own_below hrow ((Below.refl _ _).alloc (Nat.le_refl _) _)) (Rc.lit w5 #[.int .i64 (max x y)] _) rfl (by intro u hu; simp at hu; subst hu; rfl) (by have := hbl.size; omega) (by omega) ?_)
      intro v1 w1 hown1 hg1 hat1
      have hg7 : Hid (Gr w w1 v1 (joinK max xs ys (k + 1))) := by
        refine ⟨?_, (below_alloc hbl (Nat.le_refl _) _).grown hg1 (by have := hbl.size; omega) (by intro i hi; have := own_lt hrow hi; omega)⟩
        rw [HJS.out, ← HL.out, List.length_append]
        have : ivs (L ++ [max x y]) = ivs L ++ [.int .i64 (max x y)] := by unfold ivs; rw [List.map_append]; rfl
        rw [this, hjl]; exact hown1
      clear hown1 hg1 hat1 hrow hbl
      go_wp2_with fail
      go_roundw
      case rel => exact ⟨k + 1, v1, rfl, by go_num, by omega, hg7⟩
      case measure => simp [intOf]; omega
    · have hk12 : k = 12 := by omega
      have hen : ¬ ((k : Nat) : Int) < 12 := by omega
      have hrow := hgr.out.row
      have hbl := Lib.hid hgr.out.bl
      rw [hk12] at hrow
      have hjk : joinK max xs ys 12 = joinL max xs ys := rfl
      rw [hjk] at hrow
      have hl := joinL_len (op := max) (xs := xs) (ys := ys)
      rw [hl] at hrow
      obtain ⟨A5, c5, rfl, hcc, _⟩ := own_slice hrow
      have HN := rnormal_any (joinL max xs ys) _ A5 12 c5 wr (Rc.of_own hrow) hl (by omega) hcc
      rw [← HQ.out] at HN
      clear hgr hrow hjk hl
      go_wp2_with fail
      refine HN.mono ?_
      rintro en w6 ⟨A6, c6, rfl, ho6, hb6⟩
      have hB := Lib.hid (below_then hbl.out hb6 (Nat.le_refl _))
      have ho7 := Lib.hid (own_weaken ho6 hbl.out.size)
      clear ho6 hb6 HN
      go_wp2_with fail
      go_ret
      exact ⟨A6, c6, rfl, ho7.out, hB.out⟩

set_option maxRecDepth 100000 in
set_option maxHeartbeats 1600000 in
theorem rcommon_any (xs ys : List Int) (S S' : Nat → Prop) (A A' : Option Addr) (m c m' c' : Nat) (w : World) (hx : Rc S w A (ivs xs)) (hy : Rc S' w A' (ivs ys)) (hm : Hid (xs.length = m)) (hm' : Hid (ys.length = m')) :
    Calls Try.prog 22 #[.slice A m c, .slice A' m' c'] w (IntsP w (normL (joinL min xs ys))) := by
  obtain ⟨q, hq⟩ : ∃ q, q = normL (joinL min xs ys) := ⟨_, rfl⟩
  rw [← hq]
  have HQ := Lib.hid hq
  clear hq
  have hg0 : Hid (Gr w (w.alloc (.cells #[] 3)) (.slice (some ⟨w.heap.size, 0, none⟩) 0 0) (joinK min xs ys 0)) := ⟨own_lit0i w, (Below.refl _ _).alloc (Nat.le_refl _) _⟩
  go_enter Try.func22, Try.ntmps22
  go_wp2_with fail
  revert hg0
  generalize (w.alloc (.cells #[] 3)) = W0
  generalize (Value.slice (some ⟨w.heap.size, 0, none⟩) 0 0) = v0
  intro hg0
  go_loopw [5, 6] (fun o i wr => ∃ (k : Nat) (v : Value), o = v ∧ i = .int .i64 k ∧ k ≤ 12 ∧ Hid (Gr w wr v (joinK min xs ys k))) (fun _ i _ => 12 - (intOf i).toNat)
  case atStart => exact ⟨0, _, rfl, rfl, Nat.zero_le _, hg0⟩
  case round =>
    obtain ⟨k, v, rfl, rfl, hk, hgr⟩ := hrel
    clear hg0
    by_cases hlt : k < 12
    · have hi1 : (k : Int) < 12 := by omega
      have hi2 : (0 : Int) ≤ (k : Int) := by omega
      have hxw := hx.below hgr.out.bl
      have hyw := hy.below hgr.out.bl
      go_wp2_with fail
      refine (rget_any xs S A m c k wr hxw hm).mono ?_
      rintro en w4 ⟨rfl, rfl⟩
      obtain ⟨x, hxx⟩ : ∃ x, x = xs.getD k 0 := ⟨_, rfl⟩
      rw [← hxx]
      have HX := Lib.hid hxx
      clear hxx
      go_wp2_with fail
      refine (rget_any ys S' A' m' c' k _ hyw hm').mono ?_
      rintro en w5 ⟨rfl, rfl⟩
      obtain ⟨y, hyy⟩ : ∃ y, y = ys.getD k 0 := ⟨_, rfl⟩
      rw [← hyy]
      have HY := Lib.hid hyy
      clear hyy hxw hyw
      have hjs := joinK_succ min xs ys k
      rw [← HX.out, ← HY.out] at hjs
      have HJS := Lib.hid hjs
      have hjl := joinK_len min xs ys k
      obtain ⟨L, hL⟩ : ∃ L, L = joinK min xs ys k := ⟨_, rfl⟩
      rw [← hL] at hgr hjl
      have HL := Lib.hid hL
      have hrow := hgr.out.row
      have hbl := hgr.out.bl
      have hsz := size_alloc w5 (.cells #[.int .i64 (min x y)] 3)
      clear hjs hL hgr
      go_wp2_with (at_builtin; refine wpl_append w.heap.size rfl (.tmp 12) (.tmp 20) 22 3 (.int .i64 0) 1 8 rfl Try.underlying22 info_int rfl (by omega) (by omega) u5 L.length (ivs L) (fun i => i = w5.heap.size) (some ⟨w5.heap.size, 0, none⟩) 1 1 [.int .i64 (min x y)] rfl rfl (own_below hrow ((Below.refl _ _).alloc (Nat.le_refl _) _)) (Rc.lit w5 #[.int .i64 (min x y)] _) rfl (by intro u hu; simp at hu; subst hu; rfl) (by have := hbl.size; omega) (by omega) ?_)
      intro v1 w1 hown1 hg1 hat1
      have hg7 : Hid (Gr w w1 v1 (joinK min xs ys (k + 1))) := by
        refine ⟨?_, (below_alloc hbl (Nat.le_refl _) _).grown hg1 (by have := hbl.size; omega) (by intro i hi; have := own_lt hrow hi; omega)⟩
        rw [HJS.out, ← HL.out, List.length_append]
        have : ivs (L ++ [min x y]) = ivs L ++ [.int .i64 (min x y)] := by unfold ivs; rw [List.map_append]; rfl
        rw [this, hjl]; exact hown1
      clear hown1 hg1 hat1 hrow hbl
      go_wp2_with fail
      go_roundw
      case rel => exact ⟨k + 1, v1, rfl, by go_num, by omega, hg7⟩
      case measure => simp [intOf]; omega
    · have hk12 : k = 12 := by omega
      have hen : ¬ ((k : Nat) : Int) < 12 := by omega
      have hrow := hgr.out.row
      have hbl := Lib.hid hgr.out.bl
      rw [hk12] at hrow
      have hjk : joinK min xs ys 12 = joinL min xs ys := rfl
      rw [hjk] at hrow
      have hl := joinL_len (op := min) (xs := xs) (ys := ys)
      rw [hl] at hrow
      obtain ⟨A5, c5, rfl, hcc, _⟩ := own_slice hrow
      have HN := rnormal_any (joinL min xs ys) _ A5 12 c5 wr (Rc.of_own hrow) hl (by omega) hcc
      rw [← HQ.out] at HN
      clear hgr hrow hjk hl
      go_wp2_with fail
      refine HN.mono ?_
      rintro en w6 ⟨A6, c6, rfl, ho6, hb6⟩
      have hB := Lib.hid (below_then hbl.out hb6 (Nat.le_refl _))
      have ho7 := Lib.hid (own_weaken ho6 hbl.out.size)
      clear ho6 hb6 HN
      go_wp2_with fail
      go_ret
      exact ⟨A6, c6, rfl, ho7.out, hB.out⟩
end Go.Proofs.Ytckfopdkknckcaa
