/- versionvector: covers, normal, join. -/
import Derived.Test.YtckfopdkknckcaaVecA
set_option linter.unusedVariables false
set_option linter.unusedSimpArgs false
namespace Go.Proofs.Ytckfopdkknckcaa
open Go.RowKit

def covL (xs ys : List Int) : Bool := (List.range 12).all fun i => decide (ys.getD i 0 ≤ xs.getD i 0)
theorem vec_get {xs : List Int} {k : Nat} (h : xs.length = 12) (hk : k < 12) : (ivs xs).toArray[k]? = some (.int .i64 (xs.getD k 0)) := by
  rw [List.getElem?_toArray, ivs_get xs k (by omega)]
  simp [List.getD, h, hk]

/-- Two arrays that were laid one behind the other. -/
structure Two12 (w W : World) (b1 b2 : Nat) (V1 V2 : Array Value) : Prop where
  b1 : W.heap[b1]? = some (.cells V1 55 (0, 0))
  b2 : W.heap[b2]? = some (.cells V2 55 (0, 0))
  bl : Below w.heap.size w W
theorem two12 (w : World) (V1 V2 : Array Value) : Two12 w ((w.alloc (.cells V1 55)).alloc (.cells V2 55)) w.heap.size (w.heap.size + 1) V1 V2 := by
  refine ⟨blk_alloc (blk_new _ _ _) _, ?_, ((Below.refl _ _).alloc (Nat.le_refl _) _).alloc (by rw [size_alloc]; omega) _⟩
  rw [← size_alloc w (.cells V1 55)]
  exact blk_new _ _ _
theorem Two12.drewN {w W : World} {b1 b2 : Nat} {V1 V2 : Array Value} (h : Two12 w W b1 b2 V1 V2) (n : Nat) : Two12 w (W.drewN n) b1 b2 V1 V2 := ⟨h.b1, h.b2, below_drewN h.bl n⟩

set_option maxRecDepth 100000 in
set_option maxHeartbeats 800000 in
theorem covers_any (xs ys : List Int) (hx : Hid (xs.length = 12)) (hy : Hid (ys.length = 12)) (w : World) :
    Calls Try.prog 33 #[.agg (ivs xs).toArray, .agg (ivs ys).toArray] w fun en w' => en = .returned (.bool (covL xs ys)) ∧ Below w.heap.size w w' := by
  obtain ⟨r, hrr⟩ : ∃ r, r = covL xs ys := ⟨_, rfl⟩
  rw [← hrr]
  have HRR := Lib.hid hrr
  clear hrr
  obtain ⟨V1, hV1⟩ : ∃ V, V = (ivs xs).toArray := ⟨_, rfl⟩
  obtain ⟨V2, hV2⟩ : ∃ V, V = (ivs ys).toArray := ⟨_, rfl⟩
  rw [← hV1, ← hV2]
  have HV1 := Lib.hid hV1
  have HV2 := Lib.hid hV2
  clear hV1 hV2
  have h2 := two12 w V1 V2
  go_enter Try.func33, Try.ntmps33
  go_wp2_with fail
  revert h2
  generalize ((w.alloc (.cells V1 55)).alloc (.cells V2 55)) = W
  generalize hB2 : w.heap.size + 1 = b2
  generalize hB1 : w.heap.size = b1
  intro h2
  go_loopw [6] (fun i wr => ∃ (k : Nat), i = .int .i64 k ∧ k ≤ 12 ∧ Hid (Two12 w wr b1 b2 V1 V2) ∧ Hid (∀ j, j < k → ys.getD j 0 ≤ xs.getD j 0)) (fun i _ => 12 - (intOf i).toNat)
  case atStart => exact ⟨0, rfl, Nat.zero_le _, h2, fun j h => absurd h (by omega)⟩
  case round =>
    obtain ⟨k, rfl, hk, h3, hok⟩ := hrel
    clear h2
    by_cases hlt : k < 12
    · obtain ⟨x, hxx⟩ : ∃ x, x = xs.getD k 0 := ⟨_, rfl⟩
      obtain ⟨y, hyy⟩ : ∃ y, y = ys.getD k 0 := ⟨_, rfl⟩
      have hc1 : wr.cell? ⟨b1, k, none⟩ = some (.int .i64 x) := by rw [blk_cell h3.out.b1, HV1.out, vec_get hx.out hlt, hxx]
      have hc2 : wr.cell? ⟨b2, k, none⟩ = some (.int .i64 y) := by rw [blk_cell h3.out.b2, HV2.out, vec_get hy.out hlt, hyy]
      have hi1 : (k : Int) < 12 := by omega
      have hi2 : (0 : Int) ≤ (k : Int) := by omega
      have HX := Lib.hid hxx
      have HY := Lib.hid hyy
      clear hxx hyy
      by_cases hxy : x < y
      · have HNO := Lib.hid hxy
        have e1 : decide (x < y) = true := decide_eq_true hxy
        clear hxy
        go_wp2_with fail
        go_quiet (fail)
        go_wp2_with fail
        go_ret
        refine ⟨?_, hB1 ▸ below_drewN h3.out.bl _⟩
        rw [HRR.out]
        have : covL xs ys = false := by
          unfold covL
          rw [List.all_eq_false]
          exact ⟨k, by simp [hlt], by have := HNO.out; rw [← HX.out, ← HY.out]; simp; omega⟩
        rw [this]
        rfl
      · have HNO := Lib.hid hxy
        have e1 : decide (x < y) = false := decide_eq_false hxy
        clear hxy
        go_wp2_with fail
        go_quiet (fail)
        go_wp2_with fail
        go_roundw
        case rel => exact ⟨k + 1, by go_num, by omega, h3.out.drewN _, fun j hj => by
          rcases Nat.lt_or_ge j k with h5 | h5
          · exact hok.out j h5
          · obtain rfl : j = k := by omega
            rw [← HX.out, ← HY.out]; have := HNO.out; omega⟩
        case measure => simp [intOf]; omega
    · have hen : ¬ ((k : Nat) : Int) < 12 := by omega
      go_wp2_with fail
      go_ret
      refine ⟨?_, hB1 ▸ h3.out.bl⟩
      rw [HRR.out]
      have : covL xs ys = true := by
        unfold covL
        rw [List.all_eq_true]
        intro j hj
        have := hok.out j (by simp at hj; omega)
        simpa using this
      rw [this]
      rfl

def nlen (xs : List Int) : Nat → Nat
  | 0 => 0
  | n + 1 => if xs.getD n 0 = 0 then nlen xs n else n + 1
def normL (xs : List Int) : List Int := xs.take (nlen xs xs.length)
theorem nlen_le (xs : List Int) : ∀ n, nlen xs n ≤ n
  | 0 => Nat.le_refl _
  | n + 1 => by unfold nlen; split; exact Nat.le_succ_of_le (nlen_le xs n); exact Nat.le_refl _
theorem info_int : (Try.prog.info? 3).map (fun i => (i.zero, i.size, i.bytes)) = some (some (.int .i64 0), 1, 8) := by kernel_rfl

/-- The end of a call that gives a new row of numbers. -/
def IntsP (w : World) (xs : List Int) (en : Ending) (w' : World) : Prop :=
  ∃ A c, en = .returned (.slice A xs.length c) ∧ w'.ownsRow w.heap.size 3 1 (.slice A xs.length c) xs.length (ivs xs) ∧ Below w.heap.size w w'

set_option maxRecDepth 100000 in
set_option maxHeartbeats 800000 in
theorem normal_any (xs : List Int) (hx : Hid (xs.length = 12)) (w : World) :
    Calls Try.prog 39 #[.agg (ivs xs).toArray] w (IntsP w (normL xs)) := by
  obtain ⟨V1, hV1⟩ : ∃ V, V = (ivs xs).toArray := ⟨_, rfl⟩
  rw [← hV1]
  have HV1 := Lib.hid hV1
  clear hV1
  have hb := blk_new w 55 V1
  have hbl : Below w.heap.size w (w.alloc (.cells V1 55)) := (Below.refl _ _).alloc (Nat.le_refl _) _
  go_enter Try.func39, Try.ntmps39
  go_wp2_with fail
  revert hb hbl
  generalize (w.alloc (.cells V1 55)) = W
  generalize hB1 : w.heap.size = b1
  intro hb hbl
  go_loopw [3] (fun i wr => ∃ (k : Nat), i = .int .i64 k ∧ k ≤ 12 ∧ Hid (wr = W) ∧ Hid (nlen xs 12 = nlen xs k)) (fun i _ => (intOf i).toNat)
  case atStart => exact ⟨12, rfl, Nat.le_refl _, rfl, rfl⟩
  case round =>
    obtain ⟨k, rfl, hk, hw, hnl⟩ := hrel
    have hb5 : Hid (wr.heap[b1]? = some (.cells V1 55 (0, 0))) := by show _ = _; rw [hw.out]; exact hb
    have hbl5 : Below b1 w wr := by rw [hw.out]; exact hbl
    clear hb hbl
    by_cases h0 : k = 0
    · subst h0
      have hnn : normL xs = [] := by unfold normL; rw [hx.out, hnl.out]; rfl
      have HNN := Lib.hid hnn
      clear hnn
      go_wp2_with fail
      go_ret
      rw [HNN.out]
      exact ⟨none, 0, rfl, own_nil _ _ _ _, hB1 ▸ hbl5⟩
    · obtain ⟨j, rfl⟩ : ∃ j, k = j + 1 := ⟨k - 1, by omega⟩
      obtain ⟨x, hxx⟩ : ∃ x, x = xs.getD j 0 := ⟨_, rfl⟩
      have hc1 : wr.cell? ⟨b1, j, none⟩ = some (.int .i64 x) := by rw [blk_cell hb5.out, HV1.out, vec_get hx.out (by omega), hxx]
      have hi1 : (0 : Int) < ((j + 1 : Nat) : Int) := by omega
      have hs1 : (0 : Int) ≤ (j : Int) + 1 := by omega
      have hs2 : (j : Int) + 1 ≤ 12 := by omega
      have HXX := Lib.hid hxx
      clear hxx
      by_cases hx0 : x = 0
      · subst hx0
        go_wp2_with fail
        go_roundw
        case rel => exact ⟨j, by go_num, by omega, hw, by
          show _ = _
          rw [hnl.out, nlen, if_pos HXX.out.symm]⟩
        case measure => (first | (simp [intOf]; done) | (simp [intOf]; omega))
      · have hxf : (x == 0) = false := by rw [beq_eq_false_iff_ne]; exact hx0
        have hnz : Hid (¬ xs.getD j 0 = 0) := by show ¬ _ = _; rw [← HXX.out]; exact hx0
        clear hx0
        have hrc : Rc (fun i => i = b1) wr (some ⟨b1, 0, none⟩) (ivs (xs.take (j + 1))) := by
          have h9 := (Rc.blk hb5.out).take (j + 1)
          have : V1.toList.take (j + 1) = ivs (xs.take (j + 1)) := by rw [HV1.out]; simp [ivs]
          rw [this] at h9
          exact h9
        have hlen : (xs.take (j + 1)).length = j + 1 := by rw [List.length_take, hx.out]; omega
        have hnn : normL xs = xs.take (j + 1) := by unfold normL; rw [hx.out, hnl.out]; rw [nlen, if_neg hnz.out]
        have HNN := Lib.hid hnn
        have hsz5 : w.heap.size ≤ wr.heap.size := by have := hbl5.size; omega
        clear hnn
        go_wp2_with (at_builtin; refine wpl_append w.heap.size rfl _ _ 22 3 (.int .i64 0) 1 8 rfl Try.underlying22 info_int rfl (by omega) (by omega) (.slice none 0 0) 0 [] (fun i => i = b1) (some ⟨b1, 0, none⟩) (j + 1) 12 (ivs (xs.take (j + 1))) rfl rfl (own_nil _ _ _ _) hrc (by rw [ivs_length, hlen]; omega) (ivs_one _) hsz5 (by omega) ?_)
        intro v1 w1 hown1 hg1 hat1
        have hb6 : Below w.heap.size w w1 := (hB1 ▸ hbl5).grown hg1 hsz5 (by intro k hk; simp [Value.ownBlock] at hk)
        obtain ⟨A1, c1, rfl, _, _⟩ := own_slice hown1
        go_wp2_with fail
        go_ret
        rw [HNN.out]
        refine ⟨A1, c1, ?_, ?_, hb6⟩
        · rw [hlen]; rfl
        · rw [hlen]; exact hB1 ▸ hown1

/-- What a function that is handed on computes. -/
def IsOp (f : FuncId) (op : Int → Int → Int) : Prop := ∀ (a b : Int) (w : World), Calls Try.prog f #[.int .i64 a, .int .i64 b] w fun en w' => en = .returned (.int .i64 (op a b)) ∧ w' = w
def joinL (op : Int → Int → Int) (xs ys : List Int) : List Int := (List.range 12).map fun i => op (xs.getD i 0) (ys.getD i 0)

set_option maxHeartbeats 400000 in
theorem isop_max : IsOp 36 max := by
  intro a b w
  go_enter Try.func36, Try.ntmps36
  go_wp2
  go_ret
  exact ⟨rfl, rfl⟩
set_option maxHeartbeats 400000 in
theorem isop_min : IsOp 37 min := by
  intro a b w
  go_enter Try.func37, Try.ntmps37
  go_wp2
  go_ret
  exact ⟨rfl, rfl⟩

theorem join_res {w : World} {g : Nat} {V : Array Value} {tmps : Array Value} (h : w.heap[g]? = some (.cells V 55 (0, 0))) (hV : V.size = 12) (ht : tmps.getD 6 undef = .pointer (some ⟨g, 0, none⟩)) :
    (results Try.f52 tmps).run Try.prog w = .ok (.agg V) w :=
  results_cell_row (fn := Try.f52) (p := 6) (ty := 55) (by kernel_rfl) tmps w g _ V (0, 0) (.array 12 3) ht h (by kernel_rfl) rfl (vec_info hV)

/-- The array that the loop has turned up to k. -/
def midL (op : Int → Int → Int) (xs ys : List Int) (k : Nat) : List Int := (List.range 12).map fun i => if i < k then op (xs.getD i 0) (ys.getD i 0) else xs.getD i 0
theorem midL_zero {op : Int → Int → Int} {xs ys : List Int} (hx : xs.length = 12) : midL op xs ys 0 = xs := by
  apply List.ext_getElem?
  intro i
  unfold midL
  by_cases h : i < 12
  · simp [h, hx, List.getD]
  · simp [h, hx]
theorem midL_all {op : Int → Int → Int} {xs ys : List Int} : midL op xs ys 12 = joinL op xs ys := by
  unfold midL joinL
  apply List.map_congr_left
  intro i hi
  rw [if_pos (by simpa using hi)]
theorem midL_step {op : Int → Int → Int} {xs ys : List Int} {k : Nat} (hk : k < 12) : (ivs (midL op xs ys k)).toArray.setIfInBounds k (.int .i64 (op (xs.getD k 0) (ys.getD k 0))) = (ivs (midL op xs ys (k + 1))).toArray := by
  apply Array.ext_getElem?
  intro i
  rw [Array.getElem?_setIfInBounds]
  unfold midL ivs
  by_cases h : k = i
  · subst h
    simp [hk]
  · by_cases h2 : i < 12
    · simp [h, h2]
      by_cases h3 : i < k
      · simp [h3, Nat.lt_succ_of_lt h3]
      · simp [h3, show ¬ i < k + 1 by omega]
    · simp [h, h2]
theorem midL_len {op : Int → Int → Int} {xs ys : List Int} (k : Nat) : (midL op xs ys k).length = 12 := by unfold midL; simp
theorem joinL_len {op : Int → Int → Int} {xs ys : List Int} : (joinL op xs ys).length = 12 := by unfold joinL; simp
theorem midL_get {op : Int → Int → Int} {xs ys : List Int} {k : Nat} (hk : k < 12) : (midL op xs ys k).getD k 0 = xs.getD k 0 := by
  unfold midL; simp [List.getD, hk]
end Go.Proofs.Ytckfopdkknckcaa
