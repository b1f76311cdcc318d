/- versionvector: padded. -/
import Derived.Test.YtckfopdkknckcaaWireP
import Derived.Test.YtckfopdkknckcaaOpen
import Derived.Deep.RegionHeld3
import Derived.Deep.WholeRow
import Derived.Deep.QuietTactic
import Derived.BigQuiet
set_option linter.unusedVariables false
set_option linter.unusedSimpArgs false
namespace Go.Proofs.Ytckfopdkknckcaa
open Go.RowKit
attribute [local irreducible] wpList

theorem ivs_length (xs : List Int) : (ivs xs).length = xs.length := by simp [ivs]
theorem ivs_get (xs : List Int) (k : Nat) (h : k < xs.length) : (ivs xs)[k]? = some (.int .i64 xs[k]) := by simp [ivs, h]
theorem ivs_one (xs : List Int) : ∀ u ∈ ivs xs, u.oneCell' = true := by
  intro u hu
  obtain ⟨b, _, rfl⟩ := List.mem_map.1 hu
  rfl
def okN (n : Int) : Bool := decide (0 ≤ n ∧ n ≤ 1099511627776)
def okV (xs : List Int) : Bool := decide (xs.length ≤ 12) && xs.all okN
def padV (xs : List Int) : List Int := if okV xs then xs ++ List.replicate (12 - xs.length) 0 else List.replicate 12 0
theorem padV_length (xs : List Int) : (padV xs).length = 12 := by
  unfold padV
  split
  · rename_i h
    unfold okV at h
    simp at h
    simp; omega
  · simp

set_option maxHeartbeats 400000 in
theorem padded1_any (n : Int) (w : World) :
    Calls Try.prog 50 #[.int .i64 n] w fun en w' => en = .returned (.bool (!okN n)) ∧ w' = w := by
  have key : (!okN n) = (decide (n < 0) || decide (1099511627776 < n)) := by
    unfold okN
    rw [Bool.eq_iff_iff]
    simp
  rw [key]
  clear key
  by_cases h1 : n < 0
  · go_enter Try.func50, Try.ntmps50
    go_wp2
    go_ret
    simp [h1]
  · go_enter Try.func50, Try.ntmps50
    go_wp2
    go_ret
    simp [h1]
    omega

set_option maxHeartbeats 800000 in
theorem index_any (xs : List Int) (S : Nat → Prop) (A : Option Addr) (m c : Nat) (w : World) (hr : Rc S w A (ivs xs)) (hm : Hid (xs.length = m)) (h12 : m ≤ 12) :
    Calls Try.prog 60 #[.slice A m c, .func (Fn.func 50) #[] #[]] w fun en w' => ∃ j : Int, en = .returned (.int .i64 j) ∧ Hid (decide (0 ≤ j) = !(xs.all okN)) ∧ w' = w := by
  go_enter Try.func60, Try.ntmps60
  go_wp2_with fail
  go_loopw [8] (fun i wr => ∃ (k : Nat), i = .int .i64 k ∧ k ≤ m ∧ Hid (wr = w) ∧ Hid (∀ j (h : j < xs.length), j < k → okN xs[j] = true)) (fun i _ => m - (intOf i).toNat)
  case atStart => exact ⟨0, rfl, Nat.zero_le _, rfl, fun j h h0 => absurd h0 (by omega)⟩
  case round =>
    obtain ⟨k, rfl, hk, hwr, hok⟩ := hrel
    by_cases hlt : k < m
    · have hkl : k < xs.length := by have := hm.out; omega
      have hrw : Rc S wr A (ivs xs) := by rw [hwr.out]; exact hr
      obtain ⟨ad, rfl, _, hc⟩ := hrw.at_ (ivs_get xs k hkl)
      have hi1 : (k : Int) < (m : Int) := by omega
      have hi2 : (0 : Int) ≤ (k : Int) := by omega
      obtain ⟨x, hx⟩ : ∃ x, x = xs[k] := ⟨_, rfl⟩
      rw [← hx] at hc
      have HX := Lib.hid hx
      clear hx hrw
      go_wp2_with fail
      refine (padded1_any x wr).mono ?_
      rintro en w' ⟨rfl, rfl⟩
      by_cases hox : okN x = true
      · rw [hox]
        have HOX := Lib.hid hox
        clear hox
        go_wp2_with fail
        go_roundw
        case rel => exact ⟨k + 1, by go_num, by omega, hwr, by
          intro j h hj
          rcases Nat.lt_or_ge j k with h3 | h3
          · exact hok.out j h h3
          · obtain rfl : j = k := by omega
            rw [← HX.out]; exact HOX.out⟩
        case measure => simp [intOf]; omega
      · have hof : okN x = false := by simpa using hox
        rw [hof]
        have HOF := Lib.hid hof
        clear hof hox
        go_wp2_with fail
        go_ret
        refine ⟨(k : Int), rfl, ?_, hwr.out⟩
        show _ = _
        have : xs.all okN = false := by
          rw [List.all_eq_false]
          exact ⟨x, by rw [HX.out]; exact List.getElem_mem _, by simp [HOF.out]⟩
        rw [this]
        simp
    · have hen : ¬ ((k : Nat) : Int) < (m : Int) := by omega
      go_wp2_with fail
      go_ret
      refine ⟨-1, rfl, ?_, hwr.out⟩
      show _ = _
      have : xs.all okN = true := by
        rw [List.all_eq_true]
        intro x hx
        obtain ⟨j, hj, rfl⟩ := List.getElem_of_mem hx
        exact hok.out j hj (by have := hm.out; omega)
      rw [this]
      rfl

set_option maxHeartbeats 400000 in
theorem contains_any (xs : List Int) (S : Nat → Prop) (A : Option Addr) (m c : Nat) (w : World) (hr : Rc S w A (ivs xs)) (hm : Hid (xs.length = m)) (h12 : m ≤ 12) :
    Calls Try.prog 49 #[.slice A m c, .func (Fn.func 50) #[] #[]] w fun en w' => en = .returned (.bool (!(xs.all okN))) ∧ w' = w := by
  go_enter Try.func49, Try.ntmps49
  go_wp2_with fail
  refine (index_any xs S A m c w hr hm h12).mono ?_
  rintro en w' ⟨j, rfl, hj, rfl⟩
  go_wp2_with fail
  go_ret
  refine ⟨?_, rfl⟩
  rw [← hj.out]
  rfl

theorem run_load12 {w : World} {g : Nat} {t : TypeId} {V : Array Value} (h : w.heap[g]? = some (.cells V t (0, 0))) (hV : V.size = 12) :
    (loadCellsFrom ⟨g, 0, none⟩ 0 12 #[]).run Try.prog w = .ok V w := by
  have := run_loadCells_list (P := Try.prog) w ⟨g, 0, none⟩ V.toList (fun j v hv => by
    have hadd : (⟨g, 0, none⟩ : Addr).add j = ⟨g, j, none⟩ := by unfold Addr.add; split <;> simp_all
    rw [hadd, blk_cell h j]
    simpa using hv)
  rw [← hV]
  simpa [loadCells] using this

theorem size_alloc (w : World) (o : Obj) : (w.alloc o).heap.size = w.heap.size + 1 := Array.size_push _
/-- Two arrays of zeros, new. -/
structure Two0 (w W : World) : Prop where
  b1 : W.heap[w.heap.size]? = some (.cells (ivs (List.replicate 12 0)).toArray 55 (0, 0))
  b2 : W.heap[w.heap.size + 1]? = some (.cells (ivs (List.replicate 12 0)).toArray 55 (0, 0))
  bl : Below w.heap.size w W
theorem two0 (w : World) : Two0 w (((w.alloc (.cells #[.int .i64 0, .int .i64 0, .int .i64 0, .int .i64 0, .int .i64 0, .int .i64 0, .int .i64 0, .int .i64 0, .int .i64 0, .int .i64 0, .int .i64 0, .int .i64 0] 55)).alloc (.cells #[.int .i64 0, .int .i64 0, .int .i64 0, .int .i64 0, .int .i64 0, .int .i64 0, .int .i64 0, .int .i64 0, .int .i64 0, .int .i64 0, .int .i64 0, .int .i64 0] 55))) := by
  refine ⟨blk_alloc (blk_new _ _ _) _, ?_, ((Below.refl _ _).alloc (Nat.le_refl _) _).alloc (by rw [size_alloc]; omega) _⟩
  rw [← size_alloc w (.cells #[.int .i64 0, .int .i64 0, .int .i64 0, .int .i64 0, .int .i64 0, .int .i64 0, .int .i64 0, .int .i64 0, .int .i64 0, .int .i64 0, .int .i64 0, .int .i64 0] 55)]
  exact blk_new _ _ _
theorem run_store12 {w : World} {g : Nat} {t : TypeId} {old V : Array Value} (h : w.heap[g]? = some (.cells old t (0, 0))) (ho : old.size = 12) (hV : V.size = 12) (h1 : ∀ v ∈ V, v.oneCell' = true) :
    (storeCells ⟨g, 0, none⟩ V.toList 0).run Try.prog w = .ok () (w.setRow g V) :=
  run_storeCells_from (P := Try.prog) g t V.toList 0 old w h (by simp; omega) (fun v hv => h1 v (by simpa using hv))
theorem vec_size {xs : List Int} (h : xs.length = 12) : (ivs xs).toArray.size = 12 := by simp [ivs, h]
theorem vec_one (xs : List Int) : ∀ v ∈ (ivs xs).toArray, v.oneCell' = true := fun v hv => ivs_one xs v (by simpa using hv)

section
variable {ops : Array Oper} {rest : List Oper} {o : Oper} {a : Act} {w : World} {Q : Exit → Act → World → Prop}
theorem vec_info {V : Array Value} (hV : V.size = 12) : (Try.prog.info? 55).map (·.size) = some V.size := by rw [hV]; kernel_rfl
theorem ld_vec (hgd : o.guard = none) (x : Operand) (ho : o.op = .load 55 x) (g : Nat) (hx : a.eval x = .pointer (some ⟨g, 0, none⟩)) (V : Array Value) (hg : w.heap[g]? = some (.cells V 55 (0, 0)))
    (hV : V.size = 12) (h : wpList Try.prog ops Q rest (a.put o.dst (.agg V)) w) : wpList Try.prog ops Q (o :: rest) a w :=
  wpList_load_row hgd _ x ho g hx _ V (0, 0) (.array 12 3) hg (by kernel_rfl) rfl (vec_info hV) h
theorem st_vec (hgd : o.guard = none) (x y : Operand) (ho : o.op = .store 55 x y) (g : Nat) (V old : Array Value) (hx : a.eval x = .pointer (some ⟨g, 0, none⟩)) (hy : a.eval y = .agg V) (hg : w.heap[g]? = some (.cells old 55 (0, 0)))
    (hold : old.size = 12) (hV : V.size = 12) (h1 : ∀ v ∈ V, v.oneCell' = true) (h : wpList Try.prog ops Q rest (a.put o.dst undef) (w.setRow g V)) : wpList Try.prog ops Q (o :: rest) a w :=
  wpList_store_row hgd _ x y ho g V hx hy _ old hg (vec_info hV) (by omega) (by rw [Array.all_eq_true_iff_forall_mem]; exact h1) h
theorem st_new (hgd : o.guard = none) (x y : Operand) (ho : o.op = .store 55 x y) (w1 : World) (V old : Array Value) (hw : w = w1.alloc (.cells old 55)) (hx : a.eval x = .pointer (some ⟨w1.heap.size, 0, none⟩)) (hy : a.eval y = .agg V)
    (hold : old.size = 12) (hV : V.size = 12) (h1 : ∀ v ∈ V, v.oneCell' = true) (h : wpList Try.prog ops Q rest (a.put o.dst undef) (w1.alloc (.cells V 55))) : wpList Try.prog ops Q (o :: rest) a w := by
  subst hw
  refine st_vec hgd x y ho w1.heap.size V old hx hy (blk_new _ _ _) hold hV h1 ?_
  rw [World.setRow_alloc_new]
  exact h
end

theorem pad_res {w : World} {g : Nat} {V : Array Value} {b : Bool} {tmps : Array Value} (h : w.heap[g]? = some (.cells V 55 (0, 0))) (hV : V.size = 12) (ht : tmps.getD 2 undef = .pointer (some ⟨g, 0, none⟩)) (hb : tmps.getD 3 undef = .bool b) :
    (results Try.f32 tmps).run Try.prog w = .ok (.tuple #[.agg V, .bool b]) w := by
  have hres : Try.f32.results = #[.cell 2 55, .tmp 3] := by kernel_rfl
  have hi : (Try.prog.info? 55).map (·.size) = some V.size := by rw [hV]; kernel_rfl
  rw [results_cell_tmp hres, ht, hb]
  have hl := run_loadVar_row (P := Try.prog) w g _ 55 V (0, 0) (.array 12 3) h (by kernel_rfl) rfl hi
  simp [asAddr, Result.andThen, hl]

set_option maxRecDepth 100000 in
set_option maxHeartbeats 800000 in
theorem padded_any (xs : List Int) (S : Nat → Prop) (A : Option Addr) (m c : Nat) (w : World) (hr : Rc S w A (ivs xs)) (hm : Hid (xs.length = m)) (hml : Hid (m ≤ 9223372036854775807)) :
    Calls Try.prog 32 #[.slice A m c] w fun en w' => en = .returned (.tuple #[.agg (ivs (padV xs)).toArray, .bool (okV xs)]) ∧ Below w.heap.size w w' := by
  have Z : Array Value := #[]
  go_enter Try.func32, Try.ntmps32
  by_cases h12 : 12 < m
  · go_wp2_with fail
    have hbad : okV xs = false := by unfold okV; have := hm.out; simp; omega
    have hpad : padV xs = List.replicate 12 0 := by unfold padV; rw [if_neg (by rw [hbad]; simp)]
    rw [hbad, hpad]
    refine bodyPost_ret (pad_res (blk_alloc (blk_new w _ _) _) rfl rfl rfl) rfl ⟨rfl, ((Below.refl _ _).alloc (Nat.le_refl _) _).alloc (by rw [size_alloc]; omega) _⟩
  · have hm12 : m ≤ 12 := by omega
    go_wp2_with fail
    refine (contains_any xs S A m c _ ((hr.alloc _).alloc _) hm hm12).mono ?_
    rintro en w' ⟨rfl, rfl⟩
    by_cases hok : xs.all okN = true
    · rw [hok]
      have hgood : okV xs = true := by unfold okV; rw [hok]; have := hm.out; simp; omega
      have hpad : padV xs = xs ++ List.replicate (12 - xs.length) 0 := by unfold padV; rw [if_pos hgood]
      have HP := Lib.hid hpad
      have HGD := Lib.hid hgood
      clear hok hgood hpad
      have h2 := two0 w
      have hr2 : Rc S (((w.alloc (.cells #[.int .i64 0, .int .i64 0, .int .i64 0, .int .i64 0, .int .i64 0, .int .i64 0, .int .i64 0, .int .i64 0, .int .i64 0, .int .i64 0, .int .i64 0, .int .i64 0] 55)).alloc (.cells #[.int .i64 0, .int .i64 0, .int .i64 0, .int .i64 0, .int .i64 0, .int .i64 0, .int .i64 0, .int .i64 0, .int .i64 0, .int .i64 0, .int .i64 0, .int .i64 0] 55))) A (ivs xs) := (hr.alloc _).alloc _
      revert h2 hr2
      generalize (((w.alloc (.cells #[.int .i64 0, .int .i64 0, .int .i64 0, .int .i64 0, .int .i64 0, .int .i64 0, .int .i64 0, .int .i64 0, .int .i64 0, .int .i64 0, .int .i64 0, .int .i64 0] 55)).alloc (.cells #[.int .i64 0, .int .i64 0, .int .i64 0, .int .i64 0, .int .i64 0, .int .i64 0, .int .i64 0, .int .i64 0, .int .i64 0, .int .i64 0, .int .i64 0, .int .i64 0] 55))) = W
      intro h2 hr2
      go_wp2_with (refine wpList_copy_splice (o := ⟨some 15, _, _, _, _, _⟩) rfl (.tmp 13) (.tmp 14) 22 22 rfl 3 Try.underlying22 (by kernel_rfl) (some ⟨w.heap.size + 1, 0, none⟩) A 12 12 m c rfl rfl (w.heap.size + 1) 0 (ivs (List.replicate 12 0)) 55 h2.b2 (ivs xs) ?c1 ?c2 ?c3 (ivs_one xs) (w.heap.size + 1) W (Below.refl _ _) (Nat.le_refl _) ?_)
      case c1 => rw [ivs_length, hm.out]; exact (Nat.min_eq_left hm12).symm
      case c2 =>
        intro h
        obtain ⟨ad, rfl, _, hc⟩ := hr2 (by intro e; rw [e] at h; simp at h)
        first | exact ⟨rfl, ad, rfl, hc⟩ | exact ⟨ad, rfl, hc⟩
      case c3 => rw [ivs_length, ivs_length, hm.out]; simpa using hm12
      intro w2 HG2 hB2
      have hsp : splice (ivs (List.replicate 12 0)) 0 (ivs xs) = ivs (padV xs) := by
        rw [HP.out]
        simp only [splice, ivs, List.map_append, List.map_replicate, List.take_zero, List.nil_append, List.drop_replicate, List.length_map, Nat.zero_add]
      have HG3 : Hid (w2.heap[w.heap.size + 1]? = some (.cells (ivs (padV xs)).toArray 55 (0, 0))) := by
        show _ = _
        rw [← hsp]; exact HG2.out
      clear hsp HG2
      have hb1 : w2.heap[w.heap.size]? = some (.cells (ivs (List.replicate 12 0)).toArray 55 (0, 0)) := (hB2.block _ (Nat.lt_succ_self _)).trans h2.b1
      obtain ⟨V, hV⟩ : ∃ V, V = (ivs (padV xs)).toArray := ⟨_, rfl⟩
      rw [← hV] at HG3
      have hVs : V.size = 12 := by rw [hV]; exact vec_size (padV_length xs)
      have hVo : ∀ v ∈ V, v.oneCell' = true := by rw [hV]; exact vec_one _
      have HV := Lib.hid hV
      clear hV
      go_wp2_with (first
        | refine ld_vec (o := ⟨some 16, _, _, _, _, _⟩) rfl (.tmp 4) rfl (w.heap.size + 1) rfl V HG3.out hVs ?_
        | refine st_vec (o := ⟨none, .store _ (.tmp 2) (.tmp 16), _, _, _, _⟩) rfl (.tmp 2) (.tmp 16) rfl w.heap.size V (ivs (List.replicate 12 0)).toArray rfl rfl hb1 rfl hVs hVo ?_)
      refine bodyPost_ret (pad_res (setRow_heap _ _ _ V _ _ hb1) hVs rfl rfl) ?_ ?_
      · rfl
      · exact ⟨by rw [HV.out, HGD.out], below_setRow (h2.bl.trans (hB2.mono (Nat.le_succ _))) (Nat.le_refl _) _⟩
    · have hof : xs.all okN = false := by simpa using hok
      rw [hof]
      have hbad : okV xs = false := by unfold okV; rw [hof]; simp
      have hpad : padV xs = List.replicate 12 0 := by unfold padV; rw [if_neg (by rw [hbad]; simp)]
      have HP := Lib.hid hpad
      have HGD := Lib.hid hbad
      clear hok hof hbad hpad
      go_wp2_with fail
      refine bodyPost_ret (pad_res (blk_alloc (blk_new w _ _) _) rfl rfl rfl) rfl ⟨?_, ((Below.refl _ _).alloc (Nat.le_refl _) _).alloc (by rw [size_alloc]; omega) _⟩
      rw [HGD.out, HP.out]
      rfl
end Go.Proofs.Ytckfopdkknckcaa
