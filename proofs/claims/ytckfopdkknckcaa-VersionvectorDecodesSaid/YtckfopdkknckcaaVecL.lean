/- Lattice: plain laws, calls of two, the reference's Normal. -/
import Derived.Test.YtckfopdkknckcaaVecJ
set_option linter.unusedVariables false
set_option linter.unusedSimpArgs false
namespace Go.Proofs.Ytckfopdkknckcaa
open Go.RowKit
attribute [local irreducible] wpList

/-! Plain laws -/
structure V12 (v : List Int) : Prop where
  len : v.length = 12
  ok : ∀ i, okN (v.getD i 0) = true
theorem okN0 : okN 0 = true := by decide
theorem okN_get {xs : List Int} (h : xs.all okN = true) (i : Nat) : okN (xs.getD i 0) = true := by
  by_cases hi : i < xs.length
  · have h2 : xs.getD i 0 = xs[i] := by simp [List.getD, hi]
    rw [h2]; exact List.all_eq_true.1 h _ (List.getElem_mem hi)
  · have h2 : xs.getD i 0 = 0 := by simp [List.getD, hi]
    rw [h2]; exact okN0
theorem V12.pad (xs : List Int) : V12 (padV xs) := by
  refine ⟨padV_length xs, fun i => ?_⟩
  have := pad_le xs i
  unfold okN
  exact decide_eq_true ⟨this.2, this.1⟩
theorem ext12 {u v : List Int} (hu : u.length = 12) (hv : v.length = 12) (h : ∀ i, i < 12 → u.getD i 0 = v.getD i 0) : u = v := by
  apply List.ext_getElem (by rw [hu, hv])
  intro i h1 h2
  have := h i (by omega)
  simpa [List.getD, h1, h2] using this
theorem joinL_get {op : Int → Int → Int} {u v : List Int} {i : Nat} (hi : i < 12) : (joinL op u v).getD i 0 = op (u.getD i 0) (v.getD i 0) := by
  unfold joinL; simp [List.getD, hi]
theorem V12.join {op : Int → Int → Int} (hop : ∀ a b, op a b = a ∨ op a b = b) {u v : List Int} (hu : V12 u) (hv : V12 v) : V12 (joinL op u v) := by
  refine ⟨joinL_len, fun i => ?_⟩
  by_cases hi : i < 12
  · rw [joinL_get hi]
    rcases hop (u.getD i 0) (v.getD i 0) with h | h <;> rw [h]
    · exact hu.ok i
    · exact hv.ok i
  · have : (joinL op u v).getD i 0 = 0 := by simp [List.getD, joinL, hi]
    rw [this]; exact okN0
theorem max_or (a b : Int) : max a b = a ∨ max a b = b := by omega
theorem min_or (a b : Int) : min a b = a ∨ min a b = b := by omega
theorem nlen_zero (xs : List Int) : ∀ n i, nlen xs n ≤ i → i < n → xs.getD i 0 = 0
  | 0, i, _, h => by omega
  | n + 1, i, h1, h2 => by
    unfold nlen at h1
    split at h1
    · rename_i h0
      by_cases hi : i = n
      · subst hi; exact h0
      · exact nlen_zero xs n i h1 (by omega)
    · omega
theorem normL_get (xs : List Int) (i : Nat) : (normL xs).getD i 0 = xs.getD i 0 := by
  unfold normL
  by_cases hi : i < nlen xs xs.length
  · simp [List.getD, List.getElem?_take, hi]
  · have h1 : (xs.take (nlen xs xs.length)).getD i 0 = 0 := by simp [List.getD, List.getElem?_take, hi]
    rw [h1]
    by_cases h2 : i < xs.length
    · exact (nlen_zero xs xs.length i (by omega) h2).symm
    · simp [List.getD, h2]
theorem normL_len (xs : List Int) : (normL xs).length ≤ xs.length := by unfold normL; rw [List.length_take]; exact Nat.min_le_right _ _
theorem all_of_get {xs : List Int} (h : ∀ i, okN (xs.getD i 0) = true) : xs.all okN = true := by
  rw [List.all_eq_true]
  intro x hx
  obtain ⟨j, hj, rfl⟩ := List.getElem_of_mem hx
  have := h j
  simpa [List.getD, hj] using this
theorem norm_ok {v : List Int} (hv : V12 v) : okV (normL v) = true := by
  have h1 := normL_len v
  have h2 := hv.len
  have h3 : (normL v).all okN = true := all_of_get (fun i => by rw [normL_get]; exact hv.ok i)
  unfold okV; rw [h3]; simp; omega
theorem pad_norm {v : List Int} (hv : V12 v) : padV (normL v) = v :=
  ext12 (padV_length _) hv.len (fun i _ => by rw [padV_get (norm_ok hv), normL_get])
/-- The normal form is told by the numbers. -/
theorem nlen_congr {xs ys : List Int} (h : ∀ i, xs.getD i 0 = ys.getD i 0) : ∀ n, nlen xs n = nlen ys n
  | 0 => rfl
  | n + 1 => by unfold nlen; rw [h n, nlen_congr h n]
theorem nlen_tail (xs : List Int) : ∀ j k, (∀ i, k ≤ i → xs.getD i 0 = 0) → nlen xs (k + j) = nlen xs k
  | 0, _, _ => rfl
  | j + 1, k, h => by rw [← Nat.add_assoc, nlen, if_pos (h _ (by omega)), nlen_tail xs j k h]
theorem norm_congr {xs ys : List Int} (h : ∀ i, xs.getD i 0 = ys.getD i 0) : normL xs = normL ys := by
  have key : ∀ (xs ys : List Int), xs.length ≤ ys.length → (∀ i, xs.getD i 0 = ys.getD i 0) → nlen xs xs.length = nlen ys ys.length := by
    intro xs ys hl h
    obtain ⟨j, hj⟩ : ∃ j, ys.length = xs.length + j := ⟨ys.length - xs.length, by omega⟩
    rw [hj, nlen_tail ys j xs.length (fun i hi => by rw [← h i]; simp [List.getD, show ¬ i < xs.length by omega]), nlen_congr h]
  have hn : nlen xs xs.length = nlen ys ys.length := by
    rcases Nat.le_total xs.length ys.length with hl | hl
    · exact key xs ys hl h
    · exact (key ys xs hl (fun i => (h i).symm)).symm
  unfold normL
  apply List.ext_getElem?
  intro i
  have hx := nlen_le xs xs.length
  have hy := nlen_le ys ys.length
  rw [List.getElem?_take, List.getElem?_take, ← hn]
  split
  · rename_i hi
    have h1 := h i
    rw [List.getElem?_eq_getElem (by omega), List.getElem?_eq_getElem (by omega)]
    simpa [List.getD, show i < xs.length by omega, show i < ys.length by omega] using h1
  · rfl
theorem norm_pad {xs : List Int} (h : okV xs = true) : normL (padV xs) = normL xs := norm_congr (padV_get h)

/-! Rows that stand -/
def Rows_ (W : World) (l : List (Option Addr × List Int)) : Prop := ∀ p ∈ l, Rc (fun _ => True) W p.1 (ivs p.2)
theorem Rows_.below {W W' : World} {l : List (Option Addr × List Int)} (h : Rows_ W l) (hb : Below W.heap.size W W') : Rows_ W' l := fun p hp => (h p hp).below hb
theorem Rows_.cons {W : World} {l : List (Option Addr × List Int)} {A : Option Addr} {xs : List Int} (h : Rows_ W l) (hr : Rc (fun _ => True) W A (ivs xs)) : Rows_ W ((A, xs) :: l) := fun p hp => by
  rcases List.mem_cons.1 hp with rfl | hp
  · exact hr
  · exact h p hp

theorem rl_two {W : World} {xs ys : List Int} {A1 A2 : Option Addr} {n1 n2 : Nat} {c1 c2 : Nat} (h1 : Rc (fun _ => True) W A1 (ivs xs)) (h2 : Rc (fun _ => True) W A2 (ivs ys)) (hn1 : xs.length = n1) (hn2 : ys.length = n2) :
    Rl (fun _ => True) (W.alloc (.cells #[.slice A1 n1 c1, .slice A2 n2 c2] 22)) (some ⟨W.heap.size, 0, none⟩) [xs, ys] := by
  have hb := blk_new W 22 #[.slice A1 n1 c1, .slice A2 n2 c2]
  subst hn1 hn2
  intro i hi
  match i, hi with
  | 0, _ => exact ⟨_, _, c1, rfl, by rw [add_plain, blk_cell hb]; rfl, h1.alloc _⟩
  | 1, _ => exact ⟨_, _, c2, rfl, by rw [add_plain, blk_cell hb]; rfl, h2.alloc _⟩

/-- The end of a call of two: a new row. -/
def TwoP (W : World) (l : List (Option Addr × List Int)) (r : List Int) (en : Ending) (w' : World) : Prop :=
  ∃ A c n, en = .returned (.tuple #[.slice A n c, .int .i64 0]) ∧ Hid (r.length = n) ∧ n ≤ 12 ∧ Hid (Rows_ w' ((A, r) :: l)) ∧ Below W.heap.size W w'

theorem merge2_any {xs ys r : List Int} {A1 A2 : Option Addr} {n1 n2 c1 c2 : Nat} {W : World} {l : List (Option Addr × List Int)} (hR : Hid (Rows_ W l)) (h1 : (A1, xs) ∈ l) (h2 : (A2, ys) ∈ l) (hn1 : Hid (xs.length = n1)) (hn2 : Hid (ys.length = n2))
    (ho1 : okV xs = true) (ho2 : okV ys = true) (hr : r = normL (joinL max (padV xs) (padV ys))) :
    Calls Try.prog 18 #[.slice (some ⟨W.heap.size, 0, none⟩) 2 2] (W.alloc (.cells #[.slice A1 n1 c1, .slice A2 n2 c2] 22)) (TwoP W l r) := by
  have hl1 : xs.length ≤ 12 := by unfold okV at ho1; simp at ho1; exact ho1.1
  have hl2 : ys.length ≤ 12 := by unfold okV at ho2; simp at ho2; exact ho2.1
  refine (merge_any [xs, ys] (fun _ => True) _ 2 2 _ (rl_two (hR.out _ h1) (hR.out _ h2) hn1.out hn2.out) (by show _ = _; rfl) (by omega) (by intro x hx; simp at hx; rcases hx with rfl | rfl <;> omega)).mono ?_
  rintro en w' ⟨A, c, rfl, ho, hb⟩
  have hm : mergeR max [xs, ys] = (r, 0) := by unfold mergeR; simp [ho1, ho2, foldL, hr]
  rw [hm] at ho ⊢
  have hba : Below W.heap.size W (W.alloc (.cells #[.slice A1 n1 c1, .slice A2 n2 c2] 22)) := (Below.refl _ _).alloc (Nat.le_refl _) _
  have hb2 := below_then hba hb (Nat.le_refl _)
  refine ⟨A, c, r.length, rfl, rfl, ?_, (hR.out.below hb2).cons ((Rc.of_own ho).mono (fun _ _ _ => trivial)), hb2⟩
  rw [hr]; exact Nat.le_trans (normL_len _) (by rw [joinL_len]; omega)
theorem meet2_any {xs ys r : List Int} {A1 A2 : Option Addr} {n1 n2 c1 c2 : Nat} {W : World} {l : List (Option Addr × List Int)} (hR : Hid (Rows_ W l)) (h1 : (A1, xs) ∈ l) (h2 : (A2, ys) ∈ l) (hn1 : Hid (xs.length = n1)) (hn2 : Hid (ys.length = n2))
    (ho1 : okV xs = true) (ho2 : okV ys = true) (hr : r = normL (joinL min (padV xs) (padV ys))) :
    Calls Try.prog 19 #[.slice (some ⟨W.heap.size, 0, none⟩) 2 2] (W.alloc (.cells #[.slice A1 n1 c1, .slice A2 n2 c2] 22)) (TwoP W l r) := by
  have hl1 : xs.length ≤ 12 := by unfold okV at ho1; simp at ho1; exact ho1.1
  have hl2 : ys.length ≤ 12 := by unfold okV at ho2; simp at ho2; exact ho2.1
  refine (meet_any [xs, ys] (fun _ => True) _ 2 2 _ (rl_two (hR.out _ h1) (hR.out _ h2) hn1.out hn2.out) (by show _ = _; rfl) (by omega) (by intro x hx; simp at hx; rcases hx with rfl | rfl <;> omega)).mono ?_
  rintro en w' ⟨A, c, rfl, ho, hb⟩
  have hm : mergeR min [xs, ys] = (r, 0) := by unfold mergeR; simp [ho1, ho2, foldL, hr]
  rw [hm] at ho ⊢
  have hba : Below W.heap.size W (W.alloc (.cells #[.slice A1 n1 c1, .slice A2 n2 c2] 22)) := (Below.refl _ _).alloc (Nat.le_refl _) _
  have hb2 := below_then hba hb (Nat.le_refl _)
  refine ⟨A, c, r.length, rfl, rfl, ?_, (hR.out.below hb2).cons ((Rc.of_own ho).mono (fun _ _ _ => trivial)), hb2⟩
  rw [hr]; exact Nat.le_trans (normL_len _) (by rw [joinL_len]; omega)

theorem own_lit0i (w : World) : (w.alloc (.cells #[] 3)).ownsRow w.heap.size 3 1 (.slice (some ⟨w.heap.size, 0, none⟩) 0 0) 0 [] :=
  World.ownsRow_lit (base := w.heap.size) (e := 3) (size := 1) w #[] 0 (Nat.le_refl _) (by simp [maxLen]) rfl
set_option maxRecDepth 100000 in
set_option maxHeartbeats 800000 in
theorem rnormal_any (xs : List Int) (S : Nat → Prop) (A : Option Addr) (m c : Nat) (w : World) (hr : Rc S w A (ivs xs)) (hm : Hid (xs.length = m)) (h100 : m ≤ 100) (hmc : m ≤ c) :
    Calls Try.prog 21 #[.slice A m c] w (IntsP w (normL xs)) := by
  go_enter Try.func21, Try.ntmps21
  go_wp2_with fail
  go_loopw [3] (fun i wr => ∃ (k : Nat), i = .int .i64 k ∧ k ≤ m ∧ Hid (wr = w) ∧ Hid (nlen xs xs.length = nlen xs k)) (fun i _ => (intOf i).toNat)
  case atStart => exact ⟨m, rfl, Nat.le_refl _, rfl, by show _ = _; rw [hm.out]⟩
  case round =>
    obtain ⟨k, rfl, hk, hw, hnl⟩ := hrel
    obtain rfl := hw.out
    by_cases h0 : k = 0
    · subst h0
      have hnn : normL xs = xs.take 0 := by unfold normL; rw [hnl.out]; rfl
      have HNN := Lib.hid hnn
      clear hnn
      have hlen : (xs.take 0).length = 0 := rfl
      have hsz := size_alloc wr (.cells #[] 3)
      have hc0 : (0 : Int) ≤ (c : Int) := by omega
      rcases A with _ | ad
      all_goals
        go_wp2_with (at_builtin; refine wpl_append wr.heap.size rfl (.tmp 18) (.tmp 21) 22 3 (.int .i64 0) 1 8 rfl Try.underlying22 info_int rfl (by omega) (by omega) (.slice (some ⟨wr.heap.size, 0, none⟩) 0 0) 0 [] S _ 0 _ [] rfl rfl (own_lit0i wr) (Rc.nil _ _ _) rfl (by intro u hu; cases hu) (by omega) (by omega) ?_)
        intro v1 w1 hown1 hg1 hat1
        have hb6 : Below wr.heap.size wr w1 := ((Below.refl _ _).alloc (Nat.le_refl _) (.cells #[] 3)).grown hg1 (by omega) (by intro k hk; simp [Value.ownBlock] at hk; omega)
        obtain ⟨A1, c1, rfl, _, _⟩ := own_slice hown1
        go_wp2_with fail
        go_ret
        rw [HNN.out]
        exact ⟨A1, c1, rfl, hown1, hb6⟩
    · obtain ⟨j, rfl⟩ : ∃ j, k = j + 1 := ⟨k - 1, by omega⟩
      have hjl : j < xs.length := by have := hm.out; omega
      obtain ⟨ad, rfl, _, hc⟩ := hr.at_ (ivs_get xs j hjl)
      obtain ⟨x, hxx⟩ : ∃ x, x = xs[j] := ⟨_, rfl⟩
      rw [← hxx] at hc
      have hxd : xs.getD j 0 = x := by rw [hxx]; simp [List.getD, hjl]
      have HXD := Lib.hid hxd
      have hi1 : (0 : Int) < ((j + 1 : Nat) : Int) := by omega
      have hi2 : (j : Int) < (m : Int) := by omega
      have hi3 : (0 : Int) ≤ (j : Int) := by omega
      have hs1 : (0 : Int) ≤ (j : Int) + 1 := by omega
      have hs2 : (j : Int) + 1 ≤ (c : Int) := by omega
      clear hxx hxd
      by_cases hx0 : x = 0
      · subst hx0
        go_wp2_with fail
        go_roundw
        case rel => exact ⟨j, by go_num, by omega, True.intro, by
          show _ = _
          rw [hnl.out, nlen, if_pos HXD.out]⟩
        case measure => (first | (simp [intOf]; done) | (simp [intOf]; omega))
      · have hxf : (x == 0) = false := by rw [beq_eq_false_iff_ne]; exact hx0
        have hnn : normL xs = xs.take (j + 1) := by unfold normL; rw [hnl.out, nlen, if_neg (by rw [HXD.out]; exact hx0)]
        have HNN := Lib.hid hnn
        clear hx0 hnn
        have hrc : Rc S (wr.alloc (.cells #[] 3)) (some ad) (ivs (xs.take (j + 1))) := by
          have h9 := (hr.alloc (.cells #[] 3)).take (j + 1)
          have : (ivs xs).take (j + 1) = ivs (xs.take (j + 1)) := by simp [ivs]
          rw [this] at h9
          exact h9
        have hlen : (xs.take (j + 1)).length = j + 1 := by rw [List.length_take]; have := hm.out; omega
        have hsz := size_alloc wr (.cells #[] 3)
        go_wp2_with (at_builtin; refine wpl_append wr.heap.size rfl (.tmp 18) (.tmp 21) 22 3 (.int .i64 0) 1 8 rfl Try.underlying22 info_int rfl (by omega) (by omega) (.slice (some ⟨wr.heap.size, 0, none⟩) 0 0) 0 [] S (some ad) (j + 1) c (ivs (xs.take (j + 1))) rfl rfl (own_lit0i wr) hrc (by rw [ivs_length, hlen]; omega) (ivs_one _) (by omega) (by omega) ?_)
        intro v1 w1 hown1 hg1 hat1
        have hb6 : Below wr.heap.size wr w1 := ((Below.refl _ _).alloc (Nat.le_refl _) (.cells #[] 3)).grown hg1 (by omega) (by intro k hk; simp [Value.ownBlock] at hk; omega)
        obtain ⟨A1, c1, rfl, _, _⟩ := own_slice hown1
        go_wp2_with fail
        go_ret
        rw [HNN.out]
        refine ⟨A1, c1, ?_, ?_, hb6⟩
        · rw [hlen]; first | rfl | (simp; rfl)
        · rw [hlen]; first | exact hown1 | simpa using hown1
end Go.Proofs.Ytckfopdkknckcaa
