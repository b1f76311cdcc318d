/- versionvector: fold, Merge, Meet. -/
import Derived.Test.YtckfopdkknckcaaVecC
set_option linter.unusedVariables false
set_option linter.unusedSimpArgs false
namespace Go.Proofs.Ytckfopdkknckcaa
open Go.RowKit
attribute [local irreducible] wpList

/-- A slice of slices of numbers. -/
def Rl (S : Nat → Prop) (w : World) (A : Option Addr) (ls : List (List Int)) : Prop :=
  ∀ i (h : i < ls.length), ∃ ad Ai ci, A = some ad ∧ w.cell? (ad.add i) = some (.slice Ai ls[i].length ci) ∧ Rc S w Ai (ivs ls[i])
theorem Rl.below {S : Nat → Prop} {w w' : World} {A : Option Addr} {ls : List (List Int)} (h : Rl S w A ls) (hb : Below w.heap.size w w') : Rl S w' A ls := fun i hi => by
  obtain ⟨ad, Ai, ci, h1, h2, h3⟩ := h i hi
  exact ⟨ad, Ai, ci, h1, (World.cell?_of_block (w := w) (hb.block _ (World.block_lt_of_cell? w _ h2))).trans h2, h3.below hb⟩

def foldL (op : Int → Int → Int) (ls : List (List Int)) : List Int := match ls with
  | [] => List.replicate 12 0
  | x :: t => t.foldl (fun acc y => joinL op acc (padV y)) (padV x)
theorem foldL_len {op : Int → Int → Int} (ls : List (List Int)) : (foldL op ls).length = 12 := by
  cases ls with
  | nil => simp [foldL]
  | cons x t =>
    unfold foldL
    have : ∀ (t : List (List Int)) (a : List Int), a.length = 12 → (t.foldl (fun acc y => joinL op acc (padV y)) a).length = 12 := by
      intro t
      induction t with
      | nil => intro a h; exact h
      | cons y t ih => intro a _; exact ih _ joinL_len
    exact this t _ (padV_length x)
theorem foldL_take {op : Int → Int → Int} {ls : List (List Int)} {k : Nat} (hk : k < ls.length) :
    foldL op (ls.take (k + 1)) = if k = 0 then padV ls[k] else joinL op (foldL op (ls.take k)) (padV ls[k]) := by
  cases ls with
  | nil => simp at hk
  | cons x t =>
    cases k with
    | zero => simp [foldL]
    | succ j =>
      have hj : j < t.length := by simpa using hk
      rw [if_neg (by omega), List.take_succ_cons, List.take_succ_cons]
      unfold foldL
      dsimp only
      rw [List.take_succ_eq_append_getElem hj, List.foldl_append]
      rfl
def mergeR (op : Int → Int → Int) (ls : List (List Int)) : List Int × Int := if ls.all okV then (normL (foldL op ls), 0) else ([], 1)
/-- The end of a call that gives numbers and an error. -/
def IntsE (w : World) (r : List Int × Int) (en : Ending) (w' : World) : Prop :=
  ∃ A c, en = .returned (.tuple #[.slice A r.1.length c, .int .i64 r.2]) ∧ w'.ownsRow w.heap.size 3 1 (.slice A r.1.length c) r.1.length (ivs r.1) ∧ Below w.heap.size w w'

/-- The array that gathers. -/
structure Fo (w W : World) (b : Nat) (L : List Int) : Prop where
  b1 : W.heap[b]? = some (.cells (ivs L).toArray 55 (0, 0))
  bl : Below w.heap.size w W
  le : w.heap.size ≤ b
theorem fo_put {w W : World} {b : Nat} {U V : Array Value} {L : List Int} (hb : W.heap[b]? = some (.cells U 55 (0, 0))) (hl : Below w.heap.size w W) (hle : w.heap.size ≤ b) (hV : V = (ivs L).toArray) : Hid (Fo w (W.setRow b V) b L) := by
  subst hV
  exact ⟨setRow_heap _ _ _ _ _ _ hb, below_setRow hl hle _, hle⟩
theorem fo_new (w : World) : Fo w (w.alloc (.cells #[.int .i64 0, .int .i64 0, .int .i64 0, .int .i64 0, .int .i64 0, .int .i64 0, .int .i64 0, .int .i64 0, .int .i64 0, .int .i64 0, .int .i64 0, .int .i64 0] 55)) w.heap.size (List.replicate 12 0) :=
  ⟨blk_new _ _ _, (Below.refl _ _).alloc (Nat.le_refl _) _, Nat.le_refl _⟩


set_option maxRecDepth 100000 in
set_option maxHeartbeats 1600000 in
theorem fold_max (ls : List (List Int)) (S : Nat → Prop) (A : Option Addr) (m c : Nat) (w : World) (hr : Rl S w A ls) (hm : Hid (ls.length = m)) (h100 : m ≤ 100) (hs : Hid (∀ x ∈ ls, x.length ≤ 9223372036854775807)) :
    Calls Try.prog 35 #[.slice A m c, .func (Fn.func 36) #[] #[]] w (IntsE w (mergeR max ls)) := by
  obtain ⟨r, hrr⟩ : ∃ r, r = mergeR max ls := ⟨_, rfl⟩
  rw [← hrr]
  have HRR := Lib.hid hrr
  clear hrr
  have hf := fo_new w
  go_enter Try.func35, Try.ntmps35
  go_wp2_with fail
  revert hf
  generalize (w.alloc (.cells #[.int .i64 0, .int .i64 0, .int .i64 0, .int .i64 0, .int .i64 0, .int .i64 0, .int .i64 0, .int .i64 0, .int .i64 0, .int .i64 0, .int .i64 0, .int .i64 0] 55)) = W
  generalize hB : w.heap.size = b
  intro hf
  go_loopw [13] (fun i wr => ∃ (k : Nat), i = .int .i64 k ∧ k ≤ m ∧ Hid (Fo w wr b (foldL max (ls.take k))) ∧ Hid ((ls.take k).all okV = true)) (fun i _ => m - (intOf i).toNat)
  case atStart => exact ⟨0, rfl, Nat.zero_le _, hf, rfl⟩
  case round =>
    obtain ⟨k, rfl, hk, hfo, hok⟩ := hrel
    clear hf
    by_cases hlt : k < m
    · have hkl : k < ls.length := by have := hm.out; omega
      obtain ⟨ad, Ai, ci, rfl, hc, hrc⟩ := (hr.below hfo.out.bl) k hkl
      obtain ⟨x, hx⟩ : ∃ x, x = ls[k] := ⟨_, rfl⟩
      have hxl : Hid (ls[k].length ≤ 9223372036854775807) := hs.out _ (List.getElem_mem _)
      have htk : (ls.take (k + 1)).all okV = (okV ls[k]) := by
        rw [List.take_succ_eq_append_getElem hkl, List.all_append, hok.out]; simp
      have hft := foldL_take (op := max) hkl
      rw [← hx] at hc hrc hxl htk hft
      obtain ⟨n, hn⟩ : ∃ n, n = x.length := ⟨_, rfl⟩
      rw [← hn] at hc hxl
      have hn2 : Hid (x.length = n) := hn.symm
      have hi1 : (k : Int) < (m : Int) := by omega
      have hi2 : (0 : Int) ≤ (k : Int) := by omega
      have HX := Lib.hid hx
      have HTK := Lib.hid htk
      have HFT := Lib.hid hft
      clear hx htk hft hn
      go_wp2_with fail
      refine (padded_any x S Ai n ci wr hrc hn2 hxl).mono ?_
      rintro en w2 ⟨rfl, hb2⟩
      obtain ⟨V, hV⟩ : ∃ V, V = (ivs (padV x)).toArray := ⟨_, rfl⟩
      have hVs : V.size = 12 := by rw [hV]; exact vec_size (padV_length x)
      have hVo : ∀ v ∈ V, v.oneCell' = true := by rw [hV]; exact vec_one _
      rw [← hV]
      have HV := Lib.hid hV
      have hy2 := blk_new w2 55 V
      have hy1 := blk_alloc ((hb2.block b (blk_lt hfo.out.b1)).trans hfo.out.b1) (.cells V 55)
      have hbl := below_then hfo.out.bl (below_alloc hb2 (Nat.le_refl _) (.cells V 55)) (Nat.le_refl _)
      have hne : Hid (w2.heap.size ≠ b) := by have := blk_lt hfo.out.b1; have := hb2.size; show _ ≠ _; omega
      have hle := Lib.hid hfo.out.le
      have hacc := Lib.hid (vec_size (foldL_len (op := max) (ls.take k)))
      have HBL := Lib.hid hbl
      have HY1 := Lib.hid hy1
      have HY2 := Lib.hid hy2
      clear hV hrc hc hb2 hfo hy1 hy2 hbl
      cases hox : okV x with
      | false =>
        have HO := Lib.hid hox
        clear hox
        go_wp2_with (first
          | refine st_new (o := ⟨none, .store _ (.tmp 9) (.tmp 21), _, _, _, _⟩) rfl (.tmp 9) (.tmp 21) rfl w2 V _ rfl rfl rfl rfl hVs hVo ?_)
        go_ret2
        have hall : ls.all okV = false := by
          rw [List.all_eq_false]
          exact ⟨x, by rw [HX.out]; exact List.getElem_mem _, by rw [HO.out]; simp⟩
        rw [HRR.out, mergeR, if_neg (by rw [hall]; simp)]
        exact ⟨none, 0, rfl, own_nil _ _ _ _, HBL.out⟩
      | true =>
        have HO : Hid ((ls.take (k + 1)).all okV = true) := by show _ = _; rw [HTK.out, hox]
        clear hox HTK
        by_cases hk0 : k = 0
        · subst hk0
          have HF0 := fo_put (V := V) (L := foldL max (ls.take (0 + 1))) HY1.out HBL.out hle.out (by rw [HV.out, HFT.out]; rfl)
          go_wp2_with (first
            | refine st_new (o := ⟨none, .store _ (.tmp 9) (.tmp 21), _, _, _, _⟩) rfl (.tmp 9) (.tmp 21) rfl w2 V _ rfl rfl rfl rfl hVs hVo ?_
            | refine ld_vec (o := ⟨some 33, _, _, _, _, _⟩) rfl (.tmp 9) rfl w2.heap.size rfl V HY2.out hVs ?_
            | refine st_vec (o := ⟨none, .store _ (.tmp 6) (.tmp 33), _, _, _, _⟩) rfl (.tmp 6) (.tmp 33) rfl b V _ rfl rfl HY1.out hacc.out hVs hVo ?_)
          go_roundw
          case rel => exact ⟨0 + 1, by go_num, by omega, HF0, HO⟩
          case measure => simp [intOf]; omega
        · have hkf : ((k : Int) == 0) = false := by rw [beq_eq_false_iff_ne]; omega
          have hft2 : foldL max (ls.take (k + 1)) = joinL max (foldL max (ls.take k)) (padV x) := by rw [HFT.out, if_neg hk0]
          have HF2 := Lib.hid hft2
          clear hft2 HFT
          have HJ := join_max (foldL max (ls.take k)) (padV x) (foldL_len _) (padV_length x)
          obtain ⟨U, hU⟩ : ∃ U, U = (ivs (foldL max (ls.take k))).toArray := ⟨_, rfl⟩
          rw [← HV.out, ← hU] at HJ
          rw [← hU] at HY1 hacc
          clear hU
          go_wp2_with (first
            | refine st_new (o := ⟨none, .store _ (.tmp 9) (.tmp 21), _, _, _, _⟩) rfl (.tmp 9) (.tmp 21) rfl w2 V _ rfl rfl rfl rfl hVs hVo ?_
            | refine ld_vec (o := ⟨some 23, _, _, _, _, _⟩) rfl (.tmp 6) rfl b rfl U HY1.out hacc.out ?_
            | refine ld_vec (o := ⟨some 24, _, _, _, _, _⟩) rfl (.tmp 9) rfl w2.heap.size rfl V HY2.out hVs ?_)
          refine (HJ _).mono ?_
          rintro en w5 ⟨rfl, hb5⟩
          have hz := (hb5.block b (blk_lt HY1.out)).trans HY1.out
          obtain ⟨Z, hZ⟩ : ∃ Z, Z = (ivs (joinL max (foldL max (ls.take k)) (padV x))).toArray := ⟨_, rfl⟩
          have hZs : Z.size = 12 := by rw [hZ]; exact vec_size joinL_len
          have hZo : ∀ v ∈ Z, v.oneCell' = true := by rw [hZ]; exact vec_one _
          rw [← hZ]
          have HZ := Lib.hid hZ
          have hB5 := Lib.hid (below_then HBL.out hb5 (Nat.le_refl _))
          have HF0 := fo_put (V := Z) (L := foldL max (ls.take (k + 1))) hz hB5.out hle.out (by rw [HZ.out, HF2.out])
          clear hZ hb5 HJ HY1 HY2 HBL
          go_wp2_with (first
            | refine st_vec (o := ⟨none, .store _ (.tmp 6) (.tmp 26), _, _, _, _⟩) rfl (.tmp 6) (.tmp 26) rfl b Z U rfl rfl hz hacc.out hZs hZo ?_)
          go_roundw
          case rel => exact ⟨k + 1, by go_num, by omega, HF0, HO⟩
          case measure => simp [intOf]; omega
    · have hen : ¬ ((k : Nat) : Int) < (m : Int) := by omega
      have hall : ls.take k = ls := List.take_of_length_le (by have := hm.out; omega)
      rw [hall] at hfo hok
      obtain ⟨U, hU⟩ : ∃ U, U = (ivs (foldL max ls)).toArray := ⟨_, rfl⟩
      have hUs : U.size = 12 := by rw [hU]; exact vec_size (foldL_len ls)
      have hy := hfo.out.b1
      rw [← hU] at hy
      have HN := normal_any (foldL max ls) (foldL_len ls)
      rw [← hU] at HN
      have HBL := Lib.hid hfo.out.bl
      have HOK := Lib.hid hok.out
      clear hU hfo hok hall
      go_wp2_with (first
        | refine ld_vec (o := ⟨some 35, _, _, _, _, _⟩) rfl (.tmp 6) rfl b rfl U hy hUs ?_)
      refine (HN _).mono ?_
      rintro en w5 ⟨A5, c5, rfl, ho5, hb5⟩
      have hB5 := Lib.hid (below_then HBL.out hb5 (Nat.le_refl _))
      have ho6 := Lib.hid (own_weaken ho5 HBL.out.size)
      clear ho5 hb5
      go_wp2_with fail
      go_ret2
      rw [HRR.out, mergeR, if_pos HOK.out]
      exact ⟨A5, c5, rfl, ho6.out, hB5.out⟩

set_option maxHeartbeats 400000 in
theorem merge_any (ls : List (List Int)) (S : Nat → Prop) (A : Option Addr) (m c : Nat) (w : World) (hr : Rl S w A ls) (hm : Hid (ls.length = m)) (h100 : m ≤ 100) (hs : Hid (∀ x ∈ ls, x.length ≤ 9223372036854775807)) :
    Calls Try.prog 18 #[.slice A m c] w (IntsE w (mergeR max ls)) := by
  obtain ⟨r, hrr⟩ : ∃ r, r = mergeR max ls := ⟨_, rfl⟩
  have H := fold_max ls S A m c w hr hm h100 hs
  rw [← hrr] at H ⊢
  clear hrr
  go_enter Try.func18, Try.ntmps18
  go_wp2_with fail
  refine H.mono ?_
  rintro en w5 ⟨A5, c5, rfl, ho5, hb5⟩
  go_wp2_with fail
  go_ret2
  exact ⟨A5, c5, rfl, ho5, hb5⟩

set_option maxRecDepth 100000 in
set_option maxHeartbeats 1600000 in
theorem fold_min (ls : List (List Int)) (S : Nat → Prop) (A : Option Addr) (m c : Nat) (w : World) (hr : Rl S w A ls) (hm : Hid (ls.length = m)) (h100 : m ≤ 100) (hs : Hid (∀ x ∈ ls, x.length ≤ 9223372036854775807)) :
    Calls Try.prog 35 #[.slice A m c, .func (Fn.func 37) #[] #[]] w (IntsE w (mergeR min ls)) := by
  obtain ⟨r, hrr⟩ : ∃ r, r = mergeR min ls := ⟨_, rfl⟩
  rw [← hrr]
  have HRR := Lib.hid hrr
  clear hrr
  have hf := fo_new w
  go_enter Try.func35, Try.ntmps35
  go_wp2_with fail
  revert hf
  generalize (w.alloc (.cells #[.int .i64 0, .int .i64 0, .int .i64 0, .int .i64 0, .int .i64 0, .int .i64 0, .int .i64 0, .int .i64 0, .int .i64 0, .int .i64 0, .int .i64 0, .int .i64 0] 55)) = W
  generalize hB : w.heap.size = b
  intro hf
  go_loopw [13] (fun i wr => ∃ (k : Nat), i = .int .i64 k ∧ k ≤ m ∧ Hid (Fo w wr b (foldL min (ls.take k))) ∧ Hid ((ls.take k).all okV = true)) (fun i _ => m - (intOf i).toNat)
  case atStart => exact ⟨0, rfl, Nat.zero_le _, hf, rfl⟩
  case round =>
    obtain ⟨k, rfl, hk, hfo, hok⟩ := hrel
    clear hf
    by_cases hlt : k < m
    · have hkl : k < ls.length := by have := hm.out; omega
      obtain ⟨ad, Ai, ci, rfl, hc, hrc⟩ := (hr.below hfo.out.bl) k hkl
      obtain ⟨x, hx⟩ : ∃ x, x = ls[k] := ⟨_, rfl⟩
      have hxl : Hid (ls[k].length ≤ 9223372036854775807) := hs.out _ (List.getElem_mem _)
      have htk : (ls.take (k + 1)).all okV = (okV ls[k]) := by
        rw [List.take_succ_eq_append_getElem hkl, List.all_append, hok.out]; simp
      have hft := foldL_take (op := min) hkl
      rw [← hx] at hc hrc hxl htk hft
      obtain ⟨n, hn⟩ : ∃ n, n = x.length := ⟨_, rfl⟩
      rw [← hn] at hc hxl
      have hn2 : Hid (x.length = n) := hn.symm
      have hi1 : (k : Int) < (m : Int) := by omega
      have hi2 : (0 : Int) ≤ (k : Int) := by omega
      have HX := Lib.hid hx
      have HTK := Lib.hid htk
      have HFT := Lib.hid hft
      clear hx htk hft hn
      go_wp2_with fail
      refine (padded_any x S Ai n ci wr hrc hn2 hxl).mono ?_
      rintro en w2 ⟨rfl, hb2⟩
      obtain ⟨V, hV⟩ : ∃ V, V = (ivs (padV x)).toArray := ⟨_, rfl⟩
      have hVs : V.size = 12 := by rw [hV]; exact vec_size (padV_length x)
      have hVo : ∀ v ∈ V, v.oneCell' = true := by rw [hV]; exact vec_one _
      rw [← hV]
      have HV := Lib.hid hV
      have hy2 := blk_new w2 55 V
      have hy1 := blk_alloc ((hb2.block b (blk_lt hfo.out.b1)).trans hfo.out.b1) (.cells V 55)
      have hbl := below_then hfo.out.bl (below_alloc hb2 (Nat.le_refl _) (.cells V 55)) (Nat.le_refl _)
      have hne : Hid (w2.heap.size ≠ b) := by have := blk_lt hfo.out.b1; have := hb2.size; show _ ≠ _; omega
      have hle := Lib.hid hfo.out.le
      have hacc := Lib.hid (vec_size (foldL_len (op := min) (ls.take k)))
      have HBL := Lib.hid hbl
      have HY1 := Lib.hid hy1
      have HY2 := Lib.hid hy2
      clear hV hrc hc hb2 hfo hy1 hy2 hbl
      cases hox : okV x with
      | false =>
        have HO := Lib.hid hox
        clear hox
        go_wp2_with (first
          | refine st_new (o := ⟨none, .store _ (.tmp 9) (.tmp 21), _, _, _, _⟩) rfl (.tmp 9) (.tmp 21) rfl w2 V _ rfl rfl rfl rfl hVs hVo ?_)
        go_ret2
        have hall : ls.all okV = false := by
          rw [List.all_eq_false]
          exact ⟨x, by rw [HX.out]; exact List.getElem_mem _, by rw [HO.out]; simp⟩
        rw [HRR.out, mergeR, if_neg (by rw [hall]; simp)]
        exact ⟨none, 0, rfl, own_nil _ _ _ _, HBL.out⟩
      | true =>
        have HO : Hid ((ls.take (k + 1)).all okV = true) := by show _ = _; rw [HTK.out, hox]
        clear hox HTK
        by_cases hk0 : k = 0
        · subst hk0
          have HF0 := fo_put (V := V) (L := foldL min (ls.take (0 + 1))) HY1.out HBL.out hle.out (by rw [HV.out, HFT.out]; rfl)
          go_wp2_with (first
            | refine st_new (o := ⟨none, .store _ (.tmp 9) (.tmp 21), _, _, _, _⟩) rfl (.tmp 9) (.tmp 21) rfl w2 V _ rfl rfl rfl rfl hVs hVo ?_
            | refine ld_vec (o := ⟨some 33, _, _, _, _, _⟩) rfl (.tmp 9) rfl w2.heap.size rfl V HY2.out hVs ?_
            | refine st_vec (o := ⟨none, .store _ (.tmp 6) (.tmp 33), _, _, _, _⟩) rfl (.tmp 6) (.tmp 33) rfl b V _ rfl rfl HY1.out hacc.out hVs hVo ?_)
          go_roundw
          case rel => exact ⟨0 + 1, by go_num, by omega, HF0, HO⟩
          case measure => simp [intOf]; omega
        · have hkf : ((k : Int) == 0) = false := by rw [beq_eq_false_iff_ne]; omega
          have hft2 : foldL min (ls.take (k + 1)) = joinL min (foldL min (ls.take k)) (padV x) := by rw [HFT.out, if_neg hk0]
          have HF2 := Lib.hid hft2
          clear hft2 HFT
          have HJ := join_min (foldL min (ls.take k)) (padV x) (foldL_len _) (padV_length x)
          obtain ⟨U, hU⟩ : ∃ U, U = (ivs (foldL min (ls.take k))).toArray := ⟨_, rfl⟩
          rw [← HV.out, ← hU] at HJ
          rw [← hU] at HY1 hacc
          clear hU
          go_wp2_with (first
            | refine st_new (o := ⟨none, .store _ (.tmp 9) (.tmp 21), _, _, _, _⟩) rfl (.tmp 9) (.tmp 21) rfl w2 V _ rfl rfl rfl rfl hVs hVo ?_
            | refine ld_vec (o := ⟨some 23, _, _, _, _, _⟩) rfl (.tmp 6) rfl b rfl U HY1.out hacc.out ?_
            | refine ld_vec (o := ⟨some 24, _, _, _, _, _⟩) rfl (.tmp 9) rfl w2.heap.size rfl V HY2.out hVs ?_)
          refine (HJ _).mono ?_
          rintro en w5 ⟨rfl, hb5⟩
          have hz := (hb5.block b (blk_lt HY1.out)).trans HY1.out
          obtain ⟨Z, hZ⟩ : ∃ Z, Z = (ivs (joinL min (foldL min (ls.take k)) (padV x))).toArray := ⟨_, rfl⟩
          have hZs : Z.size = 12 := by rw [hZ]; exact vec_size joinL_len
          have hZo : ∀ v ∈ Z, v.oneCell' = true := by rw [hZ]; exact vec_one _
          rw [← hZ]
          have HZ := Lib.hid hZ
          have hB5 := Lib.hid (below_then HBL.out hb5 (Nat.le_refl _))
          have HF0 := fo_put (V := Z) (L := foldL min (ls.take (k + 1))) hz hB5.out hle.out (by rw [HZ.out, HF2.out])
          clear hZ hb5 HJ HY1 HY2 HBL
          go_wp2_with (first
            | refine st_vec (o := ⟨none, .store _ (.tmp 6) (.tmp 26), _, _, _, _⟩) rfl (.tmp 6) (.tmp 26) rfl b Z U rfl rfl hz hacc.out hZs hZo ?_)
          go_roundw
          case rel => exact ⟨k + 1, by go_num, by omega, HF0, HO⟩
          case measure => simp [intOf]; omega
    · have hen : ¬ ((k : Nat) : Int) < (m : Int) := by omega
      have hall : ls.take k = ls := List.take_of_length_le (by have := hm.out; omega)
      rw [hall] at hfo hok
      obtain ⟨U, hU⟩ : ∃ U, U = (ivs (foldL min ls)).toArray := ⟨_, rfl⟩
      have hUs : U.size = 12 := by rw [hU]; exact vec_size (foldL_len ls)
      have hy := hfo.out.b1
      rw [← hU] at hy
      have HN := normal_any (foldL min ls) (foldL_len ls)
      rw [← hU] at HN
      have HBL := Lib.hid hfo.out.bl
      have HOK := Lib.hid hok.out
      clear hU hfo hok hall
      go_wp2_with (first
        | refine ld_vec (o := ⟨some 35, _, _, _, _, _⟩) rfl (.tmp 6) rfl b rfl U hy hUs ?_)
      refine (HN _).mono ?_
      rintro en w5 ⟨A5, c5, rfl, ho5, hb5⟩
      have hB5 := Lib.hid (below_then HBL.out hb5 (Nat.le_refl _))
      have ho6 := Lib.hid (own_weaken ho5 HBL.out.size)
      clear ho5 hb5
      go_wp2_with fail
      go_ret2
      rw [HRR.out, mergeR, if_pos HOK.out]
      exact ⟨A5, c5, rfl, ho6.out, hB5.out⟩

set_option maxHeartbeats 400000 in
theorem meet_any (ls : List (List Int)) (S : Nat → Prop) (A : Option Addr) (m c : Nat) (w : World) (hr : Rl S w A ls) (hm : Hid (ls.length = m)) (h100 : m ≤ 100) (hs : Hid (∀ x ∈ ls, x.length ≤ 9223372036854775807)) :
    Calls Try.prog 19 #[.slice A m c] w (IntsE w (mergeR min ls)) := by
  obtain ⟨r, hrr⟩ : ∃ r, r = mergeR min ls := ⟨_, rfl⟩
  have H := fold_min ls S A m c w hr hm h100 hs
  rw [← hrr] at H ⊢
  clear hrr
  go_enter Try.func19, Try.ntmps19
  go_wp2_with fail
  refine H.mono ?_
  rintro en w5 ⟨A5, c5, rfl, ho5, hb5⟩
  go_wp2_with fail
  go_ret2
  exact ⟨A5, c5, rfl, ho5, hb5⟩
end Go.Proofs.Ytckfopdkknckcaa
