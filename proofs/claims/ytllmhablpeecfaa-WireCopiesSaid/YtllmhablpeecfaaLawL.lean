/- The walk of WireLimit. -/
import Derived.Test.YtllmhablpeecfaaLawC
import Derived.Test.YtllmhablpeecfaaOpen
set_option linter.unusedVariables false
set_option linter.unusedSimpArgs false
namespace Go.Proofs.Ytllmhablpeecfaa
open Go.RowKit

/-- A writer's (a reader's) block and row lie from B on. -/
structure Ap (B g : Nat) (v : Value) : Prop where
  g : B ≤ g
  v : ∀ b, v.ownBlock = some b → B ≤ b
theorem Ap.step {B g : Nat} {v v' : Value} {w w1 w2 : World} (h : Ap B g v) (hs : WrS w1 w2 g v v') (hb : Below B w w1) (hB : B ≤ w.heap.size) : Below B w w2 ∧ Ap B g v' := by
  have h1 : B ≤ w1.heap.size := Nat.le_trans hB hb.size
  refine ⟨hb.trans (hs.kp.below h1 ?_), h.g, ?_⟩
  · rintro k hk (rfl | he)
    · have := h.g; omega
    · have := h.v k he.symm; omega
  · intro b hb'
    rcases hs.nx with e | ⟨b2, e, hb2⟩
    · exact h.v b (by rw [← e]; exact hb')
    · rw [e] at hb'; injection hb' with hb'; omega

theorem ivs_get (xs : List Int) (k : Nat) (h : k < xs.length) : (ivs xs)[k]? = some (.int .i64 xs[k]) := by simp [ivs, h]
theorem bvs_replicate (m : Nat) : bvs (List.replicate m 0) = List.replicate m (Value.int .u8 0) := by simp [bvs, bv]

set_option maxRecDepth 100000 in
set_option maxHeartbeats 3200000 in
theorem wireLimit_walk (xs : List Int) (S : Nat → Prop) (A : Option Addr) (m c : Nat) (wrong : Int) (w : World) (hr : Rc S w A (ivs xs)) (hm : Hid (xs.length = m)) (hml : Hid (m ≤ 9223372036854775807)) (hbd : ∀ x ∈ xs, -9223372036854775808 ≤ x ∧ x ≤ 9223372036854775807) (hwr : Hid (-9223372036854775808 ≤ wrong ∧ wrong ≤ 9223372036854775807)) :
    Calls Try.prog 5 #[.slice A m c, .int .i64 wrong] w (LawP w) := by
  clear hbd
  by_cases h20 : 20 < m
  · go_enter Try.func5, Try.ntmps5
    go_wp2_with fail
    refine (awake_any w).mono ?_
    rintro en w1 ⟨rfl, hb1⟩
    go_wp2_with fail
    go_ret
    exact law_ret rfl hb1
  · go_enter Try.func5, Try.ntmps5
    go_wp2_with fail
    refine (awake_any w).mono ?_
    rintro en w1 ⟨rfl, hb1⟩
    go_wp2_with fail
    refine (newWriter_any w1).mono ?_
    rintro en w2 ⟨rfl, rfl⟩
    obtain ⟨g, hg⟩ : ∃ g, g = w1.heap.size := ⟨_, rfl⟩
    have hw2 := Wr.new w1
    have hB2 : Below w.heap.size w (w1.alloc (.cells #[.slice none 0 0, .int .i64 0] 64)) := below_alloc hb1 (Nat.le_refl _) _
    have hap : Ap w.heap.size g (.slice none 0 0) := ⟨by rw [hg]; exact hb1.size, by intro b hb; simp [Value.ownBlock] at hb⟩
    rw [← hg] at hw2 ⊢
    clear hg hb1
    obtain ⟨w2, hw2e⟩ : ∃ w2, w2 = w1.alloc (.cells #[.slice none 0 0, .int .i64 0] 64) := ⟨_, rfl⟩
    rw [← hw2e] at hw2 hB2 ⊢
    clear hw2e
    go_wp2_with fail
    go_loopw [6, 7, 8] (fun tot fl i wr => ∃ (k t : Nat) (f : Bool) (v : Value) (ys : List UInt8), i = .int .i64 k ∧ tot = .int .i64 t ∧ fl = .bool f ∧ k ≤ m ∧ t ≤ k * 100010 ∧ ys.length ≤ t ∧ Hid (f = false → ys.length = t) ∧ Wr wr g v ys (if f then 1 else 0) ∧ Below w.heap.size w wr ∧ Ap w.heap.size g v)
      (fun _ _ i _ => m - (intOf i).toNat)
    case atStart => exact ⟨0, 0, false, .slice none 0 0, [], rfl, rfl, rfl, Nat.zero_le _, Nat.zero_le _, Nat.zero_le _, fun _ => rfl, hw2, hB2, hap⟩
    case round =>
      obtain ⟨k, t, f, v, ys, rfl, rfl, rfl, hk, ht, hyl, hft, hwr1, hB, hap1⟩ := hrel
      clear hw2 hB2 hap
      obtain ⟨e, he⟩ : ∃ e : Int, e = if f = true then 1 else 0 := ⟨_, rfl⟩
      rw [← he] at hwr1
      have HE := Lib.hid he
      clear he
      by_cases hlt : k < m
      · have hml2 := hm.out
        obtain ⟨x, hx⟩ : ∃ x, x = xs[k]'(by omega) := ⟨_, rfl⟩
        obtain ⟨ad, rfl, _, hcx⟩ := (hr.below (hB)).at_ (ivs_get xs k (by omega))
        rw [← hx] at hcx
        clear hx hml2
        by_cases h0 : x < 0
        · go_wp2_with fail
          go_ret
          exact law_ret rfl hB
        · by_cases h1 : 100000 < x
          · go_wp2_with fail
            go_ret
            exact law_ret rfl hB
          · obtain ⟨n, rfl⟩ := Int.eq_ofNat_of_zero_le (show 0 ≤ x by omega)
            by_cases hwk : (k : Int) = wrong
            · have hbe : ((k : Int) == wrong) = true := by simpa using hwk
              clear hwk
              go_wp2_with fail
              refine (wcount_any g v ys e wr hwr1 (by show _ ≤ _; omega) (-1) (by show _ ≤ _; omega)).mono ?_
              rintro en w2' ⟨rfl, v', hw', hs'⟩
              rw [if_neg (by omega), if_neg (by omega)] at hw'
              rw [show wfl e 1 = (if true = true then 1 else 0) from by have := HE.out; unfold wfl; cases f <;> simp_all] at hw'
              obtain ⟨hB', hap'⟩ := hap1.step hs' hB (Nat.le_refl _)
              clear hs' hwr1 hap1 hcx
              have hmk := fun W => run_make_u8 n n (Nat.le_refl _) (by omega) W
              obtain ⟨zs, hzs⟩ : ∃ zs, zs = List.replicate n (Value.int .u8 0) := ⟨_, rfl⟩
              rw [← hzs] at hmk
              have HZ := Lib.hid hzs
              clear hzs
              have hnl := num_len (n := n) (by omega)
              have hn64 : IntKind.u64.wrap (n : Int) = (n : Int) := by rw [IntKind.wrap_u64]; omega
              go_wp2_with fail
              refine (wbytes_any g v' ys (if true = true then 1 else 0) _ (hw'.below ((Below.refl _ _).alloc (Nat.le_refl _) _)) (by show _ ≤ _; omega) (List.replicate n 0) (fun k => k = w2'.heap.size) _ n n ?hrc ?hS (by show _ = _; simp) (by show _ ≤ _; omega)).mono ?_
              case hrc => rw [bvs_replicate, ← HZ.out]; simpa using Rc.lit w2' zs.toArray 5
              case hS =>
                intro k hk
                subst hk
                refine ⟨fun h => ?_, fun h => ?_⟩
                · have := hw'.lt; omega
                · have := (own_lt hw'.row h.symm).2; omega
              rintro en w3 ⟨rfl, v3, hw3, hs3⟩
              rw [List.length_replicate] at hw3
              obtain ⟨hB3, hap3⟩ := hap'.step hs3 (below_alloc hB' (Nat.le_refl _) _) (Nat.le_refl _)
              clear hs3 hmk
              go_wp2_with fail
              refine (rnumber_any n w3 (by show _ < _; omega)).mono ?_
              rintro en w4 ⟨A4, c4, rfl, ho4, hb4⟩
              have hw4 := hw3.below hb4
              have hB4 := below_then hB3 hb4 (Nat.le_refl _)
              have hyl3 := wput_len (if true = true then 1 else 0) ys (num n ++ List.replicate n 0)
              rw [List.length_append, List.length_replicate] at hyl3
              have HYL := Lib.hid hyl3
              clear ho4 hw3 hb4 hB3 hyl3
              go_wp2_with fail
              go_roundw
              case rel => exact ⟨k + 1, t + n + (num n).length, true, v3, _, by go_num, by go_num, rfl, by omega, by omega, by have := HYL.out; omega, (by intro h; cases h), hw4, hB4, hap3⟩
              case measure => simp [intOf]; omega
            · have hbe : ((k : Int) == wrong) = false := by simpa using hwk
              clear hwk
              have hmk := fun W => run_make_u8 n n (Nat.le_refl _) (by omega) W
              obtain ⟨zs, hzs⟩ : ∃ zs, zs = List.replicate n (Value.int .u8 0) := ⟨_, rfl⟩
              rw [← hzs] at hmk
              have HZ := Lib.hid hzs
              clear hzs
              have hnl := num_len (n := n) (by omega)
              have hn64 : IntKind.u64.wrap (n : Int) = (n : Int) := by rw [IntKind.wrap_u64]; omega
              go_wp2_with fail
              refine (wbytes_any g v ys e _ (hwr1.below ((Below.refl _ _).alloc (Nat.le_refl _) _)) (by show _ ≤ _; omega) (List.replicate n 0) (fun k => k = wr.heap.size) _ n n ?hrd ?hT (by show _ = _; simp) (by show _ ≤ _; omega)).mono ?_
              case hrd => rw [bvs_replicate, ← HZ.out]; simpa using Rc.lit wr zs.toArray 5
              case hT =>
                intro k hk
                subst hk
                refine ⟨fun h => ?_, fun h => ?_⟩
                · have := hwr1.lt; omega
                · have := (own_lt hwr1.row h.symm).2; omega
              rintro en w3 ⟨rfl, v3, hw3, hs3⟩
              rw [List.length_replicate] at hw3
              obtain ⟨hB3, hap3⟩ := hap1.step hs3 (below_alloc hB (Nat.le_refl _) _) (Nat.le_refl _)
              clear hs3 hmk
              go_wp2_with fail
              refine (rnumber_any n w3 (by show _ < _; omega)).mono ?_
              rintro en w4 ⟨A4, c4, rfl, ho4, hb4⟩
              have hw4 := hw3.below hb4
              have hB4 := below_then hB3 hb4 (Nat.le_refl _)
              have hyl3 := wput_len e ys (num n ++ List.replicate n 0)
              rw [List.length_append, List.length_replicate] at hyl3
              have HYL := Lib.hid hyl3
              clear ho4 hw3 hb4 hB3 hyl3
              go_wp2_with fail
              go_roundw
              case rel => exact ⟨k + 1, t + n + (num n).length, f, v3, wput e ys (num n ++ List.replicate n 0), by go_num, by go_num, rfl, by omega, by omega, by have := HYL.out; omega, (by intro h; have h1 := hft.out h; have h2 := HE.out; rw [h] at h2; simp at h2; rw [h2]; unfold wput; rw [if_pos rfl]; simp; omega), by rw [← HE.out]; exact hw4, hB4, hap3⟩
              case measure => simp [intOf]; omega
      · go_wp2_with fail
        refine (done_any g v ys e wr hwr1).mono ?_
        rintro en w3 ⟨A3, c3, rfl, ho3, hb3⟩
        have hB3 := below_then hB hb3 (Nat.le_refl _)
        obtain ⟨q, hq⟩ : ∃ q, q = (doneB e ys).length := ⟨_, rfl⟩
        obtain ⟨d, hd⟩ : ∃ d, d = doneE e ys := ⟨_, rfl⟩
        rw [← hq, ← hd]
        clear ho3 hwr1 hap1 hb3
        cases f with
        | true =>
          have he1 : e = 1 := HE.out
          have hd1 : d = 1 := by rw [hd, he1]; rfl
          have hq0 : q = 0 := by rw [hq, he1]; rfl
          subst hd1 hq0
          clear hq hd he1
          go_wp2_with fail
          go_ret
          exact law_ret rfl hB3
        | false =>
          have he0 : e = 0 := HE.out
          have hyt := hft.out rfl
          by_cases ht2 : 1048576 < t
          · have hd2 : doneE e ys = 2 := by unfold doneE; rw [if_neg (by omega), if_pos (by omega)]
            have hd3 : d = 2 := by rw [hd, hd2]
            have hq0 : q = 0 := by rw [hq]; unfold doneB; rw [hd2]; rfl
            subst hd3 hq0
            clear hq hd he0 hd2 hyt
            go_wp2_with fail
            go_ret
            exact law_ret rfl hB3
          · have hd2 : doneE e ys = 0 := by unfold doneE; rw [if_neg (by omega), if_neg (by omega)]
            have hd3 : d = 0 := by rw [hd, hd2]
            have hq0 : q = t := by rw [hq]; unfold doneB; rw [hd2, if_pos rfl]; exact hyt
            subst hd3 hq0
            clear hq hd he0 hd2 hyt
            go_wp2_with fail
            go_ret
            exact law_ret rfl hB3
end Go.Proofs.Ytllmhablpeecfaa
