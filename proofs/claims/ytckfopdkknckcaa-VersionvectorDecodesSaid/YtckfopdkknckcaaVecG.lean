/- versionvector: Encode. -/
import Derived.Test.YtckfopdkknckcaaVecB
set_option linter.unusedVariables false
set_option linter.unusedSimpArgs false
namespace Go.Proofs.Ytckfopdkknckcaa
open Go.RowKit
attribute [local irreducible] wpList

def encI (ns : List Int) : List UInt8 := num ns.length ++ ns.flatMap fun n => num n.toNat
def encR (xs : List Int) : List UInt8 × Int := if okV xs then (encI (normL (padV xs)), 0) else ([], 1)
/-- The end of a call that gives bytes and an error. -/
def BytesV (w : World) (r : List UInt8 × Int) (en : Ending) (w' : World) : Prop :=
  ∃ A c, en = .returned (.tuple #[.slice A r.1.length c, .int .i64 r.2]) ∧ w'.ownsRow w.heap.size 5 1 (.slice A r.1.length c) r.1.length (bvs r.1) ∧ Below w.heap.size w w'
theorem pad_okN (xs : List Int) : ∀ x ∈ padV xs, 0 ≤ x ∧ x ≤ 1099511627776 := by
  intro x hx
  unfold padV at hx
  split at hx
  · rename_i h
    rcases List.mem_append.1 hx with hx | hx
    · unfold okV at h
      have := (List.all_eq_true.1 (by simpa using (Bool.and_eq_true_iff.1 h).2 : xs.all okN = true)) x hx
      unfold okN at this
      simpa using this
    · have := List.eq_of_mem_replicate hx; omega
  · have := List.eq_of_mem_replicate hx; omega
theorem norm_okN (xs : List Int) : ∀ x ∈ normL (padV xs), 0 ≤ x ∧ x ≤ 1099511627776 := fun x hx => pad_okN xs x (List.mem_of_mem_take hx)
theorem norm_len (xs : List Int) : (normL (padV xs)).length ≤ 12 := by
  unfold normL
  have h1 := padV_length xs
  have h2 : ((padV xs).take (nlen (padV xs) (padV xs).length)).length ≤ (padV xs).length := by rw [List.length_take]; exact Nat.min_le_right _ _
  omega
theorem flat_len (ns : List Int) (h : ∀ x ∈ ns, 0 ≤ x ∧ x ≤ 1099511627776) : (ns.flatMap fun n => num n.toNat).length ≤ ns.length * 10 := by
  induction ns with
  | nil => simp
  | cons n t ih =>
    rw [List.flatMap_cons, List.length_append, List.length_cons]
    have h1 := ih (fun x hx => h x (List.mem_cons_of_mem _ hx))
    have h2 := h n List.mem_cons_self
    have h3 := num_len (n := n.toNat) (by omega)
    omega

set_option maxRecDepth 100000 in
set_option maxHeartbeats 1600000 in
theorem encode_any (xs : List Int) (S1 : Nat → Prop) (A1 : Option Addr) (m1 c1 : Nat) (w : World) (hr1 : Rc S1 w A1 (ivs xs)) (hm1 : Hid (xs.length = m1)) (hml1 : Hid (m1 ≤ 9223372036854775807)) :
    Calls Try.prog 29 #[.slice A1 m1 c1] w (BytesV w (encR xs)) := by
  obtain ⟨r, hrr⟩ : ∃ r, r = encR xs := ⟨_, rfl⟩
  rw [← hrr]
  have HRR := Lib.hid hrr
  clear hrr
  go_enter Try.func29, Try.ntmps29
  go_wp2_with fail
  refine (padded_any xs S1 A1 m1 c1 w hr1 hm1 hml1).mono ?_
  rintro en w1 ⟨rfl, hb1⟩
  obtain ⟨V1, hV1⟩ : ∃ L, L = (ivs (padV xs)).toArray := ⟨_, rfl⟩
  have hV1s : V1.size = 12 := by rw [hV1]; exact vec_size (padV_length xs)
  have hV1o : ∀ v ∈ V1, v.oneCell' = true := by rw [hV1]; exact vec_one _
  rw [← hV1]
  have HN := normal_any (padV xs) (padV_length xs)
  rw [← hV1] at HN
  have hx1 := blk_new w1 55 V1
  have hb1' := below_alloc hb1 (Nat.le_refl _) (.cells V1 55)
  clear hb1 hr1 hV1
  cases hox : okV xs with
  | false =>
    have HO := Lib.hid hox
    clear hox
    go_wp2_with (first
      | refine st_new (o := ⟨none, .store _ (.tmp 4) (.tmp 13), _, _, _, _⟩) rfl (.tmp 4) (.tmp 13) rfl w1 V1 _ rfl rfl rfl rfl hV1s hV1o ?_)
    go_ret2
    rw [HRR.out, encR, HO.out]
    exact ⟨none, 0, rfl, own_nil _ _ _ _, hb1'⟩
  | true =>
    have HO := Lib.hid hox
    clear hox
    go_wp2_with (first
      | refine st_new (o := ⟨none, .store _ (.tmp 4) (.tmp 13), _, _, _, _⟩) rfl (.tmp 4) (.tmp 13) rfl w1 V1 _ rfl rfl rfl rfl hV1s hV1o ?_)
    revert hx1 hb1'
    generalize (w1.alloc (.cells V1 55)) = W1
    generalize w1.heap.size = b1
    intro hx1 hb1
    refine (newWriter_any W1).mono ?_
    rintro en w3 ⟨rfl, rfl⟩
    have hw3 := Wr.new W1
    have hx3 := blk_alloc hx1 (.cells #[.slice none 0 0, .int .i64 0] 78)
    have hb3 := below_alloc hb1 (Nat.le_refl _) (.cells #[.slice none 0 0, .int .i64 0] 78)
    obtain ⟨g, hg⟩ : ∃ g, g = W1.heap.size := ⟨_, rfl⟩
    have hgw : Hid (w.heap.size ≤ g) := by have := hb1.size; show _ ≤ _; omega
    rw [← hg] at hw3 ⊢
    clear hg hx1 hb1
    revert hw3 hx3 hb3
    generalize (W1.alloc (.cells #[.slice none 0 0, .int .i64 0] 78)) = W3
    intro hx3 hb3 hw3
    go_wp2_with (first
      | refine ld_vec (o := ⟨some 18, _, _, _, _, _⟩) rfl (.tmp 4) rfl b1 rfl V1 hx3 hV1s ?_)
    refine (HN W3).mono ?_
    rintro en W4 ⟨A4, c4, rfl, ho4, hb4⟩
    obtain ⟨ns, hns⟩ : ∃ ns, ns = normL (padV xs) := ⟨_, rfl⟩
    have hnl := norm_len xs
    have hno := norm_okN xs
    rw [← hns] at ho4 hnl hno ⊢
    have HNS := Lib.hid hns
    have HNO := Lib.hid hno
    obtain ⟨n, hn⟩ : ∃ n, n = ns.length := ⟨_, rfl⟩
    rw [← hn] at ho4 hnl ⊢
    have HNL := Lib.hid hn
    have hw4 := hw3.below hb4
    have hB4 := below_then hb3 hb4 (Nat.le_refl _)
    have hgl := hw3.lt
    have hrc4 : Rc (fun k => ¬ k = g ∧ k < W4.heap.size) W4 A4 (ivs ns) := (Rc.of_own ho4).mono (fun k _ hk => by have := own_lt ho4 hk; exact ⟨by omega, this.2⟩)
    have HB4 := Lib.hid hB4
    clear hns hno hn hx3 hw3 hb4 hb3 ho4 hB4 hgl HN
    go_wp2_with fail
    refine (wcount_any g (.slice none 0 0) [] 0 W4 hw4 (by show _ ≤ _; simp) (n : Int) (by show _ ≤ _; omega)).mono ?_
    rintro en W5 ⟨rfl, v5, hw5, hs5⟩
    rw [if_pos (by omega), if_pos (by omega)] at hw5
    have hk5 : Kp (fun k => k = g) W4 W5 := hs5.kp.mono (fun i _ h => by rcases h with h | h; exact h; simp [Value.ownBlock] at h)
    have hv5 : ∀ b, v5.ownBlock = some b → W4.heap.size ≤ b := by
      intro b hb
      rcases hs5.nx with h | ⟨b2, h, hb2⟩
      · rw [h] at hb; simp [Value.ownBlock] at hb
      · rw [h] at hb; injection hb with hb; omega
    have hw6 : Wr W5 g v5 (num n ++ (ns.take 0).flatMap fun n => num n.toNat) 0 := by simpa [wput] using hw5
    have HW6 := Lib.hid hw6
    have HK5 := Lib.hid hk5
    have HV5 := Lib.hid hv5
    clear hw5 hs5 hk5 hv5 hw6 hw4
    go_wp2_with fail
    go_loopw [26] (fun i wr => ∃ (k : Nat) (v : Value), i = .int .i64 k ∧ k ≤ n ∧ Hid (Wr wr g v (num n ++ (ns.take k).flatMap fun n => num n.toNat) 0) ∧ Hid (Kp (fun k => k = g) W4 wr) ∧ Hid (∀ b, v.ownBlock = some b → W4.heap.size ≤ b)) (fun i _ => n - (intOf i).toNat)
    case atStart => exact ⟨0, v5, rfl, Nat.zero_le _, HW6, HK5, HV5⟩
    case round =>
      obtain ⟨k, v, rfl, hk, hw, hkp, hv⟩ := hrel
      clear HW6 HK5 HV5
      by_cases hlt : k < n
      · have hkl : k < ns.length := by have := HNL.out; omega
        obtain ⟨ad, rfl, _, hc⟩ := (hrc4.kp hkp.out (fun k h => h.1)).at_ (ivs_get ns k hkl)
        have hxo := HNO.out _ (List.getElem_mem hkl)
        obtain ⟨x, hx⟩ : ∃ x, x = ns[k] := ⟨_, rfl⟩
        have htk : (ns.take (k + 1)).flatMap (fun n => num n.toNat) = (ns.take k).flatMap (fun n => num n.toNat) ++ num x.toNat := by
          rw [List.take_succ_eq_append_getElem hkl, List.flatMap_append, hx]; simp
        rw [← hx] at hc hxo
        obtain ⟨p, rfl⟩ := Int.eq_ofNat_of_zero_le hxo.1
        rw [Int.toNat_natCast] at htk
        have hp : Hid (p ≤ 1099511627776) := by have := hxo.2; show _ ≤ _; omega
        have HTK := Lib.hid htk
        have hlen : Hid ((num n ++ (ns.take k).flatMap fun n => num n.toNat).length ≤ 1000000000000) := by
          have h1 := num_len (n := n) (by omega)
          have h2 := flat_len (ns.take k) (fun x hx => HNO.out x (List.mem_of_mem_take hx))
          have h3 : (ns.take k).length ≤ k := by rw [List.length_take]; exact Nat.min_le_left _ _
          show _ ≤ _
          rw [List.length_append]; omega
        have hcv : IntKind.u64.wrap (p : Int) = (p : Int) := by have := hp.out; rw [IntKind.wrap_u64]; omega
        have hi1 : (k : Int) < (n : Int) := by omega
        have hi2 : (0 : Int) ≤ (k : Int) := by omega
        clear hx htk hxo
        go_wp2_with fail
        refine (wuint_any g v _ 0 p wr hw.out (by have := hp.out; show _ < _; omega) hlen).mono ?_
        rintro en W7 ⟨rfl, v7, hw7, hs7⟩
        have hk7 : Hid (Kp (fun k => k = g) W4 W7) := hkp.out.trans hs7.kp (fun i hi h => by
          rcases h with h | h
          · exact h
          · have := hv.out i h.symm; omega)
        have hv7 : Hid (∀ b, v7.ownBlock = some b → W4.heap.size ≤ b) := by
          intro b hb
          rcases hs7.nx with h | ⟨b2, h, hb2⟩
          · exact hv.out b (by rw [← h]; exact hb)
          · rw [h] at hb; injection hb with hb; have := hkp.out.size; omega
        have hw8 : Hid (Wr W7 g v7 (num n ++ (ns.take (k + 1)).flatMap fun n => num n.toNat) 0) := by
          show Wr _ _ _ _ _
          rw [HTK.out, ← List.append_assoc]; exact hw7
        clear hw7 hs7 hw hkp hv hlen
        go_wp2_with fail
        go_roundw
        case rel => exact ⟨k + 1, v7, by go_num, by omega, hw8, hk7, hv7⟩
        case measure => simp [intOf]; omega
      · have hen : ¬ ((k : Nat) : Int) < (n : Int) := by omega
        have hft : ns.take k = ns := List.take_of_length_le (by have := HNL.out; omega)
        have hwf : Wr wr g v (encI ns) 0 := by unfold encI; have := hw.out; rw [hft, HNL.out] at this; exact this
        have hlen : (encI ns).length ≤ 1000 := by
          unfold encI
          have h1 := num_len (n := ns.length) (by have := HNL.out; omega)
          have h2 := flat_len ns HNO.out
          have := HNL.out
          rw [List.length_append]; omega
        have hd1 : doneE 0 (encI ns) = 0 := by unfold doneE; rw [if_neg (by omega), if_neg (by omega)]
        have hd2 : doneB 0 (encI ns) = encI ns := by unfold doneB; rw [if_pos hd1]
        have hBw : Below w.heap.size w wr := HB4.out.trans (hkp.out.below HB4.out.size (fun k h1 h2 => by have := hgw.out; omega))
        clear hw hkp hv hrc4
        go_wp2_with fail
        refine (done_any g v _ 0 wr hwf).mono ?_
        rintro en W9 ⟨A9, c9, rfl, ho9, hb9⟩
        rw [hd1, hd2]
        rw [hd2] at ho9
        have ho10 := own_weaken ho9 hBw.size
        have hB9 := below_then hBw hb9 (Nat.le_refl _)
        obtain ⟨zs, hzs⟩ : ∃ zs, zs = encI ns := ⟨_, rfl⟩
        rw [← hzs] at ho10 ⊢
        have HZ := Lib.hid hzs
        clear hzs hd1 hd2 hlen hwf ho9 hft
        go_wp2_with fail
        go_ret2
        rw [HRR.out, encR, HO.out, if_pos rfl, ← HNS.out, ← HZ.out]
        exact ⟨A9, c9, rfl, ho10, hB9⟩
end Go.Proofs.Ytckfopdkknckcaa
