/- versionvector: Decode. -/
import Derived.Test.YtckfopdkknckcaaVecT
import Derived.Test.YtckfopdkknckcaaVecE
set_option linter.unusedVariables false
set_option linter.unusedSimpArgs false
namespace Go.Proofs.Ytckfopdkknckcaa
open Go.RowKit
attribute [local irreducible] wpList

theorem own_own_ne {w : World} {b1 b2 s1 s2 n1 n2 : Nat} {e1 e2 : TypeId} {v1 v2 : Value} {xs ys : List Value} (h1 : w.ownsRow b1 e1 s1 v1 n1 xs) (h2 : w.ownsRow b2 e2 s2 v2 n2 ys) (he : e1 ≠ e2) : ∀ b, v1.ownBlock = some b → ¬ some b = v2.ownBlock := by
  intro b hb h
  rcases h2.2 with ⟨rfl, _⟩ | ⟨g, cap, cur, rfl, _, hh, _⟩
  · simp [Value.ownBlock] at h
  · have hbg : b = g := by simpa [Value.ownBlock] using h
    subst hbg
    exact own_blk_ne h1 hh he hb

set_option maxRecDepth 100000 in
set_option maxHeartbeats 3200000 in
theorem decode_any (bs : List UInt8) (S : Nat → Prop) (A : Option Addr) (m c : Nat) (w : World) (hr : Rc S w A (bvs bs)) (hm : Hid (bs.length = m)) (h1000 : m ≤ 1000) :
    Calls Try.prog 30 #[.slice A m c] w fun en w' => ∃ r, DecR bs r ∧ IntsE w r en w' := by
  go_enter Try.func30, Try.ntmps30
  go_wp2_with fail
  refine (newReader_any bs S A m c w hr hm (by show _ ≤ _; omega)).mono ?_
  rintro en W1 ⟨g, v, rfl, hrd, hb1, hg, hv⟩
  clear hv
  go_wp2_with fail
  refine (count_any g v bs 0 0 W1 12 0 hrd (by show _ ≤ _; omega)).mono ?_
  rintro en W2 ⟨r, p, l, e, rfl, hR, hrd2, hk2⟩
  obtain ⟨n, rfl, hn12, hdec⟩ := dec_count hR
  have hB2 : Below w.heap.size w W2 := hb1.trans (hk2.below hb1.size (fun i h1 h2 => by omega))
  have HR2 := Lib.hid hrd2
  have HD2 := Lib.hid hdec
  have HB2 := Lib.hid hB2
  have HG := Lib.hid hg
  have HO2 : Hid (W2.ownsRow w.heap.size 3 1 (.slice none 0 0) 0 (ivs [])) := own_nil _ _ _ _
  clear hR hrd2 hk2 hdec hB2 hrd hb1 hg
  go_wp2_with fail
  go_loopw [5, 13] (fun o i wr => ∃ (k : Nat) (vv : Value) (vs : List Int) (p l : Nat) (e : Int), o = vv ∧ i = .int .i64 k ∧ k ≤ n ∧ Hid (Rd wr g v bs p l e) ∧ Hid (Dec bs n k vs p e) ∧ Hid (wr.ownsRow w.heap.size 3 1 vv k (ivs vs)) ∧ Hid (Below w.heap.size w wr)) (fun _ i _ => n - (intOf i).toNat)
  case atStart => exact ⟨0, _, [], p, l, e, rfl, rfl, Nat.zero_le _, HR2, HD2, HO2, HB2⟩
  case round =>
    clear HR2 HD2 HB2 HO2
    obtain ⟨k, vv, vs, p, l, e, rfl, rfl, hk, hrd, hdec, hrow, hbl⟩ := hrel
    by_cases hlt : k < n
    · have hi1 : (k : Int) < (n : Int) := by omega
      go_wp2_with fail
      refine (uint_any g v bs p l wr e hrd.out).mono ?_
      rintro en W5 ⟨r, p', l', e', rfl, hR, hrd5, hk5⟩
      obtain ⟨u, rfl, hgood, hbad⟩ := dec_step hlt hdec.out hR
      have hrow5 : Hid (W5.ownsRow w.heap.size 3 1 u5 k (ivs vs)) := hk5.own hrow.out (fun b hb h => by subst h; exact own_blk_ne hrow.out hrd.out.blk (by decide) hb)
      have hbl5 : Hid (Below w.heap.size w W5) := hbl.out.trans (hk5.below hbl.out.size (fun i h1 h2 => by have := HG.out; omega))
      have HRD5 := Lib.hid hrd5
      have HGOOD := Lib.hid hgood
      have HBAD := Lib.hid hbad
      clear hrow hbl hrd hdec hR hk5 hrd5 hgood hbad
      by_cases hu : 1099511627776 < u
      · have hui : (1099511627776 : Int) < (u : Int) := by omega
        have HU := Lib.hid hu
        clear hu
        go_wp2_with fail
        go_ret2
        exact ⟨([], 3), ⟨fun h => absurd h (by decide), fun _ => rfl, fun ns h1 _ h3 => absurd h3 (HBAD.out HU.out ns h1)⟩, none, 0, rfl, own_nil _ _ _ _, hbl5.out⟩
      · have hui : ¬ (1099511627776 : Int) < (u : Int) := by omega
        have hdec6 := Lib.hid (HGOOD.out (by omega))
        have hwu : IntKind.i64.wrap (u : Int) = (u : Int) := by rw [IntKind.wrap_i64]; omega
        have hrw := hrow5.out
        have hbb := hbl5.out
        have hsz := size_alloc W5 (.cells #[.int .i64 u] 3)
        clear HGOOD HBAD hu hrow5 hbl5
        go_wp2_with (at_builtin; refine wpl_append w.heap.size rfl (.tmp 19) (.tmp 22) 22 3 (.int .i64 0) 1 8 rfl Try.underlying22 info_int rfl (by omega) (by omega) u5 k (ivs vs) (fun i => i = W5.heap.size) (some ⟨W5.heap.size, 0, none⟩) 1 1 [.int .i64 u] rfl rfl (own_below hrw ((Below.refl _ _).alloc (Nat.le_refl _) _)) (Rc.lit W5 #[.int .i64 u] _) rfl (by intro u hu; simp at hu; subst hu; rfl) (by have := hbb.size; omega) (by omega) ?_)
        intro v1 w1 hown1 hg1 hat1
        have hRd7 : Hid (Rd w1 g v bs p' l' e') := by
          have h7 := HRD5.out.below ((Below.refl _ W5).alloc (Nat.le_refl _) (.cells #[.int .i64 u] 3))
          have h8 := own_below hrw ((Below.refl _ W5).alloc (Nat.le_refl _) (.cells #[.int .i64 u] 3))
          exact h7.kp (Kp.of_grown hg1) (fun h => own_blk_ne h8 h7.blk (by decide) h.symm) (own_own_ne h7.row h8 (by decide))
        have hrow7 : Hid (w1.ownsRow w.heap.size 3 1 v1 (k + 1) (ivs (vs ++ [(u : Int)]))) := by
          have : ivs (vs ++ [(u : Int)]) = ivs vs ++ [.int .i64 u] := by unfold ivs; rw [List.map_append]; rfl
          rw [this]; exact hown1
        have hbl7 : Hid (Below w.heap.size w w1) := (below_alloc hbb (Nat.le_refl _) _).grown hg1 (by have := hbb.size; omega) (by intro i hi; have := own_lt hrw hi; omega)
        clear hown1 hg1 hat1 hrw hbb HRD5
        go_wp2_with fail
        go_roundw
        case rel => exact ⟨k + 1, v1, vs ++ [(u : Int)], p', l', e', rfl, by go_num, by omega, hRd7, hdec6, hrow7, hbl7⟩
        case measure => simp [intOf]; omega
    · have hen : ¬ ((k : Nat) : Int) < (n : Int) := by omega
      have hkn : k = n := by omega
      subst hkn
      obtain ⟨A5, c5, rfl, _, _⟩ := own_slice hrow.out
      go_wp2_with fail
      refine (end_any g v bs p l e wr hrd.out).mono ?_
      rintro en w' ⟨rfl, n7, rfl⟩
      have hBw := below_drewN hbl.out n7
      have hrow7 := ((Kp.refl (fun _ => False) wr).drewN n7).own hrow.out (fun _ _ h => h)
      have hpl := hrd.out.le
      obtain ⟨q, hq⟩ : ∃ q, q = endE e p bs.length := ⟨_, rfl⟩
      rw [← hq]
      have hfull : ∀ ns, okV ns = true → bs = encI ns → vs = ns ∧ q = 0 := by
        intro ns h1 h2
        obtain ⟨f1, f2, f3, f4⟩ := hdec.out.full ns h1 h2
        refine ⟨by rw [f3]; exact List.take_of_length_le (by omega), ?_⟩
        have h5 : (bs.drop p).length = 0 := by rw [f4, List.drop_of_length_le (by omega)]; rfl
        rw [List.length_drop] at h5
        rw [hq, endE, if_neg (by omega), f2]
      have HFULL := Lib.hid hfull
      have hsound : q = 0 → bs = encI vs := by
        intro h0
        rw [h0] at hq
        unfold endE at hq
        split at hq
        · omega
        · rename_i h5
          have h6 := hdec.out.sound hq.symm
          have h7 : bs.length ≤ p := by
            rcases Nat.lt_or_ge p bs.length with h8 | h8
            · exact absurd ⟨hq.symm, h8⟩ h5
            · exact h8
          rw [List.take_of_length_le h7] at h6
          rw [h6, encI, hdec.out.len]; rfl
      have HSOUND := Lib.hid hsound
      have HOKV : Hid (okV vs = true) := by
        have h1 := hdec.out.ok
        have h2 := hdec.out.len
        show _ = _
        unfold okV; rw [h1]; simp; omega
      have HVL : Hid (vs.length = k) := hdec.out.len
      have HBW := Lib.hid hBw
      have HROW := Lib.hid hrow7
      have hrc := (Rc.of_own hrow7).mono (S' := fun _ => True) (fun _ _ _ => trivial)
      clear hq hfull hsound hrd hdec hrow hbl hpl hBw hrow7 hlt hen hk
      revert HBW HROW hrc
      generalize wr.drewN n7 = W9
      intro HBW HROW hrc
      by_cases hq0 : q = 0
      case neg =>
        have hqb : (q != 0) = true := by rw [bne_iff_ne]; exact hq0
        have HQ0 := Lib.hid hq0
        clear hq0
        go_wp2_with fail
        go_ret2
        exact ⟨([], 3), ⟨fun h => absurd h (by decide), fun _ => rfl, fun ns h1 _ h3 => absurd (HFULL.out ns h1 h3).2 HQ0.out⟩, none, 0, rfl, own_nil _ _ _ _, HBW.out⟩
      have HS := Lib.hid (HSOUND.out hq0)
      clear HSOUND
      subst hq0
      by_cases hk0 : k = 0
      · subst hk0
        have hvs : vs = [] := List.eq_nil_of_length_eq_zero HVL.out
        subst hvs
        go_wp2_with fail
        go_ret2
        exact ⟨([], 0), ⟨fun _ => ⟨HS.out, HOKV.out, rfl⟩, fun h => absurd rfl h, fun ns h1 _ h3 => by rw [← (HFULL.out ns h1 h3).1]⟩, A5, c5, rfl, HROW.out, HBW.out⟩
      · obtain ⟨j, rfl⟩ : ∃ j, k = j + 1 := ⟨k - 1, by omega⟩
        have hjl : j < vs.length := by rw [HVL.out]; omega
        obtain ⟨ad, rfl, _, hc⟩ := hrc.at_ (ivs_get vs j hjl)
        obtain ⟨x, hx⟩ : ∃ x, x = vs[j] := ⟨_, rfl⟩
        have hxd : vs.getD j 0 = x := by rw [hx]; simp [List.getD, hjl]
        rw [← hx] at hc
        have HXD := Lib.hid hxd
        have hi3 : (0 : Int) < ((j + 1 : Nat) : Int) := by omega
        have hi4 : (0 : Int) ≤ (j : Int) := by omega
        have hi5 : (j : Int) < ((j + 1 : Nat) : Int) := by omega
        clear hx hxd hrc hk0
        by_cases hx0 : x = 0
        · subst hx0
          go_wp2_with fail
          go_ret2
          exact ⟨([], 3), ⟨fun h => absurd h (by decide), fun _ => rfl, fun ns h1 h2 h3 => absurd HXD.out (last_norm (by rw [(HFULL.out ns h1 h3).1]; exact h2) HVL.out)⟩, none, 0, rfl, own_nil _ _ _ _, HBW.out⟩
        · have hxf : (x == 0) = false := by rw [beq_eq_false_iff_ne]; exact hx0
          have HNL : Hid (normL vs = vs) := norm_last (.inr ⟨j, HVL.out, by rw [HXD.out]; exact hx0⟩)
          clear hx0
          have hvl := HVL.out
          go_wp2_with fail
          go_ret2
          refine ⟨(vs, 0), ⟨fun _ => ⟨HS.out, HOKV.out, HNL.out⟩, fun h => absurd rfl h, fun ns h1 _ h3 => by rw [(HFULL.out ns h1 h3).1]⟩, some ad, c5, ?_, ?_, HBW.out⟩
          · rw [HVL.out]; rfl
          · rw [HVL.out]; exact HROW.out
end Go.Proofs.Ytckfopdkknckcaa
