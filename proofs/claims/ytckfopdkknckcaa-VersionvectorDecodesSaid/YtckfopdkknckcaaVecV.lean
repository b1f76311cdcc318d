/- The reference's Uint and Encode. -/
import Derived.Test.YtckfopdkknckcaaVecI
import Derived.Test.YtckfopdkknckcaaVecL
set_option linter.unusedVariables false
set_option linter.unusedSimpArgs false
namespace Go.Proofs.Ytckfopdkknckcaa
open Go.RowKit
attribute [local irreducible] wpList

/-- The end of a call that gives new bytes. -/
def FreshB (w : World) (ys : List UInt8) (en : Ending) (w' : World) : Prop :=
  ∃ A c, en = .returned (.slice A ys.length c) ∧ w'.ownsRow w.heap.size 5 1 (.slice A ys.length c) ys.length (bvs ys) ∧ Below w.heap.size w w'
theorem ret_sl {A : Option Addr} {n m c : Nat} (h : n = m) : Ending.returned (.slice A n c) = .returned (.slice A m c) := by rw [h]

def flatI0 (ns : List Int) : List UInt8 := ns.flatMap fun n => num n.toNat
set_option maxRecDepth 100000 in
set_option maxHeartbeats 1600000 in
theorem ruint_any (n : Nat) (w : World) (hn : Hid (n ≤ 1099511627776)) :
    Calls Try.prog 48 #[.int .i64 n] w (FreshB w (num n)) := by
  go_enter Try.func48, Try.ntmps48
  go_wp2
  go_loopw [0, 3] (fun c b wr => ∃ (m : Nat) (ys : List UInt8), c = .int .i64 m ∧ m ≤ n ∧ Hid (ys ++ num m = num n) ∧ wr.ownsRow w.heap.size 5 1 b ys.length (bvs ys) ∧ Below w.heap.size w wr)
    (fun c _ _ => (intOf c).toNat)
  case atStart => exact ⟨n, [], rfl, Nat.le_refl _, rfl, own_lit0 w _, (Below.refl _ _).alloc (Nat.le_refl _) _⟩
  case round =>
    obtain ⟨m, ys, rfl, hm, hys, hown, hbel⟩ := hrel
    have hlen : ys.length ≤ 10 := by
      have h1 := congrArg List.length hys.out
      have h2 := num_len (n := n) (by have := hn.out; omega)
      simp only [List.length_append] at h1
      omega
    have hsz := hbel.size
    have hmb : (m : Int) ≤ 1099511627776 := by have := hn.out; omega
    have hm0 : (0 : Int) ≤ (m : Int) := by omega
    by_cases hge : 127 < m
    · obtain ⟨y, hy⟩ : ∃ y : UInt8, y = UInt8.ofNat (m % 128 + 128) := ⟨_, rfl⟩
      have HY : Hid (y = UInt8.ofNat (m % 128 + 128)) := hy
      clear hy
      go_wp2_with (at_builtin; refine wpl_append_bytes w.heap.size rfl _ _ 48 5 rfl Try.underlying48 info_u8 u3 ys [y] (fun k => k = wr.heap.size) (some ⟨wr.heap.size, 0, none⟩) 1 1 rfl rfl (hown.alloc _) ?c1 rfl ?c2 ?c3 ?_)
      case c1 => exact rc_byte (by rw [HY.out, UInt8.toNat_ofNat']; omega)
      case c2 => simp; omega
      case c3 => omega
      intro v1 w1 hown1 hg1 hat1
      have hb1 : Below w.heap.size w w1 := (hbel.alloc hsz _).grown hg1 (by simp; omega) (fun k hk => (own_lt hown hk).1)
      go_wp2
      go_roundw
      case rel => exact ⟨m / 128, ys ++ [y], by go_num, by omega, by
        have h1 := hys.out
        rw [num_ge (by omega)] at h1
        show _ = _
        rw [List.append_assoc, HY.out]
        exact h1, by simpa using hown1, hb1⟩
      case measure => simp [intOf]; omega
    · obtain ⟨y, hy⟩ : ∃ y : UInt8, y = UInt8.ofNat m := ⟨_, rfl⟩
      have HY : Hid (y = UInt8.ofNat m) := hy
      clear hy
      go_wp2_with (at_builtin; refine wpl_append_bytes w.heap.size rfl _ _ 48 5 rfl Try.underlying48 info_u8 u3 ys [y] (fun k => k = wr.heap.size) (some ⟨wr.heap.size, 0, none⟩) 1 1 rfl rfl (hown.alloc _) ?d1 rfl ?d2 ?d3 ?_)
      case d1 => exact rc_byte (by rw [HY.out, UInt8.toNat_ofNat']; omega)
      case d2 => simp; omega
      case d3 => omega
      intro v1 w1 hown1 hg1 hat1
      have hb1 : Below w.heap.size w w1 := (hbel.alloc hsz _).grown hg1 (by simp; omega) (fun k hk => (own_lt hown hk).1)
      have he : num n = ys ++ [y] := by
        have h1 := hys.out
        rw [num_lt (by omega)] at h1
        rw [← h1, HY.out]
      have HE : Hid (num n = ys ++ [y]) := he
      clear he
      obtain ⟨A1, c1, rfl, _, _⟩ := own_slice hown1
      go_wp2
      go_ret
      rw [HE.out]
      exact ⟨A1, c1, ret_sl (by simp), by simpa using hown1, hb1⟩


theorem own_own_ne' {w : World} {b1 b2 s1 s2 n1 n2 : Nat} {e1 e2 : TypeId} {v1 v2 : Value} {xs ys : List Value} (h1 : w.ownsRow b1 e1 s1 v1 n1 xs) (h2 : w.ownsRow b2 e2 s2 v2 n2 ys) (he : e1 ≠ e2) : ∀ b, v1.ownBlock = some b → ¬ some b = v2.ownBlock := by
  intro b hb h
  rcases h2.2 with ⟨rfl, _⟩ | ⟨g, cap, cur, rfl, _, hh, _⟩
  · simp [Value.ownBlock] at h
  · have hbg : b = g := by simpa [Value.ownBlock] using h
    subst hbg
    exact own_blk_ne h1 hh he hb

set_option maxRecDepth 100000 in
set_option maxHeartbeats 1600000 in
theorem rencode_any (xs : List Int) (S : Nat → Prop) (A : Option Addr) (m c : Nat) (w : World) (hr : Rc S w A (ivs xs)) (hm : Hid (xs.length = m)) (hmc : m ≤ c) (hox : Hid (okV xs = true)) :
    Calls Try.prog 31 #[.slice A m c] w (FreshB w (encI (normL xs))) := by
  have hm12 : m ≤ 12 := by have h1 := hox.out; have h2 := hm.out; unfold okV at h1; simp at h1; omega
  have hnb : Hid (∀ x ∈ normL xs, 0 ≤ x ∧ x ≤ 1099511627776) := by
    intro x hx
    have h1 : xs.all okN = true := by have := hox.out; unfold okV at this; exact (Bool.and_eq_true_iff.1 this).2
    exact of_decide_eq_true (List.all_eq_true.1 h1 x (List.mem_of_mem_take hx))
  have hnl : (normL xs).length ≤ 12 := Nat.le_trans (normL_len xs) (by rw [hm.out]; exact hm12)
  have HN := rnormal_any xs S A m c w hr hm (by omega) hmc
  obtain ⟨ns, hns⟩ : ∃ ns, ns = normL xs := ⟨_, rfl⟩
  rw [← hns] at hnb hnl HN ⊢
  clear hns
  obtain ⟨n, hn⟩ : ∃ n, n = ns.length := ⟨_, rfl⟩
  have HNL : Hid (ns.length = n) := hn.symm
  rw [← hn] at hnl
  clear hn
  go_enter Try.func31, Try.ntmps31
  go_wp2_with fail
  refine HN.mono ?_
  rintro en W1 ⟨An, cn, rfl, hon, hb1⟩
  rw [HNL.out] at hon ⊢
  clear HN
  go_wp2_with fail
  refine (ruint_any n W1 (by show _ ≤ _; omega)).mono ?_
  rintro en W2 ⟨Ao, co, rfl, hoo, hb2⟩
  have h0 : Hid (W2.ownsRow w.heap.size 5 1 (.slice Ao (num n).length co) (num n ++ flatI0 (ns.take 0)).length (bvs (num n ++ flatI0 (ns.take 0)))) := by
    have := own_weaken hoo hb1.size
    refine Lib.hid ?_
    simpa [flatI0] using this
  have h1 : Hid (W2.ownsRow w.heap.size 3 1 (.slice An n cn) n (ivs ns)) := own_below hon hb2
  have h2 : Hid (Below w.heap.size w W2) := below_then hb1 hb2 (Nat.le_refl _)
  clear hon hoo hb1 hb2
  go_wp2_with fail
  go_loopw [4, 5] (fun o i wr => ∃ (k : Nat) (vv : Value), o = vv ∧ i = .int .i64 k ∧ k ≤ n ∧ Hid (wr.ownsRow w.heap.size 5 1 vv (num n ++ flatI0 (ns.take k)).length (bvs (num n ++ flatI0 (ns.take k)))) ∧ Hid (wr.ownsRow w.heap.size 3 1 (.slice An n cn) n (ivs ns)) ∧ Hid (Below w.heap.size w wr)) (fun _ i _ => n - (intOf i).toNat)
  case atStart => exact ⟨0, _, rfl, rfl, Nat.zero_le _, h0, h1, h2⟩
  case round =>
    clear h0 h1 h2
    obtain ⟨k, vv, rfl, rfl, hk, hout, hrow, hbl⟩ := hrel
    by_cases hlt : k < n
    · have hkl : k < ns.length := by have := HNL.out; omega
      obtain ⟨ad, rfl, _, hc⟩ := (Rc.of_own hrow.out).at_ (ivs_get ns k hkl)
      have hxo := hnb.out _ (List.getElem_mem hkl)
      obtain ⟨x, hx⟩ : ∃ x, x = ns[k] := ⟨_, rfl⟩
      have htk : flatI0 (ns.take (k + 1)) = flatI0 (ns.take k) ++ num x.toNat := by
        unfold flatI0; rw [List.take_succ_eq_append_getElem hkl, List.flatMap_append, hx]; simp
      rw [← hx] at hc hxo
      obtain ⟨p, rfl⟩ := Int.eq_ofNat_of_zero_le hxo.1
      rw [Int.toNat_natCast] at htk
      have hp : Hid (p ≤ 1099511627776) := by have := hxo.2; show _ ≤ _; omega
      have hpl := num_len (n := p) (by have := hp.out; omega)
      have HTK := Lib.hid htk
      obtain ⟨ys, hys⟩ : ∃ ys, ys = num n ++ flatI0 (ns.take k) := ⟨_, rfl⟩
      have hyl : ys.length ≤ 1000 := by
        have h1 := num_len (n := n) (by omega)
        have h2 : (flatI0 (ns.take k)).length ≤ (ns.take k).length * 10 := flat_len _ (fun x hx => hnb.out x (List.mem_of_mem_take hx))
        have h3 : (ns.take k).length ≤ k := by rw [List.length_take]; exact Nat.min_le_left _ _
        rw [hys, List.length_append]; omega
      rw [← hys] at hout
      have HYS := Lib.hid hys
      have hi1 : (k : Int) < (n : Int) := by omega
      have hi2 : (0 : Int) ≤ (k : Int) := by omega
      clear hx hxo htk hys
      go_wp2_with fail
      refine (ruint_any p wr hp).mono ?_
      rintro en W5 ⟨A5, c5, rfl, ho5, hb5⟩
      have hout5 := own_below hout.out hb5
      have hrow5 := own_below hrow.out hb5
      have hbl5 := below_then hbl.out hb5 (Nat.le_refl _)
      clear hout hrow hbl hc hb5
      go_wp2_with (at_builtin; refine wpl_append_bytes w.heap.size rfl (.tmp 17) (.tmp 22) 48 5 rfl Try.underlying48 info_u8 u4 ys (num p) _ A5 (num p).length c5 rfl rfl hout5 (Rc.of_own ho5) rfl hbl5.size (by omega) ?_)
      intro v7 W7 hown7 hg7 hat7
      have hout7 : Hid (W7.ownsRow w.heap.size 5 1 v7 (num n ++ flatI0 (ns.take (k + 1))).length (bvs (num n ++ flatI0 (ns.take (k + 1))))) := by
        have he : num n ++ flatI0 (ns.take (k + 1)) = ys ++ num p := by rw [HTK.out, ← List.append_assoc, ← HYS.out]
        refine Lib.hid ?_
        rw [he, List.length_append]; exact hown7
      have hrow7 : Hid (W7.ownsRow w.heap.size 3 1 (.slice (some ad) n cn) n (ivs ns)) := (Kp.of_grown hg7).own hrow5 (own_own_ne' hrow5 hout5 (by decide))
      have hbl7 : Hid (Below w.heap.size w W7) := hbl5.grown hg7 hbl5.size (by intro i hi; have := own_lt hout5 hi; omega)
      clear hown7 hg7 hat7 hout5 hrow5 hbl5 ho5
      go_wp2_with fail
      go_roundw
      case rel => exact ⟨k + 1, v7, rfl, by go_num, by omega, hout7, hrow7, hbl7⟩
      case measure => simp [intOf]; omega
    · have hen : ¬ ((k : Nat) : Int) < (n : Int) := by omega
      have hft : ns.take k = ns := List.take_of_length_le (by have := HNL.out; omega)
      have hwf : wr.ownsRow w.heap.size 5 1 u4 (encI ns).length (bvs (encI ns)) := by
        have h9 := hout.out
        rw [hft] at h9
        unfold encI; rw [HNL.out]; exact h9
      obtain ⟨zs, hzs⟩ : ∃ zs, zs = encI ns := ⟨_, rfl⟩
      rw [← hzs] at hwf
      obtain ⟨A9, c9, rfl, _, _⟩ := own_slice hwf
      have HW := Lib.hid hwf
      have HB := Lib.hid hbl.out
      have HZ := Lib.hid hzs
      clear hout hrow hbl hwf hft hzs
      go_wp2_with fail
      go_ret
      rw [← HZ.out]
      exact ⟨A9, c9, rfl, HW.out, HB.out⟩
end Go.Proofs.Ytckfopdkknckcaa
