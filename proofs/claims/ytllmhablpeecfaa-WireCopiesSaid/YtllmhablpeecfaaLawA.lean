/- The walks of kinkeeplaw01's same and kinkeepref01's Number, and of awake: the examples of the chapter hold. -/
import Derived.Test.YtllmhablpeecfaaWireB
set_option linter.unusedVariables false
set_option linter.unusedSimpArgs false
namespace Go.Proofs.Ytllmhablpeecfaa
open Go.RowKit

theorem same_list {xs ys : List UInt8} (hl : xs.length = ys.length) (h : ∀ i, i < xs.length → xs[i]? = ys[i]?) : xs = ys := by
  apply List.ext_getElem? 
  intro i
  rcases Nat.lt_or_ge i xs.length with hi | hi
  · exact h i hi
  · rw [List.getElem?_eq_none hi, List.getElem?_eq_none (by omega)]

set_option maxHeartbeats 400000 in
theorem same_any (xs ys : List UInt8) (S S' : Nat → Prop) (A A' : Option Addr) (n c n' c' : Nat) (w : World) (hx : Rc S w A (bvs xs)) (hy : Rc S' w A' (bvs ys)) (hn : Hid (xs.length = n)) (hn' : Hid (ys.length = n')) (hb : Hid (n ≤ 9223372036854775807)) :
    Calls Try.prog 14 #[.slice A n c, .slice A' n' c'] w fun e w' => e = .returned (.bool (decide (xs = ys))) ∧ ∃ n, w' = w.drewN n := by
  by_cases hl : n = n'
  · subst hl
    have hl := hn.out
    obtain ⟨r, hr⟩ : ∃ r, r = decide (xs = ys) := ⟨_, rfl⟩
    have HR : Hid (r = decide (xs = ys)) := hr
    rw [← hr]
    clear hr hl
    go_enter Try.func14, Try.ntmps14
    go_wp2
    go_loopw [5] (fun i wr => ∃ k : Nat, i = .int .i64 k ∧ k ≤ n ∧ (∃ m, wr = w.drewN m) ∧ Hid (∀ j, j < k → xs[j]? = ys[j]?)) (fun i _ => n - (intOf i).toNat)
    case atStart => exact ⟨0, rfl, Nat.zero_le _, ⟨0, rfl⟩, fun j hj => absurd hj (by omega)⟩
    case round =>
      obtain ⟨k, rfl, hk, ⟨m, rfl⟩, hjs⟩ := hrel
      by_cases hlt : k < n
      · have hnx := hn.out
        have hny := hn'.out
        obtain ⟨ax, rfl, _, cx⟩ := hx.at_ (bvs_get xs k (by omega))
        obtain ⟨ay, rfl, _, cy⟩ := hy.at_ (bvs_get ys k (by omega))
        obtain ⟨x, hxk⟩ : ∃ x, x = xs[k] := ⟨_, rfl⟩
        obtain ⟨y, hyk⟩ : ∃ y, y = ys[k] := ⟨_, rfl⟩
        rw [← hxk] at cx
        rw [← hyk] at cy
        have HX : Hid (xs[k]? = some x) := by show _ = _; rw [hxk]; exact List.getElem?_eq_getElem _
        have HY : Hid (ys[k]? = some y) := by show _ = _; rw [hyk]; exact List.getElem?_eq_getElem _
        have hb64 : IntKind.i64.wrap ((k : Int) + 1) = (k : Int) + 1 := by have := hb.out; rw [IntKind.wrap_i64]; omega
        have hb65 : wrap64 ((k : Int) + 1) = (k : Int) + 1 := by have := hb.out; unfold wrap64; omega
        clear hxk hyk hnx hny
        by_cases hxy : x = y
        · have hbe : ((x.toNat : Int) != (y.toNat : Int)) = false := by rw [hxy]; simp
          have hj2 : Hid (∀ j, j < k + 1 → xs[j]? = ys[j]?) := fun j hj => by
            rcases Nat.lt_or_ge j k with h | h
            · exact hjs.out j h
            · obtain rfl : j = k := by omega
              rw [HX.out, HY.out, hxy]
          clear hxy
          go_wp2
          go_quiet (fail)
          go_wp2
          go_roundw
          case rel => exact ⟨k + 1, by go_num, by omega, ⟨_, rfl⟩, hj2⟩
          case measure => simp [intOf]; omega
        · have hbe : ((x.toNat : Int) != (y.toNat : Int)) = true := by
            rw [bne_iff_ne]; intro h; exact hxy (UInt8.toNat_inj.1 (by omega))
          have HF : Hid (r = false) := by
            show _ = _
            rw [HR.out, decide_eq_false_iff_not]
            intro h
            have := HX.out
            rw [h, HY.out] at this
            injection this with this
            exact hxy this.symm
          clear hxy
          go_wp2
          go_quiet (fail)
          go_wp2
          go_ret
          exact ⟨ret_bool HF.out.symm, _, by first | rfl | exact World.drewN_drewN ..⟩
      · have HT : Hid (r = true) := by
          show _ = _
          rw [HR.out, decide_eq_true_iff]
          exact same_list (by rw [hn.out, hn'.out]) (fun i hi => hjs.out i (by have := hn.out; omega))
        go_wp2
        go_ret
        exact ⟨ret_bool HT.out.symm, _, rfl⟩
  · have hbe : ((n : Int) != (n' : Int)) = true := by rw [bne_iff_ne]; omega
    have HF : Hid (decide (xs = ys) = false) := by
      show _ = _
      rw [decide_eq_false_iff_not]
      intro h
      apply hl
      rw [← hn.out, ← hn'.out, h]
    clear hl
    go_enter Try.func14, Try.ntmps14
    go_wp2
    go_ret
    exact ⟨ret_bool HF.out.symm, 0, rfl⟩

/-- A call's end: bytes in a row of its own. -/
def FreshB (w : World) (ys : List UInt8) (en : Ending) (w' : World) : Prop :=
  ∃ A c, en = .returned (.slice A ys.length c) ∧ w'.ownsRow w.heap.size 5 1 (.slice A ys.length c) ys.length (bvs ys) ∧ Below w.heap.size w w'

set_option maxRecDepth 100000 in
set_option maxHeartbeats 400000 in
theorem rnumber_any (n : Nat) (w : World) (hn : Hid (n < 18446744073709551616)) :
    Calls Try.prog 13 #[.int .u64 n] w (FreshB w (num n)) := by
  go_enter Try.func13, Try.ntmps13
  go_wp2
  go_loopw [0, 3] (fun c b wr => ∃ (m : Nat) (ys : List UInt8), c = .int .u64 m ∧ m ≤ n ∧ Hid (ys ++ num m = num n) ∧ wr.ownsRow w.heap.size 5 1 b ys.length (bvs ys) ∧ Below w.heap.size w wr)
    (fun c _ _ => (intOf c).toNat)
  case atStart => exact ⟨n, [], rfl, Nat.le_refl _, rfl, own_lit0 w _, (Below.refl _ _).alloc (Nat.le_refl _) _⟩
  case round =>
    obtain ⟨m, ys, rfl, hm, hys, hown, hbel⟩ := hrel
    have hlen : ys.length ≤ 10 := by
      have h1 := congrArg List.length hys.out
      have h2 := num_len hn.out
      simp only [List.length_append] at h1
      omega
    have hsz := hbel.size
    have hq : IntKind.u64.wrap ((m : Int) / 128) = (m : Int) / 128 := by have := hn.out; rw [IntKind.wrap_u64]; omega
    by_cases hge : 127 < m
    · obtain ⟨y, hy⟩ : ∃ y : UInt8, y = UInt8.ofNat (m % 128 + 128) := ⟨_, rfl⟩
      have HY : Hid (y = UInt8.ofNat (m % 128 + 128)) := hy
      clear hy
      go_wp2_with (at_builtin; refine wpl_append_bytes w.heap.size rfl _ _ 22 5 rfl Try.underlying22 info_u8 u3 ys [y] (fun k => k = wr.heap.size) (some ⟨wr.heap.size, 0, none⟩) 1 1 rfl rfl (hown.alloc _) ?c1 rfl ?c2 ?c3 ?_)
      case c1 => exact rc_byte (by rw [HY.out, UInt8.toNat_ofNat']; omega)
      case c2 => simp; omega
      case c3 => omega
      intro v1 w1 hown1 hg1 hat1
      have hb1 : Below w.heap.size w w1 := (hbel.alloc hsz _).grown hg1 (by simp; omega) (fun k hk => (own_lt hown hk).1)
      go_wp2
      go_roundw
      case rel => exact ⟨m / 128, ys ++ [y], by go_num, by omega, by
        have h1 := hys.out
        rw [num_ge (by omega)] at h1
        show _ = _
        rw [List.append_assoc, HY.out]
        exact h1, by simpa using hown1, hb1⟩
      case measure => simp [intOf]; omega
    · obtain ⟨y, hy⟩ : ∃ y : UInt8, y = UInt8.ofNat m := ⟨_, rfl⟩
      have HY : Hid (y = UInt8.ofNat m) := hy
      clear hy
      go_wp2_with (at_builtin; refine wpl_append_bytes w.heap.size rfl _ _ 22 5 rfl Try.underlying22 info_u8 u3 ys [y] (fun k => k = wr.heap.size) (some ⟨wr.heap.size, 0, none⟩) 1 1 rfl rfl (hown.alloc _) ?d1 rfl ?d2 ?d3 ?_)
      case d1 => exact rc_byte (by rw [HY.out, UInt8.toNat_ofNat']; omega)
      case d2 => simp; omega
      case d3 => omega
      intro v1 w1 hown1 hg1 hat1
      have hb1 : Below w.heap.size w w1 := (hbel.alloc hsz _).grown hg1 (by simp; omega) (fun k hk => (own_lt hown hk).1)
      have he : num n = ys ++ [y] := by
        have h1 := hys.out
        rw [num_lt (by omega)] at h1
        rw [← h1, HY.out]
      have HE : Hid (num n = ys ++ [y]) := he
      clear he
      obtain ⟨A1, c1, rfl, _, _⟩ := own_slice hown1
      go_wp2
      go_ret
      rw [HE.out]
      exact ⟨A1, c1, ret_slice' (by simp), by simpa using hown1, hb1⟩

set_option maxHeartbeats 800000 in
theorem awake_any (w : World) :
    Calls Try.prog 12 #[] w fun e w' => e = .returned (.bool true) ∧ Below w.heap.size w w' := by
  go_enter Try.func12, Try.ntmps12
  go_wp2_with fail
  refine (newWriter_any w).mono ?_
  rintro en w1 ⟨rfl, rfl⟩
  have hw := Wr.new w
  have hb0 := (Below.refl w.heap.size w).alloc (Nat.le_refl _) (.cells #[.slice none 0 0, .int .i64 0] 64)
  obtain ⟨wa, hwa⟩ : ∃ wa, wa = w.alloc (.cells #[.slice none 0 0, .int .i64 0] 64) := ⟨_, rfl⟩
  rw [← hwa] at hw hb0 ⊢
  clear hwa
  go_wp2_with fail
  refine (wuint_any _ _ [] 0 300 wa hw (by show 300 < _; omega) (by show _ ≤ _; simp)).mono ?_
  rintro en w2 ⟨rfl, v2, hw2, hs2⟩
  rw [show wput 0 [] (num 300) = [172, 2] by rw [num_ge (by omega), num_lt (by omega)]; rfl] at hw2
  go_wp2_with fail
  refine (wbool_any _ v2 [172, 2] 0 w2 hw2 (by show _ ≤ _; simp) true).mono ?_
  rintro en w3 ⟨rfl, v3, hw3, hs3⟩
  have hk3 := (hs2.trans hs3).kp
  have hb3 : Below w.heap.size w w3 := hb0.trans (hk3.below hb0.size (by intro k hk; simp [Value.ownBlock]; omega))
  rw [show wput 0 [172, 2] [if true = true then 1 else 0] = [172, 2, 1] from rfl] at hw3
  clear hw hw2 hs2 hs3 hk3
  go_wp2_with fail
  refine (done_any _ v3 [172, 2, 1] 0 w3 hw3).mono ?_
  rintro en w4 ⟨A4, c4, rfl, ho4, hb4⟩
  have hB4 := below_then hb3 hb4 (Nat.le_refl _)
  rw [show doneB 0 [172, 2, 1] = [172, 2, 1] from rfl] at ho4
  rw [show doneB 0 [172, 2, 1] = [172, 2, 1] from rfl, show doneE 0 [172, 2, 1] = 0 from rfl]
  have hr4 := (Rc.of_own ho4).alloc (.cells #[.int .u8 172, .int .u8 2, .int .u8 1] 5)
  have hl4 := Rc.lit w4 #[.int .u8 172, .int .u8 2, .int .u8 1] 5
  clear hw3 hb4
  go_wp2_with fail
  refine (same_any [172, 2, 1] [172, 2, 1] _ _ _ _ 3 c4 3 3 _ hr4 hl4 rfl rfl (by show _ ≤ _; omega)).mono ?_
  rintro en w5 ⟨rfl, m5, rfl⟩
  rw [show decide (([172, 2, 1] : List UInt8) = [172, 2, 1]) = true from by simp]
  have hB5 := below_drewN (below_alloc hB4 (Nat.le_refl _) (.cells #[.int .u8 172, .int .u8 2, .int .u8 1] 5)) m5
  have hr5 := hr4.drewN m5
  clear hr4 hl4 hB4 ho4
  obtain ⟨wc, hwc⟩ : ∃ wc, wc = (w4.alloc (.cells #[.int .u8 172, .int .u8 2, .int .u8 1] 5)).drewN m5 := ⟨_, rfl⟩
  rw [← hwc] at hB5 hr5 ⊢
  clear hwc
  go_wp2_with fail
  refine (newReader_any [172, 2, 1] _ A4 3 c4 _ hr5 rfl (by show _ ≤ _; omega)).mono ?_
  rintro en w6 ⟨g6, v6, rfl, hr6, hb6, hg6, hv6⟩
  have hB6 := below_then hB5 hb6 (Nat.le_refl _)
  have hg6' : w.heap.size ≤ g6 := Nat.le_trans hB5.size hg6
  clear hr5 hb6
  go_wp2_with fail
  refine (uint_any g6 v6 _ 0 0 w6 0 hr6).mono ?_
  rintro en w7 ⟨r7, p7, l7, e7, rfl, hu7, hr7, hk7⟩
  obtain ⟨rfl, rfl, rfl, rfl⟩ : r7 = .int .u64 300 ∧ p7 = 2 ∧ l7 = 0 ∧ e7 = 0 := by simpa [UintR, dn] using hu7
  have hB7 := hB6.trans (hk7.below hB6.size (by intro k hk; omega))
  clear hr6 hk7 hu7
  go_wp2_with fail
  refine (rbool_any g6 v6 _ 2 0 w7 0 hr7).mono ?_
  rintro en w8 ⟨r8, p8, l8, e8, rfl, hu8, hr8, hk8⟩
  obtain ⟨rfl, rfl, rfl, rfl⟩ : r8 = .bool true ∧ p8 = 3 ∧ l8 = 2 ∧ e8 = 0 := by simpa [BoolR] using hu8
  have hB8 := hB7.trans (hk8.below hB7.size (by intro k hk; omega))
  clear hr7 hk8 hu8
  go_wp2_with fail
  refine (end_any g6 v6 _ 3 2 0 w8 hr8).mono ?_
  rintro en w9 ⟨rfl, m9, rfl⟩
  rw [show endE 0 3 ([172, 2, 1] : List UInt8).length = 0 from rfl]
  have hl9 := Rc.lit (w8.drewN m9) #[.int .u8 128, .int .u8 0] 5
  have hB9 := below_alloc (below_drewN hB8 m9) (Nat.le_refl _) (.cells #[.int .u8 128, .int .u8 0] 5)
  clear hr8
  go_wp2_with fail
  refine (newReader_any [128, 0] _ _ 2 2 _ hl9 rfl (by show _ ≤ _; omega)).mono ?_
  rintro en wa ⟨ga, va, rfl, hra, hba, hga, hva⟩
  have hBa := below_then hB9 hba (Nat.le_refl _)
  have hga' : w.heap.size ≤ ga := Nat.le_trans hB9.size hga
  clear hl9 hba
  go_wp2_with fail
  refine (uint_any ga va _ 0 0 wa 0 hra).mono ?_
  rintro en wb ⟨rb, pb, lb, eb, rfl, hub, hrb, hkb⟩
  obtain ⟨rfl, rfl, rfl, rfl⟩ : rb = .int .u64 0 ∧ pb = 0 ∧ lb = 0 ∧ eb = 3 := by simpa [UintR, dn] using hub
  have hBb := hBa.trans (hkb.below hBa.size (by intro k hk; omega))
  clear hra hkb hub
  go_wp2_with fail
  refine (end_any ga va _ 0 0 3 wb hrb).mono ?_
  rintro en wd ⟨rfl, md, rfl⟩
  rw [show endE 3 0 ([128, 0] : List UInt8).length = 3 from rfl]
  have hBd := below_drewN hBb md
  go_wp2_with fail
  refine (zigzag_any (-3) _ (by show _ ∧ _; omega)).mono ?_
  rintro en we ⟨rfl, rfl⟩
  rw [show ((zz (-3) : Nat) : Int) = 5 from rfl]
  go_wp2_with fail
  refine (uintSize_any 300 _ (by show 300 < _; omega)).mono ?_
  rintro en we ⟨rfl, rfl⟩
  rw [show ((num 300).length : Int) = 2 from by rw [num_ge (by omega), num_lt (by omega)]; rfl]
  go_wp2_with fail
  go_ret
  exact ⟨rfl, hBd⟩
end Go.Proofs.Ytllmhablpeecfaa
