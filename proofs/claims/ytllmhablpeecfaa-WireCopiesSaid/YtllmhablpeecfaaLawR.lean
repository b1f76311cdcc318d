/- The walk of WireCopies. -/
import Derived.Test.YtllmhablpeecfaaLawO
import Derived.Deep.RegionHeld3
set_option linter.unusedVariables false
set_option linter.unusedSimpArgs false
namespace Go.Proofs.Ytllmhablpeecfaa
open Go.RowKit

/-- A row of m bytes, whatever they are. -/
structure Rb (w : World) (b m : Nat) : Prop where
  ex : ∃ cur, w.heap[b]? = some (.cells cur 5 (0, 0)) ∧ ∀ i, i < m → ∃ z : Int, cur[i]? = some (.int .u8 z)
theorem Rb.cell {w : World} {b m i : Nat} (h : Rb w b m) (hi : i < m) : ∃ z : Int, w.cell? ⟨b, i, none⟩ = some (.int .u8 z) := by
  obtain ⟨cur, h1, h2⟩ := h.ex
  obtain ⟨z, hz⟩ := h2 i hi
  exact ⟨z, (blk_cell h1 i).trans hz⟩
theorem Rb.frozen {w : World} {b m : Nat} (h : Rb w b m) (i : Nat) : w.frozen? ⟨b, i, none⟩ = false := by
  obtain ⟨cur, h1, h2⟩ := h.ex
  exact blk_frozen h1 i
theorem Rb.set {w : World} {b m : Nat} (h : Rb w b m) (i : Nat) (u : Int) : Rb (w.setCell ⟨b, i, none⟩ (.int .u8 u)) b m := by
  obtain ⟨cur, h1, h2⟩ := h.ex
  refine ⟨_, blk_set h1 i _, fun j hj => ?_⟩
  obtain ⟨z, hz⟩ := h2 j hj
  by_cases hij : i = j
  · subst hij
    have hlt : i < cur.size := (Array.getElem?_eq_some_iff.1 hz).1
    exact ⟨u, by simp [hlt]⟩
  · exact ⟨z, by rw [Array.getElem?_setIfInBounds, if_neg hij]; exact hz⟩
theorem Rb.kp {F : Nat → Prop} {w w' : World} {b m : Nat} (h : Rb w b m) (hk : Kp F w w') (hb : ¬ F b) : Rb w' b m := by
  obtain ⟨cur, h1, h2⟩ := h.ex
  exact ⟨cur, hk.blk h1 hb, h2⟩
theorem Rb.drewN {w : World} {b m : Nat} (h : Rb w b m) (n : Nat) : Rb (w.drewN n) b m := ⟨h.ex⟩
/-- A row of m bytes in a block between lo and hi; where it has no byte, it may have no block. -/
def RowIn (A : Option Addr) (lo hi : Nat) (w : World) (m : Nat) : Prop := 0 < m → ∃ b, A = some ⟨b, 0, none⟩ ∧ lo ≤ b ∧ b < hi ∧ Rb w b m
theorem own_rb {w : World} {base : Nat} {v : Value} {n : Nat} {xs : List UInt8} (h : w.ownsRow base 5 1 v n (bvs xs)) (hx : xs.length = n) :
    (v = .slice none 0 0 ∧ n = 0) ∨ ∃ b c, v = .slice (some ⟨b, 0, none⟩) n c ∧ base ≤ b ∧ b < w.heap.size ∧ Rb w b n := by
  rcases h.2 with h | ⟨g, cap, cur, hv, hb, hh, h1, h2, h3, h4⟩
  · exact .inl h
  · refine .inr ⟨g, cap, hv, hb, blk_lt hh, cur, hh, fun i hi => ?_⟩
    have h5 : (bvs xs)[i]? = some (.int .u8 (xs[i].toNat : Int)) := bvs_get xs i (by omega)
    rw [← h4, List.getElem?_take, if_pos (by omega)] at h5
    exact ⟨_, by simpa using h5⟩
theorem own_in {w : World} {base : Nat} {v : Value} {n : Nat} {xs : List UInt8} (h : w.ownsRow base 5 1 v n (bvs xs)) (hx : xs.length = n) :
    ∃ A c, v = .slice A n c ∧ RowIn A base w.heap.size w n := by
  rcases own_rb h hx with ⟨h1, h2⟩ | ⟨b, c, h1, h2, h3, h4⟩
  · exact ⟨none, 0, by rw [h1, h2], fun h0 => by omega⟩
  · exact ⟨_, c, h1, fun _ => ⟨b, rfl, h2, h3, h4⟩⟩
theorem RowIn.kp {A : Option Addr} {lo hi m : Nat} {w w' : World} {F : Nat → Prop} (h : RowIn A lo hi w m) (hk : Kp F w w') (hF : ∀ k, lo ≤ k → k < hi → ¬ F k) : RowIn A lo hi w' m := by
  intro h0
  obtain ⟨b, h1, h2, h3, h4⟩ := h h0
  exact ⟨b, h1, h2, h3, h4.kp hk (hF b h2 h3)⟩
theorem RW.kp {B : Nat} {w1 w w3 : World} {g g2 : Nat} {v v2 : Value} {xs : List UInt8} {p l : Nat} {e : Int} {ys : List UInt8} {we : Int} {F : Nat → Prop} (h : RW B w1 w g g2 v v2 xs p l e ys we)
    (hk : Kp F w w3) (hF : ∀ k, k < w.heap.size → F k → B ≤ k ∧ k ≠ g ∧ k ≠ g2 ∧ v.ownBlock ≠ some k ∧ v2.ownBlock ≠ some k) : RW B w1 w3 g g2 v v2 xs p l e ys we :=
  ⟨h.rd.kp hk (fun e => (hF g h.rd.lt e).2.1 rfl) (fun b hb e => (hF b (own_lt h.rd.row hb).2 e).2.2.2.1 hb),
   h.wr.kp hk (fun e => (hF g2 h.wr.lt e).2.2.1 rfl) (fun b hb e => (hF b (own_lt h.wr.row hb).2 e).2.2.2.2 hb),
   h.bl.trans (hk.below (Nat.le_trans h.bw h.bl.size) (fun k h1 h2 => by have := (hF k (Nat.lt_of_lt_of_le h1 (Nat.le_trans h.bw h.bl.size)) h2).1; omega)), h.bw, h.bg, h.bg2, h.vb⟩
theorem RW.below {B : Nat} {w1 w w3 : World} {g g2 : Nat} {v v2 : Value} {xs : List UInt8} {p l : Nat} {e : Int} {ys : List UInt8} {we : Int} (h : RW B w1 w g g2 v v2 xs p l e ys we)
    (hk : Below w.heap.size w w3) : RW B w1 w3 g g2 v v2 xs p l e ys we := h.kp (Kp.of_below (fun _ => False) hk) (fun _ _ h => h.elim)
theorem RW.drewN {B : Nat} {w1 w : World} {g g2 : Nat} {v v2 : Value} {xs : List UInt8} {p l : Nat} {e : Int} {ys : List UInt8} {we : Int} (h : RW B w1 w g g2 v v2 xs p l e ys we) (n : Nat) : RW B w1 (w.drewN n) g g2 v v2 xs p l e ys we :=
  ⟨h.rd.drewN n, h.wr.drewN n, below_drewN h.bl n, h.bw, h.bg, h.bg2, h.vb⟩
/-- The blocks from lo to hi are none of theirs. -/
def Free (lo hi g g2 : Nat) (v v2 : Value) : Prop := ∀ k, lo ≤ k → k < hi → k ≠ g ∧ k ≠ g2 ∧ v.ownBlock ≠ some k ∧ v2.ownBlock ≠ some k
theorem RW.set {B lo hi b i : Nat} {u : Value} {w1 w : World} {g g2 : Nat} {v v2 : Value} {xs : List UInt8} {p l : Nat} {e : Int} {ys : List UInt8} {we : Int} (h : RW B w1 w g g2 v v2 xs p l e ys we)
    (hf : Free lo hi g g2 v v2) (hB : B ≤ lo) (h1 : lo ≤ b) (h2 : b < hi) : RW B w1 (w.setCell ⟨b, i, none⟩ u) g g2 v v2 xs p l e ys we :=
  h.kp (kp_g (Kp.refl (fun k => k = b) w) i u) (fun k _ e => by subst e; exact ⟨by omega, hf k h1 h2⟩)
theorem RW.free {B lo hi : Nat} {w1 w : World} {g g2 : Nat} {v v2 : Value} {xs : List UInt8} {p l : Nat} {e : Int} {ys : List UInt8} {we : Int} (h : RW B w1 w g g2 v v2 xs p l e ys we) (hl : w.heap.size ≤ lo) : Free lo hi g g2 v v2 :=
  fun k h1 h2 => ⟨by have := h.rd.lt; omega, by have := h.wr.lt; omega, fun e => by have := (own_lt h.rd.row e).2; omega, fun e => by have := (own_lt h.wr.row e).2; omega⟩
theorem own_row {w : World} {base : Nat} {A : Option Addr} {c n : Nat} {xs : List UInt8} (h : w.ownsRow base 5 1 (.slice A n c) n (bvs xs)) (hx : xs.length = n) : RowIn A base w.heap.size w n := by
  obtain ⟨A', c', he, hr⟩ := own_in h hx
  injection he with h1 h2 h3
  rw [h1]; exact hr
theorem bytes_back {bs back : List UInt8} {p l : Nat} {e : Int} (hb : bs.length ≤ 100) (h : BytesR 100 (num bs.length ++ bs) 0 0 0 back p l e) : back = bs := by
  unfold BytesR at h
  rw [if_pos rfl, List.drop_zero, dn_num bs.length bs (by omega)] at h
  dsimp only at h
  rw [if_pos (by unfold lim; omega), if_pos (by simp)] at h
  rw [h.1]
  simp
theorem bool_one {g : Nat} {v : Value} {bs : List UInt8} {k l : Nat} {w : World} {n : Nat} (hr : Rd w g v bs k l 0) (hk : k < bs.length) (hn : bs[k].toNat = n) (h1 : ¬ 1 < n) :
    Calls Try.prog 28 #[.pointer (some ⟨g, 0, none⟩)] w fun en w' => en = .returned (.bool ((n : Int) == 1)) ∧ Rd w' g v bs (k + 1) k 0 ∧ Kp (fun k => k = g) w w' := by
  refine (rbool_any g v bs k l w 0 hr).mono ?_
  rintro en w' ⟨r, p', l', e', rfl, hR, hrd, hkp⟩
  unfold BoolR at hR
  rw [if_pos rfl, List.drop_eq_getElem_cons hk] at hR
  dsimp only at hR
  rw [if_neg (by rw [hn]; exact h1), hn] at hR
  obtain ⟨rfl, rfl, rfl, rfl⟩ := hR
  have h2 : decide (n = 1) = ((n : Int) == 1) := by by_cases h : n = 1 <;> simp [h]; omega
  rw [h2]
  exact ⟨rfl, hrd, hkp⟩

set_option maxRecDepth 100000 in
set_option maxHeartbeats 3200000 in
theorem wireCopies_walk (bs : List UInt8) (S : Nat → Prop) (A : Option Addr) (m c : Nat) (w : World)
    (hr : Rc S w A (bvs bs)) (hm : Hid (bs.length = m)) (hml : Hid (m ≤ 9223372036854775807)) :
    Calls Try.prog 6 #[.slice A m c] w (LawP w) := by
  go_enter Try.func6, Try.ntmps6
  go_wp2_with fail
  refine (awake_any w).mono ?_
  rintro en w1 ⟨rfl, hb1⟩
  by_cases h1000 : 100 < m
  case pos =>
    go_wp2_with fail
    go_ret
    exact law_ret rfl hb1
  have hrb := hr.below hb1
  clear hr
  go_wp2_with (at_builtin; refine wpl_append_bytes w1.heap.size rfl _ _ 22 5 rfl Try.underlying22 info_u8 (.slice (some ⟨w1.heap.size, 0, none⟩) 0 0) [] bs S A m c rfl rfl (own_lit0 w1 _) (hrb.alloc _) hm.out (by simp) (by have := hml.out; simp; omega) ?_)
  intro v1 w2 hown1 hg1 hat1
  have hb2 : Below w1.heap.size w1 w2 := ((Below.refl _ _).alloc (Nat.le_refl _) _).grown hg1 (by simp) (by intro k hk; simp [Value.ownBlock] at hk; omega)
  have hown : w2.ownsRow w1.heap.size 5 1 v1 m (bvs bs) := by rw [← hm.out]; exact hown1
  obtain ⟨A1, c1, rfl, hrow⟩ := own_in hown hm.out
  clear hown1 hg1 hat1
  have hB2 := below_then hb1 hb2 (Nat.le_refl _)
  go_wp2_with fail
  refine (newWriter_any w2).mono ?_
  rintro en w3 ⟨rfl, rfl⟩
  have hw3 := Wr.new w2
  have hb3 : Below w2.heap.size w2 (w2.alloc (.cells #[.slice none 0 0, .int .i64 0] 64)) := (Below.refl _ _).alloc (Nat.le_refl _) _
  obtain ⟨g2, hg2⟩ : ∃ g2, g2 = w2.heap.size := ⟨_, rfl⟩
  rw [← hg2] at hw3 ⊢
  have HG2 := Lib.hid hg2
  clear hg2
  revert hw3 hb3
  generalize (w2.alloc (.cells #[.slice none 0 0, .int .i64 0] 64)) = w3
  intro hb3 hw3
  have hown3 := own_below hown hb3
  have hrow3 := hrow.kp (Kp.of_below (fun _ => False) hb3) (fun _ _ _ h => h)
  go_wp2_with fail
  refine (wbytes_any g2 _ [] 0 w3 hw3 (by show _ ≤ _; simp) bs _ A1 m c1 (Rc.of_own hown3) (fun k hk => ⟨by have := (own_lt hown hk).2; have := HG2.out; omega, by simp [Value.ownBlock]⟩) hm (by show _ ≤ _; omega)).mono ?_
  rintro en w4 ⟨rfl, v2, hw4, hs4⟩
  have hown4 := hs4.kp.own hown3 (fun b hb => by have := (own_lt hown hb).2; have := HG2.out; rintro (h | h); omega; simp [Value.ownBlock] at h)
  have hrow4 := hrow3.kp hs4.kp (fun k h1 h2 => by have := HG2.out; rintro (h | h); omega; simp [Value.ownBlock] at h)
  have hv2 : ∀ b, v2.ownBlock = some b → w3.heap.size ≤ b := by
    intro b hb
    rcases hs4.nx with h | ⟨b2, h, hb2⟩
    · rw [h] at hb; simp [Value.ownBlock] at hb
    · rw [h] at hb; injection hb with hb; omega
  have hB4 : Below w1.heap.size w1 w4 := (hb2.trans (hb3.mono hb2.size)).trans (hs4.kp.below (Nat.le_trans hb2.size hb3.size) (fun k h1 h2 => by
    have := HG2.out; have := hb2.size; rcases h2 with h2 | h2; omega; simp [Value.ownBlock] at h2))
  have hz4 := hs4.kp.size
  have hz3 := hw3.lt
  have he4 : wput 0 [] (num bs.length ++ bs) = num bs.length ++ bs := rfl
  rw [he4] at hw4
  obtain ⟨ys, hys⟩ : ∃ ys, ys = num bs.length ++ bs := ⟨_, rfl⟩
  rw [← hys] at hw4
  have HYS := Lib.hid hys
  clear hown3 hrow3 hs4 he4 hys hw3
  go_wp2_with fail
  refine (newReader_any bs _ A1 m c1 w4 (Rc.of_own hown4) hm (by show _ ≤ _; omega)).mono ?_
  rintro en w5 ⟨g, v, rfl, hrd, hb5, hg, hv⟩
  have hrow5 := hrow4.kp (Kp.of_below (fun _ => False) hb5) (fun _ _ _ h => h)
  have HR5 : Hid (RW w1.heap.size w1 w5 g g2 v v2 bs 0 0 0 ys 0) :=
    ⟨hrd, hw4.below hb5, hB4.trans (hb5.mono hB4.size), Nat.le_refl _, by have := HG2.out; have := hb2.size; omega, by have := HG2.out; have := hb2.size; omega,
     fun b hb => ⟨by have := hv2 b hb; have := HG2.out; have := hb2.size; omega, fun e => by have := hv b e; have := (own_lt hw4.row hb).2; omega⟩⟩
  have HF1 : Hid (Free w1.heap.size w2.heap.size g g2 v v2) :=
    fun k h1 h2 => ⟨by have := HG2.out; omega, by have := HG2.out; omega, fun e => by have := hv k e; have := HG2.out; omega, fun e => by have := hv2 k e; have := HG2.out; omega⟩
  have HW5 := Lib.hid hrow5
  have HB1 := Lib.hid hb1
  clear hrow hrow4 hrow5 hown hown4 hB2 hb1 hb2 hb3 hw4 hv2 hz4 hz3 hrd hb5 hg hv hB4
  go_wp2_with fail
  go_loopw [6] (fun i wr => ∃ (k : Nat), i = .int .i64 k ∧ k ≤ m ∧ Hid (RW w1.heap.size w1 wr g g2 v v2 bs 0 0 0 ys 0) ∧ Hid (RowIn A1 w1.heap.size w2.heap.size wr m)) (fun i _ => m - (intOf i).toNat)
  case atStart => exact ⟨0, rfl, Nat.zero_le _, HR5, HW5⟩
  case round =>
    obtain ⟨k, rfl, hk, hrw, hrow⟩ := hrel
    clear HR5 HW5
    by_cases hlt : k < m
    · obtain ⟨b, rfl, hlo, hhi, hrb1⟩ := hrow.out (by omega)
      obtain ⟨z, hz⟩ := hrb1.cell hlt
      have hfz := hrb1.frozen k
      have hi1 : (k : Int) < (m : Int) := by omega
      have hi2 : (0 : Int) ≤ (k : Int) := by omega
      go_wp2_with fail
      go_roundw
      case rel => exact ⟨k + 1, by go_num, by omega, hrw.out.set HF1.out (Nat.le_refl _) hlo hhi, fun _ => ⟨b, rfl, hlo, hhi, hrb1.set k _⟩⟩
      case measure => simp [intOf]; omega
    · have hen : ¬ ((k : Nat) : Int) < (m : Int) := by omega
      go_wp2_with fail
      refine (done_any g2 v2 ys 0 wr hrw.out.wr).mono ?_
      rintro en w6 ⟨A6, c6, rfl, ho6, hb6⟩
      have hyl : ys.length ≤ 110 := by
        have := HYS.out
        have h2 := num_len (n := bs.length) (by have := hm.out; omega)
        rw [this, List.length_append]
        have := hm.out
        omega
      have hd1 : doneE 0 ys = 0 := by unfold doneE; rw [if_neg (by omega), if_neg (by omega)]
      have hd2 : doneB 0 ys = ys := by unfold doneB; rw [if_pos hd1]
      rw [hd1, hd2]
      rw [hd2] at ho6
      obtain ⟨L, hL⟩ : ∃ L, L = ys.length := ⟨_, rfl⟩
      rw [← hL] at ho6 hyl ⊢
      have HLL := Lib.hid hL
      have HD1 := Lib.hid hd1
      have HD2 := Lib.hid hd2
      have HRow : Hid (RowIn A6 wr.heap.size w6.heap.size w6 L) := own_row ho6 hL.symm
      have HR6 := Lib.hid (hrw.out.below hb6)
      have HF2 := Lib.hid (hrw.out.free (hi := w6.heap.size) (Nat.le_refl _))
      have HS2 : Hid (w1.heap.size ≤ wr.heap.size) := hrw.out.bl.size
      clear hL hd1 hd2 ho6 hb6 hrw hrow hk hen hlt HF1
      go_wp2_with fail
      go_loopw [9] (fun i wq => ∃ (k : Nat), i = .int .i64 k ∧ k ≤ L ∧ Hid (RW w1.heap.size w1 wq g g2 v v2 bs 0 0 0 ys 0) ∧ Hid (RowIn A6 wr.heap.size w6.heap.size wq L)) (fun i _ => L - (intOf i).toNat)
      case atStart => exact ⟨0, rfl, Nat.zero_le _, HR6, HRow⟩
      case round =>
        obtain ⟨k, rfl, hk, hrw, hrow⟩ := hrel
        clear HR6 HRow
        by_cases hlt : k < L
        · obtain ⟨b, rfl, hlo, hhi, hrb1⟩ := hrow.out (by omega)
          obtain ⟨z, hz⟩ := hrb1.cell hlt
          have hfz := hrb1.frozen k
          have hi1 : (k : Int) < (L : Int) := by omega
          have hi2 : (0 : Int) ≤ (k : Int) := by omega
          go_wp2_with fail
          go_roundw
          case rel => exact ⟨k + 1, by go_num, by omega, hrw.out.set HF2.out HS2.out hlo hhi, fun _ => ⟨b, rfl, hlo, hhi, hrb1.set k _⟩⟩
          case measure => simp [intOf]; omega
        · have hen : ¬ ((k : Nat) : Int) < (L : Int) := by omega
          rename World => wq
          go_wp2_with fail
          refine (done_any g2 v2 ys 0 wq hrw.out.wr).mono ?_
          rintro en w8 ⟨A8, c8, rfl, ho8, hb8⟩
          rw [HD1.out, HD2.out]
          rw [HD2.out, ← HLL.out] at ho8
          rw [← HLL.out]
          have HR8 := hrw.out.below hb8
          clear hrow hk hen hlt HF2 HD1 HD2 hrw hb8
          go_wp2_with fail
          refine (newReader_any ys _ A8 L c8 w8 (Rc.of_own ho8) (by show _ = _; exact HLL.out.symm) (by show _ ≤ _; omega)).mono ?_
          rintro en w9 ⟨g3, v3, rfl, hrd9, hb9, hg9, hv9⟩
          have HR9 := HR8.below hb9
          have hf9 := HR8.free (hi := g3 + 1) (Nat.le_refl _)
          clear ho8 hv9
          have hsz9 := HR8.bl.size
          go_wp2_with fail
          refine (rbytes_any g3 v3 ys 0 0 w9 100 0 hrd9 (by show _ ≤ _; omega) (by have := HLL.out; show _ ≤ _; omega)).mono ?_
          rintro en w10 ⟨A10, c10, back, p10, l10, e10, rfl, hbr, hob, hrd10, hk10⟩
          rw [HYS.out] at hbr
          obtain rfl := bytes_back (by have := hm.out; omega) hbr
          have HR10 : Hid (RW w1.heap.size w1 w10 g g2 v v2 back 0 0 0 ys 0) := HR9.kp hk10 (fun k hk1 hk2 => by
            subst hk2
            exact ⟨by omega, hf9 k hg9 (by omega)⟩)
          have hgl := HR9.rd.lt
          rw [hm.out] at hob ⊢
          have HO10 := Lib.hid hob
          have HGL := Lib.hid hgl
          clear hbr hob hrd10 hk10 hf9 hgl HR9 HR8 hrd9 hb9 hg9 hsz9 HYS
          go_wp2_with fail
          go_loopw [13, 14] (fun f i wt => ∃ (k l : Nat), f = .int .i64 k ∧ i = .int .i64 k ∧ k ≤ m ∧ Hid (RW w1.heap.size w1 wt g g2 v v2 back k l 0 ys 0) ∧ Hid (wt.ownsRow w9.heap.size 5 1 (.slice A10 m c10) m (bvs back)))
            (fun _ i _ => m - (intOf i).toNat)
          case atStart => exact ⟨0, 0, rfl, rfl, Nat.zero_le _, HR10, HO10⟩
          case round =>
            rename World => wt
            obtain ⟨k, l, rfl, rfl, hk, hrw, HBK⟩ := hrel
            clear HR10 HO10
            by_cases hlt : k < m
            · have hkl : k < back.length := by have := hm.out; omega
              obtain ⟨n, hn⟩ : ∃ n, n = back[k].toNat := ⟨_, rfl⟩
              obtain ⟨ad, rfl, hS, hc⟩ := (hrb.lt.below hrw.out.bl).at_ (bvs_get back k hkl)
              have HAD : Hid ((ad.add k).block ≠ g) := by have h5 := hS.2; have h6 := hrw.out.bg; have h7 := add_blk ad k; show _ ≠ _; omega
              rw [← hn] at hc
              have hi1 : (k : Int) < (m : Int) := by omega
              have hi2 : (0 : Int) ≤ (k : Int) := by omega
              have HN := Lib.hid hn
              clear hn
              go_wp2_with fail
              refine (left_any g v back k l 0 _ hrw.out.rd).mono ?_
              rintro en w' ⟨rfl, n12, rfl⟩
              obtain ⟨M, hM⟩ : ∃ M, M = back.length - k := ⟨_, rfl⟩
              rw [← hM]
              have hM0 : (0 : Int) < (M : Int) := by omega
              clear hM
              have hrw2 := Lib.hid (hrw.out.drewN n12)
              have HBK2 : Hid ((wt.drewN n12).ownsRow w9.heap.size 5 1 (.slice A10 m c10) m (bvs back)) := ((Kp.refl (fun _ => False) wt).drewN n12).own HBK.out (fun _ _ h => h)
              have hc2 : (wt.drewN n12).cell? (ad.add k) = some (.int .u8 n) := hc
              clear hrw HBK hc hS
              revert hrw2 HBK2 hc2
              generalize wt.drewN n12 = wd
              intro hrw HBK hc
              by_cases h1n : 1 < n
              · have hn1 : (1 : Int) < (n : Int) := by omega
                go_wp2_with fail
                refine (same_any back back _ S A10 (some ad) m c10 m c _ (Rc.of_own HBK.out) (hrb.below hrw.out.bl) hm hm (by show _ ≤ _; omega)).mono ?_
                rintro en w11 ⟨rfl, n11, rfl⟩
                rw [show decide (back = back) = true from decide_eq_true rfl]
                have hB11 := below_drewN (HB1.out.trans (hrw.out.bl.mono HB1.out.size)) n11
                clear hrb
                go_wp2_with fail
                go_ret
                exact law_ret (by simp) hB11
              · have hn1 : ¬ (1 : Int) < (n : Int) := by omega
                have HD := Lib.hid hrw.out.drew
                have H0 : Hid (wd.drew.cell? (ad.add k) = some (.int .u8 n)) := hc
                have HC := fun (W : World) (h : Rd W g v back k l 0) => bool_one h hkl HN.out.symm h1n
                clear HN
                go_wp2_with fail
                go_region_held3 (fun w' => w'.cell? (ad.add k) = some (.int .u8 n))
                  (first
                    | with_reducible exact H0.out
                    | with_reducible exact (hk3.cell (World.block_lt_of_cell? _ _ H0.out) HAD.out).trans H0.out
                    | fail)
                  (first
                    | (go_at_call 28; refine (HC _ (by with_reducible exact HD.out.rd)).mono ?_; rintro en w3 ⟨rfl, hr3, hk3⟩)
                    | fail)
                have hnb : (((n : Int) == 1) != ((n : Int) == 1)) = false := by simp
                have HR12 : Hid (RW w1.heap.size w1 w3 g g2 v v2 back (k + 1) k 0 ys 0) := hrw.out.drew.get hr3 hk3
                have HO12 : Hid (w3.ownsRow w9.heap.size 5 1 (.slice A10 m c10) m (bvs back)) := hk3.own (((Kp.refl (fun _ => False) wd).drew).own HBK.out (fun _ _ h => h)) (fun b hb => by have := (own_lt HBK.out hb).1; have := HGL.out; omega)
                go_wp2_with fail
                go_roundw
                case rel => exact ⟨k + 1, k, by go_num, by go_num, by omega, HR12, HO12⟩
                case measure => simp [intOf]; omega
            · have hen : ¬ ((k : Nat) : Int) < (m : Int) := by omega
              go_wp2_with fail
              refine (same_any back back _ S A10 A m c10 m c _ (Rc.of_own HBK.out) (hrb.below hrw.out.bl) hm hm (by show _ ≤ _; omega)).mono ?_
              rintro en w11 ⟨rfl, n11, rfl⟩
              rw [show decide (back = back) = true from decide_eq_true rfl]
              have hB11 := below_drewN (HB1.out.trans (hrw.out.bl.mono HB1.out.size)) n11
              clear hrb
              go_wp2_with fail
              all_goals
                go_ret
                exact law_ret (by first | rfl | (simp; done) | (simp; omega)) hB11
end Go.Proofs.Ytllmhablpeecfaa
