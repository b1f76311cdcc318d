/- The walk of WireSticks. -/
import Derived.Test.YtllmhablpeecfaaLawK
import Derived.Test.YtllmhablpeecfaaLawG
import Derived.Deep.RegionHeld3
import Derived.Deep.QuietTactic
import Derived.BigQuiet
set_option linter.unusedVariables false
set_option linter.unusedSimpArgs false
namespace Go.Proofs.Ytllmhablpeecfaa
open Go.RowKit

theorem add_blk (a : Addr) (i : Nat) : (a.add i).block = a.block := by unfold Addr.add; split <;> rfl
/-- Two cells that a region reads. -/
def C05 (w : World) (a : Addr) (x : Val) : Prop := w.cell? a = some (.int .i64 x.kind) ∧ w.cell? ⟨a.block, a.off + 5, none⟩ = some (.int .i64 x.most)
theorem c05_kp {w w' : World} {a : Addr} {k m : Int} {g : Nat} (h : w.cell? a = some (.int .i64 k) ∧ w.cell? ⟨a.block, a.off + 5, none⟩ = some (.int .i64 m)) (hk : Kp (fun k => k = g) w w') (hg : a.block ≠ g) :
    w'.cell? a = some (.int .i64 k) ∧ w'.cell? ⟨a.block, a.off + 5, none⟩ = some (.int .i64 m) := by
  have hb := World.block_lt_of_cell? w _ h.1
  exact ⟨(hk.cell hb hg).trans h.1, (hk.cell (p := ⟨a.block, _, none⟩) hb hg).trans h.2⟩

/-- What a store of six cells asks, place by place. -/
structure St6 (w : World) (b : Nat) (v0 v1 v2 v3 v4 : Value) : Prop where
  q0 : ∃ c, w.cell? ⟨b, 0, none⟩ = some c
  q1 : ∃ c, (w.setCell ⟨b, 0, none⟩ v0).cell? ⟨b, 1, none⟩ = some c
  q2 : ∃ c, ((w.setCell ⟨b, 0, none⟩ v0).setCell ⟨b, 1, none⟩ v1).cell? ⟨b, 2, none⟩ = some c
  q3 : ∃ c, (((w.setCell ⟨b, 0, none⟩ v0).setCell ⟨b, 1, none⟩ v1).setCell ⟨b, 2, none⟩ v2).cell? ⟨b, 3, none⟩ = some c
  q4 : ∃ c, ((((w.setCell ⟨b, 0, none⟩ v0).setCell ⟨b, 1, none⟩ v1).setCell ⟨b, 2, none⟩ v2).setCell ⟨b, 3, none⟩ v3).cell? ⟨b, 4, none⟩ = some c
  q5 : ∃ c, (((((w.setCell ⟨b, 0, none⟩ v0).setCell ⟨b, 1, none⟩ v1).setCell ⟨b, 2, none⟩ v2).setCell ⟨b, 3, none⟩ v3).setCell ⟨b, 4, none⟩ v4).cell? ⟨b, 5, none⟩ = some c
  z0 : w.frozen? ⟨b, 0, none⟩ = false
  z1 : (w.setCell ⟨b, 0, none⟩ v0).frozen? ⟨b, 1, none⟩ = false
  z2 : ((w.setCell ⟨b, 0, none⟩ v0).setCell ⟨b, 1, none⟩ v1).frozen? ⟨b, 2, none⟩ = false
  z3 : (((w.setCell ⟨b, 0, none⟩ v0).setCell ⟨b, 1, none⟩ v1).setCell ⟨b, 2, none⟩ v2).frozen? ⟨b, 3, none⟩ = false
  z4 : ((((w.setCell ⟨b, 0, none⟩ v0).setCell ⟨b, 1, none⟩ v1).setCell ⟨b, 2, none⟩ v2).setCell ⟨b, 3, none⟩ v3).frozen? ⟨b, 4, none⟩ = false
  z5 : (((((w.setCell ⟨b, 0, none⟩ v0).setCell ⟨b, 1, none⟩ v1).setCell ⟨b, 2, none⟩ v2).setCell ⟨b, 3, none⟩ v3).setCell ⟨b, 4, none⟩ v4).frozen? ⟨b, 5, none⟩ = false
theorem st6 {w : World} {b : Nat} {t : TypeId} {c0 c1 c2 c3 c4 c5 : Value} (h : w.heap[b]? = some (.cells #[c0, c1, c2, c3, c4, c5] t (0, 0))) (v0 v1 v2 v3 v4 : Value) : St6 w b v0 v1 v2 v3 v4 := by
  have h1 := blk_set h 0 v0
  have h2 := blk_set h1 1 v1
  have h3 := blk_set h2 2 v2
  have h4 := blk_set h3 3 v3
  have h5 := blk_set h4 4 v4
  exact ⟨⟨c0, blk_cell h 0⟩, ⟨c1, blk_cell h1 1⟩, ⟨c2, blk_cell h2 2⟩, ⟨c3, blk_cell h3 3⟩, ⟨c4, blk_cell h4 4⟩, ⟨c5, blk_cell h5 5⟩, blk_frozen h 0, blk_frozen h1 1, blk_frozen h2 2, blk_frozen h3 3, blk_frozen h4 4, blk_frozen h5 5⟩

/-- A world in which one new block holds a value. -/
structure P6 (w w' : World) (g : Nat) (v : Value) (xs : List UInt8) (p l : Nat) (e : Int) (b : Nat) (x : Val) : Prop where
  rd : Rd w' g v xs p l e
  kp : Kp (fun k => k = g) w w'
  blk : w'.heap[b]? = some (.cells #[.int .i64 x.kind, .int .u64 x.u, .int .i64 x.n, .bool x.b, .string x.s, .int .i64 x.most] 51 (0, 0))
  ne : b ≠ g
  le : w.heap.size ≤ b
theorem p6_set {w w3 : World} {g : Nat} {v : Value} {xs : List UInt8} {p l : Nat} {e : Int} {b : Nat} {c0 c1 c2 c3 c4 c5 : Value} (hk : Kp (fun k => k = g) w w3) (hr : Rd w3 g v xs p l e) (hb : w.heap.size ≤ b)
    (hB : w3.heap[b]? = some (.cells #[c0, c1, c2, c3, c4, c5] 51 (0, 0))) (hg : ¬ b = g) (k : Int) (u : Nat) (n : Int) (bo : Bool) (s : ByteArray) (mo : Int) :
    P6 w ((((((w3.setCell ⟨b, 0, none⟩ (.int .i64 k)).setCell ⟨b, 1, none⟩ (.int .u64 u)).setCell ⟨b, 2, none⟩ (.int .i64 n)).setCell ⟨b, 3, none⟩ (.bool bo)).setCell ⟨b, 4, none⟩ (.string s)).setCell ⟨b, 5, none⟩ (.int .i64 mo)) g v xs p l e b ⟨k, u, n, bo, s, mo⟩ := by
  have h1 := blk_set hB 0 (.int .i64 k)
  have h2 := blk_set h1 1 (.int .u64 u)
  have h3 := blk_set h2 2 (.int .i64 n)
  have h4 := blk_set h3 3 (.bool bo)
  have h5 := blk_set h4 4 (.string s)
  have h6 := blk_set h5 5 (.int .i64 mo)
  have ht : 51 ≠ 5 := by decide
  exact ⟨((((((hr.far hB ht hg 0 _).far h1 ht hg 1 _).far h2 ht hg 2 _).far h3 ht hg 3 _).far h4 ht hg 4 _).far h5 ht hg 5 _),
    kp_far (kp_far (kp_far (kp_far (kp_far (kp_far hk hb 0 _) hb 1 _) hb 2 _) hb 3 _) hb 4 _) hb 5 _, h6, hg, hb⟩
theorem p6_new {w w3 : World} {g : Nat} {v : Value} {xs : List UInt8} {p l : Nat} {e : Int} (hk : Kp (fun k => k = g) w w3) (hr : Rd w3 g v xs p l e) (k : Int) (u : Nat) (n : Int) (bo : Bool) (s : ByteArray) (mo : Int) :
    P6 w (w3.alloc (.cells #[.int .i64 k, .int .u64 u, .int .i64 n, .bool bo, .string s, .int .i64 mo] 51)) g v xs p l e w3.heap.size ⟨k, u, n, bo, s, mo⟩ :=
  ⟨hr.below (Below.alloc (Below.refl _ _) (Nat.le_refl _) _), hk.alloc _, blk_new _ _ _, by have := hr.lt; omega, hk.size⟩
theorem kp_al {w w3 : World} {g : Nat} {o : Obj} (h : Kp (fun k => k = g) (w.alloc o).drew w3) : Kp (fun k => k = g) w w3 :=
  (((Kp.refl (fun k => k = g) w).alloc o).drew).trans h (fun _ _ h => h)

theorem get_err_any (g : Nat) (v : Value) (xs : List UInt8) (p l : Nat) (w : World) (k mo : Int) (e : Int) (hr : Rd w g v xs p l e) (hk : Hid (mo ≤ 9223372036854775807)) (hx : Hid (xs.length ≤ 140737488355328)) (he : Hid (¬ e = 0)) :
    Calls Try.prog 33 #[.pointer (some ⟨g, 0, none⟩), .int .i64 k, .int .i64 mo] w fun en w' => en = .returned (.agg #[.int .i64 k, .int .u64 0, .int .i64 0, .bool false, .string ⟨#[]⟩, .int .i64 mo]) ∧ Rd w' g v xs p l e ∧ Kp (fun k => k = g) w w' := by
  have := get_any g v xs p l w k mo e hr hk hx
  rw [getF_err he.out] at this
  exact this

set_option maxRecDepth 100000 in
set_option maxHeartbeats 3200000 in
theorem wireSticks_walk (bs : List UInt8) (S : Nat → Prop) (A : Option Addr) (m c : Nat) (ks : List Val) (S1 : Nat → Prop) (A1 : Option Addr) (m1 c1 : Nat) (ms : List Val) (S2 : Nat → Prop) (A2 : Option Addr) (m2 c2 : Nat) (w : World)
    (hr : Rc S w A (bvs bs)) (hm : Hid (bs.length = m)) (hml : Hid (m ≤ 9223372036854775807))
    (hr1 : Rc S1 w A1 (vvs ks)) (hm1 : Hid (ks.length = m1)) (hml1 : Hid (m1 ≤ 9223372036854775807)) (hok1 : ∀ x ∈ ks, x.Ok)
    (hr2 : Rc S2 w A2 (vvs ms)) (hm2 : Hid (ms.length = m2)) (hml2 : Hid (m2 ≤ 9223372036854775807)) (hok2 : ∀ x ∈ ms, x.Ok) :
    Calls Try.prog 9 #[.slice A m c, .slice A1 m1 c1, .slice A2 m2 c2] w (LawP w) := by
  have HOK1 := Lib.hid hok1
  have HOK2 := Lib.hid hok2
  clear hok1 hok2
  go_enter Try.func9, Try.ntmps9
  go_wp2_with fail
  refine (awake_any w).mono ?_
  rintro en w1 ⟨rfl, hb1⟩
  by_cases h1000 : 1000 < m
  case pos =>
    go_wp2_with fail
    go_ret
    exact law_ret rfl hb1
  by_cases h40 : 40 < m1
  case pos =>
    go_wp2_with fail
    go_ret
    exact law_ret rfl hb1
  by_cases h41 : 40 < m2
  case pos =>
    go_wp2_with fail
    go_ret
    exact law_ret rfl hb1
  have hrb := hr.below hb1
  have hrk := (hr1.below hb1).lt
  have hrm := (hr2.below hb1).lt
  clear hr hr1 hr2
  go_wp2_with fail
  refine (newReader_any bs S A m c w1 hrb hm (by show _ ≤ _; omega)).mono ?_
  rintro en w2 ⟨g, v, rfl, hrd, hb2, hg, hv⟩
  have hB2 := below_then hb1 hb2 (Nat.le_refl _)
  have hrk2 := hrk.below hb2
  have hrm2 := hrm.below hb2
  clear hrk hrm hrb hv
  have HG := Lib.hid hg
  have HBB := Lib.hid hB2
  have HW1 := Lib.hid hb1.size
  clear hg hB2 hb1 hb2
  go_wp2_with fail
  go_loopw [8] (fun i wr => ∃ (k p l : Nat) (e : Int), i = .int .i64 k ∧ k ≤ m1 ∧ Rd wr g v bs p l e ∧ Kp (fun k => k = g) w2 wr) (fun i _ => m1 - (intOf i).toNat)
  case atStart => exact ⟨0, 0, 0, 0, rfl, Nat.zero_le _, hrd, Kp.refl _ _⟩
  case round =>
    obtain ⟨k, p, l, e, rfl, hk, hrd1, hkp⟩ := hrel
    by_cases hlt : k < m1
    · have hkl : k < ks.length := by have := hm1.out; omega
      obtain ⟨x, hx⟩ : ∃ x, x = ks[k] := ⟨_, rfl⟩
      obtain ⟨ad, rfl, hS, hat⟩ := vvs_at (hrk2.kp hkp (by rintro k ⟨_, h⟩ rfl; have := HG.out; omega)) hkl
      rw [← hx] at hat
      have hok := HOK1.out x (by rw [hx]; exact List.getElem_mem _)
      have hmo := Lib.hid hok.m.2
      have hadg : (ad.add (k * 6)).block ≠ g := by have := HG.out; have h2 : ad.block < w1.heap.size := hS.2; rw [add_blk]; omega
      have HA := Lib.hid hadg
      have hc0 := hat.c0
      have hc5 := hat.c5
      have hi1 : (k : Int) < (m1 : Int) := by omega
      have hi2 : (0 : Int) ≤ (k : Int) := by omega
      have hx5 : Hid (bs.length ≤ 140737488355328) := by have := hm.out; show _ ≤ _; omega
      obtain ⟨kd, u, n, b, s, mo⟩ := x
      dsimp only at hc0 hc5 hmo
      clear hat hx hok hadg hS
      go_wp2_with fail
      go_region_held3 (fun w' => w'.cell? (ad.add (k * 6)) = some (.int .i64 kd) ∧ w'.cell? ⟨(ad.add (k * 6)).block, (ad.add (k * 6)).off + 5, none⟩ = some (.int .i64 mo))
        (first
          | go_keep
          | exact c05_kp (by go_keep) hk3 HA.out)
        (first
          | (go_at_call 33; refine (get_any g v bs p l _ kd mo e (by exact ⟨hrd1.blk, hrd1.row, hrd1.le, hrd1.ll⟩) hmo hx5).mono ?_; rintro en w3 ⟨rfl, hr3, hk3⟩)
          | fail)
      all_goals
        go_wp2_with fail
        go_roundw
        case rel => exact ⟨k + 1, _, _, _, by go_num, by omega, hr3, hkp.drew.trans hk3 (fun _ _ h => h)⟩
        case measure => simp [intOf]; omega
    · clear hrk2
      go_wp2_with fail
      refine (rFail_any g v bs p l e wr hrd1).mono ?_
      rintro en w3 ⟨rfl, hr3, hk3⟩
      have hkp3 := hkp.trans hk3 (fun _ _ h => h)
      have he2 : ¬ wfl e 3 = 0 := by unfold wfl; split <;> simp_all
      obtain ⟨q, hq⟩ : ∃ q, q = fAt e p l := ⟨_, rfl⟩
      obtain ⟨e2, he3⟩ : ∃ e2, e2 = wfl e 3 := ⟨_, rfl⟩
      rw [← hq, ← he3] at hr3
      rw [← he3] at he2
      have HE := Lib.hid he2
      clear hq he3 hkp hk3 hrd1 hrd he2
      go_wp2_with fail
      refine (left_any g v bs q l e2 w3 hr3).mono ?_
      rintro en w' ⟨rfl, n4, rfl⟩
      obtain ⟨L, hL⟩ : ∃ L, L = bs.length - q := ⟨_, rfl⟩
      have hle := hr3.le
      rw [← hL]
      have hLL : Hid ((m : Int) - (q : Int) = (L : Int)) := by have := hm.out; show _ = _; omega
      have HL := Lib.hid hL
      have HQ : q ≤ 1000 := by have := hm.out; omega
      clear hL hle
      go_wp2_with fail
      refine (end_any g v bs q l e2 _ (hr3.drewN n4)).mono ?_
      rintro en w' ⟨rfl, n5, rfl⟩
      have HEE : endE e2 q bs.length = e2 := by unfold endE; rw [if_neg (fun h => HE.out h.1)]
      rw [HEE]
      clear HEE
      have hr5 := (hr3.drewN n4).drewN n5
      have hk5 := (hkp3.drewN n4).drewN n5
      obtain ⟨w5, hw5⟩ : ∃ w5, w5 = (w3.drewN n4).drewN n5 := ⟨_, rfl⟩
      rw [← hw5] at hr5 hk5 ⊢
      clear hw5 hr3 hkp3
      go_wp2_with fail
      go_loopw [12] (fun i wr => ∃ (k : Nat), i = .int .i64 k ∧ k ≤ m2 ∧ Rd wr g v bs q l e2 ∧ Kp (fun k => k = g) w2 wr) (fun i _ => m2 - (intOf i).toNat)
      case atStart => exact ⟨0, rfl, Nat.zero_le _, hr5, hk5⟩
      case round =>
        clear hr5 hk5
        obtain ⟨k, rfl, hk, hrd1, hkp⟩ := hrel
        by_cases hlt : k < m2
        · have hkl : k < ms.length := by have := hm2.out; omega
          obtain ⟨x, hx⟩ : ∃ x, x = ms[k] := ⟨_, rfl⟩
          obtain ⟨ad, rfl, hS, hat⟩ := vvs_at (hrm2.kp hkp (by rintro k ⟨_, h⟩ rfl; have := HG.out; omega)) hkl
          rw [← hx] at hat
          have hok := HOK2.out x (by rw [hx]; exact List.getElem_mem _)
          have hmo := Lib.hid hok.m.2
          have hadg : (ad.add (k * 6)).block ≠ g := by have := HG.out; have h2 : ad.block < w1.heap.size := hS.2; rw [add_blk]; omega
          have HA := Lib.hid hadg
          have hc0 := hat.c0
          have hc5 := hat.c5
          have hi1 : (k : Int) < (m2 : Int) := by omega
          have hi2 : (0 : Int) ≤ (k : Int) := by omega
          have hx5 : Hid (bs.length ≤ 140737488355328) := by have := hm.out; show _ ≤ _; omega
          obtain ⟨kd, u, n, b, s, mo⟩ := x
          dsimp only at hc0 hc5 hmo
          have HAW : Hid ((ad.add (k * 6)).block ≠ wr.heap.size) := by have := World.block_lt_of_cell? wr _ hc0; show _ ≠ _; omega
          have hd1 : Rd wr.drew g v bs q l e2 := ⟨hrd1.blk, hrd1.row, hrd1.le, hrd1.ll⟩
          have hd3 := hrd1.below (Below.alloc (Below.refl _ _) (Nat.le_refl _) (.cells #[.int .i64 0, .int .u64 0, .int .i64 0, .bool false, .string ⟨#[]⟩, .int .i64 0] 51))
          have hd2 : Rd (wr.alloc (.cells #[.int .i64 0, .int .u64 0, .int .i64 0, .bool false, .string ⟨#[]⟩, .int .i64 0] 51)).drew g v bs q l e2 := ⟨hd3.blk, hd3.row, hd3.le, hd3.ll⟩
          have hs0 : wr.drew.cell? (ad.add (k * 6)) = some (.int .i64 kd) ∧ wr.drew.cell? ⟨(ad.add (k * 6)).block, (ad.add (k * 6)).off + 5, none⟩ = some (.int .i64 mo) := ⟨hc0, hc5⟩
          have hsb := c05_kp (w := wr) ⟨hc0, hc5⟩ ((Kp.refl (fun k => k = g) wr).alloc (.cells #[.int .i64 0, .int .u64 0, .int .i64 0, .bool false, .string ⟨#[]⟩, .int .i64 0] 51)) HA.out
          have hs1 : (wr.alloc (.cells #[.int .i64 0, .int .u64 0, .int .i64 0, .bool false, .string ⟨#[]⟩, .int .i64 0] 51)).drew.cell? (ad.add (k * 6)) = some (.int .i64 kd) ∧ (wr.alloc (.cells #[.int .i64 0, .int .u64 0, .int .i64 0, .bool false, .string ⟨#[]⟩, .int .i64 0] 51)).drew.cell? ⟨(ad.add (k * 6)).block, (ad.add (k * 6)).off + 5, none⟩ = some (.int .i64 mo) := ⟨hsb.1, hsb.2⟩
          have hb0 : (wr.alloc (.cells #[.int .i64 0, .int .u64 0, .int .i64 0, .bool false, .string ⟨#[]⟩, .int .i64 0] 51)).drew.heap[wr.heap.size]? = some (.cells #[.int .i64 0, .int .u64 0, .int .i64 0, .bool false, .string ⟨#[]⟩, .int .i64 0] 51 (0, 0)) := blk_new wr _ _
          have H0 := Lib.hid hs0
          have H1 := Lib.hid hs1
          have HB := Lib.hid hsb
          have HB0 := Lib.hid hb0
          clear hs0 hs1 hsb hb0
          have HGW : Hid (¬ wr.heap.size = g) := by have := hrd1.lt; show ¬ _ = _; omega
          clear hat hx hok hadg hS
          go_wp2_with fail
          go_region_held3 (fun w' => w'.cell? (ad.add (k * 6)) = some (.int .i64 kd) ∧ w'.cell? ⟨(ad.add (k * 6)).block, (ad.add (k * 6)).off + 5, none⟩ = some (.int .i64 mo))
            (first
              | with_reducible exact H0.out
              | with_reducible exact H1.out
              | with_reducible exact HB.out
              | with_reducible exact c05_kp H0.out hk3 HA.out
              | with_reducible exact c05_kp H1.out hk3 HA.out
              | with_reducible exact c05_kp (g := g) (c05_kp H0.out hk3 HA.out) ((Kp.refl (fun k => k = g) w3).alloc _) HA.out
              | with_reducible exact c05_kp ⟨hc0, hc5⟩ PP.out.kp HA.out
              | fail)
            (first
              | (go_at_call 33; refine (get_err_any g v bs q l _ kd mo e2 (by with_reducible exact hd1) hmo hx5 HE).mono ?_; rintro en w3 ⟨rfl, hr3, hk3⟩)
              | (go_at_call 33; refine (get_err_any g v bs q l _ kd mo e2 (by with_reducible exact hd2) hmo hx5 HE).mono ?_; rintro en w3 ⟨rfl, hr3, hk3⟩; have CC := Lib.hid (st6 (Kp.blk (by with_reducible exact hk3) HB0.out HGW.out) (.int .i64 kd) (.int .u64 0) (.int .i64 0) (.bool false) (.string ⟨#[]⟩)); have PP := Lib.hid (p6_set (kp_al hk3) hr3 (Nat.le_refl _) (Kp.blk (by with_reducible exact hk3) HB0.out HGW.out) HGW.out kd 0 0 false ⟨#[]⟩ mo))
              | exact absurd (CC.out.z0.symm.trans (by with_reducible assumption) : false = true) Bool.false_ne_true
              | (obtain ⟨_, q⟩ := CC.out.q0; exact absurd ((q.symm.trans (by with_reducible assumption) : some _ = (none : Option Value))) (by simp))
              | exact absurd (CC.out.z1.symm.trans (by with_reducible assumption) : false = true) Bool.false_ne_true
              | (obtain ⟨_, q⟩ := CC.out.q1; exact absurd ((q.symm.trans (by with_reducible assumption) : some _ = (none : Option Value))) (by simp))
              | exact absurd (CC.out.z2.symm.trans (by with_reducible assumption) : false = true) Bool.false_ne_true
              | (obtain ⟨_, q⟩ := CC.out.q2; exact absurd ((q.symm.trans (by with_reducible assumption) : some _ = (none : Option Value))) (by simp))
              | exact absurd (CC.out.z3.symm.trans (by with_reducible assumption) : false = true) Bool.false_ne_true
              | (obtain ⟨_, q⟩ := CC.out.q3; exact absurd ((q.symm.trans (by with_reducible assumption) : some _ = (none : Option Value))) (by simp))
              | exact absurd (CC.out.z4.symm.trans (by with_reducible assumption) : false = true) Bool.false_ne_true
              | (obtain ⟨_, q⟩ := CC.out.q4; exact absurd ((q.symm.trans (by with_reducible assumption) : some _ = (none : Option Value))) (by simp))
              | exact absurd (CC.out.z5.symm.trans (by with_reducible assumption) : false = true) Bool.false_ne_true
              | (obtain ⟨_, q⟩ := CC.out.q5; exact absurd ((q.symm.trans (by with_reducible assumption) : some _ = (none : Option Value))) (by simp))
              | (obtain ⟨_, y1⟩ := CC.out.q1; obtain ⟨_, y2⟩ := CC.out.q2; obtain ⟨_, y3⟩ := CC.out.q3; obtain ⟨_, y4⟩ := CC.out.q4; obtain ⟨_, y5⟩ := CC.out.q5; simp only [Result.andThen_ok, y1, y2, y3, y4, y5, CC.out.z1, CC.out.z2, CC.out.z3, CC.out.z4, CC.out.z5, Bool.false_eq_true, if_false, Oper.upon_skip]; simp only [Act.put]; clear y1 y2 y3 y4 y5 CC; revert PP; generalize ((((((w3.setCell ⟨wr.heap.size, 0, none⟩ (.int .i64 kd)).setCell ⟨wr.heap.size, 1, none⟩ (.int .u64 0)).setCell ⟨wr.heap.size, 2, none⟩ (.int .i64 0)).setCell ⟨wr.heap.size, 3, none⟩ (.bool false)).setCell ⟨wr.heap.size, 4, none⟩ (.string ⟨#[]⟩)).setCell ⟨wr.heap.size, 5, none⟩ (.int .i64 mo)) = W6; intro PP)
              | fail)
          · clear hd1 hd3 hd2 H0 H1 HB HB0 hc0 hc5 HA HAW
            have PQ := Lib.hid (p6_new (((Kp.refl (fun k => k = g) wr).drew).trans hk3 (fun _ _ h => h)) hr3 kd 0 0 false ⟨#[]⟩ mo)
            rename_i hH
            clear hH hr3 hk3
            revert PQ
            generalize (w3.alloc (.cells #[.int .i64 kd, .int .u64 0, .int .i64 0, .bool false, .string ⟨#[]⟩, .int .i64 mo] 51)) = W6
            generalize w3.heap.size = B
            intro PP
            have hz1 : W6.cell? ⟨B, 1, none⟩ = some (.int .u64 0) := blk_cell PP.out.blk 1
            have hz2 : W6.cell? ⟨B, 2, none⟩ = some (.int .i64 0) := blk_cell PP.out.blk 2
            have hz3 : W6.cell? ⟨B, 3, none⟩ = some (.bool false) := blk_cell PP.out.blk 3
            have hz4 : W6.cell? ⟨B, 4, none⟩ = some (.string ⟨#[]⟩) := blk_cell PP.out.blk 4
            go_wp2_with fail
            refine (left_any g v bs q l e2 W6 PP.out.rd).mono ?_
            rintro en w' ⟨rfl, n6, rfl⟩
            rw [← HL.out]
            go_wp2_with fail
            go_roundw
            case rel => exact ⟨k + 1, by go_num, by omega, PP.out.rd.drewN _, (hkp.trans PP.out.kp (fun _ _ h => h)).drewN _⟩
            case measure => simp [intOf]; omega
          · clear hd1 hd3 hd2 H0 H1 HB HB0 hc0 hc5 HA HAW
            rename_i hH
            clear hH hr3 hk3
            revert PP
            generalize wr.heap.size = B
            intro PP
            have hz1 : W6.cell? ⟨B, 1, none⟩ = some (.int .u64 0) := blk_cell PP.out.blk 1
            have hz2 : W6.cell? ⟨B, 2, none⟩ = some (.int .i64 0) := blk_cell PP.out.blk 2
            have hz3 : W6.cell? ⟨B, 3, none⟩ = some (.bool false) := blk_cell PP.out.blk 3
            have hz4 : W6.cell? ⟨B, 4, none⟩ = some (.string ⟨#[]⟩) := blk_cell PP.out.blk 4
            go_wp2_with fail
            refine (left_any g v bs q l e2 W6 PP.out.rd).mono ?_
            rintro en w' ⟨rfl, n6, rfl⟩
            rw [← HL.out]
            go_wp2_with fail
            go_roundw
            case rel => exact ⟨k + 1, by go_num, by omega, PP.out.rd.drewN _, (hkp.trans PP.out.kp (fun _ _ h => h)).drewN _⟩
            case measure => simp [intOf]; omega
        · clear hrm2
          have hen : ¬ ((k : Nat) : Int) < (m2 : Int) := by omega
          have hbx : (bne e2 (0 : Int)) = true := bne_iff_ne.2 HE.out
          have hwq : (wrap64 ((m : Int) - (q : Int))) = (L : Int) := by have := hLL.out; have := HQ; simp only [wrap64]; omega
          go_wp2_with fail
          refine (end_any g v bs q l e2 wr hrd1).mono ?_
          rintro en w' ⟨rfl, n7, rfl⟩
          have HEE : endE e2 q bs.length = e2 := by unfold endE; rw [if_neg (fun h => HE.out h.1)]
          rw [HEE]
          go_wp2_with fail
          have hbl : (((L : Nat) : Int) == (m : Int) - (q : Int)) = true := by rw [hLL.out]; exact beq_self_eq_true _
          rw [hbl]
          go_ret
          refine law_ret rfl (HBB.out.trans (Kp.below ((hkp.drewN n7)) (B := w.heap.size) ?_ ?_))
          · exact HBB.out.size
          · rintro i hi rfl
            have := HG.out
            have := HW1.out
            omega
end Go.Proofs.Ytllmhablpeecfaa
