/- The walk of get: one read of a kind. -/
import Derived.Test.YtllmhablpeecfaaLawE
import Derived.Test.YtllmhablpeecfaaWireL
import Derived.Test.YtllmhablpeecfaaWireB
import Derived.Deep.Cut
set_option linter.unusedVariables false
set_option linter.unusedSimpArgs false
namespace Go.Proofs.Ytllmhablpeecfaa
open Go.RowKit

def V0 (k mo : Int) : Val := ⟨k, 0, 0, false, ⟨#[]⟩, mo⟩
/-- What get reads: the value, the reader's place, its last place, its error. -/
def getF (k mo : Int) (xs : List UInt8) (p l : Nat) (e : Int) : Val × Nat × Nat × Int :=
  if k = 0 then (V0 k mo, fAt e p l, l, wfl e 3)
  else if k < 0 ∨ 7 < k then (V0 k mo, p, l, e)
  else if e ≠ 0 then (V0 k mo, p, l, e)
  else if k = 1 then match dn 0 0 (xs.drop p) with
    | some (n, j) => ({ V0 k mo with u := n }, p + j, p, 0)
    | none => (V0 k mo, p, l, 3)
  else if k = 2 then match dn 0 0 (xs.drop p) with
    | some (n, j) => ({ V0 k mo with n := unzz n }, p + j, p, 0)
    | none => (V0 k mo, p, l, 3)
  else if k = 3 then match xs.drop p with
    | b :: _ => if 1 < b.toNat then (V0 k mo, p, l, 3) else ({ V0 k mo with b := decide (b.toNat = 1) }, p + 1, p, 0)
    | [] => (V0 k mo, p, l, 3)
  else if k = 4 ∨ k = 5 then match dn 0 0 (xs.drop p) with
    | some (n, j) => if n ≤ lim mo then (if n ≤ xs.length - (p + j) then ({ V0 k mo with s := mkS ((xs.drop (p + j)).take n) }, p + j + n, p, 0) else (V0 k mo, p, l, 3)) else (V0 k mo, p, l, 2)
    | none => (V0 k mo, p, l, 3)
  else if k = 6 then (if 32 ≤ xs.length - p then ({ V0 k mo with s := mkS ((xs.drop p).take 32) }, p + 32, p, 0) else (V0 k mo, p, l, 3))
  else match dn 0 0 (xs.drop p) with
    | some (n, j) => if n ≤ lim mo then ({ V0 k mo with n := (n : Nat) }, p + j, p, 0) else (V0 k mo, p, l, 2)
    | none => (V0 k mo, p, l, 3)

def GetP (w : World) (g : Nat) (v : Value) (xs : List UInt8) (o : Val × Nat × Nat × Int) (en : Ending) (w' : World) : Prop :=
  en = .returned (.agg #[.int .i64 o.1.kind, .int .u64 o.1.u, .int .i64 o.1.n, .bool o.1.b, .string o.1.s, .int .i64 o.1.most]) ∧ Rd w' g v xs o.2.1 o.2.2.1 o.2.2.2 ∧ Kp (fun k => k = g) w w'

theorem getF_uint {k mo : Int} {xs : List UInt8} {p l : Nat} {e : Int} {r : Value} {p' l' : Nat} {e' : Int} (hk : k = 1) (h : UintR xs p l e r p' l' e') : ∃ n : Nat, r = .int .u64 n ∧ getF k mo xs p l e = ({ V0 k mo with u := n }, p', l', e') := by
  subst hk
  unfold UintR at h
  unfold getF
  simp only [show ¬ (1 : Int) = 0 by omega, show ¬ ((1 : Int) < 0 ∨ 7 < (1 : Int)) by omega, if_false, if_true]
  split at h
  · rename_i he; subst he
    rw [if_neg (by simp)]
    split at h
    · rename_i n j hd
      obtain ⟨rfl, rfl, rfl, rfl⟩ := h
      rw [hd]
      exact ⟨n, rfl, rfl⟩
    · rename_i hd
      obtain ⟨rfl, rfl, rfl, rfl⟩ := h
      rw [hd]
      exact ⟨0, rfl, rfl⟩
  · rename_i he
    rw [if_pos he]
    obtain ⟨rfl, rfl, rfl, rfl⟩ := h
    exact ⟨0, rfl, rfl⟩

theorem getF_int {k mo : Int} {xs : List UInt8} {p l : Nat} {e : Int} {n : Nat} {p' l' : Nat} {e' : Int} (hk : k = 2) (h : UintR xs p l e (.int .u64 n) p' l' e') : getF k mo xs p l e = ({ V0 k mo with n := unzz n }, p', l', e') := by
  subst hk
  unfold UintR at h
  unfold getF
  simp only [show ¬ (2 : Int) = 0 by omega, show ¬ ((2 : Int) < 0 ∨ 7 < (2 : Int)) by omega, show ¬ (2 : Int) = 1 by omega, if_false, if_true]
  split at h
  · rename_i he; subst he
    rw [if_neg (by simp)]
    split at h
    · rename_i n j hd
      obtain ⟨hn, rfl, rfl, rfl⟩ := h
      simp only [Value.int.injEq, true_and] at hn
      obtain rfl := Int.ofNat.inj hn
      rw [hd]
    · rename_i hd
      obtain ⟨hn, rfl, rfl, rfl⟩ := h
      simp only [Value.int.injEq, true_and] at hn
      obtain rfl : n = 0 := by omega
      rw [hd]
      rfl
  · rename_i he
    rw [if_pos he]
    obtain ⟨hn, rfl, rfl, rfl⟩ := h
    simp only [Value.int.injEq, true_and] at hn
    obtain rfl : n = 0 := by omega
    rfl
theorem getF_bool {k mo : Int} {xs : List UInt8} {p l : Nat} {e : Int} {r : Value} {p' l' : Nat} {e' : Int} (hk : k = 3) (h : BoolR xs p l e r p' l' e') : ∃ b : Bool, r = .bool b ∧ getF k mo xs p l e = ({ V0 k mo with b := b }, p', l', e') := by
  subst hk
  unfold BoolR at h
  unfold getF
  simp only [show ¬ (3 : Int) = 0 by omega, show ¬ ((3 : Int) < 0 ∨ 7 < (3 : Int)) by omega, show ¬ (3 : Int) = 1 by omega, show ¬ (3 : Int) = 2 by omega, if_false, if_true]
  split at h
  · rename_i he; subst he
    rw [if_neg (by simp)]
    split at h
    · rename_i b t hd
      rw [hd]
      dsimp only
      split at h
      · rename_i h1
        rw [if_pos h1]
        obtain ⟨rfl, rfl, rfl, rfl⟩ := h
        exact ⟨_, rfl, rfl⟩
      · rename_i h1
        rw [if_neg h1]
        obtain ⟨rfl, rfl, rfl, rfl⟩ := h
        exact ⟨_, rfl, rfl⟩
    · rename_i hd
      rw [hd]
      obtain ⟨rfl, rfl, rfl, rfl⟩ := h
      exact ⟨_, rfl, rfl⟩
  · rename_i he
    rw [if_pos he]
    obtain ⟨rfl, rfl, rfl, rfl⟩ := h
    exact ⟨_, rfl, rfl⟩
theorem getF_bytes {k mo : Int} {xs : List UInt8} {p l : Nat} {e : Int} {ys : List UInt8} {p' l' : Nat} {e' : Int} (hk : k = 4 ∨ k = 5) (h : BytesR mo xs p l e ys p' l' e') : getF k mo xs p l e = ({ V0 k mo with s := mkS ys }, p', l', e') := by
  have hc : ∀ α : Type, ∀ a b c d e f : α, (if k = 0 then a else if k < 0 ∨ 7 < k then b else if k = 1 then c else if k = 2 then d else if k = 3 then e else f) = f := by
    intro α a b c d e f
    rw [if_neg (by omega), if_neg (by omega), if_neg (by omega), if_neg (by omega), if_neg (by omega)]
  unfold BytesR at h
  unfold getF
  rw [if_neg (show ¬ k = 0 by omega), if_neg (show ¬ (k < 0 ∨ 7 < k) by omega)]
  split at h
  · rename_i he; subst he
    rw [if_neg (by simp), if_neg (show ¬ k = 1 by omega), if_neg (show ¬ k = 2 by omega), if_neg (show ¬ k = 3 by omega), if_pos hk]
    split at h
    · rename_i n j hd
      rw [hd]
      dsimp only
      split at h
      · rename_i h1
        rw [if_pos h1]
        split at h
        · rename_i h2
          rw [if_pos h2]
          obtain ⟨rfl, rfl, rfl, rfl⟩ := h
          rfl
        · rename_i h2
          rw [if_neg h2]
          obtain ⟨rfl, rfl, rfl, rfl⟩ := h
          rfl
      · rename_i h1
        rw [if_neg h1]
        obtain ⟨rfl, rfl, rfl, rfl⟩ := h
        rfl
    · rename_i hd
      rw [hd]
      obtain ⟨rfl, rfl, rfl, rfl⟩ := h
      rfl
  · rename_i he
    rw [if_pos he]
    obtain ⟨rfl, rfl, rfl, rfl⟩ := h
    rfl
theorem getF_sum {k mo : Int} {xs : List UInt8} {p l : Nat} {e : Int} {ys : List UInt8} {p' l' : Nat} {e' : Int} (hk : k = 6) (h : SumR xs p l e ys p' l' e') : getF k mo xs p l e = ({ V0 k mo with s := mkS ys }, p', l', e') := by
  unfold SumR at h
  unfold getF
  rw [if_neg (show ¬ k = 0 by omega), if_neg (show ¬ (k < 0 ∨ 7 < k) by omega)]
  split at h
  · rename_i he; subst he
    rw [if_neg (by simp), if_neg (show ¬ k = 1 by omega), if_neg (show ¬ k = 2 by omega), if_neg (show ¬ k = 3 by omega), if_neg (show ¬ (k = 4 ∨ k = 5) by omega), if_pos hk]
    split at h
    · rename_i h2
      rw [if_pos h2]
      obtain ⟨rfl, rfl, rfl, rfl⟩ := h
      rfl
    · rename_i h2
      rw [if_neg h2]
      obtain ⟨rfl, rfl, rfl, rfl⟩ := h
      rfl
  · rename_i he
    rw [if_pos he]
    obtain ⟨rfl, rfl, rfl, rfl⟩ := h
    rfl
theorem getF_count {k mo : Int} {xs : List UInt8} {p l : Nat} {e : Int} {r : Value} {p' l' : Nat} {e' : Int} (hk : k = 7) (h : CountR mo xs p l e r p' l' e') : ∃ n : Nat, r = .int .i64 n ∧ getF k mo xs p l e = ({ V0 k mo with n := (n : Nat) }, p', l', e') := by
  unfold CountR at h
  unfold getF
  rw [if_neg (show ¬ k = 0 by omega), if_neg (show ¬ (k < 0 ∨ 7 < k) by omega)]
  split at h
  · rename_i he; subst he
    rw [if_neg (by simp), if_neg (show ¬ k = 1 by omega), if_neg (show ¬ k = 2 by omega), if_neg (show ¬ k = 3 by omega), if_neg (show ¬ (k = 4 ∨ k = 5) by omega), if_neg (show ¬ k = 6 by omega)]
    split at h
    · rename_i n j hd
      rw [hd]
      dsimp only
      split at h
      · rename_i h1
        rw [if_pos h1]
        obtain ⟨rfl, rfl, rfl, rfl⟩ := h
        exact ⟨n, rfl, rfl⟩
      · rename_i h1
        rw [if_neg h1]
        obtain ⟨rfl, rfl, rfl, rfl⟩ := h
        exact ⟨0, rfl, rfl⟩
    · rename_i hd
      rw [hd]
      obtain ⟨rfl, rfl, rfl, rfl⟩ := h
      exact ⟨0, rfl, rfl⟩
  · rename_i he
    rw [if_pos he]
    obtain ⟨rfl, rfl, rfl, rfl⟩ := h
    exact ⟨0, rfl, rfl⟩

section
variable (g : Nat) (v : Value) (xs : List UInt8) (p l : Nat) (w : World)
/-- The two new blocks of get, its reader. -/
structure Two (w w' : World) (k mo : Int) : Prop where
  b0 : w'.heap[w.heap.size]? = some (.cells #[.int .i64 0, .int .u64 0, .int .i64 0, .bool false, .string ⟨#[]⟩, .int .i64 0] 51 (0, 0))
  b1 : w'.heap[w.heap.size + 1]? = some (.cells #[.int .i64 k, .int .u64 0, .int .i64 0, .bool false, .string ⟨#[]⟩, .int .i64 mo] 51 (0, 0))
  bel : Below w.heap.size w w'
theorem two_of {w w2 : World} {k mo : Int} (h : w2 = ((w.alloc (.cells #[.int .i64 0, .int .u64 0, .int .i64 0, .bool false, .string ⟨#[]⟩, .int .i64 0] 51)).alloc (.cells #[.int .i64 k, .int .u64 0, .int .i64 0, .bool false, .string ⟨#[]⟩, .int .i64 mo] 51))) : Two w w2 k mo := by
  subst h
  refine ⟨blk_alloc (blk_new _ _ _) _, ?_, ((Below.refl _ _).alloc (Nat.le_refl _) _).alloc (by simp) _⟩
  have := blk_new (w.alloc (.cells #[.int .i64 0, .int .u64 0, .int .i64 0, .bool false, .string ⟨#[]⟩, .int .i64 0] 51)) 51 #[.int .i64 k, .int .u64 0, .int .i64 0, .bool false, .string ⟨#[]⟩, .int .i64 mo]
  rw [World.size_alloc] at this
  exact this

def setAgg (w : World) (a : Nat) (x : Val) : World :=
  (((((w.setCell ⟨a, 0, none⟩ (.int .i64 x.kind)).setCell ⟨a, 1, none⟩ (.int .u64 x.u)).setCell ⟨a, 2, none⟩ (.int .i64 x.n)).setCell ⟨a, 3, none⟩ (.bool x.b)).setCell ⟨a, 4, none⟩ (.string x.s)).setCell ⟨a, 5, none⟩ (.int .i64 x.most)
theorem setAgg_blk {w : World} {a : Nat} {t : TypeId} {c0 c1 c2 c3 c4 c5 : Value} (h : w.heap[a]? = some (.cells #[c0, c1, c2, c3, c4, c5] t (0, 0))) (x : Val) :
    (setAgg w a x).heap[a]? = some (.cells #[.int .i64 x.kind, .int .u64 x.u, .int .i64 x.n, .bool x.b, .string x.s, .int .i64 x.most] t (0, 0)) :=
  blk_set (blk_set (blk_set (blk_set (blk_set (blk_set h 0 _) 1 _) 2 _) 3 _) 4 _) 5 _
theorem kp_far {w w' : World} {a g : Nat} (h : Kp (fun k => k = g) w w') (ha : w.heap.size ≤ a) (i : Nat) (u : Value) : Kp (fun k => k = g) w (w'.setCell ⟨a, i, none⟩ u) :=
  h.setCell (p := ⟨a, i, none⟩) (fun h => absurd h (by show ¬ a < _; omega)) u
theorem Rd.far {w : World} {g : Nat} {v : Value} {xs : List UInt8} {p l : Nat} {e : Int} (h : Rd w g v xs p l e) {a : Nat} {t : TypeId} {cs : Array Value} (hb : w.heap[a]? = some (.cells cs t (0, 0))) (ht : t ≠ 5) (hg : a ≠ g) (i : Nat) (u : Value) : Rd (w.setCell ⟨a, i, none⟩ u) g v xs p l e :=
  ⟨blk_far h.blk (fun h => hg h.symm) u, own_setCell (p := ⟨a, i, none⟩) h.row (own_blk_ne h.row hb ht.symm) _, h.le, h.ll⟩
theorem get_res {w : World} {a : Nat} {x : Val} {tmps : Array Value} (h : w.heap[a]? = some (.cells #[.int .i64 x.kind, .int .u64 x.u, .int .i64 x.n, .bool x.b, .string x.s, .int .i64 x.most] 51 (0, 0))) (ht : tmps.getD 6 undef = .pointer (some ⟨a, 0, none⟩)) :
    (results Try.f33 tmps).run Try.prog w = .ok (.agg #[.int .i64 x.kind, .int .u64 x.u, .int .i64 x.n, .bool x.b, .string x.s, .int .i64 x.most]) w := by
  have hres : Try.f33.results = #[.cell 6 51] := by kernel_rfl
  have g0 := blk_cell h 0
  have g1 := blk_cell h 1
  have g2 := blk_cell h 2
  have g3 := blk_cell h 3
  have g4 := blk_cell h 4
  have g5 := blk_cell h 5
  dsimp at g0 g1 g2 g3 g4 g5
  have ht2 : tmps[6]?.getD undef = .pointer (some ⟨a, 0, none⟩) := by rw [← ht]; simp
  simp [results, hres, ht, ht2, go_sem, g0, g1, g2, g3, g4, g5]

theorem get_end {w w4 : World} {a g : Nat} {v : Value} {xs : List UInt8} {x : Val} {p l : Nat} {e : Int} {o : Val × Nat × Nat × Int} {tmps : Array Value} {c0 c1 c2 c3 c4 c5 : Value} (ho : o = (x, p, l, e)) (h : w4.heap[a]? = some (.cells #[c0, c1, c2, c3, c4, c5] 51 (0, 0)))
    (hr : Rd w4 g v xs p l e) (hk : Kp (fun k => k = g) w w4) (ht : tmps.getD 6 undef = .pointer (some ⟨a, 0, none⟩)) (ha : w.heap.size ≤ a) (hag : a ≠ g) :
    bodyPost Try.prog Try.f33 (GetP w g v xs o) Exit.ret { tmps := tmps, defers := [] } (setAgg w4 a x) := by
  subst ho
  refine bodyPost_ret (get_res (setAgg_blk h x) ht) rfl ⟨rfl, ?_, kp_far (kp_far (kp_far (kp_far (kp_far (kp_far hk ha _ _) ha _ _) ha _ _) ha _ _) ha _ _) ha _ _⟩
  have h1 := blk_set h 0 (.int .i64 x.kind)
  have h2 := blk_set h1 1 (.int .u64 x.u)
  have h3 := blk_set h2 2 (.int .i64 x.n)
  have h4 := blk_set h3 3 (.bool x.b)
  have h5 := blk_set h4 4 (.string x.s)
  exact (((((hr.far h (by decide) hag _ _).far h1 (by decide) hag _ _).far h2 (by decide) hag _ _).far h3 (by decide) hag _ _).far h4 (by decide) hag _ _).far h5 (by decide) hag _ _

set_option maxRecDepth 100000 in
set_option maxHeartbeats 800000 in
theorem get_none (k mo : Int) (e : Int) (hr : Rd w g v xs p l e) (k0 : ¬ k = 0) (k1 : ¬ k = 1) (k2 : ¬ k = 2) (k3 : ¬ k = 3) (k4 : ¬ k = 4) (k5 : ¬ k = 5) (k6 : ¬ k = 6) (k7 : ¬ k = 7) :
    Calls Try.prog 33 #[.pointer (some ⟨g, 0, none⟩), .int .i64 k, .int .i64 mo] w (GetP w g v xs (getF k mo xs p l e)) := by
  have hglt := hr.lt
  · have HF : Hid (getF k mo xs p l e = (V0 k mo, p, l, e)) := by show _ = _; unfold getF; rw [if_neg k0, if_pos (by omega)]
    have e0 : (k == 0) = false := by rw [beq_eq_false_iff_ne]; exact k0
    have e1 : (k == 1) = false := by rw [beq_eq_false_iff_ne]; exact k1
    have e2 : (k == 2) = false := by rw [beq_eq_false_iff_ne]; exact k2
    have e3 : (k == 3) = false := by rw [beq_eq_false_iff_ne]; exact k3
    have e4 : (k == 4) = false := by rw [beq_eq_false_iff_ne]; exact k4
    have e5 : (k == 5) = false := by rw [beq_eq_false_iff_ne]; exact k5
    have e6 : (k == 6) = false := by rw [beq_eq_false_iff_ne]; exact k6
    have e7 : (k == 7) = false := by rw [beq_eq_false_iff_ne]; exact k7
    clear k0 k1 k2 k3 k4 k5 k6 k7
    generalize getF k mo xs p l e = o at HF ⊢
    go_enter Try.func33, Try.ntmps33
    go_upto_region 2 with (fail)
    obtain ⟨w2, hw2⟩ : ∃ w2, w2 = ((w.alloc (.cells #[.int .i64 0, .int .u64 0, .int .i64 0, .bool false, .string ⟨#[]⟩, .int .i64 0] 51)).alloc (.cells #[.int .i64 k, .int .u64 0, .int .i64 0, .bool false, .string ⟨#[]⟩, .int .i64 mo] 51)) := ⟨_, rfl⟩
    rw [← hw2]
    have T := two_of (k := k) hw2
    have hr2 := hr.below T.bel
    obtain ⟨a, ha⟩ : ∃ a, a = w.heap.size := ⟨_, rfl⟩
    obtain ⟨b, hb⟩ : ∃ b, b = a + 1 := ⟨_, rfl⟩
    rw [← ha, ← hb]
    have b0 := T.b0
    have b1 := T.b1
    have kp2 := Lib.hid (Kp.of_below (fun k => k = g) T.bel)
    rw [← ha] at b0
    rw [← ha, ← hb] at b1
    have hag : ¬ a = g := by omega
    have hbg : ¬ b = g := by omega
    have hab : ¬ a = b := by omega
    have HAW := Lib.hid ha
    have HBW := Lib.hid hb
    clear ha hb hw2 T hglt
    have g0 := blk_cell b1 0
    have g1 := blk_cell b1 1
    have g2 := blk_cell b1 2
    have g3 := blk_cell b1 3
    have g4 := blk_cell b1 4
    have g5 := blk_cell b1 5
    have i0 := blk_cell b0 0
    have i1 := blk_cell b0 1
    have i2 := blk_cell b0 2
    have i3 := blk_cell b0 3
    have i4 := blk_cell b0 4
    have i5 := blk_cell b0 5
    have j0 := blk_frozen b0 0
    have j1 := blk_frozen b0 1
    have j2 := blk_frozen b0 2
    have j3 := blk_frozen b0 3
    have j4 := blk_frozen b0 4
    have j5 := blk_frozen b0 5
    dsimp at g0 g1 g2 g3 g4 g5 i0 i1 i2 i3 i4 i5
    go_wp2_with fail
    exact get_end (x := V0 k mo) HF.out b0 hr2 kp2.out rfl (by have := HAW.out; omega) hag

set_option maxRecDepth 100000 in
set_option maxHeartbeats 6400000 in
theorem get_any (k mo : Int) (e : Int) (hr : Rd w g v xs p l e) (hk : Hid (mo ≤ 9223372036854775807)) (hx : Hid (xs.length ≤ 140737488355328)) :
    Calls Try.prog 33 #[.pointer (some ⟨g, 0, none⟩), .int .i64 k, .int .i64 mo] w (GetP w g v xs (getF k mo xs p l e)) := by
  have hglt := hr.lt
  by_cases k0 : k = 0
  · have HF : Hid (getF k mo xs p l e = (V0 k mo, fAt e p l, l, wfl e 3)) := by show _ = _; unfold getF; rw [if_pos k0]
    subst k0
    generalize getF 0 mo xs p l e = o at HF ⊢
    go_enter Try.func33, Try.ntmps33
    go_wp2_with fail
    obtain ⟨w2, hw2⟩ : ∃ w2, w2 = ((w.alloc (.cells #[.int .i64 0, .int .u64 0, .int .i64 0, .bool false, .string ⟨#[]⟩, .int .i64 0] 51)).alloc (.cells #[.int .i64 0, .int .u64 0, .int .i64 0, .bool false, .string ⟨#[]⟩, .int .i64 mo] 51)) := ⟨_, rfl⟩
    rw [← hw2]
    have T := two_of (k := 0) hw2
    have hr2 := hr.below T.bel
    obtain ⟨a, ha⟩ : ∃ a, a = w.heap.size := ⟨_, rfl⟩
    obtain ⟨b, hb⟩ : ∃ b, b = a + 1 := ⟨_, rfl⟩
    rw [← ha, ← hb]
    have b0 := T.b0
    have b1 := T.b1
    have kp2 := Lib.hid (Kp.of_below (fun k => k = g) T.bel)
    rw [← ha] at b0
    rw [← ha, ← hb] at b1
    have hag : ¬ a = g := by omega
    have hbg : ¬ b = g := by omega
    have hab : ¬ a = b := by omega
    have HAW := Lib.hid ha
    have HBW := Lib.hid hb
    clear ha hb hw2 T hglt
    refine (rFail_any g v xs p l e w2 hr2).mono ?_
    rintro en w3 ⟨rfl, hr3, hk3⟩
    have HFF := HF
    clear HF
    have c0 := hk3.blk b0 hag
    have c1 := hk3.blk b1 hbg
    have g0 := blk_cell c1 0
    have g1 := blk_cell c1 1
    have g2 := blk_cell c1 2
    have g3 := blk_cell c1 3
    have g4 := blk_cell c1 4
    have g5 := blk_cell c1 5
    have i0 := blk_cell c0 0
    have i1 := blk_cell c0 1
    have i2 := blk_cell c0 2
    have i3 := blk_cell c0 3
    have i4 := blk_cell c0 4
    have i5 := blk_cell c0 5
    have j0 := blk_frozen c0 0
    have j1 := blk_frozen c0 1
    have j2 := blk_frozen c0 2
    have j3 := blk_frozen c0 3
    have j4 := blk_frozen c0 4
    have j5 := blk_frozen c0 5
    dsimp at g0 g1 g2 g3 g4 g5 i0 i1 i2 i3 i4 i5
    go_wp2_with fail
    exact get_end (x := V0 0 mo) HFF.out c0 hr3 (kp2.out.trans hk3 (fun _ _ h => h)) rfl (by have := HAW.out; omega) hag
  by_cases k1 : k = 1
  · have HF := fun r p' l' e' (h : UintR xs p l e r p' l' e') => Lib.hid (getF_uint (mo := mo) k1 h)
    subst k1
    generalize getF 1 mo xs p l e = o at HF ⊢
    go_enter Try.func33, Try.ntmps33
    go_wp2_with fail
    obtain ⟨w2, hw2⟩ : ∃ w2, w2 = ((w.alloc (.cells #[.int .i64 0, .int .u64 0, .int .i64 0, .bool false, .string ⟨#[]⟩, .int .i64 0] 51)).alloc (.cells #[.int .i64 1, .int .u64 0, .int .i64 0, .bool false, .string ⟨#[]⟩, .int .i64 mo] 51)) := ⟨_, rfl⟩
    rw [← hw2]
    have T := two_of (k := 1) hw2
    have hr2 := hr.below T.bel
    obtain ⟨a, ha⟩ : ∃ a, a = w.heap.size := ⟨_, rfl⟩
    obtain ⟨b, hb⟩ : ∃ b, b = a + 1 := ⟨_, rfl⟩
    rw [← ha, ← hb]
    have b0 := T.b0
    have b1 := T.b1
    have kp2 := Lib.hid (Kp.of_below (fun k => k = g) T.bel)
    rw [← ha] at b0
    rw [← ha, ← hb] at b1
    have hag : ¬ a = g := by omega
    have hbg : ¬ b = g := by omega
    have hab : ¬ a = b := by omega
    have HAW := Lib.hid ha
    have HBW := Lib.hid hb
    clear ha hb hw2 T hglt
    refine (uint_any g v xs p l w2 e hr2).mono ?_
    rintro en w3 ⟨r, p', l', e', rfl, hR, hr3, hk3⟩
    obtain ⟨n, rfl, hF⟩ := (HF _ _ _ _ hR).out
    have HFF := Lib.hid hF
    clear hR hF
    clear HF
    have c0 := hk3.blk b0 hag
    have c1 := hk3.blk b1 hbg
    have f1 := blk_frozen c1 1
    have g0 := blk_cell c1 0
    have g1 := blk_cell c1 1
    have g2 := blk_cell c1 2
    have g3 := blk_cell c1 3
    have g4 := blk_cell c1 4
    have g5 := blk_cell c1 5
    have i0 := blk_cell c0 0
    have i1 := blk_cell c0 1
    have i2 := blk_cell c0 2
    have i3 := blk_cell c0 3
    have i4 := blk_cell c0 4
    have i5 := blk_cell c0 5
    have j0 := blk_frozen c0 0
    have j1 := blk_frozen c0 1
    have j2 := blk_frozen c0 2
    have j3 := blk_frozen c0 3
    have j4 := blk_frozen c0 4
    have j5 := blk_frozen c0 5
    dsimp at g0 g1 g2 g3 g4 g5 i0 i1 i2 i3 i4 i5
    go_wp2_with fail
    exact get_end (x := { V0 1 mo with u := n }) HFF.out (blk_far c0 hab _) (hr3.far c1 (by decide) hbg _ _) (kp_far (kp2.out.trans hk3 (fun _ _ h => h)) (by have := HBW.out; have := HAW.out; omega) _ _) rfl (by have := HAW.out; omega) hag
  by_cases k2 : k = 2
  · have HF := fun n p' l' e' (h : UintR xs p l e (.int .u64 (n : Nat)) p' l' e') => Lib.hid (getF_int (mo := mo) k2 h)
    subst k2
    generalize getF 2 mo xs p l e = o at HF ⊢
    go_enter Try.func33, Try.ntmps33
    go_wp2_with fail
    obtain ⟨w2, hw2⟩ : ∃ w2, w2 = ((w.alloc (.cells #[.int .i64 0, .int .u64 0, .int .i64 0, .bool false, .string ⟨#[]⟩, .int .i64 0] 51)).alloc (.cells #[.int .i64 2, .int .u64 0, .int .i64 0, .bool false, .string ⟨#[]⟩, .int .i64 mo] 51)) := ⟨_, rfl⟩
    rw [← hw2]
    have T := two_of (k := 2) hw2
    have hr2 := hr.below T.bel
    obtain ⟨a, ha⟩ : ∃ a, a = w.heap.size := ⟨_, rfl⟩
    obtain ⟨b, hb⟩ : ∃ b, b = a + 1 := ⟨_, rfl⟩
    rw [← ha, ← hb]
    have b0 := T.b0
    have b1 := T.b1
    have kp2 := Lib.hid (Kp.of_below (fun k => k = g) T.bel)
    rw [← ha] at b0
    rw [← ha, ← hb] at b1
    have hag : ¬ a = g := by omega
    have hbg : ¬ b = g := by omega
    have hab : ¬ a = b := by omega
    have HAW := Lib.hid ha
    have HBW := Lib.hid hb
    clear ha hb hw2 T hglt
    refine (rint_any g v xs p l w2 e hr2 (fun n k h => Lib.hid (dn_inv h).2.2.2)).mono ?_
    rintro en w3 ⟨r, p', l', e', rfl, ⟨n, hR, rfl⟩, hr3, hk3⟩
    have HFF := HF _ _ _ _ hR
    clear hR
    clear HF
    have c0 := hk3.blk b0 hag
    have c1 := hk3.blk b1 hbg
    have f1 := blk_frozen c1 2
    have g0 := blk_cell c1 0
    have g1 := blk_cell c1 1
    have g2 := blk_cell c1 2
    have g3 := blk_cell c1 3
    have g4 := blk_cell c1 4
    have g5 := blk_cell c1 5
    have i0 := blk_cell c0 0
    have i1 := blk_cell c0 1
    have i2 := blk_cell c0 2
    have i3 := blk_cell c0 3
    have i4 := blk_cell c0 4
    have i5 := blk_cell c0 5
    have j0 := blk_frozen c0 0
    have j1 := blk_frozen c0 1
    have j2 := blk_frozen c0 2
    have j3 := blk_frozen c0 3
    have j4 := blk_frozen c0 4
    have j5 := blk_frozen c0 5
    dsimp at g0 g1 g2 g3 g4 g5 i0 i1 i2 i3 i4 i5
    go_wp2_with fail
    exact get_end (x := { V0 2 mo with n := unzz n }) HFF.out (blk_far c0 hab _) (hr3.far c1 (by decide) hbg _ _) (kp_far (kp2.out.trans hk3 (fun _ _ h => h)) (by have := HBW.out; have := HAW.out; omega) _ _) rfl (by have := HAW.out; omega) hag
  by_cases k3 : k = 3
  · have HF := fun r p' l' e' (h : BoolR xs p l e r p' l' e') => Lib.hid (getF_bool (mo := mo) k3 h)
    subst k3
    generalize getF 3 mo xs p l e = o at HF ⊢
    go_enter Try.func33, Try.ntmps33
    go_wp2_with fail
    obtain ⟨w2, hw2⟩ : ∃ w2, w2 = ((w.alloc (.cells #[.int .i64 0, .int .u64 0, .int .i64 0, .bool false, .string ⟨#[]⟩, .int .i64 0] 51)).alloc (.cells #[.int .i64 3, .int .u64 0, .int .i64 0, .bool false, .string ⟨#[]⟩, .int .i64 mo] 51)) := ⟨_, rfl⟩
    rw [← hw2]
    have T := two_of (k := 3) hw2
    have hr2 := hr.below T.bel
    obtain ⟨a, ha⟩ : ∃ a, a = w.heap.size := ⟨_, rfl⟩
    obtain ⟨b, hb⟩ : ∃ b, b = a + 1 := ⟨_, rfl⟩
    rw [← ha, ← hb]
    have b0 := T.b0
    have b1 := T.b1
    have kp2 := Lib.hid (Kp.of_below (fun k => k = g) T.bel)
    rw [← ha] at b0
    rw [← ha, ← hb] at b1
    have hag : ¬ a = g := by omega
    have hbg : ¬ b = g := by omega
    have hab : ¬ a = b := by omega
    have HAW := Lib.hid ha
    have HBW := Lib.hid hb
    clear ha hb hw2 T hglt
    refine (rbool_any g v xs p l w2 e hr2).mono ?_
    rintro en w3 ⟨r, p', l', e', rfl, hR, hr3, hk3⟩
    obtain ⟨n, rfl, hF⟩ := (HF _ _ _ _ hR).out
    have HFF := Lib.hid hF
    clear hR hF
    clear HF
    have c0 := hk3.blk b0 hag
    have c1 := hk3.blk b1 hbg
    have f1 := blk_frozen c1 3
    have g0 := blk_cell c1 0
    have g1 := blk_cell c1 1
    have g2 := blk_cell c1 2
    have g3 := blk_cell c1 3
    have g4 := blk_cell c1 4
    have g5 := blk_cell c1 5
    have i0 := blk_cell c0 0
    have i1 := blk_cell c0 1
    have i2 := blk_cell c0 2
    have i3 := blk_cell c0 3
    have i4 := blk_cell c0 4
    have i5 := blk_cell c0 5
    have j0 := blk_frozen c0 0
    have j1 := blk_frozen c0 1
    have j2 := blk_frozen c0 2
    have j3 := blk_frozen c0 3
    have j4 := blk_frozen c0 4
    have j5 := blk_frozen c0 5
    dsimp at g0 g1 g2 g3 g4 g5 i0 i1 i2 i3 i4 i5
    go_wp2_with fail
    exact get_end (x := { V0 3 mo with b := n }) HFF.out (blk_far c0 hab _) (hr3.far c1 (by decide) hbg _ _) (kp_far (kp2.out.trans hk3 (fun _ _ h => h)) (by have := HBW.out; have := HAW.out; omega) _ _) rfl (by have := HAW.out; omega) hag
  by_cases k4 : k = 4
  · have HF := fun ys p' l' e' (h : BytesR mo xs p l e ys p' l' e') => Lib.hid (getF_bytes (.inl k4) h)
    subst k4
    generalize getF 4 mo xs p l e = o at HF ⊢
    go_enter Try.func33, Try.ntmps33
    go_wp2_with fail
    obtain ⟨w2, hw2⟩ : ∃ w2, w2 = ((w.alloc (.cells #[.int .i64 0, .int .u64 0, .int .i64 0, .bool false, .string ⟨#[]⟩, .int .i64 0] 51)).alloc (.cells #[.int .i64 4, .int .u64 0, .int .i64 0, .bool false, .string ⟨#[]⟩, .int .i64 mo] 51)) := ⟨_, rfl⟩
    rw [← hw2]
    have T := two_of (k := 4) hw2
    have hr2 := hr.below T.bel
    obtain ⟨a, ha⟩ : ∃ a, a = w.heap.size := ⟨_, rfl⟩
    obtain ⟨b, hb⟩ : ∃ b, b = a + 1 := ⟨_, rfl⟩
    rw [← ha, ← hb]
    have b0 := T.b0
    have b1 := T.b1
    have kp2 := Lib.hid (Kp.of_below (fun k => k = g) T.bel)
    rw [← ha] at b0
    rw [← ha, ← hb] at b1
    have hag : ¬ a = g := by omega
    have hbg : ¬ b = g := by omega
    have hab : ¬ a = b := by omega
    have HAW := Lib.hid ha
    have HBW := Lib.hid hb
    clear ha hb hw2 T hglt
    refine (rbytes_any g v xs p l w2 mo e hr2 hk hx).mono ?_
    rintro en w3 ⟨A4, c4, ys, p', l', e', rfl, hR, ho3, hr3, hk3⟩
    have HFF := HF _ _ _ _ hR
    clear hR
    have hs := run_string_rc (P := Try.prog) 22 9 5 Try.underlying22 Try.underlying5 Try.underlying9 ys.length c4 rfl (Rc.of_own ho3)
    clear HF
    have c0 := hk3.blk b0 hag
    have c1 := hk3.blk b1 hbg
    have f1 := blk_frozen c1 4
    have g0 := blk_cell c1 0
    have g1 := blk_cell c1 1
    have g2 := blk_cell c1 2
    have g3 := blk_cell c1 3
    have g4 := blk_cell c1 4
    have g5 := blk_cell c1 5
    have i0 := blk_cell c0 0
    have i1 := blk_cell c0 1
    have i2 := blk_cell c0 2
    have i3 := blk_cell c0 3
    have i4 := blk_cell c0 4
    have i5 := blk_cell c0 5
    have j0 := blk_frozen c0 0
    have j1 := blk_frozen c0 1
    have j2 := blk_frozen c0 2
    have j3 := blk_frozen c0 3
    have j4 := blk_frozen c0 4
    have j5 := blk_frozen c0 5
    dsimp at g0 g1 g2 g3 g4 g5 i0 i1 i2 i3 i4 i5
    go_wp2_with fail
    exact get_end (x := { V0 4 mo with s := mkS ys }) HFF.out (blk_far c0 hab _) (hr3.far c1 (by decide) hbg _ _) (kp_far (kp2.out.trans hk3 (fun _ _ h => h)) (by have := HBW.out; have := HAW.out; omega) _ _) rfl (by have := HAW.out; omega) hag
  by_cases k5 : k = 5
  · have HF := fun ys p' l' e' (h : BytesR mo xs p l e ys p' l' e') => Lib.hid (getF_bytes (.inr k5) h)
    subst k5
    generalize getF 5 mo xs p l e = o at HF ⊢
    go_enter Try.func33, Try.ntmps33
    go_wp2_with fail
    obtain ⟨w2, hw2⟩ : ∃ w2, w2 = ((w.alloc (.cells #[.int .i64 0, .int .u64 0, .int .i64 0, .bool false, .string ⟨#[]⟩, .int .i64 0] 51)).alloc (.cells #[.int .i64 5, .int .u64 0, .int .i64 0, .bool false, .string ⟨#[]⟩, .int .i64 mo] 51)) := ⟨_, rfl⟩
    rw [← hw2]
    have T := two_of (k := 5) hw2
    have hr2 := hr.below T.bel
    obtain ⟨a, ha⟩ : ∃ a, a = w.heap.size := ⟨_, rfl⟩
    obtain ⟨b, hb⟩ : ∃ b, b = a + 1 := ⟨_, rfl⟩
    rw [← ha, ← hb]
    have b0 := T.b0
    have b1 := T.b1
    have kp2 := Lib.hid (Kp.of_below (fun k => k = g) T.bel)
    rw [← ha] at b0
    rw [← ha, ← hb] at b1
    have hag : ¬ a = g := by omega
    have hbg : ¬ b = g := by omega
    have hab : ¬ a = b := by omega
    have HAW := Lib.hid ha
    have HBW := Lib.hid hb
    clear ha hb hw2 T hglt
    refine (rtext_any g v xs p l w2 mo e hr2 hk hx).mono ?_
    rintro en w3 ⟨r, p', l', e', rfl, ⟨ys, rfl, hR⟩, hr3, hk3⟩
    have HFF := HF _ _ _ _ hR
    clear hR
    clear HF
    have c0 := hk3.blk b0 hag
    have c1 := hk3.blk b1 hbg
    have f1 := blk_frozen c1 4
    have g0 := blk_cell c1 0
    have g1 := blk_cell c1 1
    have g2 := blk_cell c1 2
    have g3 := blk_cell c1 3
    have g4 := blk_cell c1 4
    have g5 := blk_cell c1 5
    have i0 := blk_cell c0 0
    have i1 := blk_cell c0 1
    have i2 := blk_cell c0 2
    have i3 := blk_cell c0 3
    have i4 := blk_cell c0 4
    have i5 := blk_cell c0 5
    have j0 := blk_frozen c0 0
    have j1 := blk_frozen c0 1
    have j2 := blk_frozen c0 2
    have j3 := blk_frozen c0 3
    have j4 := blk_frozen c0 4
    have j5 := blk_frozen c0 5
    dsimp at g0 g1 g2 g3 g4 g5 i0 i1 i2 i3 i4 i5
    go_wp2_with fail
    exact get_end (x := { V0 5 mo with s := mkS ys }) HFF.out (blk_far c0 hab _) (hr3.far c1 (by decide) hbg _ _) (kp_far (kp2.out.trans hk3 (fun _ _ h => h)) (by have := HBW.out; have := HAW.out; omega) _ _) rfl (by have := HAW.out; omega) hag
  by_cases k6 : k = 6
  · have HF := fun ys p' l' e' (h : SumR xs p l e ys p' l' e') => Lib.hid (getF_sum (mo := mo) k6 h)
    subst k6
    generalize getF 6 mo xs p l e = o at HF ⊢
    go_enter Try.func33, Try.ntmps33
    go_wp2_with fail
    obtain ⟨w2, hw2⟩ : ∃ w2, w2 = ((w.alloc (.cells #[.int .i64 0, .int .u64 0, .int .i64 0, .bool false, .string ⟨#[]⟩, .int .i64 0] 51)).alloc (.cells #[.int .i64 6, .int .u64 0, .int .i64 0, .bool false, .string ⟨#[]⟩, .int .i64 mo] 51)) := ⟨_, rfl⟩
    rw [← hw2]
    have T := two_of (k := 6) hw2
    have hr2 := hr.below T.bel
    obtain ⟨a, ha⟩ : ∃ a, a = w.heap.size := ⟨_, rfl⟩
    obtain ⟨b, hb⟩ : ∃ b, b = a + 1 := ⟨_, rfl⟩
    rw [← ha, ← hb]
    have b0 := T.b0
    have b1 := T.b1
    have kp2 := Lib.hid (Kp.of_below (fun k => k = g) T.bel)
    rw [← ha] at b0
    rw [← ha, ← hb] at b1
    have hag : ¬ a = g := by omega
    have hbg : ¬ b = g := by omega
    have hab : ¬ a = b := by omega
    have HAW := Lib.hid ha
    have HBW := Lib.hid hb
    clear ha hb hw2 T hglt
    refine (rsum_any g v xs p l w2 e hr2).mono ?_
    rintro en w3 ⟨r, p', l', e', rfl, ⟨ys, rfl, hR⟩, hr3, hk3⟩
    have HFF := HF _ _ _ _ hR
    clear hR
    clear HF
    have c0 := hk3.blk b0 hag
    have c1 := hk3.blk b1 hbg
    have f1 := blk_frozen c1 4
    have g0 := blk_cell c1 0
    have g1 := blk_cell c1 1
    have g2 := blk_cell c1 2
    have g3 := blk_cell c1 3
    have g4 := blk_cell c1 4
    have g5 := blk_cell c1 5
    have i0 := blk_cell c0 0
    have i1 := blk_cell c0 1
    have i2 := blk_cell c0 2
    have i3 := blk_cell c0 3
    have i4 := blk_cell c0 4
    have i5 := blk_cell c0 5
    have j0 := blk_frozen c0 0
    have j1 := blk_frozen c0 1
    have j2 := blk_frozen c0 2
    have j3 := blk_frozen c0 3
    have j4 := blk_frozen c0 4
    have j5 := blk_frozen c0 5
    dsimp at g0 g1 g2 g3 g4 g5 i0 i1 i2 i3 i4 i5
    go_wp2_with fail
    exact get_end (x := { V0 6 mo with s := mkS ys }) HFF.out (blk_far c0 hab _) (hr3.far c1 (by decide) hbg _ _) (kp_far (kp2.out.trans hk3 (fun _ _ h => h)) (by have := HBW.out; have := HAW.out; omega) _ _) rfl (by have := HAW.out; omega) hag
  by_cases k7 : k = 7
  · have HF := fun r p' l' e' (h : CountR mo xs p l e r p' l' e') => Lib.hid (getF_count (mo := mo) k7 h)
    subst k7
    generalize getF 7 mo xs p l e = o at HF ⊢
    go_enter Try.func33, Try.ntmps33
    go_wp2_with fail
    obtain ⟨w2, hw2⟩ : ∃ w2, w2 = ((w.alloc (.cells #[.int .i64 0, .int .u64 0, .int .i64 0, .bool false, .string ⟨#[]⟩, .int .i64 0] 51)).alloc (.cells #[.int .i64 7, .int .u64 0, .int .i64 0, .bool false, .string ⟨#[]⟩, .int .i64 mo] 51)) := ⟨_, rfl⟩
    rw [← hw2]
    have T := two_of (k := 7) hw2
    have hr2 := hr.below T.bel
    obtain ⟨a, ha⟩ : ∃ a, a = w.heap.size := ⟨_, rfl⟩
    obtain ⟨b, hb⟩ : ∃ b, b = a + 1 := ⟨_, rfl⟩
    rw [← ha, ← hb]
    have b0 := T.b0
    have b1 := T.b1
    have kp2 := Lib.hid (Kp.of_below (fun k => k = g) T.bel)
    rw [← ha] at b0
    rw [← ha, ← hb] at b1
    have hag : ¬ a = g := by omega
    have hbg : ¬ b = g := by omega
    have hab : ¬ a = b := by omega
    have HAW := Lib.hid ha
    have HBW := Lib.hid hb
    clear ha hb hw2 T hglt
    refine (count_any g v xs p l w2 mo e hr2 hk).mono ?_
    rintro en w3 ⟨r, p', l', e', rfl, hR, hr3, hk3⟩
    obtain ⟨n, rfl, hF⟩ := (HF _ _ _ _ hR).out
    have HFF := Lib.hid hF
    clear hR hF
    clear HF
    have c0 := hk3.blk b0 hag
    have c1 := hk3.blk b1 hbg
    have f1 := blk_frozen c1 2
    have g0 := blk_cell c1 0
    have g1 := blk_cell c1 1
    have g2 := blk_cell c1 2
    have g3 := blk_cell c1 3
    have g4 := blk_cell c1 4
    have g5 := blk_cell c1 5
    have i0 := blk_cell c0 0
    have i1 := blk_cell c0 1
    have i2 := blk_cell c0 2
    have i3 := blk_cell c0 3
    have i4 := blk_cell c0 4
    have i5 := blk_cell c0 5
    have j0 := blk_frozen c0 0
    have j1 := blk_frozen c0 1
    have j2 := blk_frozen c0 2
    have j3 := blk_frozen c0 3
    have j4 := blk_frozen c0 4
    have j5 := blk_frozen c0 5
    dsimp at g0 g1 g2 g3 g4 g5 i0 i1 i2 i3 i4 i5
    go_wp2_with fail
    exact get_end (x := { V0 7 mo with n := (n : Nat) }) HFF.out (blk_far c0 hab _) (hr3.far c1 (by decide) hbg _ _) (kp_far (kp2.out.trans hk3 (fun _ _ h => h)) (by have := HBW.out; have := HAW.out; omega) _ _) rfl (by have := HAW.out; omega) hag
  · exact get_none g v xs p l w k mo e hr k0 k1 k2 k3 k4 k5 k6 k7
end
end Go.Proofs.Ytllmhablpeecfaa
