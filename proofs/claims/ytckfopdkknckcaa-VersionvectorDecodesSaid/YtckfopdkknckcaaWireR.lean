/- The walks of wire.Reader's small methods over a plain description of a reader ('Rd'). -/
import Derived.Test.YtckfopdkknckcaaWireD
set_option linter.unusedVariables false
set_option linter.unusedSimpArgs false
namespace Go.Proofs.Ytckfopdkknckcaa
open Go.RowKit

/-- A reader at block g: its slice v holds xs; offset, offset of the last value, error. -/
structure Rd (w : World) (g : Nat) (v : Value) (xs : List UInt8) (p l : Nat) (e : Int) : Prop where
  blk : w.heap[g]? = some (.cells #[v, .int .i64 p, .int .i64 l, .int .i64 e] 83 (0, 0))
  row : w.ownsRow 0 5 1 v xs.length (bvs xs)
  le : p ≤ xs.length
  ll : l ≤ xs.length

section
variable {w w' : World} {g : Nat} {v : Value} {xs : List UInt8} {p l : Nat} {e : Int}
theorem Rd.lt (h : Rd w g v xs p l e) : g < w.heap.size := blk_lt h.blk
theorem Rd.ne_ (h : Rd w g v xs p l e) : v.ownBlock ≠ some g := own_blk_ne h.row h.blk (by decide)
theorem Rd.kp {F : Nat → Prop} (h : Rd w g v xs p l e) (hk : Kp F w w') (hg : ¬ F g) (hv : ∀ b, v.ownBlock = some b → ¬ F b) : Rd w' g v xs p l e := ⟨hk.blk h.blk hg, hk.own h.row hv, h.le, h.ll⟩
theorem Rd.below (h : Rd w g v xs p l e) (hb : Below w.heap.size w w') : Rd w' g v xs p l e := h.kp (Kp.of_below (fun _ => False) hb) (fun h => h) (fun _ _ h => h)
theorem Rd.drewN (h : Rd w g v xs p l e) (n : Nat) : Rd (w.drewN n) g v xs p l e := ⟨h.blk, h.row, h.le, h.ll⟩
theorem Rd.len (h : Rd w g v xs p l e) : xs.length ≤ 9223372036854775807 := by
  obtain ⟨A, c, _, h1, h2⟩ := own_slice h.row
  simp only [maxLen] at h2; omega
theorem Rd.setAt (h : Rd w g v xs p l e) (q : Nat) (hq : q ≤ xs.length) : Rd (w.setCell ⟨g, 1, none⟩ (.int .i64 q)) g v xs q l e := ⟨blk_set h.blk 1 _, own_setCell (p := ⟨g, 1, none⟩) h.row h.ne_ _, hq, h.ll⟩
theorem Rd.setAt' (h : Rd w g v xs p l e) (q : Nat) (k : Int) (hk : k = (q : Int)) (hq : q ≤ xs.length) : Rd (w.setCell ⟨g, 1, none⟩ (.int .i64 k)) g v xs q l e := by subst hk; exact h.setAt q hq
theorem Rd.setLast (h : Rd w g v xs p l e) (q : Nat) (hq : q ≤ xs.length) : Rd (w.setCell ⟨g, 2, none⟩ (.int .i64 q)) g v xs p q e := ⟨blk_set h.blk 2 _, own_setCell (p := ⟨g, 2, none⟩) h.row h.ne_ _, h.le, hq⟩
theorem Rd.setE (h : Rd w g v xs p l e) (k : Int) : Rd (w.setCell ⟨g, 3, none⟩ (.int .i64 k)) g v xs p l k := ⟨blk_set h.blk 3 _, own_setCell (p := ⟨g, 3, none⟩) h.row h.ne_ _, h.le, h.ll⟩
end

theorem kp_g {w w' : World} {g : Nat} (h : Kp (fun k => k = g) w w') (i : Nat) (u : Value) : Kp (fun k => k = g) w (w'.setCell ⟨g, i, none⟩ u) := Kp.setCell (p := ⟨g, i, none⟩) h (fun _ => rfl) u

/-- A method's end: it returned r; only the reader's block has turned. -/
def RdP (w : World) (g : Nat) (v : Value) (xs : List UInt8) (r : Value) (p l : Nat) (e : Int) (en : Ending) (w' : World) : Prop :=
  en = .returned r ∧ Rd w' g v xs p l e ∧ Kp (fun k => k = g) w w'

section
variable (g : Nat) (v : Value) (xs : List UInt8) (p l : Nat) (e : Int) (w : World) (hr : Rd w g v xs p l e)

set_option maxHeartbeats 400000 in
include hr in
theorem rfail_any (k : Int) :
    Calls Try.prog 62 #[.pointer (some ⟨g, 0, none⟩), .int .i64 k] w (RdP w g v xs (.tuple #[]) p l (wfl e k)) := by
  have hc : w.cell? ⟨g, 3, none⟩ = some (.int .i64 e) := blk_cell hr.blk 3
  have hf : w.frozen? ⟨g, 3, none⟩ = false := blk_frozen hr.blk 3
  by_cases he : e = 0
  · subst he
    go_enter Try.func62, Try.ntmps62
    go_wp2
    go_end0
    exact ⟨rfl, hr.setE _, kp_g (Kp.refl _ _) _ _⟩
  · have hb : (e == 0) = false := by simpa using he
    have HE : Hid (wfl e k = e) := by unfold wfl; exact if_neg he
    clear he
    go_enter Try.func62, Try.ntmps62
    go_wp2
    go_end0
    rw [HE.out]
    exact ⟨rfl, hr, Kp.refl _ _⟩

set_option maxHeartbeats 400000 in
include hr in
theorem left_any :
    Calls Try.prog 59 #[.pointer (some ⟨g, 0, none⟩)] w fun en w' => en = .returned (.int .i64 ((xs.length - p : Nat) : Int)) ∧ ∃ n, w' = w.drewN n := by
  have hc1 : w.cell? ⟨g, 1, none⟩ = some (.int .i64 p) := blk_cell hr.blk 1
  have hc0 : w.cell? ⟨g, 0, none⟩ = some v := blk_cell hr.blk 0
  have hle := hr.le
  have hlen := Lib.hid hr.len
  have e1 : IntKind.i64.wrap ((xs.length : Int) - (p : Int)) = (xs.length : Int) - (p : Int) := by have := hlen.out; rw [IntKind.wrap_i64]; omega
  have e2 : wrap64 ((xs.length : Int) - (p : Int)) = (xs.length : Int) - (p : Int) := by have := hlen.out; unfold wrap64; omega
  obtain ⟨A, c, rfl, _, _⟩ := own_slice hr.row
  go_enter Try.func59, Try.ntmps59
  go_wp2
  go_quiet (fail)
  go_wp2
  go_ret
  exact ⟨ret_int (by omega), _, rfl⟩

def fAt (e : Int) (p l : Nat) : Nat := if e = 0 then l else p
def endE (e : Int) (p n : Nat) : Int := if e = 0 ∧ p < n then 3 else e
set_option maxHeartbeats 400000 in
include hr in
theorem end_any :
    Calls Try.prog 47 #[.pointer (some ⟨g, 0, none⟩)] w fun en w' => en = .returned (.tuple #[.int .i64 p, .int .i64 (endE e p xs.length)]) ∧ ∃ n, w' = w.drewN n := by
  have hc1 : w.cell? ⟨g, 1, none⟩ = some (.int .i64 p) := blk_cell hr.blk 1
  have hc3 : w.cell? ⟨g, 3, none⟩ = some (.int .i64 e) := blk_cell hr.blk 3
  obtain ⟨k, hk⟩ : ∃ k, k = endE e p xs.length := ⟨_, rfl⟩
  have hk' : k = endE e p xs.length := hk
  have HK := Lib.hid hk'
  rw [← hk]
  clear hk hk'
  by_cases he : e = 0
  · subst he
    have hle := hr.le
    obtain ⟨q, hq⟩ : ∃ q, q = xs.length - p := ⟨_, rfl⟩
    have HL := fun n => left_any g v xs p l 0 (w.drewN n) (hr.drewN n)
    rw [← hq] at HL
    have H := Lib.hid HL
    have HQ := Lib.hid hq
    clear HL hq
    by_cases hq0 : 0 < q
    · have HK2 : Hid (k = 3) := by rw [HK.out]; unfold endE; exact if_pos ⟨rfl, by have := HQ.out; omega⟩
      go_enter Try.func47, Try.ntmps47
      go_wp2
      go_quiet (fail)
      go_wp2_with fail
      refine (H.out _).mono ?_
      rintro en w' ⟨rfl, m, rfl⟩
      go_wp2_with fail
      go_ret2
      exact ⟨by rw [HK2.out]; rfl, _, rfl⟩
    · have HK2 : Hid (k = 0) := by rw [HK.out]; unfold endE; exact if_neg (fun h => by have := HQ.out; omega)
      go_enter Try.func47, Try.ntmps47
      go_wp2
      go_quiet (fail)
      go_wp2_with fail
      refine (H.out _).mono ?_
      rintro en w' ⟨rfl, m, rfl⟩
      go_wp2_with fail
      go_ret2
      exact ⟨by rw [HK2.out]; rfl, _, rfl⟩
  · have hb : (e == 0) = false := by simpa using he
    have HK2 : Hid (k = e) := by rw [HK.out]; unfold endE; exact if_neg (fun h => he h.1)
    clear he
    go_enter Try.func47, Try.ntmps47
    go_wp2
    go_quiet (fail)
    go_wp2_with fail
    go_ret2
    exact ⟨by rw [HK2.out]; rfl, _, rfl⟩
end

/-- NewReader's end. -/
def NewRP (w : World) (xs : List UInt8) (en : Ending) (w' : World) : Prop :=
  ∃ g v, en = .returned (.pointer (some ⟨g, 0, none⟩)) ∧ Rd w' g v xs 0 0 0 ∧ Below w.heap.size w w' ∧ w.heap.size ≤ g ∧ ∀ b, v.ownBlock = some b → w.heap.size ≤ b

set_option maxHeartbeats 400000 in
theorem newReader_any (xs : List UInt8) (S : Nat → Prop) (A : Option Addr) (m c : Nat) (w : World) (hr : Rc S w A (bvs xs)) (hm : Hid (xs.length = m)) (hml : Hid (m ≤ 140737488355328)) :
    Calls Try.prog 44 #[.slice A m c] w (NewRP w xs) := by
  go_enter Try.func44, Try.ntmps44
  go_wp2_with (at_builtin; refine wpl_append_bytes w.heap.size rfl _ _ 48 5 rfl Try.underlying48 info_u8 (.slice (some ⟨w.heap.size, 0, none⟩) 0 0) [] xs S A m c rfl rfl (own_lit0 w _) (hr.alloc _) hm.out (by simp) (by have := hml.out; simp; omega) ?_)
  intro v1 w1 hown1 hg1 hat1
  have hb1 : Below w.heap.size w w1 := ((Below.refl _ _).alloc (Nat.le_refl _) _).grown hg1 (by simp) (by intro k hk; simp [Value.ownBlock] at hk; omega)
  obtain ⟨A1, c1, rfl, _, _⟩ := own_slice hown1
  go_wp2
  go_ret
  refine ⟨_, _, rfl, ⟨blk_new _ _ _, own_weaken (hown1.alloc _) (Nat.zero_le _), Nat.zero_le _, Nat.zero_le _⟩, hb1.alloc hb1.size _, hb1.size, fun b hb => (own_lt hown1 hb).1⟩
end Go.Proofs.Ytckfopdkknckcaa
