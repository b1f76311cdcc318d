/- The walks of wire.Writer's other methods: Int, Bool, Bytes, Text, Sum, Count, Done. -/
import Derived.Test.YtllmhablpeecfaaWireW
set_option linter.unusedVariables false
set_option linter.unusedSimpArgs false
namespace Go.Proofs.Ytllmhablpeecfaa
open Go.RowKit

/-- A string's bytes. -/
def sb (s : ByteArray) : List UInt8 := s.data.toList
theorem sb_length (s : ByteArray) : (sb s).length = s.size := by unfold sb; rw [Array.length_toList]; rfl

theorem bytesW_rc (w : World) (e : TypeId) (s : ByteArray) : Rc (fun k => k = w.heap.size) (Lib.bytesWorld w e s) (some ⟨w.heap.size, 0, none⟩) (bvs (sb s)) := fun _ => by
  refine ⟨_, rfl, rfl, fun j u hu => ?_⟩
  have hj : j < (bvs (sb s)).length := by
    rcases Nat.lt_or_ge j (bvs (sb s)).length with h | h
    · exact h
    · rw [List.getElem?_eq_none h] at hu; cases hu
  rw [bvs_length, sb_length] at hj
  rw [add_plain, Lib.bytesWorld_cell w e s j hj, ← hu]
  have h2 : j < s.data.toList.length := by have := sb_length s; unfold sb at this; omega
  have h3 : j < (sb s).length := h2
  rw [bvs_get _ _ h3]
  simp [sb, List.getD_eq_getElem?_getD, List.getElem?_eq_getElem h2]
theorem bytesW_below (w : World) (e : TypeId) (s : ByteArray) : Below w.heap.size w (Lib.bytesWorld w e s) :=
  ⟨rfl, rfl, rfl, by rw [Lib.bytesWorld_size]; omega, fun i hi => Lib.bytesWorld_at_old w e s i hi⟩

section
variable (g : Nat) (v : Value) (xs : List UInt8) (e : Int) (w : World) (hw : Wr w g v xs e) (hl : Hid (xs.length ≤ 1000000000000))

set_option maxHeartbeats 400000 in
include hw hl in
theorem wint_any (n : Int) (hn : Hid (-9223372036854775808 ≤ n ∧ n ≤ 9223372036854775807)) :
    Calls Try.prog 52 #[.pointer (some ⟨g, 0, none⟩), .int .i64 n] w (WrP w g v (wput e xs (num (zz n))) e) := by
  go_enter Try.func52, Try.ntmps52
  go_wp2_with fail
  refine (zigzag_any n w hn).mono ?_
  rintro en w' ⟨rfl, rfl⟩
  go_wp2_with fail
  refine (wuint_any g v xs e (zz n) w hw (zz_lt hn.out.1 hn.out.2) hl).mono ?_
  rintro en w2 ⟨rfl, v2, hw2, hs2⟩
  go_wp2_with fail
  go_end0
  exact ⟨rfl, v2, hw2, hs2⟩

set_option maxHeartbeats 400000 in
include hw hl in
theorem wbool_any (b : Bool) :
    Calls Try.prog 38 #[.pointer (some ⟨g, 0, none⟩), .bool b] w (WrP w g v (wput e xs [if b then 1 else 0]) e) := by
  have hw1 : ∀ o, Wr (w.alloc o) g v xs e := fun o => hw.below ((Below.refl _ _).alloc (Nat.le_refl _) o)
  cases b
  all_goals
    go_enter Try.func38, Try.ntmps38
    go_wp2_with fail
  · refine (raw_any g v xs [0] e _ _ 1 1 _ (hw1 _) (rc_byte rfl) rfl (by have := hl.out; show _ ≤ _; omega)).mono ?_
    rintro en w2 ⟨rfl, v2, hw2, hs2⟩
    go_wp2_with fail
    go_end0
    exact ⟨rfl, v2, hw2, (WrS.of_below ((Below.refl _ _).alloc (Nat.le_refl _) _) g v).trans hs2⟩
  · refine (raw_any g v xs [1] e _ _ 1 1 _ (hw1 _) (rc_byte rfl) rfl (by have := hl.out; show _ ≤ _; omega)).mono ?_
    rintro en w2 ⟨rfl, v2, hw2, hs2⟩
    go_wp2_with fail
    go_end0
    exact ⟨rfl, v2, hw2, (WrS.of_below ((Below.refl _ _).alloc (Nat.le_refl _) _) g v).trans hs2⟩

set_option maxHeartbeats 400000 in
include hw hl in
theorem wbytes_any (ys : List UInt8) (S : Nat → Prop) (A : Option Addr) (m c : Nat) (hr : Rc S w A (bvs ys)) (hS : ∀ k, S k → k ≠ g ∧ some k ≠ v.ownBlock) (hm : Hid (ys.length = m)) (hml : Hid (m ≤ 1000000000000)) :
    Calls Try.prog 23 #[.pointer (some ⟨g, 0, none⟩), .slice A m c] w (WrP w g v (wput e xs (num ys.length ++ ys)) e) := by
  have hm64 : IntKind.u64.wrap (m : Int) = (m : Int) := by have := hml.out; rw [IntKind.wrap_u64]; omega
  go_enter Try.func23, Try.ntmps23
  go_wp2_with fail
  refine (wuint_any g v xs e m w hw (by have := hml.out; show _ < _; omega) hl).mono ?_
  rintro en w1 ⟨rfl, v1, hw1, hs1⟩
  have hr1 := hr.kp hs1.kp (fun k hk => by have := hS k hk; rintro (h | h); exact this.1 h; exact this.2 h)
  go_wp2_with fail
  refine (raw_any g v1 _ ys e S A m c w1 hw1 hr1 hm (by have := wput_len e xs (num m); have := hl.out; have := hml.out; have := num_len (n := m) (by omega); show _ ≤ _; omega)).mono ?_
  rintro en w2 ⟨rfl, v2, hw2, hs2⟩
  go_wp2_with fail
  go_end0
  refine ⟨rfl, v2, ?_, hs1.trans hs2⟩
  rw [show wput e xs (num ys.length ++ ys) = wput e (wput e xs (num m)) ys from by
    rw [hm.out]; unfold wput; split <;> simp]
  exact hw2

set_option maxHeartbeats 400000 in
include hw hl in
theorem wtext_any (s : ByteArray) (hml : Hid (s.size ≤ 1000000000000)) :
    Calls Try.prog 53 #[.pointer (some ⟨g, 0, none⟩), .string s] w (WrP w g v (wput e xs (num s.size ++ sb s)) e) := by
  have kb := fun W => Lib.run_convert_string_bytes (P := Try.prog) W 9 22 5 s Try.underlying9 Try.underlying22 Try.underlying5
  have hb := bytesW_below w 5 s
  have hw1 := hw.below hb
  go_enter Try.func53, Try.ntmps53
  go_wp2_with fail
  refine (wbytes_any g v xs e _ hw1 hl (sb s) _ _ s.size _ (bytesW_rc w 5 s) (fun k hk => ?_) (sb_length s) hml).mono ?_
  · subst hk
    refine ⟨fun h => ?_, fun h => ?_⟩
    · have := hw.lt; omega
    · have := (own_lt hw.row h.symm).2; omega
  rintro en w2 ⟨rfl, v2, hw2, hs2⟩
  go_wp2_with fail
  go_end0
  rw [sb_length] at hw2
  exact ⟨rfl, v2, hw2, (WrS.of_below hb g v).trans hs2⟩

set_option maxHeartbeats 400000 in
include hw hl in
theorem wsum_any (s : ByteArray) :
    Calls Try.prog 54 #[.pointer (some ⟨g, 0, none⟩), .string s] w
      (WrP w g v (if s.size = 32 then wput e xs (sb s) else xs) (if s.size = 32 then e else wfl e 1)) := by
  have kb := fun W => Lib.run_convert_string_bytes (P := Try.prog) W 9 22 5 s Try.underlying9 Try.underlying22 Try.underlying5
  have hb := bytesW_below w 5 s
  have hw1 := hw.below hb
  by_cases h32 : s.size = 32
  · rw [if_pos h32, if_pos h32]
    have hb0 : ((s.size : Int) != 32) = false := by rw [h32]; rfl
    have H32 := Lib.hid h32
    clear h32
    go_enter Try.func54, Try.ntmps54
    go_wp2_with fail
    refine (raw_any g v xs (sb s) e _ _ s.size _ _ hw1 (bytesW_rc w 5 s) (sb_length s) (by have := H32.out; have := hl.out; show _ ≤ _; omega)).mono ?_
    rintro en w2 ⟨rfl, v2, hw2, hs2⟩
    go_wp2_with fail
    go_end0
    exact ⟨rfl, v2, hw2, (WrS.of_below hb g v).trans hs2⟩
  · rw [if_neg h32, if_neg h32]
    have hb0 : ((s.size : Int) != 32) = true := by simp; omega
    clear h32
    go_enter Try.func54, Try.ntmps54
    go_wp2_with fail
    refine (wfail_any g v xs e 1 w hw).mono ?_
    rintro en w2 ⟨rfl, v2, hw2, hs2⟩
    go_wp2_with fail
    go_end0
    exact ⟨rfl, v2, hw2, hs2⟩

set_option maxHeartbeats 400000 in
include hw hl in
theorem wcount_any (n : Int) (hn : Hid (n ≤ 9223372036854775807)) :
    Calls Try.prog 22 #[.pointer (some ⟨g, 0, none⟩), .int .i64 n] w
      (WrP w g v (if 0 ≤ n then wput e xs (num n.toNat) else xs) (if 0 ≤ n then e else wfl e 1)) := by
  by_cases h0 : 0 ≤ n
  · rw [if_pos h0, if_pos h0]
    obtain ⟨k, rfl⟩ := Int.eq_ofNat_of_zero_le h0
    clear h0
    rw [Int.toNat_natCast]
    have hk64 : IntKind.u64.wrap (k : Int) = (k : Int) := by have := hn.out; rw [IntKind.wrap_u64]; omega
    go_enter Try.func22, Try.ntmps22
    go_wp2_with fail
    refine (wuint_any g v xs e k w hw (by have := hn.out; show _ < _; omega) hl).mono ?_
    rintro en w2 ⟨rfl, v2, hw2, hs2⟩
    go_wp2_with fail
    go_end0
    exact ⟨rfl, v2, hw2, hs2⟩
  · rw [if_neg h0, if_neg h0]
    go_enter Try.func22, Try.ntmps22
    go_wp2_with fail
    refine (wfail_any g v xs e 1 w hw).mono ?_
    rintro en w2 ⟨rfl, v2, hw2, hs2⟩
    go_wp2_with fail
    go_end0
    exact ⟨rfl, v2, hw2, hs2⟩

def doneE (e : Int) (xs : List UInt8) : Int := if e ≠ 0 then e else if 1048576 < xs.length then 2 else 0
def doneB (e : Int) (xs : List UInt8) : List UInt8 := if doneE e xs = 0 then xs else []
/-- Done's end: a row of its own. -/
def DoneP (w : World) (e : Int) (xs : List UInt8) (en : Ending) (w' : World) : Prop :=
  ∃ A c, en = .returned (.tuple #[.slice A (doneB e xs).length c, .int .i64 (doneE e xs)]) ∧ w'.ownsRow w.heap.size 5 1 (.slice A (doneB e xs).length c) (doneB e xs).length (bvs (doneB e xs)) ∧ Below w.heap.size w w'
end
end Go.Proofs.Ytllmhablpeecfaa
