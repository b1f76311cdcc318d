/- The walks of wire.Writer's other methods: Int, Bool, Bytes, Text, Sum, Count, Done. -/
import Derived.Test.YtckfopdkknckcaaWireW
set_option linter.unusedVariables false
set_option linter.unusedSimpArgs false
namespace Go.Proofs.Ytckfopdkknckcaa
open Go.RowKit

/-- A string's bytes. -/
def sb (s : ByteArray) : List UInt8 := s.data.toList
theorem sb_length (s : ByteArray) : (sb s).length = s.size := by unfold sb; rw [Array.length_toList]; rfl

theorem bytesW_rc (w : World) (e : TypeId) (s : ByteArray) : Rc (fun k => k = w.heap.size) (Lib.bytesWorld w e s) (some ⟨w.heap.size, 0, none⟩) (bvs (sb s)) := fun _ => by
  refine ⟨_, rfl, rfl, fun j u hu => ?_⟩
  have hj : j < (bvs (sb s)).length := by
    rcases Nat.lt_or_ge j (bvs (sb s)).length with h | h
    · exact h
    · rw [List.getElem?_eq_none h] at hu; cases hu
  rw [bvs_length, sb_length] at hj
  rw [add_plain, Lib.bytesWorld_cell w e s j hj, ← hu]
  have h2 : j < s.data.toList.length := by have := sb_length s; unfold sb at this; omega
  have h3 : j < (sb s).length := h2
  rw [bvs_get _ _ h3]
  simp [sb, List.getD_eq_getElem?_getD, List.getElem?_eq_getElem h2]
theorem bytesW_below (w : World) (e : TypeId) (s : ByteArray) : Below w.heap.size w (Lib.bytesWorld w e s) :=
  ⟨rfl, rfl, rfl, by rw [Lib.bytesWorld_size]; omega, fun i hi => Lib.bytesWorld_at_old w e s i hi⟩

section
variable (g : Nat) (v : Value) (xs : List UInt8) (e : Int) (w : World) (hw : Wr w g v xs e) (hl : Hid (xs.length ≤ 1000000000000))

set_option maxHeartbeats 400000 in
include hw hl in
theorem wcount_any (n : Int) (hn : Hid (n ≤ 9223372036854775807)) :
    Calls Try.prog 41 #[.pointer (some ⟨g, 0, none⟩), .int .i64 n] w
      (WrP w g v (if 0 ≤ n then wput e xs (num n.toNat) else xs) (if 0 ≤ n then e else wfl e 1)) := by
  by_cases h0 : 0 ≤ n
  · rw [if_pos h0, if_pos h0]
    obtain ⟨k, rfl⟩ := Int.eq_ofNat_of_zero_le h0
    clear h0
    rw [Int.toNat_natCast]
    have hk64 : IntKind.u64.wrap (k : Int) = (k : Int) := by have := hn.out; rw [IntKind.wrap_u64]; omega
    go_enter Try.func41, Try.ntmps41
    go_wp2_with fail
    refine (wuint_any g v xs e k w hw (by have := hn.out; show _ < _; omega) hl).mono ?_
    rintro en w2 ⟨rfl, v2, hw2, hs2⟩
    go_wp2_with fail
    go_end0
    exact ⟨rfl, v2, hw2, hs2⟩
  · rw [if_neg h0, if_neg h0]
    go_enter Try.func41, Try.ntmps41
    go_wp2_with fail
    refine (wfail_any g v xs e 1 w hw).mono ?_
    rintro en w2 ⟨rfl, v2, hw2, hs2⟩
    go_wp2_with fail
    go_end0
    exact ⟨rfl, v2, hw2, hs2⟩

def doneE (e : Int) (xs : List UInt8) : Int := if e ≠ 0 then e else if 1048576 < xs.length then 2 else 0
def doneB (e : Int) (xs : List UInt8) : List UInt8 := if doneE e xs = 0 then xs else []
/-- Done's end: a row of its own. -/
def DoneP (w : World) (e : Int) (xs : List UInt8) (en : Ending) (w' : World) : Prop :=
  ∃ A c, en = .returned (.tuple #[.slice A (doneB e xs).length c, .int .i64 (doneE e xs)]) ∧ w'.ownsRow w.heap.size 5 1 (.slice A (doneB e xs).length c) (doneB e xs).length (bvs (doneB e xs)) ∧ Below w.heap.size w w'
end
end Go.Proofs.Ytckfopdkknckcaa
