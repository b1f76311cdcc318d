/- The walk of wire.AppendUint. -/
import Derived.Test.YtllmhablpeecfaaLawA
set_option linter.unusedVariables false
set_option linter.unusedSimpArgs false
namespace Go.Proofs.Ytllmhablpeecfaa
open Go.RowKit

theorem toList_made1 (n : Nat) : (madeCells #[Value.int .u8 0] n).toList = List.replicate n (Value.int .u8 0) := toList_madeCells_one _ _

theorem run_make_u8 (m c : Nat) (hmc : m ≤ c) (hc : c ≤ 281474976710656) (W : World) :
    (Instr.makeSlice 22 (.int .i64 (m : Int)) (.int .i64 (c : Int))).run Try.prog W = .ok (.slice (some ⟨W.heap.size, 0, none⟩) m c) (W.alloc (.cells (List.replicate c (Value.int .u8 0)).toArray 5)) := by
  obtain ⟨i0, hi, hz0, hz1, hz2⟩ := info_parts info_u8
  have hr := run_make (P := Try.prog) W 22 5 i0 (.int .u8 0) Try.underlying22 hi hz0 .i64 .i64 (m : Int) (c : Int) (by omega) (by omega) (by rw [hz2]; omega) (by omega)
  rw [Int.toNat_natCast, Int.toNat_natCast] at hr
  rw [hr]
  congr 3
  rw [← toList_made1 c]
  simp [hz1]
  rfl

set_option maxHeartbeats 400000 in
theorem appendUint_any (xs : List UInt8) (n : Nat) (S : Nat → Prop) (A : Option Addr) (m c : Nat) (w : World) (hr : Rc S w A (bvs xs)) (hm : Hid (xs.length = m)) (hml : m ≤ 1000000000) (hn : Hid (n < 18446744073709551616)) :
    Calls Try.prog 15 #[.slice A m c, .int .u64 n] w (FreshB w (xs ++ num n)) := by
  have hmk := fun W => run_make_u8 m (m + 10) (by omega) (by omega) W
  have e1 : (((m + 10 : Nat)) : Int) = (m : Int) + 10 := by omega
  rw [e1] at hmk
  have HM := Lib.hid hml
  obtain ⟨zs, hzs⟩ : ∃ zs, zs = List.replicate (m + 10) (Value.int .u8 0) := ⟨_, rfl⟩
  rw [← hzs] at hmk
  have HZ := Lib.hid hzs
  clear e1 hzs
  have hr1 : ∀ o, Rc S (w.alloc o) A (bvs xs) := fun o => hr.alloc o
  go_enter Try.func15, Try.ntmps15
  go_wp2_with (refine wpList_copy_splice (o := ⟨some 14, _, _, _, _, _⟩) rfl (.tmp 12) (.tmp 13) 22 22 rfl 5 Try.underlying22 (by kernel_rfl) (some ⟨w.heap.size, 0, none⟩) A m (m + 10) m c rfl rfl w.heap.size 0 zs 5 (blk_new _ _ _) (bvs xs) ?c1 ?c2 ?c3 (bvs_one xs) w.heap.size w ?c4 (Nat.le_refl _) ?_)
  case c1 => rw [bvs_length, hm.out]; simp
  case c2 =>
    intro h
    obtain ⟨ad, rfl, _, hc⟩ := hr1 (.cells zs.toArray 5) (by intro e; rw [e] at h; simp at h)
    first | exact ⟨rfl, ad, rfl, hc⟩ | exact ⟨ad, rfl, hc⟩
  case c3 => rw [bvs_length, hm.out, HZ.out]; simp
  case c4 => exact (Below.refl _ _).alloc (Nat.le_refl _) _
  intro w2 HG2 hB2
  have hown : w2.ownsRow w.heap.size 5 1 (.slice (some ⟨w.heap.size, 0, none⟩) m (m + 10)) xs.length (bvs xs) := by
    rw [hm.out]
    refine ⟨by rw [bvs_length, hm.out]; omega, .inr ⟨_, _, _, rfl, Nat.le_refl _, HG2.out, by omega, ?_, ?_, ?_⟩⟩
    · have := HM.out; simp only [maxLen]; omega
    · rw [List.size_toArray, length_splice _ _ _ (by rw [bvs_length, hm.out, HZ.out]; simp), HZ.out]; simp
    · simp [splice, bvs_length, hm.out]
  have hs2 := hB2.size
  go_wp2_with fail
  refine (appended_any w.heap.size _ xs n w2 hn hown hs2 (by have := hm.out; have := HM.out; show _ ≤ _; omega)).mono ?_
  rintro en w3 ⟨v3, rfl, hk3, hown3, hnx3⟩
  obtain ⟨A3, c3, rfl, _, _⟩ := own_slice hown3
  have hB3 : Below w.heap.size w w3 := hB2.trans (hk3.below hs2 (by intro k hk; simp [Value.ownBlock]; omega))
  go_wp2_with fail
  go_ret
  exact ⟨A3, c3, ret_slice' (by simp), hown3, hB3⟩
end Go.Proofs.Ytllmhablpeecfaa
