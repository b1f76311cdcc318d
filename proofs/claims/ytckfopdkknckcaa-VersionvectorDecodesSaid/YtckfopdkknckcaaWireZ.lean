/- Zigzag numbers and sizes: the walks of wire.Zigzag, Unzigzag, UintSize, math/bits.Len64 and of the reference's. -/
import Derived.Test.YtckfopdkknckcaaWireA
import Derived.Lib.Zigzag
import Derived.Lib.BitFns
import Derived.Lib.Hide
import Derived.Lib.Strings
import Derived.Lib.Slices
import Derived.Lib.Small
import Derived.Lib.Walk
set_option linter.unusedVariables false
set_option linter.unusedSimpArgs false
namespace Go.Proofs.Ytckfopdkknckcaa
open Go.RowKit

def zz (n : Int) : Nat := if 0 ≤ n then (2 * n).toNat else (-2 * n - 1).toNat
def unzz (n : Nat) : Int := if n % 2 = 0 then (n / 2 : Nat) else -((n / 2 : Nat) : Int) - 1

theorem zz_lt {n : Int} (h0 : -9223372036854775808 ≤ n) (h1 : n ≤ 9223372036854775807) : zz n < 18446744073709551616 := by unfold zz; split <;> omega
theorem unzz_zz (n : Int) : unzz (zz n) = n := by unfold unzz zz; split <;> split <;> omega
theorem zz_unzz (n : Nat) : zz (unzz n) = n := by unfold unzz zz; split <;> split <;> omega
theorem unzz_bd {n : Nat} (h : n < 18446744073709551616) : -9223372036854775808 ≤ unzz n ∧ unzz n ≤ 9223372036854775807 := by unfold unzz; split <;> omega

theorem xor_zero_u64 (a : Nat) (ha : a < 18446744073709551616) : bits .xor .u64 (a : Int) 0 = (a : Int) := by
  have := bits_xor_u64_nat a 0 ha (by omega)
  simpa using this
theorem xor_ones_u64 (a : Nat) (ha : a < 18446744073709551616) : bits .xor .u64 (a : Int) 18446744073709551615 = (18446744073709551615 - a : Int) := by
  have h := bits_xor_u64_nat a 18446744073709551615 ha (by omega)
  have e : ((18446744073709551615 : Nat) : Int) = 18446744073709551615 := rfl
  rw [e] at h
  rw [h, Nat.xor_comm, show (18446744073709551615 : Nat) = 2 ^ 64 - 1 by rfl, Lib.xor_ones64 a (by omega)]
  omega
theorem zz_bits {n : Int} (h0 : -9223372036854775808 ≤ n) (h1 : n ≤ 9223372036854775807) :
    bits BinOp.xor IntKind.u64 (IntKind.u64.wrap (IntKind.u64.wrap n * 2)) (IntKind.u64.wrap (n / 9223372036854775808)) = (zz n : Int) := by
  by_cases hn : 0 ≤ n
  · have e1 : IntKind.u64.wrap (IntKind.u64.wrap n * 2) = (((2 * n).toNat : Nat) : Int) := by rw [IntKind.wrap_u64, IntKind.wrap_u64]; omega
    have e2 : IntKind.u64.wrap (n / 9223372036854775808) = 0 := by rw [IntKind.wrap_u64]; omega
    rw [e1, e2, xor_zero_u64 _ (by omega)]
    unfold zz; rw [if_pos hn]
  · have e1 : IntKind.u64.wrap (IntKind.u64.wrap n * 2) = (((2 * n + 18446744073709551616).toNat : Nat) : Int) := by rw [IntKind.wrap_u64, IntKind.wrap_u64]; omega
    have e2 : IntKind.u64.wrap (n / 9223372036854775808) = 18446744073709551615 := by rw [IntKind.wrap_u64]; omega
    rw [e1, e2, xor_ones_u64 _ (by omega)]
    unfold zz; rw [if_neg hn]; omega
theorem xor_zero_i64 (x : Nat) (hx : x < 9223372036854775808) : bits .xor .i64 (x : Int) 0 = (x : Int) := by
  show IntKind.i64.wrap ((BitVec.ofInt 64 (x : Int) ^^^ BitVec.ofInt 64 0).toNat : Int) = _
  have h2 : (BitVec.ofInt 64 (x : Int)).toNat = x := by
    rw [BitVec.ofInt_natCast, BitVec.toNat_ofNat]; exact Nat.mod_eq_of_lt (by omega)
  have h1 : (BitVec.ofInt 64 0).toNat = 0 := by decide
  rw [BitVec.toNat_xor, h1, h2, Nat.xor_zero, IntKind.wrap_i64]
  omega
theorem xor_ones_i64 (x : Nat) (hx : x < 9223372036854775808) : bits .xor .i64 (x : Int) (-1) = -(x : Int) - 1 := by
  show IntKind.i64.wrap ((BitVec.ofInt 64 (x : Int) ^^^ BitVec.ofInt 64 (-1)).toNat : Int) = _
  have h1 : (BitVec.ofInt 64 (-1)).toNat = 2 ^ 64 - 1 := by decide
  have h2 : (BitVec.ofInt 64 (x : Int)).toNat = x := by
    rw [BitVec.ofInt_natCast, BitVec.toNat_ofNat]; exact Nat.mod_eq_of_lt (by omega)
  rw [BitVec.toNat_xor, h1, h2, Nat.xor_comm, Lib.xor_ones64 x (by omega), IntKind.wrap_i64]
  omega
theorem unzz_bits {n : Nat} (h : n < 18446744073709551616) :
    bits BinOp.xor IntKind.i64 (wrap64 ((n : Int) / 2)) (wrap64 (-wrap64 (bits BinOp.and IntKind.u64 (n : Int) 1))) = unzz n := by
  rw [Lib.u64_and1 _ (by omega) (by omega)]
  have e1 : wrap64 ((n : Int) / 2) = ((n / 2 : Nat) : Int) := by unfold wrap64; omega
  rw [e1]
  unfold unzz
  by_cases hn : n % 2 = 0
  · have e2 : wrap64 (-wrap64 ((n : Int) % 2)) = 0 := by unfold wrap64; omega
    rw [e2, xor_zero_i64 _ (by omega), if_pos hn]
  · have e2 : wrap64 (-wrap64 ((n : Int) % 2)) = -1 := by unfold wrap64; omega
    rw [e2, xor_ones_i64 _ (by omega), if_neg hn]

theorem ret_int {k : IntKind} {a b : Int} (h : a = b) : Ending.returned (.int k a) = .returned (.int k b) := by rw [h]
theorem ret_bool {a b : Bool} (h : a = b) : Ending.returned (.bool a) = .returned (.bool b) := by rw [h]

set_option maxRecDepth 100000 in
theorem tab_len (y : Int) (h0 : 0 ≤ y) (h1 : y ≤ 255) (h : y.toNat < Lib.len8tab.size) : ((Lib.len8tab[y.toNat]'h).toNat : Int) = Lib.bitLen y.toNat := by
  have e := Lib.len8_of y h0 h1
  unfold Lib.len8 at e
  have h' : Lib.len8tab[y.toNat]? = some (Lib.len8tab[y.toNat]'h) := getElem?_pos Lib.len8tab y.toNat h
  rw [h'] at e
  exact e
set_option maxRecDepth 100000 in
theorem len_close (x y : Int) (k : Nat) (h0 : 0 ≤ y) (h1 : y ≤ 255) (hk : k ≤ 56) (h : y.toNat < Lib.len8tab.size) (e : Lib.bitLen x.toNat = k + Lib.bitLen y.toNat) :
    wrap64 ((k : Int) + wrap64 ((Lib.len8tab[y.toNat]'h).toNat : Int)) = Lib.bitLen x.toNat := by
  rw [tab_len y h0 h1 h]
  have := Lib.bitLen_le8' y h0 h1
  unfold wrap64
  omega
theorem size_num_pow (k : Nat) : ∀ n, n < 128 ^ (k + 1) → k ≤ 8 → (num n).length = max 1 ((Lib.bitLen n + 6) / 7) := by
  induction k with
  | zero =>
    intro n h _
    rw [num_lt (by omega)]
    have := Lib.bitLen_le n 7 (by omega) (by omega)
    simp; omega
  | succ k ih =>
    intro n h hk
    by_cases hn : n < 128
    · rw [num_lt hn]
      have := Lib.bitLen_le n 7 (by omega) (by omega)
      simp; omega
    · have hp : 128 ^ (k + 1) * 128 ≤ 2 ^ 63 := by
        have : (128 : Nat) ^ (k + 1) ≤ 128 ^ 8 := Nat.pow_le_pow_right (by omega) (by omega)
        omega
      have h64 : n < 2 ^ 64 := by rw [Nat.pow_succ] at h; omega
      have hs := Lib.bitLen_shift 7 n (by omega) h64
      have e : 2 ^ 7 = 128 := rfl
      rw [e] at hs
      rw [num_ge (by omega), List.length_cons, ih (n / 128) (by rw [Nat.pow_succ] at h; omega) (by omega), hs]
      have hb : 1 ≤ Lib.bitLen (n / 128) := by
        rcases Nat.eq_zero_or_pos (Lib.bitLen (n / 128)) with h0 | h0
        · by_cases h2 : n / 128 = 0
          · omega
          · have := Lib.bitLen_half (n / 128) h2 (by omega)
            omega
        · exact h0
      omega
theorem size_num (n : Nat) (h : n < 18446744073709551616) : (num n).length = max 1 ((Lib.bitLen n + 6) / 7) := by
  by_cases hn : n < 9223372036854775808
  · exact size_num_pow 8 n (by omega) (by omega)
  · have hs := Lib.bitLen_shift 7 n (by omega) (by omega)
    have e : 2 ^ 7 = 128 := rfl
    rw [e] at hs
    rw [num_ge (by omega), List.length_cons, size_num_pow 8 (n / 128) (by omega) (by omega), hs]
    have h2 := Lib.bitLen_half (n / 128) (by omega) (by omega)
    omega

end Go.Proofs.Ytckfopdkknckcaa
