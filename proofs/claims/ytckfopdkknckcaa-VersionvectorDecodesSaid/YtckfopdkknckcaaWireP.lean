/- Plain lemmas on numbers' encodings: decoding an encoding gives the number; what is decoded is an encoding. -/
import Derived.Test.YtckfopdkknckcaaWireN
set_option linter.unusedVariables false
set_option linter.unusedSimpArgs false
namespace Go.Proofs.Ytckfopdkknckcaa
open Go.RowKit

theorem dn_num_pow : ∀ (d n i acc : Nat) (t : List UInt8), i + d = 9 → n < 2 * 128 ^ d → (0 < i → 0 < n) → dn i acc (num n ++ t) = some (acc + n * 128 ^ i, (num n).length) := by
  intro d
  induction d with
  | zero =>
    intro n i acc t hi hn hpos
    obtain rfl : i = 9 := by omega
    have h2 : n < 2 := by simpa using hn
    have h1 : n = 1 := by have := hpos (by omega); omega
    subst h1
    rw [num_lt (by omega)]
    show dn 9 acc (UInt8.ofNat 1 :: t) = _
    rw [dn_last (by decide) (by decide)]
    rfl
  | succ d ih =>
    intro n i acc t hi hn hpos
    by_cases h : n < 128
    · rw [num_lt h]
      have hb : (UInt8.ofNat n).toNat = n := by rw [UInt8.toNat_ofNat']; omega
      show dn i acc (UInt8.ofNat n :: t) = _
      rw [dn_last (by rw [hb]; omega) (by rw [hb]; omega), hb, Nat.mod_eq_of_lt h]
      rfl
    · rw [num_ge (by omega)]
      have hb : (UInt8.ofNat (n % 128 + 128)).toNat = n % 128 + 128 := by rw [UInt8.toNat_ofNat']; omega
      show dn i acc (UInt8.ofNat (n % 128 + 128) :: (num (n / 128) ++ t)) = _
      rw [dn_more (by rw [hb]; omega) (by rw [hb]; omega), hb, ih (n / 128) (i + 1) _ t (by omega) (by rw [Nat.pow_succ] at hn; omega) (by omega)]
      simp only [Option.map_some, List.length_cons]
      have e1 : (n % 128 + 128) % 128 = n % 128 := by omega
      have e2 : n = n % 128 + 128 * (n / 128) := by omega
      congr 2
      rw [e1, Nat.pow_succ, Nat.add_assoc]
      congr 1
      conv => rhs; rw [e2]
      rw [Nat.add_mul, Nat.mul_comm (128 ^ i) 128, ← Nat.mul_assoc, Nat.mul_comm (n / 128) 128]

/-- An encoding is decoded to its number, all of it. -/
theorem dn_num (n : Nat) (t : List UInt8) (h : n < 18446744073709551616) : dn 0 0 (num n ++ t) = some (n, (num n).length) := by
  have := dn_num_pow 9 n 0 0 t rfl (by omega) (by omega)
  simpa using this

theorem dn_inv_pow : ∀ (l : List UInt8) (i acc r k : Nat), i ≤ 9 → dn i acc l = some (r, k) →
    ∃ n, r = acc + n * 128 ^ i ∧ k ≤ l.length ∧ l.take k = num n ∧ k = (num n).length ∧ n < 2 * 128 ^ (9 - i) ∧ (0 < i → 0 < n) := by
  intro l
  induction l with
  | nil => intro i acc r k _ h; simp [dn] at h
  | cons b t ih =>
    intro i acc r k hi h
    have hbl := b.toNat_lt
    by_cases hbad : (i = 9 ∧ 1 < b.toNat) ∨ (0 < i ∧ b.toNat = 0)
    · rw [dn_bad hbad] at h; cases h
    · by_cases h128 : b.toNat < 128
      · rw [dn_last hbad h128] at h
        simp only [Option.some.injEq, Prod.mk.injEq] at h
        obtain ⟨rfl, rfl⟩ := h
        refine ⟨b.toNat, by rw [Nat.mod_eq_of_lt h128], by simp, ?_, ?_, ?_, by omega⟩
        · rw [num_lt h128]; simp
        · rw [num_lt h128]; rfl
        · rcases Nat.lt_or_ge i 9 with hi9 | hi9
          · have h1 : 128 ^ 1 ≤ 128 ^ (9 - i) := Nat.pow_le_pow_right (by omega) (by omega)
            omega
          · obtain rfl : i = 9 := by omega
            simp; omega
      · rw [dn_more hbad h128] at h
        obtain ⟨⟨r', k'⟩, h', he⟩ := Option.map_eq_some_iff.1 h
        simp only [Prod.mk.injEq] at he
        obtain ⟨rfl, rfl⟩ := he
        have hi8 : i ≤ 8 := by omega
        obtain ⟨n, hr, hkl, htk, hkn, hn, hpos⟩ := ih (i + 1) _ _ _ (by omega) h'
        have hn0 := hpos (by omega)
        have hge : 128 ≤ b.toNat % 128 + 128 * n := by omega
        have e1 : (b.toNat % 128 + 128 * n) % 128 = b.toNat % 128 := by omega
        have e2 : (b.toNat % 128 + 128 * n) / 128 = n := by omega
        refine ⟨b.toNat % 128 + 128 * n, ?_, by simp; omega, ?_, ?_, ?_, by omega⟩
        · rw [hr, Nat.pow_succ, Nat.add_assoc, Nat.add_mul]
          congr 2
          rw [Nat.mul_comm (128 ^ i) 128, ← Nat.mul_assoc, Nat.mul_comm n 128]
        · rw [num_ge hge, e1, e2, List.take_succ_cons, htk]
          congr 1
          apply UInt8.toNat_inj.1
          rw [UInt8.toNat_ofNat']
          omega
        · rw [num_ge hge, e2, List.length_cons, hkn]
        · have e3 : 128 ^ (9 - i) = 128 ^ (9 - (i + 1)) * 128 := by rw [← Nat.pow_succ]; congr 1; omega
          rw [e3]; omega

/-- What is decoded is the encoding of its number. -/
theorem dn_inv {l : List UInt8} {n k : Nat} (h : dn 0 0 l = some (n, k)) : k ≤ l.length ∧ l.take k = num n ∧ k = (num n).length ∧ n < 18446744073709551616 := by
  obtain ⟨m, hr, hk, ht, hkn, hm, _⟩ := dn_inv_pow l 0 0 n k (by omega) h
  obtain rfl : n = m := by simpa using hr
  exact ⟨hk, ht, hkn, by omega⟩
theorem num_inj {m n : Nat} (hm : m < 18446744073709551616) (hn : n < 18446744073709551616) (h : num m = num n) : m = n := by
  have h1 := dn_num m [] hm
  rw [h, dn_num n [] hn] at h1
  simpa using h1.symm
end Go.Proofs.Ytckfopdkknckcaa
