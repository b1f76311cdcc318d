/- The walk of wire.Reader's number; the decoding of a number as a plain function. -/
import Derived.Test.YtckfopdkknckcaaWireT
set_option linter.unusedVariables false
set_option linter.unusedSimpArgs false
namespace Go.Proofs.Ytckfopdkknckcaa
open Go.RowKit

/-- The number that begins a list of bytes, and how many bytes it takes; i groups were read before. -/
def dn (i acc : Nat) : List UInt8 → Option (Nat × Nat)
  | [] => none
  | b :: t =>
    if (i = 9 ∧ 1 < b.toNat) ∨ (0 < i ∧ b.toNat = 0) then none
    else if b.toNat < 128 then some (acc + b.toNat % 128 * 128 ^ i, 1)
    else (dn (i + 1) (acc + b.toNat % 128 * 128 ^ i) t).map fun r => (r.1, r.2 + 1)

theorem and127_fin : ∀ k : Fin 256, bits BinOp.and IntKind.u8 (k.val : Int) 127 = ((k.val % 128 : Nat) : Int) := by decide +kernel
theorem and127 (b : UInt8) : bits BinOp.and IntKind.u8 (b.toNat : Int) 127 = ((b.toNat % 128 : Nat) : Int) := and127_fin ⟨b.toNat, b.toNat_lt⟩
theorem pow128 (k : Nat) : 128 ^ k = 2 ^ (7 * k) := by rw [Nat.pow_mul]
theorem or_step (acc k : Nat) (b : UInt8) (hacc : acc < 128 ^ k) (hk : k ≤ 8 ∨ (k = 9 ∧ b.toNat ≤ 1)) :
    bits BinOp.or IntKind.u64 (acc : Int) (IntKind.u64.wrap (IntKind.u64.wrap (bits BinOp.and IntKind.u8 (b.toNat : Int) 127) * 2 ^ (7 * k))) = ((acc + b.toNat % 128 * 128 ^ k : Nat) : Int) := by
  have h64 : b.toNat % 128 * 2 ^ (7 * k) < 18446744073709551616 := by
    rcases hk with hk | ⟨rfl, hb⟩
    · have h1 : (2 : Nat) ^ (7 * k) ≤ 2 ^ 56 := Nat.pow_le_pow_right (by omega) (by omega)
      have h2 : b.toNat % 128 ≤ 127 := by omega
      have h3 := Nat.mul_le_mul h2 h1
      omega
    · have h2 : b.toNat % 128 ≤ 1 := by omega
      have h3 := Nat.mul_le_mul_right (2 ^ (7 * 9)) h2
      omega
  have h56 : acc < 18446744073709551616 := by
    have h1 : (128 : Nat) ^ k ≤ 128 ^ 9 := Nat.pow_le_pow_right (by omega) (by omega)
    omega
  rw [and127]
  have e1 : IntKind.u64.wrap ((b.toNat % 128 : Nat) : Int) = ((b.toNat % 128 : Nat) : Int) := by rw [IntKind.wrap_u64]; omega
  have e2 : ((b.toNat % 128 : Nat) : Int) * 2 ^ (7 * k) = ((b.toNat % 128 * 2 ^ (7 * k) : Nat) : Int) := by rw [Int.natCast_mul, Int.natCast_pow]; rfl
  have e3 : IntKind.u64.wrap ((b.toNat % 128 * 2 ^ (7 * k) : Nat) : Int) = ((b.toNat % 128 * 2 ^ (7 * k) : Nat) : Int) := by
    rw [IntKind.wrap_u64]
    generalize b.toNat % 128 * 2 ^ (7 * k) = q at h64 ⊢
    omega
  rw [e1, e2, e3, u64_or_nat _ _ h56 h64, pow128]
  rw [pow128] at hacc
  congr 1
  rw [Nat.mul_comm, Nat.add_comm, Nat.two_pow_add_eq_or_of_lt hacc, Nat.or_comm]
theorem acc_step (acc k : Nat) (b : UInt8) (hacc : acc < 128 ^ k) : acc + b.toNat % 128 * 128 ^ k < 128 ^ (k + 1) := by
  have h2 : b.toNat % 128 + 1 ≤ 128 := by omega
  have h3 := Nat.mul_le_mul_right (128 ^ k) h2
  rw [Nat.add_mul, Nat.one_mul] at h3
  rw [Nat.pow_succ, Nat.mul_comm (128 ^ k) 128]
  omega
theorem dn_bad {i acc : Nat} {b : UInt8} {t : List UInt8} (h : (i = 9 ∧ 1 < b.toNat) ∨ (0 < i ∧ b.toNat = 0)) : dn i acc (b :: t) = none := by rw [dn, if_pos h]
theorem dn_last {i acc : Nat} {b : UInt8} {t : List UInt8} (h : ¬ ((i = 9 ∧ 1 < b.toNat) ∨ (0 < i ∧ b.toNat = 0))) (h1 : b.toNat < 128) : dn i acc (b :: t) = some (acc + b.toNat % 128 * 128 ^ i, 1) := by rw [dn, if_neg h, if_pos h1]
theorem dn_more {i acc : Nat} {b : UInt8} {t : List UInt8} (h : ¬ ((i = 9 ∧ 1 < b.toNat) ∨ (0 < i ∧ b.toNat = 0))) (h1 : ¬ b.toNat < 128) : dn i acc (b :: t) = (dn (i + 1) (acc + b.toNat % 128 * 128 ^ i) t).map fun r => (r.1, r.2 + 1) := by rw [dn, if_neg h, if_neg h1]

/-- number's end. -/
def NumP (w : World) (g : Nat) (v : Value) (xs : List UInt8) (p l : Nat) (en : Ending) (w' : World) : Prop :=
  (∃ n k, dn 0 0 (xs.drop p) = some (n, k) ∧ en = .returned (.int .u64 (n : Nat)) ∧ Rd w' g v xs (p + k) l 0 ∧ Kp (fun k => k = g) w w') ∨
  (dn 0 0 (xs.drop p) = none ∧ ∃ q, en = .returned (.int .u64 0) ∧ Rd w' g v xs q l 3 ∧ Kp (fun k => k = g) w w')

set_option maxRecDepth 100000 in
set_option maxHeartbeats 800000 in
theorem number_any (g : Nat) (v : Value) (xs : List UInt8) (p l : Nat) (w : World) (hr : Rd w g v xs p l 0) :
    Calls Try.prog 58 #[.pointer (some ⟨g, 0, none⟩)] w (NumP w g v xs p l) := by
  have hen := fun (A : Option Addr) (n c : Nat) (W : World) => Lib.run_eql_slice_nil (P := Try.prog) W 48 5 A n c 0 0 Try.underlying48
  go_enter Try.func58, Try.ntmps58
  go_wp2
  go_loopw [3, 7] (fun n i wr => ∃ (k acc : Nat), i = .int .i64 k ∧ n = .int .u64 acc ∧ k ≤ 9 ∧ Hid (acc < 128 ^ k) ∧ Rd wr g v xs (p + k) l 0 ∧ Kp (fun k => k = g) w wr ∧
      Hid (dn 0 0 (xs.drop p) = (dn k acc (xs.drop (p + k))).map (fun r => (r.1, r.2 + k))))
    (fun _ i _ => 10 - (intOf i).toNat)
  case atStart => exact ⟨0, 0, rfl, rfl, by omega, (by show 0 < 1; omega), hr, Kp.refl _ _, by show _ = _; simp⟩
  case round =>
    obtain ⟨k, acc, rfl, rfl, hk, hacc, hrk, hkp, hd⟩ := hrel
    have hle := hrk.le
    by_cases hlt : p + k < xs.length
    · obtain ⟨b, hb⟩ : ∃ b, b = xs[p + k] := ⟨_, rfl⟩
      have hdrop : xs.drop (p + k) = b :: xs.drop (p + k + 1) := by rw [hb]; exact List.drop_eq_getElem_cons hlt
      have HD := Lib.hid hdrop
      clear hdrop hb
      go_wp2_with fail
      refine (take_ok g v xs (p + k) l wr 1 hrk (by omega)).mono ?_
      rintro en w1 ⟨A1, rfl, hA, hrc, hr1, hk1⟩
      obtain ⟨ad, rfl⟩ := hA (by omega)
      have hcell : w1.cell? ad = some (.int .u8 (b.toNat : Int)) := by
        rw [HD.out] at hrc
        obtain ⟨ad', h1, _, h2⟩ := hrc (by simp [bvs])
        injection h1 with h1
        subst h1
        exact h2 0 _ rfl
      clear hrc hA
      have hbl := byte_lt b
      by_cases hbad : (k = 9 ∧ 1 < b.toNat) ∨ (0 < k ∧ b.toNat = 0)
      · have HN : Hid (dn 0 0 (xs.drop p) = none) := by show _ = _; rw [hd.out, HD.out, dn_bad hbad]; rfl
        clear hd HD hacc
        by_cases h9 : k = 9
        · subst h9
          by_cases h1 : 1 < b.toNat
          · have t2 : decide ((1 : Int) < (b.toNat : Int)) = true := by simp; omega
            go_wp2_with fail
            refine (rfail_any g v xs _ l 0 w1 hr1 3).mono ?_
            rintro en w2 ⟨rfl, hr2, hk2⟩
            go_wp2_with fail
            go_ret
            exact .inr ⟨HN.out, _, rfl, hr2, (hkp.trans hk1 (fun _ _ h => h)).trans hk2 (fun _ _ h => h)⟩
          · have t2 : decide ((1 : Int) < (b.toNat : Int)) = false := by simp; omega
            have t4 : ((b.toNat : Int) == 0) = true := by simp; omega
            go_wp2_with fail
            refine (rfail_any g v xs _ l 0 w1 hr1 3).mono ?_
            rintro en w2 ⟨rfl, hr2, hk2⟩
            go_wp2_with fail
            go_ret
            exact .inr ⟨HN.out, _, rfl, hr2, (hkp.trans hk1 (fun _ _ h => h)).trans hk2 (fun _ _ h => h)⟩
        · have t1 : ((k : Int) == 9) = false := by simp; omega
          have t3 : decide ((0 : Int) < (k : Int)) = true := by simp; omega
          have t4 : ((b.toNat : Int) == 0) = true := by simp; omega
          go_wp2_with fail
          refine (rfail_any g v xs _ l 0 w1 hr1 3).mono ?_
          rintro en w2 ⟨rfl, hr2, hk2⟩
          go_wp2_with fail
          go_ret
          exact .inr ⟨HN.out, _, rfl, hr2, (hkp.trans hk1 (fun _ _ h => h)).trans hk2 (fun _ _ h => h)⟩
      · by_cases h128 : b.toNat < 128
        · have HN : Hid (dn 0 0 (xs.drop p) = some (acc + b.toNat % 128 * 128 ^ k, k + 1)) := by show _ = _; rw [hd.out, HD.out, dn_last hbad h128]; simp; omega
          have HO := Lib.hid (or_step acc k b hacc.out (by omega))
          clear hd HD hacc
          by_cases h9 : k = 9
          · subst h9
            have t2 : decide ((1 : Int) < (b.toNat : Int)) = false := by simp; omega
            have t4 : ((b.toNat : Int) == 0) = false := by simp; omega
            go_wp2_with fail
            go_ret
            exact .inl ⟨_, _, HN.out, ret_int HO.out, hr1, hkp.trans hk1 (fun _ _ h => h)⟩
          · have t1 : ((k : Int) == 9) = false := by simp; omega
            by_cases h0 : 0 < k
            · have t3 : decide ((0 : Int) < (k : Int)) = true := by simp; omega
              have t4 : ((b.toNat : Int) == 0) = false := by simp; omega
              go_wp2_with fail
              go_ret
              exact .inl ⟨_, _, HN.out, ret_int HO.out, hr1, hkp.trans hk1 (fun _ _ h => h)⟩
            · have t3 : decide ((0 : Int) < (k : Int)) = false := by simp; omega
              go_wp2_with fail
              go_ret
              exact .inl ⟨_, _, HN.out, ret_int HO.out, hr1, hkp.trans hk1 (fun _ _ h => h)⟩
        · have HN : Hid (dn 0 0 (xs.drop p) = (dn (k + 1) (acc + b.toNat % 128 * 128 ^ k) (xs.drop (p + (k + 1)))).map (fun r => (r.1, r.2 + (k + 1)))) := by
            show _ = _
            rw [hd.out, HD.out, dn_more hbad h128, Option.map_map, ← Nat.add_assoc]
            congr 1
            funext r
            simp [Nat.add_comm, Nat.add_left_comm]
          have HO := Lib.hid (or_step acc k b hacc.out (by omega))
          have HA := Lib.hid (acc_step acc k b hacc.out)
          clear hd HD hacc
          have t1 : ((k : Int) == 9) = false := by simp; omega
          by_cases h0 : 0 < k
          · have t3 : decide ((0 : Int) < (k : Int)) = true := by simp; omega
            have t4 : ((b.toNat : Int) == 0) = false := by simp; omega
            go_wp2_with fail
            go_roundw
            case rel => exact ⟨k + 1, _, by go_num, by rw [HO.out], by omega, HA, hr1, hkp.trans hk1 (fun _ _ h => h), HN⟩
            case measure => simp [intOf]; omega
          · have t3 : decide ((0 : Int) < (k : Int)) = false := by simp; omega
            go_wp2_with fail
            go_roundw
            case rel => exact ⟨k + 1, _, by go_num, by rw [HO.out], by omega, HA, hr1, hkp.trans hk1 (fun _ _ h => h), HN⟩
            case measure => simp [intOf]; omega
    · have HN : Hid (dn 0 0 (xs.drop p) = none) := by
        show _ = _
        rw [hd.out, List.drop_eq_nil_of_le (by omega)]; rfl
      clear hd hacc
      go_wp2_with fail
      refine (take_short g v xs (p + k) l wr 1 hrk (by omega)).mono ?_
      rintro en w1 ⟨rfl, hr1, hk1⟩
      go_wp2_with fail
      go_ret
      exact .inr ⟨HN.out, _, rfl, hr1, hkp.trans hk1 (fun _ _ h => h)⟩
end Go.Proofs.Ytckfopdkknckcaa
