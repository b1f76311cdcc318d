/- What get reads, in plain words: of an encoding, of whatever bytes, behind an error. -/
import Derived.Test.YtllmhablpeecfaaLawJ
import Derived.Test.YtllmhablpeecfaaLawH
set_option linter.unusedVariables false
set_option linter.unusedSimpArgs false
namespace Go.Proofs.Ytllmhablpeecfaa
open Go.RowKit

theorem known_cases {k : Int} (h : KnownK k) : k = 1 ∨ k = 2 ∨ k = 3 ∨ k = 4 ∨ k = 5 ∨ k = 6 ∨ k = 7 := by unfold KnownK at h; omega

theorem getF_err {k mo : Int} {xs : List UInt8} {p l : Nat} {e : Int} (he : e ≠ 0) : getF k mo xs p l e = (V0 k mo, p, l, e) := by
  unfold getF
  by_cases h0 : k = 0
  · rw [if_pos h0]; unfold fAt wfl; rw [if_neg he, if_neg he]
  · rw [if_neg h0]
    by_cases h1 : k < 0 ∨ 7 < k
    · rw [if_pos h1]
    · rw [if_neg h1, if_pos he]

section
variable {mo : Int} {xs : List UInt8} {p l : Nat}
theorem getF_1 : getF 1 mo xs p l 0 = match dn 0 0 (xs.drop p) with
    | some (n, j) => ({ V0 1 mo with u := n }, p + j, p, 0)
    | none => (V0 1 mo, p, l, 3) := by
  unfold getF; simp only [show ¬ (1 : Int) = 0 by omega, show ¬ ((1 : Int) < 0 ∨ 7 < (1 : Int)) by omega, ne_eq, not_true_eq_false, if_false, if_true]
  cases dn 0 0 (xs.drop p) <;> rfl
theorem getF_2 : getF 2 mo xs p l 0 = match dn 0 0 (xs.drop p) with
    | some (n, j) => ({ V0 2 mo with n := unzz n }, p + j, p, 0)
    | none => (V0 2 mo, p, l, 3) := by
  unfold getF; simp only [show ¬ (2 : Int) = 0 by omega, show ¬ ((2 : Int) < 0 ∨ 7 < (2 : Int)) by omega, show ¬ (2 : Int) = 1 by omega, ne_eq, not_true_eq_false, if_false, if_true]
  cases dn 0 0 (xs.drop p) <;> rfl
theorem getF_3 : getF 3 mo xs p l 0 = match xs.drop p with
    | b :: _ => if 1 < b.toNat then (V0 3 mo, p, l, 3) else ({ V0 3 mo with b := decide (b.toNat = 1) }, p + 1, p, 0)
    | [] => (V0 3 mo, p, l, 3) := by
  unfold getF; simp only [show ¬ (3 : Int) = 0 by omega, show ¬ ((3 : Int) < 0 ∨ 7 < (3 : Int)) by omega, show ¬ (3 : Int) = 1 by omega, show ¬ (3 : Int) = 2 by omega, ne_eq, not_true_eq_false, if_false, if_true]
  cases xs.drop p <;> rfl
theorem getF_45 {k : Int} (hk : k = 4 ∨ k = 5) : getF k mo xs p l 0 = match dn 0 0 (xs.drop p) with
    | some (n, j) => if n ≤ lim mo then (if n ≤ xs.length - (p + j) then ({ V0 k mo with s := mkS ((xs.drop (p + j)).take n) }, p + j + n, p, 0) else (V0 k mo, p, l, 3)) else (V0 k mo, p, l, 2)
    | none => (V0 k mo, p, l, 3) := by
  unfold getF
  rw [if_neg (show ¬ k = 0 by omega), if_neg (show ¬ (k < 0 ∨ 7 < k) by omega), if_neg (by simp), if_neg (show ¬ k = 1 by omega), if_neg (show ¬ k = 2 by omega), if_neg (show ¬ k = 3 by omega), if_pos hk]
  cases dn 0 0 (xs.drop p) <;> rfl
theorem getF_6 : getF 6 mo xs p l 0 = if 32 ≤ xs.length - p then ({ V0 6 mo with s := mkS ((xs.drop p).take 32) }, p + 32, p, 0) else (V0 6 mo, p, l, 3) := by
  unfold getF; simp only [show ¬ (6 : Int) = 0 by omega, show ¬ ((6 : Int) < 0 ∨ 7 < (6 : Int)) by omega, show ¬ (6 : Int) = 1 by omega, show ¬ (6 : Int) = 2 by omega, show ¬ (6 : Int) = 3 by omega, show ¬ ((6 : Int) = 4 ∨ (6 : Int) = 5) by omega, ne_eq, not_true_eq_false, if_false, if_true]
theorem getF_7 : getF 7 mo xs p l 0 = match dn 0 0 (xs.drop p) with
    | some (n, j) => if n ≤ lim mo then ({ V0 7 mo with n := (n : Nat) }, p + j, p, 0) else (V0 7 mo, p, l, 2)
    | none => (V0 7 mo, p, l, 3) := by
  unfold getF; simp only [show ¬ (7 : Int) = 0 by omega, show ¬ ((7 : Int) < 0 ∨ 7 < (7 : Int)) by omega, show ¬ (7 : Int) = 1 by omega, show ¬ (7 : Int) = 2 by omega, show ¬ (7 : Int) = 3 by omega, show ¬ ((7 : Int) = 4 ∨ (7 : Int) = 5) by omega, show ¬ (7 : Int) = 6 by omega, ne_eq, not_true_eq_false, if_false, if_true]
  cases dn 0 0 (xs.drop p) <;> rfl
end

theorem mkS_sb (s : ByteArray) : mkS (sb s) = s := by cases s; rfl

/-- An encoding is read back. -/
theorem getF_enc {x : Val} {a t xs : List UInt8} {p l : Nat} (hx : x.Ok) (hk : KnownK x.kind) (ha : encV x = some a) (hd : xs.drop p = a ++ t) :
    ∃ y : Val, getF x.kind (max x.n (x.s.size : Int)) xs p l 0 = (y, p + a.length, p, 0) ∧ (x.kind = 1 → y.u = x.u) ∧ (x.kind = 2 ∨ x.kind = 7 → y.n = x.n) ∧ (x.kind = 3 → y.b = x.b) ∧ (x.kind = 4 ∨ x.kind = 5 ∨ x.kind = 6 → y.s = x.s) := by
  obtain ⟨kd, u, n, b, s, m⟩ := x
  obtain ⟨hxk, hxu, hxn, hxm, hxs⟩ := hx
  dsimp only at *
  have hlen : xs.length - p = a.length + t.length := by have := congrArg List.length hd; simpa using this
  have str : ∀ k, (k = 4 ∨ k = 5) → a = num s.size ++ sb s → getF k (max n (s.size : Int)) xs p l 0 = ({ V0 k (max n (s.size : Int)) with s := s }, p + a.length, p, 0) := by
    intro k hk ha
    have h1 : dn 0 0 (xs.drop p) = some (s.size, (num s.size).length) := by rw [hd, ha, List.append_assoc]; exact dn_num _ _ (by omega)
    have h2 : xs.drop (p + (num s.size).length) = sb s ++ t := by rw [← List.drop_drop, hd, ha, List.append_assoc, List.drop_left]
    have hs := sb_length s
    have h3 : a.length = (num s.size).length + s.size := by rw [ha, List.length_append, hs]
    rw [getF_45 hk, h1]
    dsimp only
    rw [if_pos (by unfold lim; omega), if_pos (by omega), h2, ← hs, List.take_left, hs, mkS_sb, h3]
    simp [Nat.add_assoc]
  unfold encV at ha
  rcases known_cases hk with rfl | rfl | rfl | rfl | rfl | rfl | rfl
  · simp at ha; subst ha
    refine ⟨{ V0 1 (max n (s.size : Int)) with u := u }, ?_, fun _ => rfl, by simp, by simp, by simp⟩
    rw [getF_1, hd, dn_num _ _ hxu]
  · simp at ha; subst ha
    refine ⟨{ V0 2 (max n (s.size : Int)) with n := n }, ?_, by simp, fun _ => rfl, by simp, by simp⟩
    rw [getF_2, hd, dn_num _ _ (zz_lt hxn.1 hxn.2)]
    dsimp only
    rw [unzz_zz]
  · simp at ha; subst ha
    refine ⟨{ V0 3 (max n (s.size : Int)) with b := b }, ?_, by simp, by simp, fun _ => rfl, by simp⟩
    rw [getF_3, hd]
    cases b <;> simp
  · simp at ha
    exact ⟨_, str 4 (.inl rfl) ha.symm, by simp, by simp, by simp, fun _ => rfl⟩
  · simp at ha
    exact ⟨_, str 5 (.inr rfl) ha.symm, by simp, by simp, by simp, fun _ => rfl⟩
  · simp at ha
    obtain ⟨h32, rfl⟩ := ha
    have hs := sb_length s
    refine ⟨{ V0 6 (max n (s.size : Int)) with s := s }, ?_, by simp, by simp, by simp, fun _ => rfl⟩
    rw [getF_6, if_pos (by omega), hd, ← h32, ← hs, List.take_left, mkS_sb]
  · simp at ha
    obtain ⟨h0, rfl⟩ := ha
    refine ⟨{ V0 7 (max n (s.size : Int)) with n := n }, ?_, by simp, fun _ => rfl, by simp, by simp⟩
    rw [getF_7, hd, dn_num _ _ (by omega)]
    dsimp only
    rw [if_pos (by unfold lim; omega), Int.toNat_of_nonneg h0]

/-- What is read without an error is encoded as the bytes that it was read from. -/
theorem getF_canon {k mo : Int} {xs : List UInt8} {p l : Nat} (hk : KnownK k) (hp : p ≤ xs.length) :
    ((getF k mo xs p l 0).1.s.size ≤ xs.length) ∧ ((getF k mo xs p l 0).2.2.2 = 0 → ∃ a, encV (getF k mo xs p l 0).1 = some a ∧ xs.take (getF k mo xs p l 0).2.1 = xs.take p ++ a) := by
  have tk : ∀ j, xs.take (p + j) = xs.take p ++ (xs.drop p).take j := fun j => List.take_add ..
  have str : ∀ k, (k = 4 ∨ k = 5) → ((getF k mo xs p l 0).1.s.size ≤ xs.length) ∧ ((getF k mo xs p l 0).2.2.2 = 0 → ∃ a, encV (getF k mo xs p l 0).1 = some a ∧ xs.take (getF k mo xs p l 0).2.1 = xs.take p ++ a) := by
    intro k hk
    rw [getF_45 hk]
    cases hd : dn 0 0 (xs.drop p) with
    | none => exact ⟨Nat.zero_le _, by simp⟩
    | some r =>
      obtain ⟨n, j⟩ := r
      dsimp only
      split
      · split
        · rename_i h1 h2
          obtain ⟨e1, e2, e3, e4⟩ := dn_inv hd
          simp at e1
          have hl : ((xs.drop (p + j)).take n).length = n := by simp; omega
          refine ⟨by dsimp only; rw [mkS_size, hl]; omega, fun _ => ⟨num n ++ (xs.drop (p + j)).take n, ?_, ?_⟩⟩
          · unfold encV
            have h5 : encV { V0 k mo with s := mkS ((xs.drop (p + j)).take n) } = some (num ((xs.drop (p + j)).take n).length ++ (xs.drop (p + j)).take n) := by
              unfold encV
              rcases hk with rfl | rfl <;> simp [V0, mkS_size, sb_mkS]
            rw [hl] at h5
            exact h5
          · dsimp only
            rw [Nat.add_assoc, tk, ← e2, List.take_add, List.drop_drop]
        · exact ⟨Nat.zero_le _, by simp⟩
      · exact ⟨Nat.zero_le _, by simp⟩
  rcases known_cases hk with rfl | rfl | rfl | rfl | rfl | rfl | rfl
  · rw [getF_1]
    cases hd : dn 0 0 (xs.drop p) with
    | none => exact ⟨Nat.zero_le _, by simp⟩
    | some r =>
      obtain ⟨n, j⟩ := r
      obtain ⟨e1, e2, e3, e4⟩ := dn_inv hd
      exact ⟨Nat.zero_le _, fun _ => ⟨num n, rfl, by dsimp only; rw [tk, e2]⟩⟩
  · rw [getF_2]
    cases hd : dn 0 0 (xs.drop p) with
    | none => exact ⟨Nat.zero_le _, by simp⟩
    | some r =>
      obtain ⟨n, j⟩ := r
      obtain ⟨e1, e2, e3, e4⟩ := dn_inv hd
      refine ⟨Nat.zero_le _, fun _ => ⟨num n, ?_, by dsimp only; rw [tk, e2]⟩⟩
      have : encV { V0 2 mo with n := unzz n } = some (num (zz (unzz n))) := rfl
      rw [zz_unzz] at this
      exact this
  · rw [getF_3]
    cases hd : xs.drop p with
    | nil => exact ⟨Nat.zero_le _, by simp⟩
    | cons b t =>
      dsimp only
      split
      · exact ⟨Nat.zero_le _, by simp⟩
      · rename_i h1
        refine ⟨Nat.zero_le _, fun _ => ⟨[b], ?_, by dsimp only; rw [tk, hd]; rfl⟩⟩
        have h2 : encV { V0 3 mo with b := decide (b.toNat = 1) } = some [if decide (b.toNat = 1) then 1 else 0] := rfl
        rw [h2]
        have h3 : b.toNat = 0 ∨ b.toNat = 1 := by omega
        rcases h3 with h3 | h3
        · have : b = 0 := UInt8.toNat_inj.1 h3
          subst this; rfl
        · have : b = 1 := UInt8.toNat_inj.1 h3
          subst this; rfl
  · exact str 4 (.inl rfl)
  · exact str 5 (.inr rfl)
  · rw [getF_6]
    split
    · rename_i h
      have hl : ((xs.drop p).take 32).length = 32 := by simp; omega
      refine ⟨by dsimp only; rw [mkS_size, hl]; omega, fun _ => ⟨(xs.drop p).take 32, ?_, by dsimp only; rw [tk]⟩⟩
      have h5 : encV { V0 6 mo with s := mkS ((xs.drop p).take 32) } = if (mkS ((xs.drop p).take 32)).size = 32 then some ((xs.drop p).take 32) else none := rfl
      rw [mkS_size, if_pos hl] at h5
      exact h5
    · exact ⟨Nat.zero_le _, by simp⟩
  · rw [getF_7]
    cases hd : dn 0 0 (xs.drop p) with
    | none => exact ⟨Nat.zero_le _, by simp⟩
    | some r =>
      obtain ⟨n, j⟩ := r
      obtain ⟨e1, e2, e3, e4⟩ := dn_inv hd
      dsimp only
      split
      · refine ⟨Nat.zero_le _, fun _ => ⟨num n, ?_, by dsimp only; rw [tk, e2]⟩⟩
        have h5 : encV { V0 7 mo with n := ((n : Nat) : Int) } = if 0 ≤ ((n : Nat) : Int) then some (num ((n : Nat) : Int).toNat) else none := rfl
        rw [if_pos (by omega), Int.toNat_natCast] at h5
        exact h5
      · exact ⟨Nat.zero_le _, by simp⟩
end Go.Proofs.Ytllmhablpeecfaa
