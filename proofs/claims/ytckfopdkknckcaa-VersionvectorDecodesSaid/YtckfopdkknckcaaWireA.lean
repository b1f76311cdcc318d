/- The encoding of a number as a plain function, and the walk of wire.appended. -/
import Derived.Test.YtckfopdkknckcaaProg
import Derived.Test.YtckfopdkknckcaaCore
import Derived.Outline
import Derived.Deep.DeepFit
set_option linter.unusedVariables false
set_option linter.unusedSimpArgs false
namespace Go.Proofs.Ytckfopdkknckcaa
open Go.RowKit

def num (n : Nat) : List UInt8 := if h : n < 128 then [UInt8.ofNat n] else UInt8.ofNat (n % 128 + 128) :: num (n / 128)
termination_by n
decreasing_by omega

theorem num_lt {n : Nat} (h : n < 128) : num n = [UInt8.ofNat n] := by rw [num]; simp [h]
theorem num_ge {n : Nat} (h : 128 ≤ n) : num n = UInt8.ofNat (n % 128 + 128) :: num (n / 128) := by rw [num]; simp [Nat.not_lt.2 h]

theorem info_u8 : (Try.prog.info? 5).map (fun i => (i.zero, i.size, i.bytes)) = some (some (.int .u8 0), 1, 1) := by kernel_rfl

/-- What a call returns: a value and the world behind it; old blocks outside F are as they were. -/
def Ret (w : World) (F : Nat → Prop) (R : Value → World → Prop) (e : Ending) (w' : World) : Prop := ∃ v, e = .returned v ∧ Kp F w w' ∧ R v w'

/-- v' lies where v lay, or in a new block. -/
def Next (w : World) (v v' : Value) : Prop := v'.ownBlock = v.ownBlock ∨ ∃ b, v'.ownBlock = some b ∧ w.heap.size ≤ b


theorem or128_fin : ∀ k : Fin 256, bits BinOp.or IntKind.u8 (k.val : Int) 128 = ((k.val % 128 + 128 : Nat) : Int) := by decide +kernel
theorem or128 (m : Nat) : bits BinOp.or IntKind.u8 ((m : Int) % 256) 128 = ((m % 128 + 128 : Nat) : Int) := by
  have h := or128_fin ⟨m % 256, Nat.mod_lt _ (by omega)⟩
  have e : ((m : Int) % 256) = ((m % 256 : Nat) : Int) := by omega
  rw [e, h]; congr 1; simp only []; omega

theorem num_len_pow (k : Nat) : ∀ n, n < 128 ^ (k + 1) → (num n).length ≤ k + 1 := by
  induction k with
  | zero => intro n h; rw [num_lt (by omega)]; simp
  | succ k ih =>
    intro n h
    by_cases hn : n < 128
    · rw [num_lt hn]; simp
    · rw [num_ge (by omega), List.length_cons]
      have := ih (n / 128) (by rw [Nat.pow_succ] at h; omega)
      omega
theorem num_len {n : Nat} (h : n < 18446744073709551616) : (num n).length ≤ 10 := num_len_pow 9 n (by omega)
theorem num_pos (n : Nat) : 0 < (num n).length := by
  by_cases h : n < 128
  · rw [num_lt h]; simp
  · rw [num_ge (by omega)]; simp

theorem rc_byte {w : World} {t : TypeId} {x : Int} {b : UInt8} (h : x = (b.toNat : Int)) : Rc (fun k => k = w.heap.size) (w.alloc (.cells #[.int .u8 x] t)) (some ⟨w.heap.size, 0, none⟩) (bvs [b]) := by
  subst h; exact Rc.lit w #[bv b] t

theorem next_step {w : World} {k : Nat} {v u v1 : Value} (h : Next w v u) (hk : w.heap.size ≤ k) (h1 : v1.ownBlock = u.ownBlock ∨ v1.ownBlock = some k) : Next w v v1 := by
  rcases h1 with h1 | h1
  · unfold Next; rw [h1]; exact h
  · exact .inr ⟨_, h1, hk⟩
theorem next_row {w wr w1 : World} {v u : Value} (h : Next w v u) (hk : Kp (fun k => some k = v.ownBlock) w wr) (hg : Kp (fun k => some k = u.ownBlock) wr w1) : Kp (fun k => some k = v.ownBlock) w w1 := by
  refine hk.trans hg (fun i hi he => ?_)
  rcases h with h | ⟨b, h, hb⟩
  · rw [← h]; exact he
  · rw [h] at he; injection he with he; omega
theorem next_app {w wr w1 : World} {v u v1 : Value} {o : Obj} (h : Next w v u) (hk : Kp (fun k => some k = v.ownBlock) w wr) (hg : (wr.alloc o).grownBy w1 u.ownBlock) (h1 : v1.ownBlock = u.ownBlock ∨ v1.ownBlock = some (wr.heap.size + 1)) :
    Kp (fun k => some k = v.ownBlock) w w1 ∧ Next w v v1 :=
  ⟨next_row h hk (((Kp.refl _ wr).alloc o).trans (Kp.of_grown hg) (fun _ _ h => h)), next_step h (by have := hk.size; omega) h1⟩
theorem next_trans {w w1 : World} {v u x : Value} (h : Next w v u) (hs : w.heap.size ≤ w1.heap.size) (k : Next w1 u x) : Next w v x := by
  rcases k with k | ⟨b, k, hb⟩
  · unfold Next; rw [k]; exact h
  · exact .inr ⟨b, k, by omega⟩

set_option maxRecDepth 100000 in
set_option maxHeartbeats 400000 in
theorem appended_any (base : Nat) (v : Value) (xs : List UInt8) (n : Nat) (w : World) (hn : Hid (n < 18446744073709551616)) (HO : w.ownsRow base 5 1 v xs.length (bvs xs)) (hb : base ≤ w.heap.size) (hl : Hid (xs.length ≤ 1000000000000)) :
    Calls Try.prog 55 #[v, .int .u64 n] w (Ret w (fun k => some k = v.ownBlock) fun v' w' => w'.ownsRow base 5 1 v' (xs ++ num n).length (bvs (xs ++ num n)) ∧ Next w v v') := by
  go_enter Try.func55, Try.ntmps55
  go_wp2
  go_loopw [0, 1] (fun b c wr => ∃ (m : Nat) (ys : List UInt8), c = .int .u64 m ∧ m ≤ n ∧ Hid (ys ++ num m = xs ++ num n) ∧ wr.ownsRow base 5 1 b ys.length (bvs ys) ∧ Kp (fun k => some k = v.ownBlock) w wr ∧ Next w v b)
    (fun _ c _ => (intOf c).toNat)
  case atStart => exact ⟨n, xs, rfl, Nat.le_refl _, rfl, HO, Kp.refl _ _, .inl rfl⟩
  case round =>
    obtain ⟨m, ys, rfl, hm, hys, hown, hkp, hnx⟩ := hrel
    have hlen : ys.length ≤ 1000000000010 := by
      have h1 := congrArg List.length hys.out
      have h2 := num_len hn.out
      have h3 := hl.out
      simp only [List.length_append] at h1
      omega
    have HL : Hid (ys.length ≤ 1000000000010) := hlen
    clear hlen
    by_cases hge : 128 ≤ m
    · obtain ⟨y, hy⟩ : ∃ y : UInt8, y = UInt8.ofNat (m % 128 + 128) := ⟨_, rfl⟩
      have HY : Hid (y = UInt8.ofNat (m % 128 + 128)) := hy
      clear hy
      go_wp2_with (at_builtin; refine wpl_append_bytes base rfl _ _ 48 5 rfl Try.underlying48 info_u8 u0 ys [y] (fun k => k = wr.heap.size) (some ⟨wr.heap.size, 0, none⟩) 1 1 rfl rfl (hown.alloc _) ?c1 rfl ?c2 ?c3 ?_)
      case c1 => exact rc_byte (by rw [or128, HY.out, UInt8.toNat_ofNat']; omega)
      case c2 => have := hkp.size; simp; omega
      case c3 => have := HL.out; omega
      intro v1 w1 hown1 hg1 hat1
      obtain ⟨hk1, hn1⟩ := next_app hnx hkp hg1 hat1
      go_wp2
      go_roundw
      case rel => exact ⟨m / 128, ys ++ [y], by go_num, by omega, by
        have h1 := hys.out
        rw [num_ge hge] at h1
        show _ = _
        rw [List.append_assoc, HY.out]
        exact h1, by simpa using hown1, hk1, hn1⟩
      case measure => simp [intOf]; omega
    · obtain ⟨y, hy⟩ : ∃ y : UInt8, y = UInt8.ofNat m := ⟨_, rfl⟩
      have HY : Hid (y = UInt8.ofNat m) := hy
      clear hy
      go_wp2_with (at_builtin; refine wpl_append_bytes base rfl _ _ 48 5 rfl Try.underlying48 info_u8 u0 ys [y] (fun k => k = wr.heap.size) (some ⟨wr.heap.size, 0, none⟩) 1 1 rfl rfl (hown.alloc _) ?d1 rfl ?d2 ?d3 ?_)
      case d1 => exact rc_byte (by rw [HY.out, UInt8.toNat_ofNat']; omega)
      case d2 => have := hkp.size; simp; omega
      case d3 => have := HL.out; omega
      intro v1 w1 hown1 hg1 hat1
      obtain ⟨hk1, hn1⟩ := next_app hnx hkp hg1 hat1
      have he : xs ++ num n = ys ++ [y] := by
        have h1 := hys.out
        rw [num_lt (by omega)] at h1
        rw [← h1, HY.out]
      have HE : Hid (xs ++ num n = ys ++ [y]) := he
      clear he
      go_wp2
      go_ret
      exact ⟨v1, rfl, hk1, by rw [HE.out]; simpa using hown1, hn1⟩
end Go.Proofs.Ytckfopdkknckcaa
