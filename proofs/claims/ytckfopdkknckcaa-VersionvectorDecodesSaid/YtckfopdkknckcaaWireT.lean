/- The walk of wire.Reader's take. -/
import Derived.Test.YtckfopdkknckcaaWireR
set_option linter.unusedVariables false
set_option linter.unusedSimpArgs false
namespace Go.Proofs.Ytckfopdkknckcaa
open Go.RowKit

section
variable (g : Nat) (v : Value) (xs : List UInt8) (p l : Nat) (w : World)

theorem ret_slice {A : Option Addr} {n m c d : Nat} (h : n = m) (k : c = d) : Ending.returned (.slice A n c) = .returned (.slice A m d) := by rw [h, k]
/-- take's end where there are n bytes. -/
def TakeP (w : World) (g : Nat) (v : Value) (xs : List UInt8) (p l n : Nat) (en : Ending) (w' : World) : Prop :=
  ∃ A, en = .returned (.slice A n n) ∧ (0 < n → ∃ ad, A = some ad) ∧ Rc (fun k => v.ownBlock = some k) w' A (bvs ((xs.drop p).take n)) ∧ Rd w' g v xs (p + n) l 0 ∧ Kp (fun k => k = g) w w'

set_option maxHeartbeats 400000 in
theorem take_err (e : Int) (n : Nat) (hr : Rd w g v xs p l e) (he : Hid (¬ e = 0)) :
    Calls Try.prog 63 #[.pointer (some ⟨g, 0, none⟩), .int .u64 n] w (RdP w g v xs (.slice none 0 0) p l e) := by
  have hc3 : w.cell? ⟨g, 3, none⟩ = some (.int .i64 e) := blk_cell hr.blk 3
  have hb : (e != 0) = true := by have := he.out; simpa using this
  go_enter Try.func63, Try.ntmps63
  go_wp2
  go_ret
  exact ⟨rfl, hr, Kp.refl _ _⟩

set_option maxHeartbeats 400000 in
theorem take_short (n : Nat) (hr : Rd w g v xs p l 0) (hn : xs.length - p < n) :
    Calls Try.prog 63 #[.pointer (some ⟨g, 0, none⟩), .int .u64 n] w (RdP w g v xs (.slice none 0 0) p l 3) := by
  have hc3 : w.cell? ⟨g, 3, none⟩ = some (.int .i64 0) := blk_cell hr.blk 3
  have hc1 : w.cell? ⟨g, 1, none⟩ = some (.int .i64 p) := blk_cell hr.blk 1
  have hc0 : w.cell? ⟨g, 0, none⟩ = some v := blk_cell hr.blk 0
  have hle := hr.le
  have hlen := Lib.hid hr.len
  have e1 : IntKind.i64.wrap ((xs.length : Int) - (p : Int)) = (xs.length : Int) - (p : Int) := by have := hlen.out; rw [IntKind.wrap_i64]; omega
  have e2 : IntKind.u64.wrap ((xs.length : Int) - (p : Int)) = (xs.length : Int) - (p : Int) := by have := hlen.out; rw [IntKind.wrap_u64]; omega
  have ht : (xs.length : Int) - (p : Int) < (n : Int) := by omega
  have HR := fun k => rfail_any g v xs p l 0 (w.drewN k) (hr.drewN k) 3
  have H := Lib.hid HR
  clear HR
  obtain ⟨A, c, rfl, _, _⟩ := own_slice hr.row
  go_enter Try.func63, Try.ntmps63
  go_wp2
  go_quiet (fail)
  go_wp2_with fail
  refine (H.out _).mono ?_
  rintro en w' ⟨rfl, h2, h3⟩
  go_wp2_with fail
  go_ret
  exact ⟨rfl, h2, Kp.trans (((Kp.refl (fun k => k = g) w)).drewN _) h3 (fun _ _ h => h)⟩

set_option maxHeartbeats 400000 in
theorem take_ok (n : Nat) (hr : Rd w g v xs p l 0) (hn : n ≤ xs.length - p) :
    Calls Try.prog 63 #[.pointer (some ⟨g, 0, none⟩), .int .u64 n] w (TakeP w g v xs p l n) := by
  have hc3 : w.cell? ⟨g, 3, none⟩ = some (.int .i64 0) := blk_cell hr.blk 3
  have hc1 : w.cell? ⟨g, 1, none⟩ = some (.int .i64 p) := blk_cell hr.blk 1
  have hf1 : w.frozen? ⟨g, 1, none⟩ = false := blk_frozen hr.blk 1
  have hc0 : w.cell? ⟨g, 0, none⟩ = some v := blk_cell hr.blk 0
  have hle := hr.le
  have hlen := Lib.hid hr.len
  have e1 : IntKind.i64.wrap ((xs.length : Int) - (p : Int)) = (xs.length : Int) - (p : Int) := by have := hlen.out; rw [IntKind.wrap_i64]; omega
  have e2 : IntKind.u64.wrap ((xs.length : Int) - (p : Int)) = (xs.length : Int) - (p : Int) := by have := hlen.out; rw [IntKind.wrap_u64]; omega
  have e3 : IntKind.i64.wrap (n : Int) = (n : Int) := by have := hlen.out; rw [IntKind.wrap_i64]; omega
  have e4 : IntKind.i64.wrap ((p : Int) + (n : Int)) = (p : Int) + (n : Int) := by have := hlen.out; rw [IntKind.wrap_i64]; omega
  have ht : ¬ (xs.length : Int) - (p : Int) < (n : Int) := by omega
  obtain ⟨A, c, rfl, hcap, _⟩ := own_slice hr.row
  have i1 : (p : Int) + (n : Int) ≤ (c : Int) := by omega
  have i2 : (p : Int) ≤ (p : Int) + (n : Int) := by omega
  have i3 : (0 : Int) ≤ (p : Int) + (n : Int) := by omega
  have hS : ¬ (Value.slice A xs.length c).ownBlock = some g := hr.ne_
  have hrow := Rc.of_own hr.row
  have HS := Lib.hid hS
  clear hS
  rcases Nat.eq_zero_or_pos n with h0 | h0
  · have H0 := Lib.hid h0
    clear h0 hrow
    go_enter Try.func63, Try.ntmps63
    go_wp2
    go_quiet (fail)
    go_wp2_with fail
    go_quiet (fail)
    go_wp2_with fail
    all_goals
      have h0 := H0.out
      first
        | (exfalso; omega)
        | (subst h0
           go_ret
           exact ⟨_, rfl, fun h => absurd h (by omega), by simpa [bvs] using Rc.nil _ _ _, Rd.setAt' (hr.drewN _) _ _ (by omega) (by omega), kp_g ((Kp.refl _ _).drewN _) _ _⟩)
  · have hne : bvs xs ≠ [] := by
      intro h; rw [bvs_eq_nil] at h; subst h; simp at hn; omega
    have hdn : (bvs xs).drop p ≠ [] := by
      intro h; have := congrArg List.length h; rw [List.length_drop, bvs_length] at this; simp at this; omega
    obtain ⟨ad, rfl, hrd⟩ := hrow.drop p hdn
    have hfin := fun k u => ((hrd.take n).drewN k).setCell (p := ⟨g, 1, none⟩) HS.out u
    rw [← bvs_drop, ← bvs_take] at hfin
    have HF := Lib.hid hfin
    clear hfin hrd hdn hne hrow
    have j1 : ¬ p + n = p := by omega
    have j2 : ¬ n = 0 := by omega
    go_enter Try.func63, Try.ntmps63
    go_wp2
    go_quiet (fail)
    go_wp2_with fail
    go_quiet (fail)
    go_wp2_with fail
    all_goals go_ret
    all_goals exact ⟨_, ret_slice (by omega) (by omega), fun _ => ⟨_, rfl⟩, HF.out _ _, Rd.setAt' (hr.drewN _) _ _ (by omega) (by omega), kp_g ((Kp.refl _ _).drewN _) _ _⟩
end
end Go.Proofs.Ytckfopdkknckcaa
