/- The walks of wire.Reader's value (a closure that is deferred), Uint, limited. -/
import Derived.Test.YtckfopdkknckcaaWireN
import Derived.Defers
set_option linter.unusedVariables false
set_option linter.unusedSimpArgs false
namespace Go.Proofs.Ytckfopdkknckcaa
open Go.RowKit

/-- The two variables that value's closure captured. -/
structure Cap (w : World) (a b g p : Nat) : Prop where
  ra : w.heap[a]? = some (.cells #[.pointer (some ⟨g, 0, none⟩)] 69 (0, 0))
  rb : w.heap[b]? = some (.cells #[.int .i64 p] 3 (0, 0))
theorem Cap.kp {w w' : World} {a b g p : Nat} {F : Nat → Prop} (h : Cap w a b g p) (hk : Kp F w w') (ha : ¬ F a) (hb : ¬ F b) : Cap w' a b g p := ⟨hk.blk h.ra ha, hk.blk h.rb hb⟩
theorem Cap.drewN {w : World} {a b g p : Nat} (h : Cap w a b g p) (n : Nat) : Cap (w.drewN n) a b g p := ⟨h.ra, h.rb⟩

section
variable (g : Nat) (v : Value) (xs : List UInt8) (p l : Nat) (w : World)

/-- value's end: a closure over two new variables. -/
def ValP (w : World) (g p : Nat) (en : Ending) (w' : World) : Prop :=
  ∃ a b, en = .returned (.func (.func 61) #[] #[.pointer (some ⟨a, 0, none⟩), .pointer (some ⟨b, 0, none⟩)]) ∧ Cap w' a b g p ∧ Below w.heap.size w w' ∧ w.heap.size ≤ a ∧ w.heap.size ≤ b

set_option maxHeartbeats 400000 in
theorem value_any (e : Int) (hr : Rd w g v xs p l e) :
    Calls Try.prog 56 #[.pointer (some ⟨g, 0, none⟩)] w (ValP w g p) := by
  have hc1 : w.cell? ⟨g, 1, none⟩ = some (.int .i64 p) := blk_cell hr.blk 1
  have hlt := hr.lt
  have hmf : ∀ (fn : Fn) (first cap : Array Value) (W : World), (Instr.makeFunc fn first cap).run Try.prog W = .ok (.func fn first cap) W := fun _ _ _ _ => rfl
  go_enter Try.func56, Try.ntmps56
  go_wp2
  go_ret
  refine ⟨_, _, rfl, ⟨blk_alloc (blk_new _ _ _) _, ?_⟩, ((Below.refl _ _).alloc (Nat.le_refl _) _).alloc (by simp) _, Nat.le_refl _, by omega⟩
  have h := blk_new (w.alloc (.cells #[.pointer (some ⟨g, 0, none⟩)] 69)) 3 #[.int .i64 p]
  simpa using h

set_option maxHeartbeats 400000 in
/-- The deferred closure, where there was no error. -/
theorem back_ok (a b q : Nat) (u : FrameMode) (hr : Rd w g v xs p l 0) (hc : Cap w a b g q) (hq : q ≤ xs.length) :
    CallsD Try.prog 61 #[.pointer (some ⟨a, 0, none⟩), .pointer (some ⟨b, 0, none⟩)] u w fun e u' w' => u' = u ∧ (e = .returned (.tuple #[]) ∧ Rd w' g v xs p q 0 ∧ Kp (fun k => k = g) w w') := by
  have ca : w.cell? ⟨a, 0, none⟩ = some (.pointer (some ⟨g, 0, none⟩)) := blk_cell hc.ra 0
  have cb : w.cell? ⟨b, 0, none⟩ = some (.int .i64 q) := blk_cell hc.rb 0
  have hc3 : w.cell? ⟨g, 3, none⟩ = some (.int .i64 0) := blk_cell hr.blk 3
  have hc2 : w.cell? ⟨g, 2, none⟩ = some (.int .i64 l) := blk_cell hr.blk 2
  have hf2 : w.frozen? ⟨g, 2, none⟩ = false := blk_frozen hr.blk 2
  go_enter_d Try.func61, Try.ntmps61
  go_wp2
  go_end0
  exact ⟨rfl, hr.setLast _ hq, kp_g (Kp.refl _ _) _ _⟩

set_option maxHeartbeats 400000 in
/-- The deferred closure, behind an error. -/
theorem back_err (a b q : Nat) (e : Int) (u : FrameMode) (hr : Rd w g v xs p l e) (he : Hid (¬ e = 0)) (hc : Cap w a b g q) (hq : q ≤ xs.length) :
    CallsD Try.prog 61 #[.pointer (some ⟨a, 0, none⟩), .pointer (some ⟨b, 0, none⟩)] u w fun en u' w' => u' = u ∧ (en = .returned (.tuple #[]) ∧ Rd w' g v xs q l e ∧ Kp (fun k => k = g) w w') := by
  have ca : w.cell? ⟨a, 0, none⟩ = some (.pointer (some ⟨g, 0, none⟩)) := blk_cell hc.ra 0
  have cb : w.cell? ⟨b, 0, none⟩ = some (.int .i64 q) := blk_cell hc.rb 0
  have hc3 : w.cell? ⟨g, 3, none⟩ = some (.int .i64 e) := blk_cell hr.blk 3
  have hc1 : w.cell? ⟨g, 1, none⟩ = some (.int .i64 p) := blk_cell hr.blk 1
  have hf1 : w.frozen? ⟨g, 1, none⟩ = false := blk_frozen hr.blk 1
  have hb : (e != 0) = true := by have := he.out; simpa using this
  go_enter_d Try.func61, Try.ntmps61
  go_wp2
  refine bodyPost_ret (results_none rfl _ _ _) rfl ?_
  exact ⟨rfl, hr.setAt _ hq, kp_g (Kp.refl _ _) _ _⟩

/-- The door of a read: the deferred closure is called. -/
theorem door {fn : Func} {tmps : Array Value} {R : Ending → World → Prop} {t : Tmp} {a b : Nat} {w : World} {Q : World → Prop} (ht : fn.results = #[.tmp t])
    (hd : CallsD Try.prog 61 #[.pointer (some ⟨a, 0, none⟩), .pointer (some ⟨b, 0, none⟩)] .returning w fun en u' w' => u' = .returning ∧ (en = .returned (.tuple #[]) ∧ Q w'))
    (hR : ∀ w', Q w' → R (.returned (tmps.getD t undef)) w') :
    bodyPostD Try.prog fn R Exit.ret { tmps := tmps, defers := [{ target := .fn (.func 61) #[.pointer (some ⟨a, 0, none⟩), .pointer (some ⟨b, 0, none⟩)], args := #[] }] } w := by
  refine leaves_cons (f := 61) (args := #[.pointer (some ⟨a, 0, none⟩), .pointer (some ⟨b, 0, none⟩)]) (by simp) (by simp [go_sem]) ?_
  refine hd.mono ?_
  rintro e u' w'' ⟨rfl, rfl, hq⟩
  exact ⟨_, results_tmp ht _ _ _, hR _ hq⟩

/-- A read's end: the value; the reader; old memory but the reader's block is as it was. -/
def ReadP (w : World) (g : Nat) (v : Value) (xs : List UInt8) (R : Value → Nat → Nat → Int → Prop) (en : Ending) (w' : World) : Prop :=
  ∃ r p' l' e', en = .returned r ∧ R r p' l' e' ∧ Rd w' g v xs p' l' e' ∧ Kp (fun k => k = g) w w'

/-- What Uint reads. -/
def UintR (xs : List UInt8) (p l : Nat) (e : Int) (r : Value) (p' l' : Nat) (e' : Int) : Prop :=
  if e = 0 then match dn 0 0 (xs.drop p) with
    | some (n, k) => r = .int .u64 (n : Nat) ∧ p' = p + k ∧ l' = p ∧ e' = 0
    | none => r = .int .u64 0 ∧ p' = p ∧ l' = l ∧ e' = 3
  else r = .int .u64 0 ∧ p' = p ∧ l' = l ∧ e' = e

set_option maxHeartbeats 400000 in
theorem number_err (e : Int) (hr : Rd w g v xs p l e) (he : Hid (¬ e = 0)) :
    Calls Try.prog 58 #[.pointer (some ⟨g, 0, none⟩)] w (RdP w g v xs (.int .u64 0) p l e) := by
  have hen := fun (A : Option Addr) (n c : Nat) (W : World) => Lib.run_eql_slice_nil (P := Try.prog) W 48 5 A n c 0 0 Try.underlying48
  go_enter Try.func58, Try.ntmps58
  go_wp2
  refine wp_loop_rounds 1 ?_; rw [rounds_succ]
  go_wp2_with fail
  refine (take_err g v xs p l w e 1 hr he).mono ?_
  rintro en w1 ⟨rfl, hr1, hk1⟩
  go_wp2_with fail
  go_ret
  exact ⟨rfl, hr1, hk1⟩

set_option maxHeartbeats 400000 in
theorem uint_any (e : Int) (hr : Rd w g v xs p l e) :
    Calls Try.prog 46 #[.pointer (some ⟨g, 0, none⟩)] w (ReadP w g v xs (UintR xs p l e)) := by
  have hle := hr.le
  have hglt := hr.lt
  by_cases he : e = 0
  · subst he
    have HR : Hid (UintR xs p l 0 = fun r p' l' e' => match dn 0 0 (xs.drop p) with
      | some (n, k) => r = .int .u64 (n : Nat) ∧ p' = p + k ∧ l' = p ∧ e' = 0
      | none => r = .int .u64 0 ∧ p' = p ∧ l' = l ∧ e' = 3) := by show _ = _; funext r p' l' e'; unfold UintR; rw [if_pos rfl]
    go_enter_defers Try.func46, Try.ntmps46
    go_wp2_with fail
    refine (value_any g v xs p l w 0 hr).mono ?_
    rintro en w1 ⟨a, b, rfl, hcap, hb1, ha, hb⟩
    have hr1 := hr.below hb1
    go_wp2_with fail
    refine (number_any g v xs p l w1 hr1).mono ?_
    rintro en w2 (⟨n, k, hdn, rfl, hr2, hk2⟩ | ⟨hdn, q, rfl, hr2, hk2⟩)
    · have hc2 := hcap.kp hk2 (by omega) (by omega)
      have HD := Lib.hid hdn
      clear hdn
      go_wp2_with fail
      refine door rfl (back_ok g v xs _ l w2 a b p _ hr2 hc2 hle) ?_
      rintro w3 ⟨hr3, hk3⟩
      refine ⟨_, p + k, p, 0, rfl, ?_, hr3, ((Kp.of_below _ hb1).trans hk2 (fun _ _ h => h)).trans hk3 (fun _ _ h => h)⟩
      rw [HR.out, HD.out]
      exact ⟨rfl, rfl, rfl, rfl⟩
    · have hc2 := hcap.kp hk2 (by omega) (by omega)
      have HD := Lib.hid hdn
      clear hdn
      go_wp2_with fail
      refine door rfl (back_err g v xs _ l w2 a b p 3 _ hr2 (by show ¬ _; decide) hc2 hle) ?_
      rintro w3 ⟨hr3, hk3⟩
      refine ⟨_, p, l, 3, rfl, ?_, hr3, ((Kp.of_below _ hb1).trans hk2 (fun _ _ h => h)).trans hk3 (fun _ _ h => h)⟩
      rw [HR.out, HD.out]
      exact ⟨rfl, rfl, rfl, rfl⟩
  · have HE : Hid (¬ e = 0) := he
    have HR : Hid (UintR xs p l e = fun r p' l' e' => r = .int .u64 0 ∧ p' = p ∧ l' = l ∧ e' = e) := by show _ = _; funext r p' l' e'; unfold UintR; rw [if_neg he]
    clear he
    go_enter_defers Try.func46, Try.ntmps46
    go_wp2_with fail
    refine (value_any g v xs p l w e hr).mono ?_
    rintro en w1 ⟨a, b, rfl, hcap, hb1, ha, hb⟩
    have hr1 := hr.below hb1
    go_wp2_with fail
    refine (number_err g v xs p l w1 e hr1 HE).mono ?_
    rintro en w2 ⟨rfl, hr2, hk2⟩
    have hc2 := hcap.kp hk2 (by omega) (by omega)
    go_wp2_with fail
    refine door rfl (back_err g v xs _ l w2 a b p e _ hr2 HE hc2 hle) ?_
    rintro w3 ⟨hr3, hk3⟩
    refine ⟨_, p, l, e, rfl, ?_, hr3, ((Kp.of_below _ hb1).trans hk2 (fun _ _ h => h)).trans hk3 (fun _ _ h => h)⟩
    rw [HR.out]
    exact ⟨rfl, rfl, rfl, rfl⟩
end
end Go.Proofs.Ytckfopdkknckcaa
