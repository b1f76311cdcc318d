/- The walks of wire.Reader's Bytes, Text, Sum. -/
import Derived.Test.YtllmhablpeecfaaWireL
set_option linter.unusedVariables false
set_option linter.unusedSimpArgs false
namespace Go.Proofs.Ytllmhablpeecfaa
open Go.RowKit

/-- What Bytes reads. -/
def BytesR (k : Int) (xs : List UInt8) (p l : Nat) (e : Int) (ys : List UInt8) (p' l' : Nat) (e' : Int) : Prop :=
  if e = 0 then match dn 0 0 (xs.drop p) with
    | some (n, j) => if n ≤ lim k then
        (if n ≤ xs.length - (p + j) then ys = (xs.drop (p + j)).take n ∧ p' = p + j + n ∧ l' = p ∧ e' = 0 else ys = [] ∧ p' = p ∧ l' = l ∧ e' = 3)
        else ys = [] ∧ p' = p ∧ l' = l ∧ e' = 2
    | none => ys = [] ∧ p' = p ∧ l' = l ∧ e' = 3
  else ys = [] ∧ p' = p ∧ l' = l ∧ e' = e

/-- Bytes's end. -/
def BytesP (w : World) (g : Nat) (v : Value) (xs : List UInt8) (R : List UInt8 → Nat → Nat → Int → Prop) (en : Ending) (w' : World) : Prop :=
  ∃ A c ys p' l' e', en = .returned (.slice A ys.length c) ∧ R ys p' l' e' ∧ w'.ownsRow w.heap.size 5 1 (.slice A ys.length c) ys.length (bvs ys) ∧ Rd w' g v xs p' l' e' ∧ Kp (fun k => k = g) w w'

theorem ret_slice' {A : Option Addr} {n m c : Nat} (h : n = m) : Ending.returned (.slice A n c) = .returned (.slice A m c) := by rw [h]

theorem below_of_grown {w w1 : World} (h : w.grownBy w1 none) : Below w.heap.size w w1 := ⟨h.os, h.tape, h.output, h.size, fun k hk => h.block k hk (by simp)⟩

section
variable (g : Nat) (v : Value) (xs : List UInt8) (p l : Nat) (w : World)

theorem own_reader {w : World} {A : Option Addr} {c base : Nat} {ys : List UInt8} {g : Nat} {v : Value} {xs : List UInt8} {p l : Nat} {e : Int} (ho : w.ownsRow base 5 1 (.slice A ys.length c) ys.length (bvs ys)) (hr : Rd w g v xs p l e) : ∀ b, (Value.slice A ys.length c).ownBlock = some b → ¬ b = g := by
  intro b hb h
  subst h
  exact own_blk_ne ho hr.blk (by decide) hb

set_option maxHeartbeats 800000 in
theorem rbytes_any (k : Int) (e : Int) (hr : Rd w g v xs p l e) (hk : Hid (k ≤ 9223372036854775807)) (hx : Hid (xs.length ≤ 140737488355328)) :
    Calls Try.prog 26 #[.pointer (some ⟨g, 0, none⟩), .int .i64 k] w (BytesP w g v xs (BytesR k xs p l e)) := by
  have hle := hr.le
  have hglt := hr.lt
  have hap : ∀ W : World, (Builtin.append_ #[22, 22] 22 #[.slice none 0 0, .slice none 0 0]).run Try.prog W = .ok (.slice none 0 0) W := fun W => by
    obtain ⟨i0, hi, _⟩ := info_parts info_u8
    simp [Builtin.append_, run_underlying Try.underlying22, sizeOf, typeInfo, hi, Builtin.lenOf, Builtin.firstCells, loadCells, loadCellsFrom]
  by_cases he : e = 0
  · subst he
    go_enter_defers Try.func26, Try.ntmps26
    go_wp2_with fail
    refine (value_any g v xs p l w 0 hr).mono ?_
    rintro en w1 ⟨a, b, rfl, hcap, hb1, ha, hb⟩
    have hr1 := hr.below hb1
    go_wp2_with fail
    refine (limited_any g v xs p l w1 k hr1 hk).mono ?_
    rintro en w2 ⟨r, q, e', rfl, hr2, hk2, hrl, hcase⟩
    have hc2 := hcap.kp hk2 (by omega) (by omega)
    rcases hcase with ⟨n, hdn, hpq, hnl, rfl, rfl⟩ | ⟨n, j, hdn, hnl, rfl, rfl⟩ | ⟨hdn, rfl, rfl⟩
    · have HD := Lib.hid hdn
      clear hdn
      by_cases hn : r ≤ xs.length - q
      · have HR : Hid (BytesR k xs p l 0 ((xs.drop q).take r) (q + r) p 0) := by
          show BytesR _ _ _ _ _ _ _ _ _
          unfold BytesR; rw [if_pos rfl, HD.out]; dsimp only
          rw [if_pos hnl, show p + (q - p) = q from by omega, if_pos hn]
          exact ⟨rfl, rfl, rfl, rfl⟩
        have hyl : ((xs.drop q).take r).length = r := by simp; omega
        obtain ⟨ys, hys⟩ : ∃ ys, ys = (xs.drop q).take r := ⟨_, rfl⟩
        rw [← hys] at HR hyl
        have HY := Lib.hid hyl
        have HYs := Lib.hid hys
        clear hyl hys
        go_wp2_with fail
        refine (take_ok g v xs q l w2 r hr2 hn).mono ?_
        rintro en w3 ⟨A1, rfl, hA, hrc, hr3, hk3⟩
        rw [← HYs.out] at hrc
        have hc3 := hc2.kp hk3 (by omega) (by omega)
        have hs3 : w.heap.size ≤ w3.heap.size := Nat.le_trans (Nat.le_trans hb1.size hk2.size) hk3.size
        clear hA
        go_wp2_with (at_builtin; refine wpl_append_bytes w.heap.size rfl _ _ 22 5 rfl Try.underlying22 info_u8 (.slice none 0 0) [] ys _ A1 r r rfl rfl (own_nil _ _ _ _) hrc HY.out hs3 (by have := HY.out; have := hx.out; have := hr2.le; simp; omega) ?_)
        intro v4 w4 hown4 hg4 hat4
        have hb4 : Below w3.heap.size w3 w4 := below_of_grown hg4
        have hr4 := hr3.below hb4
        have hc4 := hc3.kp (Kp.of_below (fun _ => False) hb4) (fun h => h) (fun h => h)
        obtain ⟨A4, c4, rfl, _, _⟩ := own_slice hown4
        go_wp2_with fail
        refine door rfl (back_ok g v xs _ l w4 a b p _ hr4 hc4 hle) ?_
        rintro w5 ⟨hr5, hk5⟩
        have hown5 := hk5.own hown4 (own_reader hown4 hr4)
        exact ⟨A4, c4, ys, q + r, p, 0, ret_slice' (by simp), HR.out, by simpa using hown5, hr5, ((((Kp.of_below _ hb1).trans hk2 (fun _ _ h => h)).trans hk3 (fun _ _ h => h)).trans (Kp.of_below (fun k => k = g) hb4) (fun _ _ h => h)).trans hk5 (fun _ _ h => h)⟩
      · have HR : Hid (BytesR k xs p l 0 [] p l 3) := by
          show BytesR _ _ _ _ _ _ _ _ _
          unfold BytesR; rw [if_pos rfl, HD.out]; dsimp only
          rw [if_pos hnl, show p + (q - p) = q from by omega, if_neg hn]
          exact ⟨rfl, rfl, rfl, rfl⟩
        go_wp2_with fail
        refine (take_short g v xs q l w2 r hr2 (by omega)).mono ?_
        rintro en w3 ⟨rfl, hr3, hk3⟩
        have hc3 := hc2.kp hk3 (by omega) (by omega)
        go_wp2_with fail
        refine door rfl (back_err g v xs _ l w3 a b p 3 _ hr3 (by show ¬ _; decide) hc3 hle) ?_
        rintro w4 ⟨hr4, hk4⟩
        exact ⟨none, 0, [], p, l, 3, rfl, HR.out, own_nil _ _ _ _, hr4, (((Kp.of_below _ hb1).trans hk2 (fun _ _ h => h)).trans hk3 (fun _ _ h => h)).trans hk4 (fun _ _ h => h)⟩
    · have HR : Hid (BytesR k xs p l 0 [] p l 2) := by
        show BytesR _ _ _ _ _ _ _ _ _
        unfold BytesR; rw [if_pos rfl, hdn]; dsimp only
        rw [if_neg (by omega)]
        exact ⟨rfl, rfl, rfl, rfl⟩
      clear hdn
      go_wp2_with fail
      refine (take_err g v xs q l w2 2 0 hr2 (by show ¬ _; decide)).mono ?_
      rintro en w3 ⟨rfl, hr3, hk3⟩
      have hc3 := hc2.kp hk3 (by omega) (by omega)
      go_wp2_with fail
      refine door rfl (back_err g v xs _ l w3 a b p 2 _ hr3 (by show ¬ _; decide) hc3 hle) ?_
      rintro w4 ⟨hr4, hk4⟩
      exact ⟨none, 0, [], p, l, 2, rfl, HR.out, own_nil _ _ _ _, hr4, (((Kp.of_below _ hb1).trans hk2 (fun _ _ h => h)).trans hk3 (fun _ _ h => h)).trans hk4 (fun _ _ h => h)⟩

    · have HR : Hid (BytesR k xs p l 0 [] p l 3) := by
        show BytesR _ _ _ _ _ _ _ _ _
        unfold BytesR; rw [if_pos rfl, hdn]
        exact ⟨rfl, rfl, rfl, rfl⟩
      clear hdn
      go_wp2_with fail
      refine (take_err g v xs q l w2 3 0 hr2 (by show ¬ _; decide)).mono ?_
      rintro en w3 ⟨rfl, hr3, hk3⟩
      have hc3 := hc2.kp hk3 (by omega) (by omega)
      go_wp2_with fail
      refine door rfl (back_err g v xs _ l w3 a b p 3 _ hr3 (by show ¬ _; decide) hc3 hle) ?_
      rintro w4 ⟨hr4, hk4⟩
      exact ⟨none, 0, [], p, l, 3, rfl, HR.out, own_nil _ _ _ _, hr4, (((Kp.of_below _ hb1).trans hk2 (fun _ _ h => h)).trans hk3 (fun _ _ h => h)).trans hk4 (fun _ _ h => h)⟩

  · have HE : Hid (¬ e = 0) := he
    have HR : Hid (BytesR k xs p l e [] p l e) := by show BytesR _ _ _ _ _ _ _ _ _; unfold BytesR; rw [if_neg he]; exact ⟨rfl, rfl, rfl, rfl⟩
    clear he
    go_enter_defers Try.func26, Try.ntmps26
    go_wp2_with fail
    refine (value_any g v xs p l w e hr).mono ?_
    rintro en w1 ⟨a, b, rfl, hcap, hb1, ha, hb⟩
    have hr1 := hr.below hb1
    go_wp2_with fail
    refine (limited_err g v xs p l w1 k e hr1 HE hk).mono ?_
    rintro en w2 ⟨rfl, hr2, hk2⟩
    have hc2 := hcap.kp hk2 (by omega) (by omega)
    go_wp2_with fail
    refine (take_err g v xs p l w2 e 0 hr2 HE).mono ?_
    rintro en w3 ⟨rfl, hr3, hk3⟩
    have hc3 := hc2.kp hk3 (by omega) (by omega)
    go_wp2_with fail
    refine door rfl (back_err g v xs _ l w3 a b p e _ hr3 HE hc3 hle) ?_
    rintro w4 ⟨hr4, hk4⟩
    exact ⟨none, 0, [], p, l, e, rfl, HR.out, own_nil _ _ _ _, hr4, (((Kp.of_below _ hb1).trans hk2 (fun _ _ h => h)).trans hk3 (fun _ _ h => h)).trans hk4 (fun _ _ h => h)⟩

set_option maxHeartbeats 400000 in
theorem rtext_any (k : Int) (e : Int) (hr : Rd w g v xs p l e) (hk : Hid (k ≤ 9223372036854775807)) (hx : Hid (xs.length ≤ 140737488355328)) :
    Calls Try.prog 49 #[.pointer (some ⟨g, 0, none⟩), .int .i64 k] w (ReadP w g v xs fun r p' l' e' => ∃ ys, r = .string (mkS ys) ∧ BytesR k xs p l e ys p' l' e') := by
  go_enter Try.func49, Try.ntmps49
  go_wp2_with fail
  refine (rbytes_any g v xs p l w k e hr hk hx).mono ?_
  rintro en w1 ⟨A, c, ys, p', l', e', rfl, hR, hown, hr1, hk1⟩
  have hs := run_string_rc (P := Try.prog) 22 9 5 Try.underlying22 Try.underlying5 Try.underlying9 ys.length c rfl (Rc.of_own hown)
  have HR := Lib.hid hR
  clear hR
  go_wp2_with fail
  go_ret
  exact ⟨_, p', l', e', rfl, ⟨ys, rfl, HR.out⟩, hr1, hk1⟩

/-- What Sum reads. -/
def SumR (xs : List UInt8) (p l : Nat) (e : Int) (ys : List UInt8) (p' l' : Nat) (e' : Int) : Prop :=
  if e = 0 then (if 32 ≤ xs.length - p then ys = (xs.drop p).take 32 ∧ p' = p + 32 ∧ l' = p ∧ e' = 0 else ys = [] ∧ p' = p ∧ l' = l ∧ e' = 3)
  else ys = [] ∧ p' = p ∧ l' = l ∧ e' = e

set_option maxHeartbeats 800000 in
theorem rsum_any (e : Int) (hr : Rd w g v xs p l e) :
    Calls Try.prog 50 #[.pointer (some ⟨g, 0, none⟩)] w (ReadP w g v xs fun r p' l' e' => ∃ ys, r = .string (mkS ys) ∧ SumR xs p l e ys p' l' e') := by
  have hle := hr.le
  have hglt := hr.lt
  have hs0 := fun W : World => run_string_rc (P := Try.prog) (S := fun _ => True) (w := W) (A := none) (ys := []) 22 9 5 Try.underlying22 Try.underlying5 Try.underlying9 0 0 rfl (Rc.nil _ _ _)
  by_cases he : e = 0
  · subst he
    by_cases hn : 32 ≤ xs.length - p
    · have HR : Hid (SumR xs p l 0 ((xs.drop p).take 32) (p + 32) p 0) := by show SumR _ _ _ _ _ _ _ _; unfold SumR; rw [if_pos rfl, if_pos hn]; exact ⟨rfl, rfl, rfl, rfl⟩
      have hyl : ((xs.drop p).take 32).length = 32 := by simp; omega
      obtain ⟨ys, hys⟩ : ∃ ys, ys = (xs.drop p).take 32 := ⟨_, rfl⟩
      rw [← hys] at HR hyl
      have HY := Lib.hid hyl
      have HYs := Lib.hid hys
      clear hyl hys
      go_enter_defers Try.func50, Try.ntmps50
      go_wp2_with fail
      refine (value_any g v xs p l w 0 hr).mono ?_
      rintro en w1 ⟨a, b, rfl, hcap, hb1, ha, hb⟩
      have hr1 := hr.below hb1
      go_wp2_with fail
      refine (take_ok g v xs p l w1 32 hr1 hn).mono ?_
      rintro en w2 ⟨A1, rfl, hA, hrc, hr2, hk2⟩
      rw [← HYs.out] at hrc
      have hc2 := hcap.kp hk2 (by omega) (by omega)
      have hs := run_string_rc (P := Try.prog) 22 9 5 Try.underlying22 Try.underlying5 Try.underlying9 32 32 HY.out hrc
      clear hA
      go_wp2_with fail
      refine door rfl (back_ok g v xs _ l w2 a b p _ hr2 hc2 hle) ?_
      rintro w3 ⟨hr3, hk3⟩
      exact ⟨_, p + 32, p, 0, rfl, ⟨ys, rfl, HR.out⟩, hr3, ((Kp.of_below _ hb1).trans hk2 (fun _ _ h => h)).trans hk3 (fun _ _ h => h)⟩
    · have HR : Hid (SumR xs p l 0 [] p l 3) := by show SumR _ _ _ _ _ _ _ _; unfold SumR; rw [if_pos rfl, if_neg hn]; exact ⟨rfl, rfl, rfl, rfl⟩
      go_enter_defers Try.func50, Try.ntmps50
      go_wp2_with fail
      refine (value_any g v xs p l w 0 hr).mono ?_
      rintro en w1 ⟨a, b, rfl, hcap, hb1, ha, hb⟩
      have hr1 := hr.below hb1
      go_wp2_with fail
      refine (take_short g v xs p l w1 32 hr1 (by omega)).mono ?_
      rintro en w2 ⟨rfl, hr2, hk2⟩
      have hc2 := hcap.kp hk2 (by omega) (by omega)
      go_wp2_with fail
      refine door rfl (back_err g v xs _ l w2 a b p 3 _ hr2 (by show ¬ _; decide) hc2 hle) ?_
      rintro w3 ⟨hr3, hk3⟩
      exact ⟨_, p, l, 3, rfl, ⟨[], rfl, HR.out⟩, hr3, ((Kp.of_below _ hb1).trans hk2 (fun _ _ h => h)).trans hk3 (fun _ _ h => h)⟩
  · have HE : Hid (¬ e = 0) := he
    have HR : Hid (SumR xs p l e [] p l e) := by show SumR _ _ _ _ _ _ _ _; unfold SumR; rw [if_neg he]; exact ⟨rfl, rfl, rfl, rfl⟩
    clear he
    go_enter_defers Try.func50, Try.ntmps50
    go_wp2_with fail
    refine (value_any g v xs p l w e hr).mono ?_
    rintro en w1 ⟨a, b, rfl, hcap, hb1, ha, hb⟩
    have hr1 := hr.below hb1
    go_wp2_with fail
    refine (take_err g v xs p l w1 e 32 hr1 HE).mono ?_
    rintro en w2 ⟨rfl, hr2, hk2⟩
    have hc2 := hcap.kp hk2 (by omega) (by omega)
    go_wp2_with fail
    refine door rfl (back_err g v xs _ l w2 a b p e _ hr2 HE hc2 hle) ?_
    rintro w3 ⟨hr3, hk3⟩
    exact ⟨_, p, l, e, rfl, ⟨[], rfl, HR.out⟩, hr3, ((Kp.of_below _ hb1).trans hk2 (fun _ _ h => h)).trans hk3 (fun _ _ h => h)⟩
end
end Go.Proofs.Ytllmhablpeecfaa
