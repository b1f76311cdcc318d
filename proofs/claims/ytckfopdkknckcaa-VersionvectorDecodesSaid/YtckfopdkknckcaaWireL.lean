/- The walks of wire.Reader's limited, Count, Int, Bool, Bytes, Text, Sum. -/
import Derived.Test.YtckfopdkknckcaaWireU
set_option linter.unusedVariables false
set_option linter.unusedSimpArgs false
namespace Go.Proofs.Ytckfopdkknckcaa
open Go.RowKit

/-- The string of bytes. -/
def mkS (ys : List UInt8) : ByteArray := ⟨ys.toArray⟩
theorem sb_mkS (ys : List UInt8) : sb (mkS ys) = ys := rfl
theorem mkS_size (ys : List UInt8) : (mkS ys).size = ys.length := by rw [← sb_length]; rfl
theorem run_string_rc {P : Program} {S : Nat → Prop} {w : World} {A : Option Addr} {ys : List UInt8} (src dst e : TypeId) (hs : P.underlying src = some (.slice e)) (he : P.underlying e = some (.int .u8)) (hd : P.underlying dst = some .string)
    (m c : Nat) (hm : ys.length = m) (hr : Rc S w A (bvs ys)) : (convert src dst (.slice A m c)).run P w = .ok (.string (mkS ys)) w := by
  subst hm
  rcases A with _ | ad
  · have h0 : ys = [] := by
      rcases ys with _ | ⟨y, t⟩
      · rfl
      · obtain ⟨ad, h, _⟩ := hr (by simp [bvs]); cases h
    subst h0
    exact run_convert_bytes_nil w src e hs he _ _ dst hd
  · have hc : ∀ j u, (bvs ys)[j]? = some u → w.cell? (ad.add j) = some u := by
      intro j u hu
      obtain ⟨ad', h, _, hc⟩ := hr (by intro h; rw [h] at hu; simp at hu)
      injection h with h
      subst h
      exact hc j u hu
    have hl := run_loadCells_list (P := P) w ad (bvs ys) hc
    have e1 : bvs ys = (ys.map fun b => (b.toNat : Int)).map (Value.int .u8) := by simp [bvs, bv]
    rw [bvs_length] at hl
    have e2 : ys.length = (ys.map fun b => (b.toNat : Int)).length := by simp
    rw [run_convert_bytes_string w src dst e _ _ c hs he hd, run_bytesToString w _ _ c (ys.map fun b => (b.toNat : Int)) (by rw [← e1]; exact hl), foldl_push_bytes]
    have e3 : (ys.map fun b => (b.toNat : Int)).map (fun n => UInt8.ofNat n.toNat) = ys := by
      rw [List.map_map]
      conv => rhs; rw [← List.map_id ys]
      apply List.map_congr_left
      intro b _
      simp
    rw [e3]
    simp [mkS, ByteArray.empty, ByteArray.emptyWithCapacity]
    rfl

def lim (k : Int) : Nat := (max k 0).toNat

section
variable (g : Nat) (v : Value) (xs : List UInt8) (p l : Nat) (w : World)

/-- limited's end, where there was no error. -/
def LimP (w : World) (g : Nat) (v : Value) (xs : List UInt8) (p l : Nat) (k : Int) (en : Ending) (w' : World) : Prop :=
  ∃ r q e', en = .returned (.int .u64 (r : Nat)) ∧ Rd w' g v xs q l e' ∧ Kp (fun k => k = g) w w' ∧ r ≤ lim k ∧
    ((∃ n, dn 0 0 (xs.drop p) = some (n, q - p) ∧ p ≤ q ∧ n ≤ lim k ∧ r = n ∧ e' = 0) ∨ (∃ n j, dn 0 0 (xs.drop p) = some (n, j) ∧ lim k < n ∧ r = 0 ∧ e' = 2) ∨ (dn 0 0 (xs.drop p) = none ∧ r = 0 ∧ e' = 3))

set_option maxHeartbeats 400000 in
theorem limited_any (k : Int) (hr : Rd w g v xs p l 0) (hk : Hid (k ≤ 9223372036854775807)) :
    Calls Try.prog 57 #[.pointer (some ⟨g, 0, none⟩), .int .i64 k] w (LimP w g v xs p l k) := by
  have hw1 : IntKind.u64.wrap (max k 0) = (lim k : Int) := by have := hk.out; unfold lim; rw [IntKind.wrap_u64]; omega
  go_enter Try.func57, Try.ntmps57
  go_wp2_with fail
  refine (number_any g v xs p l w hr).mono ?_
  rintro en w2 (⟨n, j, hdn, rfl, hr2, hk2⟩ | ⟨hdn, q, rfl, hr2, hk2⟩)
  · by_cases hgt : lim k < n
    · have HD := Lib.hid hdn
      clear hdn
      have ht : decide (((lim k : Nat) : Int) < (n : Int)) = true := by simp; omega
      go_wp2_with fail
      refine (rfail_any g v xs _ l 0 w2 hr2 2).mono ?_
      rintro en w3 ⟨rfl, hr3, hk3⟩
      go_wp2_with fail
      go_ret
      exact ⟨0, _, _, rfl, hr3, hk2.trans hk3 (fun _ _ h => h), Nat.zero_le _, .inr (.inl ⟨n, j, HD.out, hgt, rfl, rfl⟩)⟩
    · have HD := Lib.hid hdn
      clear hdn
      have ht : decide (((lim k : Nat) : Int) < (n : Int)) = false := by simp; omega
      go_wp2_with fail
      go_ret
      exact ⟨n, _, _, rfl, hr2, hk2, Nat.le_of_not_lt hgt, .inl ⟨n, by rw [HD.out, Nat.add_sub_cancel_left], by omega, by omega, rfl, rfl⟩⟩
  · have HD := Lib.hid hdn
    clear hdn
    have ht : decide (((lim k : Nat) : Int) < 0) = false := by simp
    go_wp2_with fail
    go_ret
    exact ⟨0, _, _, rfl, hr2, hk2, Nat.zero_le _, .inr (.inr ⟨HD.out, rfl, rfl⟩)⟩

set_option maxHeartbeats 400000 in
theorem limited_err (k : Int) (e : Int) (hr : Rd w g v xs p l e) (he : Hid (¬ e = 0)) (hk : Hid (k ≤ 9223372036854775807)) :
    Calls Try.prog 57 #[.pointer (some ⟨g, 0, none⟩), .int .i64 k] w (RdP w g v xs (.int .u64 0) p l e) := by
  have hw1 : IntKind.u64.wrap (max k 0) = (lim k : Int) := by have := hk.out; unfold lim; rw [IntKind.wrap_u64]; omega
  go_enter Try.func57, Try.ntmps57
  go_wp2_with fail
  refine (number_err g v xs p l w e hr he).mono ?_
  rintro en w2 ⟨rfl, hr2, hk2⟩
  have ht : decide (((lim k : Nat) : Int) < 0) = false := by simp
  go_wp2_with fail
  go_ret
  exact ⟨rfl, hr2, hk2⟩

/-- What Count reads. -/
def CountR (k : Int) (xs : List UInt8) (p l : Nat) (e : Int) (r : Value) (p' l' : Nat) (e' : Int) : Prop :=
  if e = 0 then match dn 0 0 (xs.drop p) with
    | some (n, j) => if n ≤ lim k then r = .int .i64 (n : Nat) ∧ p' = p + j ∧ l' = p ∧ e' = 0 else r = .int .i64 0 ∧ p' = p ∧ l' = l ∧ e' = 2
    | none => r = .int .i64 0 ∧ p' = p ∧ l' = l ∧ e' = 3
  else r = .int .i64 0 ∧ p' = p ∧ l' = l ∧ e' = e

set_option maxHeartbeats 400000 in
theorem count_any (k : Int) (e : Int) (hr : Rd w g v xs p l e) (hk : Hid (k ≤ 9223372036854775807)) :
    Calls Try.prog 45 #[.pointer (some ⟨g, 0, none⟩), .int .i64 k] w (ReadP w g v xs (CountR k xs p l e)) := by
  have hle := hr.le
  have hglt := hr.lt
  by_cases he : e = 0
  · subst he
    go_enter_defers Try.func45, Try.ntmps45
    go_wp2_with fail
    refine (value_any g v xs p l w 0 hr).mono ?_
    rintro en w1 ⟨a, b, rfl, hcap, hb1, ha, hb⟩
    have hr1 := hr.below hb1
    go_wp2_with fail
    refine (limited_any g v xs p l w1 k hr1 hk).mono ?_
    rintro en w2 ⟨r, q, e', rfl, hr2, hk2, hrl, hcase⟩
    have hc2 := hcap.kp hk2 (by omega) (by omega)
    have HC := Lib.hid hcase
    have HL := Lib.hid hrl
    have hw2 : IntKind.i64.wrap (r : Int) = (r : Int) := by have := hk.out; have := HL.out; unfold lim at this; rw [IntKind.wrap_i64]; omega
    have hw3 : wrap64 (r : Int) = (r : Int) := by have := hk.out; have := HL.out; unfold lim at this; unfold wrap64; omega
    clear hcase hrl
    go_wp2_with fail
    rcases HC.out with ⟨n, hdn, hpq, hnl, rfl, rfl⟩ | ⟨n, j, hdn, hnl, rfl, rfl⟩ | ⟨hdn, rfl, rfl⟩
    · refine door rfl (back_ok g v xs _ l w2 a b p _ hr2 hc2 hle) ?_
      rintro w3 ⟨hr3, hk3⟩
      refine ⟨_, q, p, 0, rfl, ?_, hr3, ((Kp.of_below _ hb1).trans hk2 (fun _ _ h => h)).trans hk3 (fun _ _ h => h)⟩
      unfold CountR; rw [if_pos rfl, hdn]; dsimp only; rw [if_pos hnl]; exact ⟨rfl, by omega, rfl, rfl⟩
    · refine door rfl (back_err g v xs _ l w2 a b p 2 _ hr2 (by show ¬ _; decide) hc2 hle) ?_
      rintro w3 ⟨hr3, hk3⟩
      refine ⟨_, p, l, 2, rfl, ?_, hr3, ((Kp.of_below _ hb1).trans hk2 (fun _ _ h => h)).trans hk3 (fun _ _ h => h)⟩
      unfold CountR; rw [if_pos rfl, hdn]; dsimp only; rw [if_neg (by omega)]; exact ⟨rfl, rfl, rfl, rfl⟩
    · refine door rfl (back_err g v xs _ l w2 a b p 3 _ hr2 (by show ¬ _; decide) hc2 hle) ?_
      rintro w3 ⟨hr3, hk3⟩
      refine ⟨_, p, l, 3, rfl, ?_, hr3, ((Kp.of_below _ hb1).trans hk2 (fun _ _ h => h)).trans hk3 (fun _ _ h => h)⟩
      unfold CountR; rw [if_pos rfl, hdn]; exact ⟨rfl, rfl, rfl, rfl⟩
  · have HE : Hid (¬ e = 0) := he
    have HR : Hid (CountR k xs p l e = fun r p' l' e' => r = .int .i64 0 ∧ p' = p ∧ l' = l ∧ e' = e) := by show _ = _; funext r p' l' e'; unfold CountR; rw [if_neg he]
    clear he
    go_enter_defers Try.func45, Try.ntmps45
    go_wp2_with fail
    refine (value_any g v xs p l w e hr).mono ?_
    rintro en w1 ⟨a, b, rfl, hcap, hb1, ha, hb⟩
    have hr1 := hr.below hb1
    go_wp2_with fail
    refine (limited_err g v xs p l w1 k e hr1 HE hk).mono ?_
    rintro en w2 ⟨rfl, hr2, hk2⟩
    have hc2 := hcap.kp hk2 (by omega) (by omega)
    go_wp2_with fail
    refine door rfl (back_err g v xs _ l w2 a b p e _ hr2 HE hc2 hle) ?_
    rintro w3 ⟨hr3, hk3⟩
    refine ⟨_, p, l, e, rfl, ?_, hr3, ((Kp.of_below _ hb1).trans hk2 (fun _ _ h => h)).trans hk3 (fun _ _ h => h)⟩
    rw [HR.out]
    exact ⟨rfl, rfl, rfl, rfl⟩
/-- What Bool reads. -/
def BoolR (xs : List UInt8) (p l : Nat) (e : Int) (r : Value) (p' l' : Nat) (e' : Int) : Prop :=
  if e = 0 then match xs.drop p with
    | b :: _ => if 1 < b.toNat then r = .bool false ∧ p' = p ∧ l' = l ∧ e' = 3 else r = .bool (decide (b.toNat = 1)) ∧ p' = p + 1 ∧ l' = p ∧ e' = 0
    | [] => r = .bool false ∧ p' = p ∧ l' = l ∧ e' = 3
  else r = .bool false ∧ p' = p ∧ l' = l ∧ e' = e

end
end Go.Proofs.Ytckfopdkknckcaa
