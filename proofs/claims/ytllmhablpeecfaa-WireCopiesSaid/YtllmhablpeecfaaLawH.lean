/- WireDistinct: the plain law. -/
import Derived.Test.YtllmhablpeecfaaLawG
set_option linter.unusedVariables false
set_option linter.unusedSimpArgs false
namespace Go.Proofs.Ytllmhablpeecfaa
open Go.RowKit

theorem num_pre {a b : Nat} {l l' : List UInt8} (ha : a < 18446744073709551616) (hb : b < 18446744073709551616) (h : num a ++ l = num b ++ l') : a = b ∧ l = l' := by
  have h1 := dn_num a l ha
  rw [h, dn_num b l' hb] at h1
  simp only [Option.some.injEq, Prod.mk.injEq] at h1
  obtain ⟨rfl, _⟩ := h1
  exact ⟨rfl, List.append_cancel_left h⟩

theorem sb_inj {s t : ByteArray} (h : sb s = sb t) : s = t := by
  unfold sb at h
  cases s; cases t
  simp only [Array.toList_inj] at h
  rw [h]

def EqV (x y : Val) : Prop := if x.kind = 1 then x.u = y.u else if x.kind = 2 ∨ x.kind = 7 then x.n = y.n else if x.kind = 3 then x.b = y.b else x.s = y.s
def KnownK (k : Int) : Prop := 1 ≤ k ∧ k ≤ 7

theorem encV_pre {x y : Val} {a b l l' : List UInt8} (hx : x.Ok) (hy : y.Ok) (hk : x.kind = y.kind) (hn : KnownK x.kind) (h1 : encV x = some a) (h2 : encV y = some b) (h : a ++ l = b ++ l') : EqV x y ∧ l = l' := by
  obtain ⟨kd, u, n, bb, s, m⟩ := x
  obtain ⟨kd', u', n', bb', s', m'⟩ := y
  obtain ⟨hxk, hxu, hxn, hxm, hxs⟩ := hx
  obtain ⟨hyk, hyu, hyn, hym, hys⟩ := hy
  unfold KnownK at hn
  dsimp only at *
  subst hk
  unfold encV at h1 h2
  unfold EqV
  dsimp only at *
  have hkd : kd = 1 ∨ kd = 2 ∨ kd = 3 ∨ kd = 4 ∨ kd = 5 ∨ kd = 6 ∨ kd = 7 := by omega
  have str : ∀ (l l' : List UInt8), num s.size ++ sb s ++ l = num s'.size ++ sb s' ++ l' → s = s' ∧ l = l' := by
    intro l l' h
    rw [List.append_assoc, List.append_assoc] at h
    obtain ⟨h3, h4⟩ := num_pre (by omega) (by omega) h
    obtain ⟨h5, h6⟩ := List.append_inj h4 (by rw [sb_length, sb_length]; exact h3)
    exact ⟨sb_inj h5, h6⟩
  rcases hkd with rfl | rfl | rfl | rfl | rfl | rfl | rfl
  · simp at h1 h2 ⊢
    subst h1 h2
    exact num_pre hxu hyu h
  · simp at h1 h2 ⊢
    subst h1 h2
    obtain ⟨h3, h4⟩ := num_pre (zz_lt hxn.1 hxn.2) (zz_lt hyn.1 hyn.2) h
    refine ⟨?_, h4⟩
    have h5 := unzz_zz n
    rw [h3, unzz_zz] at h5
    exact h5.symm
  · simp at h1 h2 ⊢
    subst h1 h2
    simp at h
    refine ⟨?_, h.2⟩
    have := h.1
    cases bb <;> cases bb' <;> simp_all
  · simp at h1 h2 ⊢
    subst h1 h2
    exact str l l' (by simpa using h)
  · simp at h1 h2 ⊢
    subst h1 h2
    exact str l l' (by simpa using h)
  · simp at h1 h2 ⊢
    obtain ⟨h3, rfl⟩ := h1
    obtain ⟨h4, rfl⟩ := h2
    obtain ⟨h5, h6⟩ := List.append_inj h (by rw [sb_length, sb_length, h3, h4])
    exact ⟨sb_inj h5, h6⟩
  · simp at h1 h2 ⊢
    obtain ⟨h3, rfl⟩ := h1
    obtain ⟨h4, rfl⟩ := h2
    obtain ⟨h5, h6⟩ := num_pre (by omega) (by omega) h
    exact ⟨by omega, h6⟩

theorem encV_eq {x y : Val} (hk : x.kind = y.kind) (hn : KnownK x.kind) (h : EqV x y) : encV x = encV y := by
  obtain ⟨kd, u, n, bb, s, m⟩ := x
  obtain ⟨kd', u', n', bb', s', m'⟩ := y
  unfold KnownK at hn
  dsimp only at *
  subst hk
  unfold encV
  unfold EqV at h
  dsimp only at *
  have hkd : kd = 1 ∨ kd = 2 ∨ kd = 3 ∨ kd = 4 ∨ kd = 5 ∨ kd = 6 ∨ kd = 7 := by omega
  rcases hkd with rfl | rfl | rfl | rfl | rfl | rfl | rfl <;> simp at h ⊢ <;> subst h <;> rfl

def flatV (vs : List Val) : List UInt8 := vs.flatMap fun v => (encV v).getD []
theorem fold_ok : ∀ (vs : List Val) (st : List UInt8 × Int), (vs.foldl (fun st v => (putX (encV v) st.1 st.2, putE (encV v) st.2)) st).2 = 0 →
    st.2 = 0 ∧ (∀ v ∈ vs, (encV v).isSome = true) ∧ (vs.foldl (fun st v => (putX (encV v) st.1 st.2, putE (encV v) st.2)) st).1 = st.1 ++ flatV vs
  | [], st, h => ⟨h, by simp, by simp [flatV]⟩
  | v :: vs, st, h => by
    obtain ⟨h1, h2, h3⟩ := fold_ok vs _ h
    dsimp only at h1
    cases hv : encV v with
    | none => rw [hv] at h1; unfold putE wfl at h1; dsimp only at h1; split at h1 <;> simp_all
    | some ys =>
      rw [hv] at h1
      have h0 : st.2 = 0 := h1
      refine ⟨h0, ?_, ?_⟩
      · intro u hu
        rcases List.mem_cons.1 hu with rfl | hu
        · rw [hv]; rfl
        · exact h2 u hu
      · rw [List.foldl_cons, h3]
        dsimp only
        rw [hv, h0]
        simp [putX, wput, flatV, hv]
theorem encE_ok {vs : List Val} (h : encE vs = 0) : (∀ v ∈ vs, (encV v).isSome = true) ∧ encB vs = flatV vs := by
  unfold encE at h
  have h0 : (encW vs).2 = 0 := by
    unfold doneE at h
    split at h
    · exact h
    · rename_i h1; omega
  obtain ⟨_, h1, h2⟩ := fold_ok vs ([], 0) h0
  refine ⟨h1, ?_⟩
  unfold encB doneB
  rw [if_pos h]
  have : (encW vs).1 = [] ++ flatV vs := h2
  simpa using this

theorem flat_inj : ∀ (xs ys : List Val), xs.length = ys.length → (∀ v ∈ xs, v.Ok ∧ (encV v).isSome = true) → (∀ v ∈ ys, v.Ok ∧ (encV v).isSome = true) →
    (∀ k (h : k < xs.length) (h' : k < ys.length), xs[k].kind = ys[k].kind ∧ KnownK xs[k].kind) →
    (flatV xs = flatV ys ↔ ∀ k (h : k < xs.length) (h' : k < ys.length), EqV xs[k] ys[k])
  | [], [], _, _, _, _ => by simp
  | [], _ :: _, h, _, _, _ => by simp at h
  | _ :: _, [], h, _, _, _ => by simp at h
  | x :: xs, y :: ys, hl, hx, hy, hk => by
    have ih := flat_inj xs ys (by simpa using hl) (fun v hv => hx v (by simp [hv])) (fun v hv => hy v (by simp [hv])) (fun k h h' => hk (k + 1) (by simpa using h) (by simpa using h'))
    obtain ⟨a, ha⟩ := Option.isSome_iff_exists.1 (hx x (by simp)).2
    obtain ⟨b, hb⟩ := Option.isSome_iff_exists.1 (hy y (by simp)).2
    have h0 := hk 0 (by simp) (by simp)
    simp only [List.getElem_cons_zero] at h0
    have e1 : flatV (x :: xs) = a ++ flatV xs := by simp [flatV, ha]
    have e2 : flatV (y :: ys) = b ++ flatV ys := by simp [flatV, hb]
    rw [e1, e2]
    constructor
    · intro h k hk1 hk2
      obtain ⟨h1, h2⟩ := encV_pre (hx x (by simp)).1 (hy y (by simp)).1 h0.1 h0.2 ha hb h
      cases k with
      | zero => exact h1
      | succ k => exact ih.1 h2 k (by simpa using hk1) (by simpa using hk2)
    · intro h
      have h1 : EqV x y := h 0 (by simp) (by simp)
      have h2 := encV_eq h0.1 h0.2 h1
      rw [ha, hb] at h2
      injection h2 with h2
      rw [h2, ih.2 (fun k hk1 hk2 => h (k + 1) (by simpa using hk1) (by simpa using hk2))]
end Go.Proofs.Ytllmhablpeecfaa
