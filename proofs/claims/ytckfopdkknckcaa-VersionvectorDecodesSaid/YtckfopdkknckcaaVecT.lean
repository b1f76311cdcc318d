/- Decode: plain laws. -/
import Derived.Test.YtckfopdkknckcaaVecG
import Derived.Test.YtckfopdkknckcaaVecL
import Derived.Test.YtckfopdkknckcaaWireL
set_option linter.unusedVariables false
set_option linter.unusedSimpArgs false
namespace Go.Proofs.Ytckfopdkknckcaa
open Go.RowKit

def flatI (ns : List Int) : List UInt8 := ns.flatMap fun n => num n.toNat
theorem flatI_snoc (vs : List Int) (u : Nat) : flatI (vs ++ [(u : Int)]) = flatI vs ++ num u := by unfold flatI; rw [List.flatMap_append]; simp
/-- What is known of the reader's place behind k numbers of n. -/
structure Dec (bs : List UInt8) (n k : Nat) (vs : List Int) (p : Nat) (e : Int) : Prop where
  len : vs.length = k
  ok : vs.all okN = true
  sound : e = 0 → bs.take p = num n ++ flatI vs
  full : ∀ ns, okV ns = true → bs = encI ns → n = ns.length ∧ e = 0 ∧ vs = ns.take k ∧ bs.drop p = flatI (ns.drop k)
theorem okV_len {ns : List Int} (h : okV ns = true) : ns.length ≤ 12 := by unfold okV at h; simp at h; exact h.1
theorem okV_all {ns : List Int} (h : okV ns = true) : ns.all okN = true := by unfold okV at h; exact (Bool.and_eq_true_iff.1 h).2
theorem okN_bd {x : Int} (h : okN x = true) : 0 ≤ x ∧ x ≤ 1099511627776 := of_decide_eq_true h

theorem dec_count {bs : List UInt8} {r : Value} {p l : Nat} {e : Int} (h : CountR 12 bs 0 0 0 r p l e) : ∃ n : Nat, r = .int .i64 n ∧ n ≤ 12 ∧ Dec bs n 0 [] p e := by
  unfold CountR at h
  rw [if_pos rfl, List.drop_zero] at h
  have key : ∀ ns, okV ns = true → bs = encI ns → dn 0 0 bs = some (ns.length, (num ns.length).length) := by
    intro ns h1 h2
    have := okV_len h1
    rw [h2, encI]
    exact dn_num ns.length _ (by omega)
  cases hd : dn 0 0 bs with
  | none =>
    rw [hd] at h
    obtain ⟨rfl, rfl, rfl, rfl⟩ := h
    exact ⟨0, rfl, Nat.zero_le _, rfl, rfl, fun h => by omega, fun ns h1 h2 => by have := key ns h1 h2; rw [hd] at this; cases this⟩
  | some nj =>
    obtain ⟨n, j⟩ := nj
    rw [hd] at h
    dsimp only at h
    obtain ⟨e1, e2, e3, e4⟩ := dn_inv hd
    split at h
    · rename_i hn
      obtain ⟨rfl, rfl, rfl, rfl⟩ := h
      refine ⟨n, rfl, by unfold lim at hn; omega, rfl, rfl, fun _ => ?_, fun ns h1 h2 => ?_⟩
      · rw [Nat.zero_add, e2]; simp [flatI]
      · have := key ns h1 h2
        rw [hd] at this
        injection this with this
        injection this with h5 h6
        refine ⟨h5, rfl, rfl, ?_⟩
        rw [Nat.zero_add, h6, h2, encI, List.drop_left]; rfl
    · rename_i hn
      obtain ⟨rfl, rfl, rfl, rfl⟩ := h
      refine ⟨0, rfl, Nat.zero_le _, rfl, rfl, fun h => by omega, fun ns h1 h2 => ?_⟩
      have h5 := key ns h1 h2
      have h6 := okV_len h1
      rw [hd] at h5
      injection h5 with h5
      injection h5 with h5 h7
      exfalso
      apply hn
      unfold lim
      omega

theorem dec_step {bs : List UInt8} {n k : Nat} {vs : List Int} {p l : Nat} {e : Int} {r : Value} {p' l' : Nat} {e' : Int} (hk : k < n) (h : Dec bs n k vs p e) (hu : UintR bs p l e r p' l' e') :
    ∃ u : Nat, r = .int .u64 u ∧ (u ≤ 1099511627776 → Dec bs n (k + 1) (vs ++ [(u : Int)]) p' e') ∧ (1099511627776 < u → ∀ ns, okV ns = true → ¬ bs = encI ns) := by
  unfold UintR at hu
  have hns : ∀ ns, okV ns = true → bs = encI ns → ∃ h : k < ns.length, bs.drop p = num ns[k].toNat ++ flatI (ns.drop (k + 1)) ∧ 0 ≤ ns[k] ∧ ns[k] ≤ 1099511627776 := by
    intro ns h1 h2
    obtain ⟨f1, f2, f3, f4⟩ := h.full ns h1 h2
    have hkl : k < ns.length := by omega
    have hb := okN_bd (List.all_eq_true.1 (okV_all h1) _ (List.getElem_mem hkl))
    refine ⟨hkl, ?_, hb⟩
    rw [f4]; unfold flatI
    rw [List.drop_eq_getElem_cons hkl, List.flatMap_cons]
  have bad : ∀ (u : Nat) (p' : Nat) (e' : Int), ¬ e' = 0 → (∀ ns, okV ns = true → ¬ bs = encI ns) → u = 0 → Dec bs n (k + 1) (vs ++ [(u : Int)]) p' e' := by
    intro u p' e' he hno hu0
    subst hu0
    refine ⟨by rw [List.length_append, h.len]; rfl, ?_, fun h5 => absurd h5 he, fun ns h1 h2 => absurd h2 (hno ns h1)⟩
    rw [List.all_append, h.ok]; rfl
  by_cases he : e = 0
  · rw [if_pos he] at hu
    cases hd : dn 0 0 (bs.drop p) with
    | none =>
      rw [hd] at hu
      obtain ⟨rfl, rfl, rfl, rfl⟩ := hu
      have hno : ∀ ns, okV ns = true → ¬ bs = encI ns := by
        intro ns h1 h2
        obtain ⟨hkl, h3, h4, h5⟩ := hns ns h1 h2
        rw [h3, dn_num _ _ (by omega)] at hd
        cases hd
      exact ⟨0, rfl, fun _ => bad 0 _ _ (by omega) hno rfl, fun h5 => by omega⟩
    | some uj =>
      obtain ⟨u, j⟩ := uj
      rw [hd] at hu
      obtain ⟨rfl, rfl, rfl, rfl⟩ := hu
      obtain ⟨e1, e2, e3, e4⟩ := dn_inv hd
      refine ⟨u, rfl, fun hub => ⟨by rw [List.length_append, h.len]; rfl, ?_, fun _ => ?_, fun ns h1 h2 => ?_⟩, fun hub ns h1 h2 => ?_⟩
      · rw [List.all_append, h.ok]
        simp [okN]; omega
      · rw [List.take_add, h.sound he, e2, flatI_snoc, List.append_assoc]
      · obtain ⟨hkl, h3, h4, h5⟩ := hns ns h1 h2
        obtain ⟨f1, f2, f3, f4⟩ := h.full ns h1 h2
        rw [h3, dn_num _ _ (by omega)] at hd
        injection hd with hd
        injection hd with hd1 hd2
        refine ⟨f1, rfl, ?_, ?_⟩
        · rw [List.take_succ_eq_append_getElem hkl, ← f3, ← hd1, Int.toNat_of_nonneg h4]
        · rw [← List.drop_drop, h3, ← hd2, List.drop_left]
      · obtain ⟨hkl, h3, h4, h5⟩ := hns ns h1 h2
        rw [h3, dn_num _ _ (by omega)] at hd
        injection hd with hd
        injection hd with hd1 hd2
        omega
  · rw [if_neg he] at hu
    obtain ⟨rfl, rfl, rfl, rfl⟩ := hu
    exact ⟨0, rfl, fun _ => bad 0 _ _ he (fun ns h1 h2 => he (h.full ns h1 h2).2.1) rfl, fun h5 => by omega⟩

theorem norm_last {vs : List Int} (h : vs = [] ∨ ∃ j, vs.length = j + 1 ∧ ¬ vs.getD j 0 = 0) : normL vs = vs := by
  rcases h with rfl | ⟨j, h1, h2⟩
  · rfl
  · unfold normL; rw [h1, nlen, if_neg h2, ← h1, List.take_length]
theorem last_norm {vs : List Int} {j : Nat} (h : normL vs = vs) (hj : vs.length = j + 1) : ¬ vs.getD j 0 = 0 := by
  intro h0
  have h2 : (normL vs).length ≤ j := by
    unfold normL
    rw [hj, nlen, if_pos h0, List.length_take]
    exact Nat.le_trans (Nat.min_le_left _ _) (nlen_le vs j)
  rw [h] at h2; omega
/-- What Decode gives. -/
def DecR (bs : List UInt8) (r : List Int × Int) : Prop :=
  (r.2 = 0 → bs = encI r.1 ∧ okV r.1 = true ∧ normL r.1 = r.1) ∧ (¬ r.2 = 0 → r = ([], 3)) ∧ ∀ ns, okV ns = true → normL ns = ns → bs = encI ns → r = (ns, 0)
end Go.Proofs.Ytckfopdkknckcaa
