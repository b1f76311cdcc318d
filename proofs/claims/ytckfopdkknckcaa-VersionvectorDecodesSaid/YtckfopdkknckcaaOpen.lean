/- Arguments read as data, opened into the words of Core: a slice of whatever elements, bytes, integers. -/
import Derived.Test.YtckfopdkknckcaaCore
import Derived.Deep.Slices
import Derived.ProofKit
import Derived.OpenShut
import Derived.ShutString
import Derived.ChangeOld
set_option linter.unusedVariables false
set_option linter.unusedSimpArgs false
namespace Go.Proofs.Ytckfopdkknckcaa
open Go.RowKit

theorem flatten_at {α : Type} (size : Nat) : ∀ (css : List (List α)), (∀ l ∈ css, l.length = size) → ∀ (j : Nat) (u : α), css.flatten[j]? = some u → 0 < size ∧ ∃ l, css[j / size]? = some l ∧ l[j % size]? = some u
  | [], _, j, u, h => by simp at h
  | c :: css, hl, j, u, h => by
    have hc : c.length = size := hl c (by simp)
    rw [List.flatten_cons] at h
    rcases Nat.lt_or_ge j c.length with hj | hj
    · rw [List.getElem?_append_left hj] at h
      refine ⟨by omega, c, ?_, ?_⟩
      · rw [Nat.div_eq_of_lt (by omega)]; rfl
      · rw [Nat.mod_eq_of_lt (by omega)]; exact h
    · rw [List.getElem?_append_right hj] at h
      obtain ⟨hs, l, h1, h2⟩ := flatten_at size css (fun l hm => hl l (by simp [hm])) (j - c.length) u h
      refine ⟨hs, l, ?_, ?_⟩
      · have : j / size = (j - c.length) / size + 1 := by
          rw [hc]
          conv => lhs; rw [show j = (j - size) + size by omega, Nat.add_div_right _ hs]
        rw [this, List.getElem?_cons_succ]; exact h1
      · have : j % size = (j - c.length) % size := by
          rw [hc]
          conv => lhs; rw [show j = (j - size) + size by omega, Nat.add_mod_right]
        rw [this]; exact h2

section
variable {H : Type} {enc : TypeId × Value → H} {P : Program} {w : World} {base : Nat} {spare : Nat → Bool} {held : Bool}

/-- A slice, opened: its elements' cells one behind the other. -/
theorem open_flat {t e : TypeId} {fuel : Nat} {cs : List Value} {x : DataW H × List MemPlace} (ht : P.underlying t = some (.slice e)) (h : DataW.trod enc P w base spare held fuel t cs = some x) :
    ∃ (A : Option Addr) (n c : Nat) (css : List (List Value)), cs = [.slice A n c] ∧ css.length = n ∧ n ≤ c ∧ c ≤ maxLen ∧ (A = none → c = 0) ∧
      (∀ l ∈ css, l.length = P.cellsOf e ∧ ∃ m y, DataW.trod enc P w base spare held m e l = some y) ∧ Rc (fun _ => True) w A css.flatten := by
  rcases Go.Deep.open_slice ht h with ⟨rfl, _⟩ | ⟨a, len, cap, m, n, D, Pl, rfl, hb, hl, hm, hmm, rfl, hx⟩
  · exact ⟨none, 0, 0, [], rfl, rfl, Nat.le_refl _, Nat.zero_le _, fun _ => rfl, fun l h => by simp at h, Rc.nil _ _ _⟩
  · have hlm : len ≤ m := by rw [hmm]; split <;> omega
    obtain ⟨f, hf⟩ := Go.Deep.choose_lt (α := List Value) (n := len) (p := fun i cs' => w.cells? base (a.add (i * P.cellsOf e)) (P.cellsOf e) = some cs' ∧ DataW.trod enc P w base spare held n e cs' = some (D i, Pl i)) (fun i hi => hx i (by omega))
    have hlen : ∀ l ∈ (List.range len).map f, l.length = P.cellsOf e := by
      intro l hl
      obtain ⟨i, hi, rfl⟩ := List.mem_map.1 hl
      exact (World.cells?_some (hf i (List.mem_range.1 hi)).1).2.1
    refine ⟨some a, len, cap, (List.range len).map f, rfl, by simp, hl, hm, (by simp), fun l hlm => ?_, fun _ => ⟨a, rfl, trivial, fun j u hu => ?_⟩⟩
    · obtain ⟨i, hi, rfl⟩ := List.mem_map.1 hlm
      exact ⟨hlen _ hlm, n, _, (hf i (List.mem_range.1 hi)).2⟩
    · obtain ⟨hs, l, h1, h2⟩ := flatten_at (P.cellsOf e) _ hlen j u hu
      have hi : j / P.cellsOf e < len := by
        rcases Nat.lt_or_ge (j / P.cellsOf e) len with h | h
        · exact h
        · rw [List.getElem?_eq_none (by simpa using h)] at h1; cases h1
      have hl' : f (j / P.cellsOf e) = l := by
        rw [List.getElem?_map, List.getElem?_range hi] at h1
        simpa using h1
      have hcell := (World.cells?_some (hf _ hi).1).2.2 (j % P.cellsOf e) (Nat.mod_lt _ hs)
      rw [hl'] at hcell
      rw [add_add] at hcell
      have hj : j / P.cellsOf e * P.cellsOf e + j % P.cellsOf e = j := by rw [Nat.mul_comm]; exact Nat.div_add_mod j _
      rw [hj] at hcell
      rw [hcell]
      exact h2

theorem all_enc {α : Type} (e : α → List Value) (p : α → Prop) : ∀ (css : List (List Value)), (∀ l ∈ css, ∃ x, l = e x ∧ p x) → ∃ xs : List α, css = xs.map e ∧ ∀ x ∈ xs, p x
  | [], _ => ⟨[], rfl, fun x h => by simp at h⟩
  | c :: css, h => by
    obtain ⟨x, hx, hp⟩ := h c (by simp)
    obtain ⟨xs, hxs, hps⟩ := all_enc e p css (fun l hl => h l (by simp [hl]))
    refine ⟨x :: xs, by rw [hx, hxs]; rfl, fun y hy => ?_⟩
    rcases List.mem_cons.1 hy with rfl | hy
    · exact hp
    · exact hps y hy

theorem wf_u8 {k : Int} (h : (Lit.int .u8 k).wf = true) : 0 ≤ k ∧ k ≤ 255 := by simpa [Lit.wf, IntKind.min, IntKind.max, IntKind.signed, IntKind.bits] using h
theorem wf_u64 {k : Int} (h : (Lit.int .u64 k).wf = true) : 0 ≤ k ∧ k ≤ 18446744073709551615 := by simpa [Lit.wf, IntKind.min, IntKind.max, IntKind.signed, IntKind.bits] using h
theorem wf_i64 {k : Int} (h : (Lit.int .i64 k).wf = true) : -9223372036854775808 ≤ k ∧ k ≤ 9223372036854775807 := by simpa [Lit.wf, IntKind.min, IntKind.max, IntKind.signed, IntKind.bits] using h

theorem flatten_singles {α : Type} (f : α → Value) (xs : List α) : (xs.map fun x => [f x]).flatten = xs.map f := by
  induction xs with
  | nil => rfl
  | cons x xs ih => simp [ih]

theorem open_bytes {t e : TypeId} {fuel : Nat} {cs : List Value} {x : DataW H × List MemPlace} (ht : P.underlying t = some (.slice e)) (he : P.underlying e = some (.int .u8)) (h : DataW.trod enc P w base spare held fuel t cs = some x) :
    ∃ (A : Option Addr) (n c : Nat) (xs : List UInt8), cs = [.slice A n c] ∧ xs.length = n ∧ n ≤ c ∧ c ≤ maxLen ∧ Rc (fun _ => True) w A (bvs xs) := by
  obtain ⟨A, n, c, css, rfl, hl, hnc, hc, _, hel, hr⟩ := open_flat ht h
  obtain ⟨xs, rfl, _⟩ := all_enc (fun b : UInt8 => [bv b]) (fun _ => True) css (fun l hlm => by
    obtain ⟨_, m, y, hy⟩ := hel l hlm
    obtain ⟨k, rfl, _, hwf⟩ := DataW.trod_int he hy
    have hk := wf_u8 hwf
    refine ⟨UInt8.ofNat k.toNat, ?_, trivial⟩
    show [Value.int .u8 k] = [bv _]
    rw [← bv_of k.toNat (by omega), Int.toNat_of_nonneg hk.1])
  exact ⟨A, n, c, xs, rfl, by simpa using hl, hnc, hc, by rw [flatten_singles] at hr; exact hr⟩

def ivs (xs : List Int) : List Value := xs.map (Value.int .i64)
theorem open_i64s {t e : TypeId} {fuel : Nat} {cs : List Value} {x : DataW H × List MemPlace} (ht : P.underlying t = some (.slice e)) (he : P.underlying e = some (.int .i64)) (h : DataW.trod enc P w base spare held fuel t cs = some x) :
    ∃ (A : Option Addr) (n c : Nat) (xs : List Int), cs = [.slice A n c] ∧ xs.length = n ∧ n ≤ c ∧ c ≤ maxLen ∧ (∀ x ∈ xs, -9223372036854775808 ≤ x ∧ x ≤ 9223372036854775807) ∧ Rc (fun _ => True) w A (ivs xs) := by
  obtain ⟨A, n, c, css, rfl, hl, hnc, hc, _, hel, hr⟩ := open_flat ht h
  obtain ⟨xs, rfl, hb⟩ := all_enc (fun k : Int => [Value.int .i64 k]) (fun x => -9223372036854775808 ≤ x ∧ x ≤ 9223372036854775807) css (fun l hlm => by
    obtain ⟨_, m, y, hy⟩ := hel l hlm
    obtain ⟨k, rfl, _, hwf⟩ := DataW.trod_int he hy
    exact ⟨k, rfl, wf_i64 hwf⟩)
  exact ⟨A, n, c, xs, rfl, by simpa using hl, hnc, hc, hb, by rw [flatten_singles] at hr; exact hr⟩
end
end Go.Proofs.Ytckfopdkknckcaa
