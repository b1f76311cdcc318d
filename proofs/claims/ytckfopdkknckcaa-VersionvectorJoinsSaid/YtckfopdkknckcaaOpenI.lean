/- Opening a slice of slices of numbers. -/
import Derived.Test.YtckfopdkknckcaaOpen
import Derived.Test.YtckfopdkknckcaaVecS
set_option linter.unusedVariables false
namespace Go.Proofs.Ytckfopdkknckcaa
open Go.ChangeShapes Go.WideShapes Go.ChangeAt Go.RowKit
open Go.ChangeMaps (open_string shut_string)
section
variable {H : Type} {enc : TypeId × Value → H} {P : Program} {w : World} {base : Nat} {spare : Nat → Bool} {held : Bool}
theorem open_intss {t e e2 : TypeId} {fuel : Nat} {cs : List Value} {x : DataW H × List MemPlace} (ht : P.underlying t = some (.slice e)) (he : P.underlying e = some (.slice e2)) (he2 : P.underlying e2 = some (.int .i64)) (h : DataW.trod enc P w base spare held fuel t cs = some x) :
    ∃ (A : Option Addr) (n c : Nat) (ls : List (List Int)), cs = [.slice A n c] ∧ ls.length = n ∧ n ≤ c ∧ c ≤ maxLen ∧ (∀ x ∈ ls, x.length ≤ maxLen) ∧ RlC (fun _ => True) w A ls := by
  obtain ⟨A, n, c, css, rfl, hl, hnc, hc, _, hel, hr⟩ := open_flat ht h
  obtain ⟨ts, rfl, hb⟩ := all_enc (fun k : Option Addr × Nat × List Int => [Value.slice k.1 k.2.2.length k.2.1]) (fun k => k.2.2.length ≤ k.2.1 ∧ k.2.1 ≤ maxLen ∧ Rc (fun _ => True) w k.1 (ivs k.2.2)) css (fun l hlm => by
    obtain ⟨_, m, y, hy⟩ := hel l hlm
    obtain ⟨A', n', c', xs, rfl, h1, h2, h3, _, h4⟩ := open_i64s he he2 hy
    subst h1
    exact ⟨(A', c', xs), rfl, h2, h3, h4⟩)
  rw [flatten_singles] at hr
  refine ⟨A, n, c, ts.map (·.2.2), rfl, by simpa using hl, hnc, hc, ?_, ?_⟩
  · intro x hx
    obtain ⟨k, hk, rfl⟩ := List.mem_map.1 hx
    have := hb k hk
    omega
  · intro i hi
    have hi' : i < ts.length := by simpa using hi
    obtain ⟨ad, rfl, _, hcell⟩ := hr.at_ (k := i) (u := .slice ts[i].1 ts[i].2.2.length ts[i].2.1) (by simp [hi'])
    have hk := hb ts[i] (List.getElem_mem hi')
    refine ⟨ad, ts[i].1, ts[i].2.1, rfl, ?_, ?_, ?_⟩
    · simpa using hcell
    · simpa using hk.2.2
    · simpa using hk.1
end
end Go.Proofs.Ytckfopdkknckcaa
