/- Lists of values that came in, opened. -/
import Derived.Test.YtllmhablpeecfaaOpen
import Derived.Test.YtllmhablpeecfaaLawE
set_option linter.unusedVariables false
set_option linter.unusedSimpArgs false
namespace Go.Proofs.Ytllmhablpeecfaa
open Go.RowKit

section
variable {H : Type} {enc : TypeId × Value → H} {P : Program} {w : World} {base : Nat} {spare : Nat → Bool} {held : Bool}

theorem trod_struct6 {t : TypeId} {f0 f1 f2 f3 f4 f5 : Field} {fuel : Nat} {cs : List Value} {x : DataW H × List MemPlace} (ht : P.underlying t = some (.struct #[f0, f1, f2, f3, f4, f5])) (h : DataW.trod enc P w base spare held fuel t cs = some x) :
    ∃ y0 y1 y2 y3 y4 y5 n, cs.length = P.cellsOf t ∧ DataW.trod enc P w base spare held n f0.type ((cs.drop f0.offset).take (P.cellsOf f0.type)) = some y0 ∧
      DataW.trod enc P w base spare held n f1.type ((cs.drop f1.offset).take (P.cellsOf f1.type)) = some y1 ∧ DataW.trod enc P w base spare held n f2.type ((cs.drop f2.offset).take (P.cellsOf f2.type)) = some y2 ∧
      DataW.trod enc P w base spare held n f3.type ((cs.drop f3.offset).take (P.cellsOf f3.type)) = some y3 ∧ DataW.trod enc P w base spare held n f4.type ((cs.drop f4.offset).take (P.cellsOf f4.type)) = some y4 ∧
      DataW.trod enc P w base spare held n f5.type ((cs.drop f5.offset).take (P.cellsOf f5.type)) = some y5 := by
  obtain ⟨xs, n, _, rfl, hl, hlen, hf⟩ := DataW.trod_struct ht h
  match xs, hlen with
  | [y0, y1, y2, y3, y4, y5], _ => exact ⟨y0, y1, y2, y3, y4, y5, n, hl, by simpa using hf 0 f0 rfl, by simpa using hf 1 f1 rfl, by simpa using hf 2 f2 rfl, by simpa using hf 3 f3 rfl, by simpa using hf 4 f4 rfl, by simpa using hf 5 f5 rfl⟩

theorem cells6 {cs : List Value} (h : cs.length = 6) : ∃ a b c d e f, cs = [a, b, c, d, e, f] := by
  match cs, h with
  | [a, b, c, d, e, f], _ => exact ⟨a, b, c, d, e, f, rfl⟩
end

theorem open_val {H : Type} {enc : TypeId × Value → H} {w : World} {base : Nat} {spare : Nat → Bool} {held : Bool} {fuel : Nat} {cs : List Value} {x : DataW H × List MemPlace}
    (h : DataW.trod enc Try.prog w base spare held fuel 51 cs = some x) : ∃ v : Val, cs = v.cells ∧ v.Ok := by
  obtain ⟨y0, y1, y2, y3, y4, y5, n, hl, h0, h1, h2, h3, h4, h5⟩ := trod_struct6 Try.underlying51 h
  rw [show Try.prog.cellsOf 51 = 6 from by kernel_rfl] at hl
  obtain ⟨a, b, c, d, e, f, rfl⟩ := cells6 hl
  dsimp only at h0 h1 h2 h3 h4 h5
  rw [show Try.prog.cellsOf 3 = 1 from by kernel_rfl] at h0 h2 h5
  rw [show Try.prog.cellsOf 23 = 1 from by kernel_rfl] at h1
  rw [show Try.prog.cellsOf 4 = 1 from by kernel_rfl] at h3
  rw [show Try.prog.cellsOf 9 = 1 from by kernel_rfl] at h4
  simp only [List.drop_succ_cons, List.drop_zero, List.take_succ_cons, List.take_zero] at h0 h1 h2 h3 h4 h5
  obtain ⟨k, hk, _, wk⟩ := DataW.trod_int Try.underlying3 h0
  obtain ⟨u, hu, _, wu⟩ := DataW.trod_int Try.underlying23 h1
  obtain ⟨m, hm, _, wm⟩ := DataW.trod_int Try.underlying3 h2
  obtain ⟨p, hp, _⟩ := DataW.trod_bool Try.underlying4 h3
  obtain ⟨s, hs, _, ws⟩ := DataW.trod_string Try.underlying9 h4
  obtain ⟨q, hq, _, wq⟩ := DataW.trod_int Try.underlying3 h5
  have hu2 := wf_u64 wu
  obtain ⟨u, rfl⟩ := Int.eq_ofNat_of_zero_le hu2.1
  injection hk with hk; injection hu with hu; injection hm with hm; injection hp with hp; injection hs with hs; injection hq with hq
  subst hk hu hm hp hs hq
  exact ⟨⟨k, u, m, p, s, q⟩, rfl, ⟨wf_i64 wk, by show u < _; omega, wf_i64 wm, wf_i64 wq, by simp only [maxLen] at ws; show s.size ≤ _; omega⟩⟩

theorem open_vals {H : Type} {enc : TypeId × Value → H} {w : World} {base : Nat} {spare : Nat → Bool} {held : Bool} {fuel : Nat} {cs : List Value} {x : DataW H × List MemPlace}
    (h : DataW.trod enc Try.prog w base spare held fuel 47 cs = some x) :
    ∃ (A : Option Addr) (n c : Nat) (xs : List Val), cs = [.slice A n c] ∧ xs.length = n ∧ n ≤ c ∧ c ≤ maxLen ∧ (∀ x ∈ xs, x.Ok) ∧ Rc (fun _ => True) w A (vvs xs) := by
  obtain ⟨A, n, c, css, rfl, hl, hnc, hc, _, hel, hr⟩ := open_flat Try.underlying47 h
  obtain ⟨xs, rfl, hb⟩ := all_enc Val.cells Val.Ok css (fun l hlm => by
    obtain ⟨_, m, y, hy⟩ := hel l hlm
    exact open_val hy)
  exact ⟨A, n, c, xs, rfl, by simpa using hl, hnc, hc, hb, by rw [← List.flatMap_def] at hr; exact hr⟩
end Go.Proofs.Ytllmhablpeecfaa
