/- The walk of wire.Writer's Done. -/
import Derived.Test.YtckfopdkknckcaaWireV
set_option linter.unusedVariables false
set_option linter.unusedSimpArgs false
namespace Go.Proofs.Ytckfopdkknckcaa
open Go.RowKit

theorem own_lit0 (w : World) (e : TypeId) : (w.alloc (.cells #[] e)).ownsRow w.heap.size e 1 (.slice (some ⟨w.heap.size, 0, none⟩) 0 0) ([] : List UInt8).length (bvs []) :=
  World.ownsRow_lit (base := w.heap.size) (e := e) (size := 1) w #[] 0 (Nat.le_refl _) (by simp [maxLen]) rfl

set_option maxHeartbeats 400000 in
theorem done_any (g : Nat) (v : Value) (xs : List UInt8) (e : Int) (w : World) (hw : Wr w g v xs e) :
    Calls Try.prog 43 #[.pointer (some ⟨g, 0, none⟩)] w (DoneP w e xs) := by
  have hc : w.cell? ⟨g, 1, none⟩ = some (.int .i64 e) := blk_cell hw.blk 1
  have hc0 : w.cell? ⟨g, 0, none⟩ = some v := blk_cell hw.blk 0
  have hglt := hw.lt
  by_cases he : e = 0
  · subst he
    obtain ⟨A0, c0, rfl, _, _⟩ := own_slice hw.row
    by_cases hx : 1048576 < xs.length
    · have h1 : doneE 0 xs = 2 := by unfold doneE; rw [if_neg (by simp), if_pos hx]
      have h2 : doneB 0 xs = [] := by unfold doneB; rw [h1]; rfl
      have H : Hid (DoneP w 0 xs (.returned (.tuple #[.slice none 0 0, .int .i64 2])) w) :=
        ⟨none, 0, by rw [h1, h2]; rfl, by rw [h2]; exact own_nil _ _ _ _, Below.refl _ _⟩
      clear h1 h2
      go_enter Try.func43, Try.ntmps43
      go_wp2
      go_ret2
      exact H.out
    · have h1 : doneE 0 xs = 0 := by unfold doneE; rw [if_neg (by simp), if_neg hx]
      have h2 : doneB 0 xs = xs := by unfold doneB; rw [h1]; rfl
      have H : Hid (∀ A c w', w'.ownsRow w.heap.size 5 1 (.slice A xs.length c) xs.length (bvs xs) → Below w.heap.size w w' → DoneP w 0 xs (.returned (.tuple #[.slice A xs.length c, .int .i64 0])) w') :=
        fun A c w' ho hb => ⟨A, c, by rw [h1, h2], by rw [h2]; exact ho, hb⟩
      clear h1 h2
      have hlx : Hid (xs.length ≤ 1048576) := Nat.le_of_not_lt hx
      have hr := (Rc.of_own hw.row).alloc (.cells #[] 5)
      go_enter Try.func43, Try.ntmps43
      go_wp2_with (at_builtin; refine wpl_append_bytes w.heap.size rfl _ _ 48 5 rfl Try.underlying48 info_u8 (.slice (some ⟨w.heap.size, 0, none⟩) 0 0) [] xs _ A0 xs.length c0 rfl rfl (own_lit0 w _) hr rfl (by simp) (by have := hlx.out; simp; omega) ?_)
      intro v1 w1 hown1 hg1 hat1
      have hb1 : Below w.heap.size w w1 := ((Below.refl _ _).alloc (Nat.le_refl _) _).grown hg1 (by simp) (by intro k hk; simp [Value.ownBlock] at hk; omega)
      obtain ⟨A1, c1, rfl, _, _⟩ := own_slice hown1
      go_wp2
      go_ret2
      exact H.out _ _ _ (by simpa using hown1) hb1
  · have h1 : doneE e xs = e := by unfold doneE; rw [if_pos he]
    have h2 : doneB e xs = [] := by unfold doneB; rw [h1, if_neg he]
    have H : Hid (∀ n, DoneP w e xs (.returned (.tuple #[.slice none 0 0, .int .i64 e])) (w.drewN n)) :=
      fun n => ⟨none, 0, by rw [h1, h2]; rfl, by rw [h2]; exact own_nil _ _ _ _, below_drewN (Below.refl _ _) n⟩
    have hb : (e != 0) = true := by simpa using he
    clear h1 h2 he
    go_enter Try.func43, Try.ntmps43
    go_wp2
    go_quiet (fail)
    go_wp2
    go_ret2
    exact H.out _
end Go.Proofs.Ytckfopdkknckcaa
