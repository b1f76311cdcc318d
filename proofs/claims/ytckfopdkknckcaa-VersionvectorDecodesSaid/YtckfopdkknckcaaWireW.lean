/- The walks of wire.Writer's methods over a plain description of a writer ('Wr'). -/
import Derived.Test.YtckfopdkknckcaaWireZ
import Derived.Lib.ConvBytes
set_option linter.unusedVariables false
set_option linter.unusedSimpArgs false
namespace Go.Proofs.Ytckfopdkknckcaa
open Go.RowKit

/-- A writer at block g: its slice v holds xs; its error is e. -/
structure Wr (w : World) (g : Nat) (v : Value) (xs : List UInt8) (e : Int) : Prop where
  blk : w.heap[g]? = some (.cells #[v, .int .i64 e] 78 (0, 0))
  row : w.ownsRow 0 5 1 v xs.length (bvs xs)

/-- What a method of the writer may turn: its block, its row; its new row lies where the old one lay, or in a new block. -/
structure WrS (w w' : World) (g : Nat) (v v' : Value) : Prop where
  kp : Kp (fun k => k = g ∨ some k = v.ownBlock) w w'
  nx : Next w v v'
/-- A method's end. -/
def WrP (w : World) (g : Nat) (v : Value) (xs : List UInt8) (e : Int) (en : Ending) (w' : World) : Prop := en = .returned (.tuple #[]) ∧ ∃ v', Wr w' g v' xs e ∧ WrS w w' g v v'
def wfl (e k : Int) : Int := if e = 0 then k else e
def wput (e : Int) (xs ys : List UInt8) : List UInt8 := if e = 0 then xs ++ ys else xs

theorem Next.refl (w : World) (v : Value) : Next w v v := .inl rfl
theorem WrS.refl (w : World) (g : Nat) (v : Value) : WrS w w g v v := ⟨Kp.refl _ _, .inl rfl⟩
theorem WrS.trans {w w1 w2 : World} {g : Nat} {v v1 v2 : Value} (h : WrS w w1 g v v1) (k : WrS w1 w2 g v1 v2) : WrS w w2 g v v2 :=
  ⟨h.kp.trans k.kp (fun i hi hf => by
    rcases hf with rfl | hf
    · exact .inl rfl
    · rcases h.nx with e | ⟨b, e, hb⟩
      · exact .inr (by rw [← e]; exact hf)
      · rw [e] at hf; injection hf with hf; omega), next_trans h.nx h.kp.size k.nx⟩
theorem WrS.of_below {w w1 : World} (h : Below w.heap.size w w1) (g : Nat) (v : Value) : WrS w w1 g v v := ⟨Kp.of_below _ h, .inl rfl⟩
section
variable {w w' : World} {g : Nat} {v : Value} {xs : List UInt8} {e : Int}
theorem Wr.lt (h : Wr w g v xs e) : g < w.heap.size := blk_lt h.blk
theorem Wr.ne_ (h : Wr w g v xs e) : v.ownBlock ≠ some g := own_blk_ne h.row h.blk (by decide)
theorem Wr.kp {F : Nat → Prop} (h : Wr w g v xs e) (hk : Kp F w w') (hg : ¬ F g) (hv : ∀ b, v.ownBlock = some b → ¬ F b) : Wr w' g v xs e := ⟨hk.blk h.blk hg, hk.own h.row hv⟩
theorem Wr.below (h : Wr w g v xs e) (hb : Below w.heap.size w w') : Wr w' g v xs e := h.kp (Kp.of_below (fun _ => False) hb) (fun h => h) (fun _ _ h => h)
theorem Wr.drewN (h : Wr w g v xs e) (n : Nat) : Wr (w.drewN n) g v xs e := ⟨h.blk, h.row⟩
theorem Wr.new (w : World) : Wr (w.alloc (.cells #[.slice none 0 0, .int .i64 0] 78)) w.heap.size (.slice none 0 0) [] 0 := ⟨blk_new _ _ _, own_nil _ _ _ _⟩
end

set_option maxHeartbeats 400000 in
theorem newWriter_any (w : World) :
    Calls Try.prog 40 #[] w fun e w' => e = .returned (.pointer (some ⟨w.heap.size, 0, none⟩)) ∧ w' = w.alloc (.cells #[.slice none 0 0, .int .i64 0] 78) := by
  go_enter Try.func40, Try.ntmps40
  go_wp2
  go_ret
  exact ⟨rfl, rfl⟩

set_option maxHeartbeats 400000 in
theorem wfail_any (g : Nat) (v : Value) (xs : List UInt8) (e k : Int) (w : World) (hw : Wr w g v xs e) :
    Calls Try.prog 53 #[.pointer (some ⟨g, 0, none⟩), .int .i64 k] w (WrP w g v xs (wfl e k)) := by
  have hc : w.cell? ⟨g, 1, none⟩ = some (.int .i64 e) := blk_cell hw.blk 1
  have hf : w.frozen? ⟨g, 1, none⟩ = false := blk_frozen hw.blk 1
  by_cases he : e = 0
  · subst he
    go_enter Try.func53, Try.ntmps53
    go_wp2
    go_end0
    refine ⟨rfl, v, ⟨blk_set hw.blk 1 _, own_setCell (p := ⟨g, 1, none⟩) hw.row hw.ne_ _⟩, (Kp.refl _ _).setCell (fun _ => .inl rfl) _, .inl rfl⟩
  · have hb : (e == 0) = false := by simpa using he
    have HE : Hid (wfl e k = e) := by unfold wfl; exact if_neg he
    clear he
    go_enter Try.func53, Try.ntmps53
    go_wp2
    go_end0
    rw [HE.out]
    exact ⟨rfl, v, hw, WrS.refl _ _ _⟩

set_option maxRecDepth 100000 in
set_option maxHeartbeats 400000 in
theorem raw_any (g : Nat) (v : Value) (xs ys : List UInt8) (e : Int) (S : Nat → Prop) (A : Option Addr) (m c : Nat) (w : World) (hw : Wr w g v xs e) (hr : Rc S w A (bvs ys)) (hm : Hid (ys.length = m)) (hl : Hid (xs.length + m ≤ 140737488355328)) :
    Calls Try.prog 54 #[.pointer (some ⟨g, 0, none⟩), .slice A m c] w (WrP w g v (wput e xs ys) e) := by
  have hc : w.cell? ⟨g, 1, none⟩ = some (.int .i64 e) := blk_cell hw.blk 1
  have hc0 : w.cell? ⟨g, 0, none⟩ = some v := blk_cell hw.blk 0
  by_cases he : e = 0
  · subst he
    obtain ⟨zs, hz⟩ : ∃ zs, zs = wput 0 xs ys := ⟨_, rfl⟩
    have HZ : Hid (zs = xs ++ ys) := by rw [hz]; rfl
    rw [← hz]
    clear hz
    obtain ⟨A0, c0, rfl, _, _⟩ := own_slice hw.row
    go_enter Try.func54, Try.ntmps54
    go_wp2_with (at_builtin; refine wpl_append_bytes 0 rfl _ _ 48 5 rfl Try.underlying48 info_u8 (.slice A0 xs.length c0) xs ys S A m c rfl rfl hw.row hr hm.out (Nat.zero_le _) hl.out ?_)
    intro v1 w1 hown1 hg1 hat1
    have hb1 := (Kp.of_grown hg1).blk hw.blk (fun e => hw.ne_ e.symm)
    have hd0 : w1.cell? ⟨g, 0, none⟩ = some (.slice A0 xs.length c0) := blk_cell hb1 0
    have hf0 : w1.frozen? ⟨g, 0, none⟩ = false := blk_frozen hb1 0
    obtain ⟨A1, c1, rfl, _, _⟩ := own_slice hown1
    have hne := own_blk_ne hown1 hb1 (by decide)
    go_wp2
    go_end0
    refine ⟨rfl, _, ⟨blk_set hb1 0 _, ?_⟩, ?_, next_step (Next.refl w _) (Nat.le_refl _) hat1⟩
    · rw [HZ.out, List.length_append]; exact own_setCell (p := ⟨g, 0, none⟩) hown1 hne _
    · exact ((Kp.of_grown hg1).mono (fun i _ h => .inr h)).setCell (fun _ => .inl rfl) _
  · have hb : (e == 0) = false := by simpa using he
    have HW : Hid (wput e xs ys = xs) := by unfold wput; exact if_neg he
    clear he
    go_enter Try.func54, Try.ntmps54
    go_wp2
    go_end0
    rw [HW.out]
    exact ⟨rfl, v, hw, WrS.refl _ _ _⟩

/-- Bytes of a string, made. -/
theorem ret_none : Ending.returned (.tuple #[]) = Ending.returned (.tuple #[]) := rfl

theorem wput_len (e : Int) (xs ys : List UInt8) : (wput e xs ys).length ≤ xs.length + ys.length := by unfold wput; split <;> simp

set_option maxHeartbeats 400000 in
theorem wuint_any (g : Nat) (v : Value) (xs : List UInt8) (e : Int) (n : Nat) (w : World) (hw : Wr w g v xs e) (hn : Hid (n < 18446744073709551616)) (hl : Hid (xs.length ≤ 1000000000000)) :
    Calls Try.prog 42 #[.pointer (some ⟨g, 0, none⟩), .int .u64 n] w (WrP w g v (wput e xs (num n)) e) := by
  go_enter Try.func42, Try.ntmps42
  go_wp2_with fail
  refine (appended_any 0 (.slice none 0 0) [] n w hn (own_nil _ _ _ _) (Nat.zero_le _) (show _ ≤ _ by simp)).mono ?_
  rintro en w1 ⟨v1, rfl, hk, hown, hnx⟩
  obtain ⟨A1, c1, rfl, _, _⟩ := own_slice hown
  have hw1 := hw.kp hk (by simp [Value.ownBlock]) (by simp [Value.ownBlock])
  go_wp2_with fail
  refine (raw_any g v xs ([] ++ num n) e _ A1 _ c1 w1 hw1 (Rc.of_own hown) rfl (by have := hl.out; have := num_len hn.out; show _ ≤ _; simp; omega)).mono ?_
  rintro en w2 ⟨rfl, v2, hw2, hs2⟩
  go_wp2_with fail
  go_end0
  exact ⟨rfl, v2, hw2, WrS.trans ⟨hk.mono (by simp [Value.ownBlock]), .inl rfl⟩ hs2⟩
end Go.Proofs.Ytckfopdkknckcaa
