/- WireCanonical: plain laws, and a reader and a writer side by side. -/
import Derived.Test.YtllmhablpeecfaaLawM
import Derived.Test.YtllmhablpeecfaaLawI
set_option linter.unusedVariables false
set_option linter.unusedSimpArgs false
namespace Go.Proofs.Ytllmhablpeecfaa
open Go.RowKit

theorem V0_ok {k mo : Int} (hk : KnownK k) (hm : -9223372036854775808 ≤ mo ∧ mo ≤ 9223372036854775807) : (V0 k mo).Ok := by
  unfold KnownK at hk
  exact ⟨by constructor <;> show _ ≤ _ <;> dsimp only [V0] <;> omega, by show 0 < _; omega, by constructor <;> (show _ ≤ _; dsimp only [V0]; omega), hm, Nat.zero_le _⟩

/-- A value that was read is a value. -/
theorem getF_ok {k mo : Int} {xs : List UInt8} {p l : Nat} {e : Int} (hk : KnownK k) (hm : -9223372036854775808 ≤ mo ∧ mo ≤ 9223372036854775807) (hx : xs.length ≤ 9223372036854775807) :
    (getF k mo xs p l e).1.Ok ∧ (getF k mo xs p l e).1.s.size ≤ xs.length := by
  have h0 := V0_ok (mo := mo) hk hm
  have hz : (V0 k mo).s.size ≤ xs.length := Nat.zero_le _
  by_cases he : e = 0
  case neg => rw [getF_err he]; exact ⟨h0, hz⟩
  subst he
  have hu : ∀ n, n < 18446744073709551616 → ({ V0 k mo with u := n } : Val).Ok := fun n h => ⟨h0.k, h, h0.n, h0.m, h0.s⟩
  have hn : ∀ n : Int, -9223372036854775808 ≤ n ∧ n ≤ 9223372036854775807 → ({ V0 k mo with n := n } : Val).Ok := fun n h => ⟨h0.k, h0.u, h, h0.m, h0.s⟩
  have hs : ∀ ys : List UInt8, ys.length ≤ xs.length → ({ V0 k mo with s := mkS ys } : Val).Ok ∧ ({ V0 k mo with s := mkS ys } : Val).s.size ≤ xs.length := fun ys h => by
    have h2 : (mkS ys).size = ys.length := mkS_size ys
    exact ⟨⟨h0.k, h0.u, h0.n, h0.m, by show (mkS ys).size ≤ _; omega⟩, by show (mkS ys).size ≤ _; omega⟩
  rcases known_cases hk with rfl | rfl | rfl | rfl | rfl | rfl | rfl
  · rw [getF_1]
    cases hd : dn 0 0 (xs.drop p) with
    | none => exact ⟨h0, hz⟩
    | some r => exact ⟨hu _ (dn_inv hd).2.2.2, hz⟩
  · rw [getF_2]
    cases hd : dn 0 0 (xs.drop p) with
    | none => exact ⟨h0, hz⟩
    | some r => exact ⟨hn _ (unzz_bd (dn_inv hd).2.2.2), hz⟩
  · rw [getF_3]
    cases hd : xs.drop p with
    | nil => exact ⟨h0, hz⟩
    | cons b t =>
      dsimp only
      split
      · exact ⟨h0, hz⟩
      · exact ⟨⟨h0.k, h0.u, h0.n, h0.m, h0.s⟩, hz⟩
  · rw [getF_45 (.inl rfl)]
    cases hd : dn 0 0 (xs.drop p) with
    | none => exact ⟨h0, hz⟩
    | some r =>
      dsimp only
      split
      · split
        · exact hs _ (by simp; omega)
        · exact ⟨h0, hz⟩
      · exact ⟨h0, hz⟩
  · rw [getF_45 (.inr rfl)]
    cases hd : dn 0 0 (xs.drop p) with
    | none => exact ⟨h0, hz⟩
    | some r =>
      dsimp only
      split
      · split
        · exact hs _ (by simp; omega)
        · exact ⟨h0, hz⟩
      · exact ⟨h0, hz⟩
  · rw [getF_6]
    split
    · exact hs _ (by simp; omega)
    · exact ⟨h0, hz⟩
  · rw [getF_7]
    cases hd : dn 0 0 (xs.drop p) with
    | none => exact ⟨h0, hz⟩
    | some r =>
      dsimp only
      split
      · rename_i hl
        exact ⟨hn _ (by unfold lim at hl; omega), hz⟩
      · exact ⟨h0, hz⟩

theorem encV_len2 {v : Val} (hv : v.Ok) (hs : v.s.size ≤ 1000) {ys : List UInt8} (h : encV v = some ys) : ys.length ≤ 1010 := by
  have h1 := num_len hv.u
  have h2 := num_len (zz_lt hv.n.1 hv.n.2)
  have h3 := num_len (n := v.s.size) (by omega)
  have h4 := num_len (n := v.n.toNat) (by have := hv.n.2; omega)
  have h5 := sb_length v.s
  unfold encV at h
  split at h
  · injection h with h; subst h; omega
  split at h
  · injection h with h; subst h; omega
  split at h
  · injection h with h; subst h; simp
  split at h
  · injection h with h; subst h; simp; omega
  split at h
  · injection h with h; subst h; simp; omega
  split at h
  · split at h
    · injection h with h; subst h; omega
    · cases h
  split at h
  · split at h
    · injection h with h; subst h; omega
    · cases h
  · injection h with h; subst h; simp
theorem putX_len2 {v : Val} (hv : v.Ok) (hs : v.s.size ≤ 1000) (xs : List UInt8) (e : Int) : (putX (encV v) xs e).length ≤ xs.length + 1010 := by
  cases h : encV v with
  | none => show xs.length ≤ _; omega
  | some ys =>
    have := encV_len2 hv hs h
    have h2 := wput_len e xs ys
    show (wput e xs ys).length ≤ _
    omega

/-- What is known of the writer while the reader has no error. -/
def Canon (bs : List UInt8) (p : Nat) (e : Int) (ys : List UInt8) (we : Int) : Prop := e = 0 → ys = bs.take p ∧ we = 0
theorem canon_step {k mo : Int} {bs ys : List UInt8} {p l : Nat} {e we : Int} (hk : KnownK k) (hp : p ≤ bs.length) (h : Canon bs p e ys we) :
    Canon bs (getF k mo bs p l e).2.1 (getF k mo bs p l e).2.2.2 (putX (encV (getF k mo bs p l e).1) ys we) (putE (encV (getF k mo bs p l e).1) we) := by
  by_cases he : e = 0
  case neg => rw [getF_err he]; exact fun h0 => absurd h0 he
  subst he
  intro h0
  obtain ⟨h1, h2⟩ := h rfl
  obtain ⟨a, ha, ht⟩ := (getF_canon (mo := mo) (l := l) hk hp).2 h0
  rw [ha, h2, ht, h1]
  exact ⟨rfl, rfl⟩

/-- A reader and a writer that share nothing; all is above B. -/
structure RW (B : Nat) (w1 w : World) (g g2 : Nat) (v v2 : Value) (xs : List UInt8) (p l : Nat) (e : Int) (ys : List UInt8) (we : Int) : Prop where
  rd : Rd w g v xs p l e
  wr : Wr w g2 v2 ys we
  bl : Below B w1 w
  bw : B ≤ w1.heap.size
  bg : B ≤ g
  bg2 : B ≤ g2
  vb : ∀ b, v2.ownBlock = some b → B ≤ b ∧ v.ownBlock ≠ some b
theorem RW.ne {B : Nat} {w1 w : World} {g g2 : Nat} {v v2 : Value} {xs : List UInt8} {p l : Nat} {e : Int} {ys : List UInt8} {we : Int} (h : RW B w1 w g g2 v v2 xs p l e ys we) : g ≠ g2 := blk_ne h.rd.blk h.wr.blk (by decide)
theorem RW.get {B : Nat} {w1 w w3 : World} {g g2 : Nat} {v v2 : Value} {xs : List UInt8} {p l : Nat} {e : Int} {ys : List UInt8} {we : Int} (h : RW B w1 w g g2 v v2 xs p l e ys we)
    {p' l' : Nat} {e' : Int} (hr : Rd w3 g v xs p' l' e') (hk : Kp (fun k => k = g) w w3) : RW B w1 w3 g g2 v v2 xs p' l' e' ys we :=
  ⟨hr, h.wr.kp hk (fun e => h.ne e.symm) (fun b hb e => own_blk_ne h.wr.row h.rd.blk (by decide) (by rw [hb, e])),
   h.bl.trans (hk.below (Nat.le_trans h.bw h.bl.size) (fun k h1 h2 => by have := h.bg; omega)), h.bw, h.bg, h.bg2, h.vb⟩
theorem RW.put {B : Nat} {w1 w w3 : World} {g g2 : Nat} {v v2 v2' : Value} {xs : List UInt8} {p l : Nat} {e : Int} {ys : List UInt8} {we : Int} (h : RW B w1 w g g2 v v2 xs p l e ys we)
    {ys' : List UInt8} {we' : Int} (hr : Wr w3 g2 v2' ys' we') (hs : WrS w w3 g2 v2 v2') : RW B w1 w3 g g2 v v2' xs p l e ys' we' := by
  have h1 : B ≤ w.heap.size := Nat.le_trans h.bw h.bl.size
  refine ⟨h.rd.kp hs.kp ?_ ?_, hr, h.bl.trans (hs.kp.below h1 ?_), h.bw, h.bg, h.bg2, ?_⟩
  · rintro (e | e)
    · exact h.ne e
    · exact own_blk_ne h.wr.row h.rd.blk (by decide) e.symm
  · rintro b hb (e | e)
    · exact own_blk_ne h.rd.row h.wr.blk (by decide) (by rw [hb, e])
    · exact (h.vb b e.symm).2 hb
  · rintro k hk (e | e)
    · have := h.bg2; omega
    · have := (h.vb k e.symm).1; omega
  · intro b hb
    rcases hs.nx with e | ⟨b2, e, hb2⟩
    · exact h.vb b (by rw [← e]; exact hb)
    · rw [e] at hb; injection hb with hb
      exact ⟨by omega, fun h2 => by have := (own_lt h.rd.row h2).2; omega⟩
theorem RW.drew {B : Nat} {w1 w : World} {g g2 : Nat} {v v2 : Value} {xs : List UInt8} {p l : Nat} {e : Int} {ys : List UInt8} {we : Int} (h : RW B w1 w g g2 v v2 xs p l e ys we) : RW B w1 w.drew g g2 v v2 xs p l e ys we :=
  ⟨⟨h.rd.blk, h.rd.row, h.rd.le, h.rd.ll⟩, ⟨h.wr.blk, h.wr.row⟩, below_drewN h.bl 1, h.bw, h.bg, h.bg2, h.vb⟩
theorem c05_bl {B : Nat} {w w' : World} {a : Addr} {k m : Int} (h : w.cell? a = some (.int .i64 k) ∧ w.cell? ⟨a.block, a.off + 5, none⟩ = some (.int .i64 m)) (hk : Below B w w') (hg : a.block < B) :
    w'.cell? a = some (.int .i64 k) ∧ w'.cell? ⟨a.block, a.off + 5, none⟩ = some (.int .i64 m) := by
  have e := hk.block a.block hg
  exact ⟨(World.cell?_of_block (w := w) e).trans h.1, (World.cell?_of_block (a := ⟨a.block, _, none⟩) (w := w) e).trans h.2⟩
end Go.Proofs.Ytllmhablpeecfaa
