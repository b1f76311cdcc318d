/- Lists of values that came in; the walks of small, encoded, the reference's Encode. -/
import Derived.Test.YtllmhablpeecfaaLawP
set_option linter.unusedVariables false
set_option linter.unusedSimpArgs false
namespace Go.Proofs.Ytllmhablpeecfaa
open Go.RowKit

theorem flatMap_get {α : Type} (f : α → List Value) (sz : Nat) (hf : ∀ x, (f x).length = sz) : ∀ (xs : List α) (k j : Nat) (h : k < xs.length), j < sz → (xs.flatMap f)[k * sz + j]? = (f xs[k])[j]?
  | [], k, j, h, _ => by simp at h
  | x :: xs, 0, j, _, hj => by
    simp only [List.flatMap_cons, List.getElem_cons_zero, Nat.zero_mul, Nat.zero_add]
    rw [List.getElem?_append_left (by rw [hf]; exact hj)]
  | x :: xs, k + 1, j, h, hj => by
    simp only [List.flatMap_cons, List.getElem_cons_succ]
    rw [List.getElem?_append_right (by rw [hf, Nat.succ_mul]; omega), hf, show (k + 1) * sz + j - sz = k * sz + j by rw [Nat.succ_mul]; omega]
    exact flatMap_get f sz hf xs k j (by simpa using h) hj

def vvs (xs : List Val) : List Value := xs.flatMap Val.cells
theorem vvs_ne {xs : List Val} (h : 0 < xs.length) : vvs xs ≠ [] := by
  obtain ⟨x, t, rfl⟩ := List.exists_cons_of_length_pos h
  simp [vvs, Val.cells]
/-- The six cells of element k, as the walk spells their places. -/
structure AtV (w : World) (a : Addr) (x : Val) : Prop where
  c0 : w.cell? a = some (.int .i64 x.kind)
  c1 : w.cell? ⟨a.block, a.off + 1, none⟩ = some (.int .u64 x.u)
  c2 : w.cell? ⟨a.block, a.off + 2, none⟩ = some (.int .i64 x.n)
  c3 : w.cell? ⟨a.block, a.off + 3, none⟩ = some (.bool x.b)
  c4 : w.cell? ⟨a.block, a.off + 4, none⟩ = some (.string x.s)
  c5 : w.cell? ⟨a.block, a.off + 5, none⟩ = some (.int .i64 x.most)
theorem vvs_at {S : Nat → Prop} {w : World} {A : Option Addr} {xs : List Val} (hr : Rc S w A (vvs xs)) {k : Nat} (hk : k < xs.length) : ∃ ad, A = some ad ∧ S ad.block ∧ AtV w (ad.add (k * 6)) xs[k] := by
  obtain ⟨ad, rfl, hb, hc⟩ := hr (vvs_ne (by omega))
  have key : ∀ j, j < 6 → ∀ u, (xs[k].cells)[j]? = some u → w.cell? (ad.add (k * 6 + j)) = some u := fun j hj u hu => hc _ _ (by
    unfold vvs; rw [flatMap_get Val.cells 6 (fun _ => rfl) xs k j hk hj]; exact hu)
  refine ⟨ad, rfl, hb, ?_, ?_, ?_, ?_, ?_, ?_⟩
  · exact key 0 (by omega) _ rfl
  · rw [← add_field _ _ _ (by omega)]; exact key 1 (by omega) _ rfl
  · rw [← add_field _ _ _ (by omega)]; exact key 2 (by omega) _ rfl
  · rw [← add_field _ _ _ (by omega)]; exact key 3 (by omega) _ rfl
  · rw [← add_field _ _ _ (by omega)]; exact key 4 (by omega) _ rfl
  · rw [← add_field _ _ _ (by omega)]; exact key 5 (by omega) _ rfl
theorem AtV.kp {w w' : World} {a : Addr} {x : Val} {F : Nat → Prop} (h : AtV w a x) (hk : Kp F w w') (hf : ¬ F a.block) : AtV w' a x := by
  have hb := World.block_lt_of_cell? w _ h.c0
  exact ⟨(hk.cell hb hf).trans h.c0, (hk.cell (p := ⟨a.block, _, none⟩) hb hf).trans h.c1, (hk.cell (p := ⟨a.block, _, none⟩) hb hf).trans h.c2,
    (hk.cell (p := ⟨a.block, _, none⟩) hb hf).trans h.c3, (hk.cell (p := ⟨a.block, _, none⟩) hb hf).trans h.c4, (hk.cell (p := ⟨a.block, _, none⟩) hb hf).trans h.c5⟩

def smallB (xs : List Val) : Bool := decide (xs.length ≤ 40 ∧ ∀ x ∈ xs, x.s.size ≤ 400)

set_option maxHeartbeats 400000 in
theorem small_any (xs : List Val) (S : Nat → Prop) (A : Option Addr) (m c : Nat) (w : World) (hr : Rc S w A (vvs xs)) (hm : Hid (xs.length = m)) (hml : Hid (m ≤ 9223372036854775807)) (hok : Hid (∀ x ∈ xs, x.Ok)) :
    Calls Try.prog 29 #[.slice A m c] w fun e w' => e = .returned (.bool (smallB xs)) ∧ w = w' := by
  obtain ⟨r, hr'⟩ : ∃ r, r = smallB xs := ⟨_, rfl⟩
  have HR := Lib.hid hr'
  rw [← hr']
  clear hr'
  go_enter Try.func29, Try.ntmps29
  go_wp2
  go_loopw [3] (fun i wr => ∃ k : Nat, i = .int .i64 k ∧ k ≤ m ∧ w = wr ∧ Hid (∀ j (h : j < xs.length), j < k → xs[j].s.size ≤ 400)) (fun i _ => m - (intOf i).toNat)
  case atStart => exact ⟨0, rfl, Nat.zero_le _, rfl, fun j hj h => absurd h (by omega)⟩
  case round =>
    obtain ⟨k, rfl, hk, rfl, hjs⟩ := hrel
    by_cases hlt : k < m
    · have hkl : k < xs.length := by have := hm.out; omega
      obtain ⟨x, hx⟩ : ∃ x, x = xs[k] := ⟨_, rfl⟩
      obtain ⟨ad, rfl, _, hat⟩ := vvs_at hr (k := k) (by omega)
      rw [← hx] at hat
      have hc4 := hat.c4
      have HX := Lib.hid hx
      have hb64 : IntKind.i64.wrap ((k : Int) + 1) = (k : Int) + 1 := by have := hml.out; rw [IntKind.wrap_i64]; omega
      have hb65 : wrap64 ((k : Int) + 1) = (k : Int) + 1 := by have := hml.out; unfold wrap64; omega
      clear hx hat
      by_cases h4 : 400 < x.s.size
      · have HF : Hid (r = false) := by
          show _ = _
          rw [HR.out]; unfold smallB
          rw [decide_eq_false_iff_not]
          intro h
          have := h.2 x (by rw [HX.out]; exact List.getElem_mem _)
          omega
        go_wp2
        go_ret
        exact ⟨ret_bool HF.out.symm, rfl⟩
      · have hj2 : Hid (∀ j (h : j < xs.length), j < k + 1 → xs[j].s.size ≤ 400) := fun j hj h => by
          rcases Nat.lt_or_ge j k with h' | h'
          · exact hjs.out j hj h'
          · obtain rfl : j = k := by omega
            have := HX.out
            rw [← this]; omega
        go_wp2
        go_roundw
        case rel => exact ⟨k + 1, by go_num, by omega, by first | rfl | trivial, hj2⟩
        case measure => simp [intOf]; omega
    · have HF : Hid (r = decide (m ≤ 40)) := by
        show _ = _
        rw [HR.out]; unfold smallB
        rw [decide_eq_decide, hm.out]
        constructor
        · exact fun h => h.1
        · refine fun h => ⟨h, fun x hx => ?_⟩
          obtain ⟨j, hj, rfl⟩ := List.getElem_of_mem hx
          exact hjs.out j hj (by have := hm.out; omega)
      go_wp2
      go_ret
      exact ⟨ret_bool (by rw [HF.out]; simp; omega), rfl⟩

/-- What the writer holds behind the values, and its error. -/
def encW (vs : List Val) : List UInt8 × Int := vs.foldl (fun st v => (putX (encV v) st.1 st.2, putE (encV v) st.2)) ([], 0)
theorem encW_snoc (vs : List Val) (v : Val) : encW (vs ++ [v]) = (putX (encV v) (encW vs).1 (encW vs).2, putE (encV v) (encW vs).2) := by unfold encW; rw [List.foldl_append]; rfl
def encE (vs : List Val) : Int := doneE (encW vs).2 (encW vs).1
def encB (vs : List Val) : List UInt8 := doneB (encW vs).2 (encW vs).1
theorem encV_len {v : Val} (hv : v.Ok) (hs : v.s.size ≤ 400) {ys : List UInt8} (h : encV v = some ys) : ys.length ≤ 410 := by
  have h1 := num_len hv.u
  have h2 := num_len (zz_lt hv.n.1 hv.n.2)
  have h3 := num_len (n := v.s.size) (by omega)
  have h4 := num_len (n := v.n.toNat) (by have := hv.n.2; omega)
  have h5 := sb_length v.s
  unfold encV at h
  split at h
  · injection h with h; subst h; omega
  split at h
  · injection h with h; subst h; omega
  split at h
  · injection h with h; subst h; simp
  split at h
  · injection h with h; subst h; simp; omega
  split at h
  · injection h with h; subst h; simp; omega
  split at h
  · split at h
    · injection h with h; subst h; omega
    · cases h
  split at h
  · split at h
    · injection h with h; subst h; omega
    · cases h
  · injection h with h; subst h; simp
theorem putX_len {v : Val} (hv : v.Ok) (hs : v.s.size ≤ 400) (xs : List UInt8) (e : Int) : (putX (encV v) xs e).length ≤ xs.length + 410 := by
  cases h : encV v with
  | none => show xs.length ≤ _; omega
  | some ys =>
    have := encV_len hv hs h
    have h2 := wput_len e xs ys
    show (wput e xs ys).length ≤ _
    omega

/-- The end of a call that gives bytes and an error. -/
def BytesE (w : World) (ys : List UInt8) (e : Int) (en : Ending) (w' : World) : Prop :=
  ∃ A c, en = .returned (.tuple #[.slice A ys.length c, .int .i64 e]) ∧ w'.ownsRow w.heap.size 5 1 (.slice A ys.length c) ys.length (bvs ys) ∧ Below w.heap.size w w'

set_option maxRecDepth 100000 in
set_option maxHeartbeats 800000 in
theorem encoded_any (xs : List Val) (S : Nat → Prop) (A : Option Addr) (m c : Nat) (w : World) (hr : Rc S w A (vvs xs)) (hm : Hid (xs.length = m)) (h40 : m ≤ 40) (hs : Hid (∀ x ∈ xs, x.s.size ≤ 400)) (hok : Hid (∀ x ∈ xs, x.Ok)) :
    Calls Try.prog 30 #[.slice A m c] w (BytesE w (encB xs) (encE xs)) := by
  go_enter Try.func30, Try.ntmps30
  go_wp2_with fail
  refine (newWriter_any w).mono ?_
  rintro en w2 ⟨rfl, rfl⟩
  obtain ⟨g, hg⟩ : ∃ g, g = w.heap.size := ⟨_, rfl⟩
  have hw2 := Wr.new w
  have hB2 : Below w.heap.size w (w.alloc (.cells #[.slice none 0 0, .int .i64 0] 64)) := (Below.refl _ _).alloc (Nat.le_refl _) _
  have hap : Ap w.heap.size g (.slice none 0 0) := ⟨by omega, by intro b hb; simp [Value.ownBlock] at hb⟩
  rw [← hg] at hw2 ⊢
  have HG := Lib.hid hg
  clear hg
  obtain ⟨w2, hw2e⟩ : ∃ w2, w2 = w.alloc (.cells #[.slice none 0 0, .int .i64 0] 64) := ⟨_, rfl⟩
  rw [← hw2e] at hw2 hB2 ⊢
  clear hw2e
  go_wp2_with fail
  go_loopw [5] (fun i wr => ∃ (k : Nat) (v : Value) (ys : List UInt8) (e : Int), i = .int .i64 k ∧ k ≤ m ∧ Hid (encW (xs.take k) = (ys, e)) ∧ Hid (ys.length ≤ k * 410) ∧ Wr wr g v ys e ∧ Below w.heap.size w wr ∧ Ap w.heap.size g v)
    (fun i _ => m - (intOf i).toNat)
  case atStart => exact ⟨0, .slice none 0 0, [], 0, rfl, Nat.zero_le _, rfl, Nat.zero_le _, hw2, hB2, hap⟩
  case round =>
    obtain ⟨k, v, ys, e, rfl, hk, henc, hyl, hwr1, hB, hap1⟩ := hrel
    clear hw2 hB2 hap
    by_cases hlt : k < m
    · have hkl : k < xs.length := by have := hm.out; omega
      obtain ⟨x, hx⟩ : ∃ x, x = xs[k] := ⟨_, rfl⟩
      obtain ⟨ad, rfl, _, hat⟩ := vvs_at (hr.below hB) (k := k) (by omega)
      rw [← hx] at hat
      have hxm : x ∈ xs := by rw [hx]; exact List.getElem_mem _
      have hxs := hs.out x hxm
      have hxok := Lib.hid (hok.out x hxm)
      have htk : xs.take (k + 1) = xs.take k ++ [x] := by rw [hx, List.take_succ_eq_append_getElem (by omega)]
      have HE2 : Hid (encW (xs.take (k + 1)) = (putX (encV x) ys e, putE (encV x) e)) := by
        show _ = _
        rw [htk, encW_snoc, henc.out]
      have HL2 : Hid ((putX (encV x) ys e).length ≤ (k + 1) * 410) := by
        have := putX_len hxok.out hxs ys e
        have := hyl.out
        show _ ≤ _
        omega
      have hc0 := hat.c0
      have hc1 := hat.c1
      have hc2 := hat.c2
      have hc3 := hat.c3
      have hc4 := hat.c4
      have hc5 := hat.c5
      have hh := henc
      clear hx hat hxm htk henc
      go_wp2_with fail
      refine (put_any g v ys e x wr hwr1 (by have := hyl.out; show _ ≤ _; omega) hxok.out (by show _ ≤ _; omega)).mono ?_
      rintro en w3 ⟨rfl, v3, hw3, hs3⟩
      obtain ⟨hB3, hap3⟩ := hap1.step hs3 hB (Nat.le_refl _)
      clear hs3
      go_wp2_with fail
      go_roundw
      case rel => exact ⟨k + 1, v3, _, _, by go_num, by omega, HE2, HL2, hw3, hB3, hap3⟩
      case measure => simp [intOf]; omega
    · have HF : Hid (encW xs = (ys, e)) := by
        show _ = _
        rw [← henc.out, List.take_of_length_le (by have := hm.out; omega)]
      clear henc
      go_wp2_with fail
      refine (done_any g v ys e wr hwr1).mono ?_
      rintro en w3 ⟨A3, c3, rfl, ho3, hb3⟩
      have hB3 := below_then hB hb3 (Nat.le_refl _)
      have e1 : doneB e ys = encB xs := by unfold encB; rw [HF.out]
      have e2 : doneE e ys = encE xs := by unfold encE; rw [HF.out]
      rw [e1] at ho3
      rw [e1, e2]
      have ho4 := own_weaken ho3 hB.size
      clear e1 e2 ho3
      go_wp2_with fail
      go_ret2
      exact ⟨A3, c3, rfl, ho4, hB3⟩
end Go.Proofs.Ytllmhablpeecfaa
