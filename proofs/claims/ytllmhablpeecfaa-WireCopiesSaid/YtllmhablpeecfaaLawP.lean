/- Values, their encoding as a plain function; the walks of put, encoded. -/
import Derived.Test.YtllmhablpeecfaaLawL
import Derived.Test.YtllmhablpeecfaaWireP
set_option linter.unusedVariables false
set_option linter.unusedSimpArgs false
namespace Go.Proofs.Ytllmhablpeecfaa
open Go.RowKit

structure Val where
  kind : Int
  u : Nat
  n : Int
  b : Bool
  s : ByteArray
  most : Int
def Val.cells (v : Val) : List Value := [.int .i64 v.kind, .int .u64 v.u, .int .i64 v.n, .bool v.b, .string v.s, .int .i64 v.most]
structure Val.Ok (v : Val) : Prop where
  k : -9223372036854775808 ≤ v.kind ∧ v.kind ≤ 9223372036854775807
  u : v.u < 18446744073709551616
  n : -9223372036854775808 ≤ v.n ∧ v.n ≤ 9223372036854775807
  m : -9223372036854775808 ≤ v.most ∧ v.most ≤ 9223372036854775807
  s : v.s.size ≤ 9223372036854775807

/-- A value's encoding; none: an argument's error. -/
def encV (v : Val) : Option (List UInt8) :=
  if v.kind = 1 then some (num v.u)
  else if v.kind = 2 then some (num (zz v.n))
  else if v.kind = 3 then some [if v.b then 1 else 0]
  else if v.kind = 4 then some (num v.s.size ++ sb v.s)
  else if v.kind = 5 then some (num v.s.size ++ sb v.s)
  else if v.kind = 6 then (if v.s.size = 32 then some (sb v.s) else none)
  else if v.kind = 7 then (if 0 ≤ v.n then some (num v.n.toNat) else none)
  else some []

def putX (o : Option (List UInt8)) (xs : List UInt8) (e : Int) : List UInt8 := match o with | some ys => wput e xs ys | none => xs
def putE (o : Option (List UInt8)) (e : Int) : Int := match o with | some _ => e | none => wfl e 1

set_option maxRecDepth 100000 in
set_option maxHeartbeats 1600000 in
theorem put_any (g : Nat) (v : Value) (xs : List UInt8) (e : Int) (x : Val) (w : World) (hw : Wr w g v xs e) (hl : Hid (xs.length ≤ 1000000000000)) (hx : x.Ok) (hs : Hid (x.s.size ≤ 1000000000000)) :
    Calls Try.prog 36 #[.pointer (some ⟨g, 0, none⟩), .agg #[.int .i64 x.kind, .int .u64 x.u, .int .i64 x.n, .bool x.b, .string x.s, .int .i64 x.most]] w (WrP w g v (putX (encV x) xs e) (putE (encV x) e)) := by
  obtain ⟨kd, u, n, b, s, mo⟩ := x
  have hk := Lib.hid hx.k
  have hu := Lib.hid hx.u
  have hn := Lib.hid hx.n
  clear hx
  dsimp only at hk hu hn hs ⊢
  obtain ⟨o, ho⟩ : ∃ o, o = encV ⟨kd, u, n, b, s, mo⟩ := ⟨_, rfl⟩
  rw [← ho]
  have hw1 := fun o => hw.below ((Below.refl w.heap.size w).alloc (Nat.le_refl _) o)
  have hS := fun o => WrS.of_below ((Below.refl w.heap.size w).alloc (Nat.le_refl _) o) g v
  by_cases k1 : kd = 1
  · subst k1
    have HO : Hid (o = some (num u)) := ho
    clear ho
    go_enter Try.func36, Try.ntmps36
    go_wp2_with fail
    refine (wuint_any g v xs e u _ (hw1 _) hu.out hl).mono ?_
    rintro en w2 ⟨rfl, v2, hw2, hs2⟩
    go_wp2_with fail
    go_end0
    rw [HO.out]
    exact ⟨rfl, v2, hw2, (hS _).trans hs2⟩
  by_cases k2 : kd = 2
  · subst k2
    have HO : Hid (o = some (num (zz n))) := ho
    clear ho k1
    go_enter Try.func36, Try.ntmps36
    go_wp2_with fail
    refine (wint_any g v xs e _ (hw1 _) hl n hn).mono ?_
    rintro en w2 ⟨rfl, v2, hw2, hs2⟩
    go_wp2_with fail
    go_end0
    rw [HO.out]
    exact ⟨rfl, v2, hw2, (hS _).trans hs2⟩
  by_cases k3 : kd = 3
  · subst k3
    have HO : Hid (o = some [if b then 1 else 0]) := ho
    clear ho k1 k2
    go_enter Try.func36, Try.ntmps36
    go_wp2_with fail
    refine (wbool_any g v xs e _ (hw1 _) hl b).mono ?_
    rintro en w2 ⟨rfl, v2, hw2, hs2⟩
    go_wp2_with fail
    go_end0
    rw [HO.out]
    exact ⟨rfl, v2, hw2, (hS _).trans hs2⟩
  by_cases k4 : kd = 4
  · subst k4
    have HO : Hid (o = some (num s.size ++ sb s)) := ho
    clear ho k1 k2 k3
    have kb := fun W => Lib.run_convert_string_bytes (P := Try.prog) W 9 22 5 s Try.underlying9 Try.underlying22 Try.underlying5
    have hwb := fun o => (hw1 o).below (bytesW_below (w.alloc o) 5 s)
    have hrc : ∀ o, Rc (fun k => k = w.heap.size + 1) (Lib.bytesWorld (w.alloc o) 5 s) (some ⟨w.heap.size + 1, 0, none⟩) (bvs (sb s)) := fun o => by
      have := bytesW_rc (w.alloc o) 5 s
      rwa [World.size_alloc] at this
    have hSb := fun o => (hS o).trans (WrS.of_below (bytesW_below (w.alloc o) 5 s) g v)
    go_enter Try.func36, Try.ntmps36
    go_wp2_with fail
    refine (wbytes_any g v xs e _ (hwb _) hl (sb s) _ _ s.size _ (hrc _) (fun k hk => ?_) (sb_length s) hs).mono ?_
    · subst hk
      refine ⟨fun h => ?_, fun h => ?_⟩
      · have := hw.lt; omega
      · have := (own_lt hw.row h.symm).2; omega
    rintro en w2 ⟨rfl, v2, hw2, hs2⟩
    go_wp2_with fail
    go_end0
    rw [HO.out]
    rw [sb_length] at hw2
    exact ⟨rfl, v2, hw2, (hSb _).trans hs2⟩
  by_cases k5 : kd = 5
  · subst k5
    have HO : Hid (o = some (num s.size ++ sb s)) := ho
    clear ho k1 k2 k3 k4
    go_enter Try.func36, Try.ntmps36
    go_wp2_with fail
    refine (wtext_any g v xs e _ (hw1 _) hl s hs).mono ?_
    rintro en w2 ⟨rfl, v2, hw2, hs2⟩
    go_wp2_with fail
    go_end0
    rw [HO.out]
    exact ⟨rfl, v2, hw2, (hS _).trans hs2⟩
  by_cases k6 : kd = 6
  · subst k6
    have HO : Hid (o = if s.size = 32 then some (sb s) else none) := ho
    clear ho k1 k2 k3 k4 k5
    go_enter Try.func36, Try.ntmps36
    go_wp2_with fail
    refine (wsum_any g v xs e _ (hw1 _) hl s).mono ?_
    rintro en w2 ⟨rfl, v2, hw2, hs2⟩
    go_wp2_with fail
    go_end0
    rw [HO.out]
    refine ⟨rfl, v2, ?_, (hS _).trans hs2⟩
    split at hw2
    · rename_i h; rw [if_pos h]; exact hw2
    · rename_i h; rw [if_neg h]; exact hw2
  by_cases k7 : kd = 7
  · subst k7
    have HO : Hid (o = if 0 ≤ n then some (num n.toNat) else none) := ho
    clear ho k1 k2 k3 k4 k5 k6
    go_enter Try.func36, Try.ntmps36
    go_wp2_with fail
    refine (wcount_any g v xs e _ (hw1 _) hl n (hn.out.2)).mono ?_
    rintro en w2 ⟨rfl, v2, hw2, hs2⟩
    go_wp2_with fail
    go_end0
    rw [HO.out]
    refine ⟨rfl, v2, ?_, (hS _).trans hs2⟩
    split at hw2
    · rename_i h; rw [if_pos h]; exact hw2
    · rename_i h; rw [if_neg h]; exact hw2
  · have HO : Hid (o = some []) := by
      show _ = _
      rw [ho]; unfold encV; dsimp only
      rw [if_neg k1, if_neg k2, if_neg k3, if_neg k4, if_neg k5, if_neg k6, if_neg k7]
    have b1 : (kd == 1) = false := by simpa using k1
    have b2 : (kd == 2) = false := by simpa using k2
    have b3 : (kd == 3) = false := by simpa using k3
    have b4 : (kd == 4) = false := by simpa using k4
    have b5 : (kd == 5) = false := by simpa using k5
    have b6 : (kd == 6) = false := by simpa using k6
    have b7 : (kd == 7) = false := by simpa using k7
    clear ho k1 k2 k3 k4 k5 k6 k7
    go_enter Try.func36, Try.ntmps36
    go_wp2_with fail
    go_end0
    rw [HO.out]
    refine ⟨rfl, v, ?_, hS _⟩
    have e1 : putX (some []) xs e = xs := by show wput e xs [] = xs; unfold wput; split <;> simp
    rw [e1]
    exact hw1 _
end Go.Proofs.Ytllmhablpeecfaa
