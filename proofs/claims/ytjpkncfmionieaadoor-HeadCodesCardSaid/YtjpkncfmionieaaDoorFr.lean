/- Frames, plainly: what a frame's bytes are, what stands at a place, what is read there. -/
import Derived.Test.YtjpkncfmionieaaDoorReaderFive
import Derived.Test.YtjpkncfmionieaaDoorSumRef
namespace Go.Proofs.YtjpkncfmionieaaDoor
open Go.RowKit
set_option linter.unusedVariables false

namespace Fr
def sumL (l : List UInt8) : Nat := Crc.mask (Crc.crc l)
theorem sumL_lt (l : List UInt8) : sumL l < 4294967296 := Crc.mask_lt _
/-- The bytes of a frame. -/
def fr (k : UInt8) (l : List UInt8) : List UInt8 := Var.fb 4 l.length ++ (Var.fb 4 (sumL (k :: l)) ++ k :: l)
theorem fr_length (k : UInt8) (l : List UInt8) : (fr k l).length = l.length + 9 := by
  simp [fr, Var.fb_length]; omega
/-- The number ahead, the number behind it, kind and payload. -/
def num (l : List UInt8) : Nat := Var.fv (l.take 4)
def msk (l : List UInt8) : Nat := Var.fv ((l.drop 4).take 4)
def body (l : List UInt8) : List UInt8 := (l.drop 8).take (num l + 1)
def kind (l : List UInt8) : UInt8 := (l.drop 8).headD 0
theorem num_lt (l : List UInt8) : num l < 4294967296 := by
  have := Var.fv_lt (l.take 4)
  have h : 256 ^ (l.take 4).length ≤ 256 ^ 4 := Nat.pow_le_pow_right (by decide) (by simp; omega)
  unfold num
  omega
theorem msk_lt (l : List UInt8) : msk l < 4294967296 := by
  have := Var.fv_lt ((l.drop 4).take 4)
  have h : 256 ^ ((l.drop 4).take 4).length ≤ 256 ^ 4 := Nat.pow_le_pow_right (by decide) (by simp; omega)
  unfold msk
  omega
/-- What is read: the error, the kind, the payload. -/
def readL (l : List UInt8) : Nat × Nat × List UInt8 :=
  if l.length < 9 then (8, 0, [])
  else if 262144 < num l then (40, 0, [])
  else if l.length ≤ num l + 8 then (8, 0, [])
  else if sumL (body l) ≠ msk l then (42, 0, [])
  else if (kind l).toNat < 1 ∨ 3 < (kind l).toNat then (4, 0, [])
  else (0, (kind l).toNat, (l.drop 9).take (num l))
theorem body_eq {l : List UInt8} (h : ¬ l.length ≤ num l + 8) : body l = kind l :: (l.drop 9).take (num l) := by
  unfold body kind
  have e : l.drop 9 = (l.drop 8).drop 1 := by rw [List.drop_drop]
  cases hd : l.drop 8 with
  | nil => have := List.drop_eq_nil_iff.1 hd; omega
  | cons b r => rw [e, hd]; simp
/-- A frame stands at the beginning. -/
structure Is (l : List UInt8) (k : Nat) (p : List UInt8) : Prop where
  lo : 1 ≤ k
  hi : k ≤ 3
  small : p.length ≤ 262144
  at' : ∃ m, l = fr (UInt8.ofNat k) p ++ m
theorem toNat_ofNat' {n : Nat} (h : n < 256) : (UInt8.ofNat n).toNat = n := Var.toNat_ofNat h
theorem readL_fr {k : Nat} {p : List UInt8} (m : List UInt8) (h1 : 1 ≤ k) (h3 : k ≤ 3) (hp : p.length ≤ 262144) : readL (fr (UInt8.ofNat k) p ++ m) = (0, k, p) := by
  have hk : (UInt8.ofNat k).toNat = k := toNat_ofNat' (by omega)
  generalize UInt8.ofNat k = b at hk
  have e0 : fr b p ++ m = Var.fb 4 p.length ++ (Var.fb 4 (sumL (b :: p)) ++ (b :: (p ++ m))) := by simp [fr]
  have hl : (fr b p ++ m).length = p.length + 9 + m.length := by rw [List.length_append, fr_length]
  have l4 : (Var.fb 4 p.length).length = 4 := Var.fb_length 4 _
  have l4' : (Var.fb 4 (sumL (b :: p))).length = 4 := Var.fb_length 4 _
  have hn : num (fr b p ++ m) = p.length := by
    unfold num
    rw [e0, List.take_left' l4, Var.fv_fb]
    exact Nat.mod_eq_of_lt (by omega)
  have hd4 : (fr b p ++ m).drop 4 = Var.fb 4 (sumL (b :: p)) ++ (b :: (p ++ m)) := by rw [e0, List.drop_left' l4]
  have hm : msk (fr b p ++ m) = sumL (b :: p) := by
    unfold msk
    rw [hd4, List.take_left' l4', Var.fv_fb]
    exact Nat.mod_eq_of_lt (sumL_lt _)
  have hd8 : (fr b p ++ m).drop 8 = b :: (p ++ m) := by
    rw [show 8 = 4 + 4 from rfl, ← List.drop_drop, hd4, List.drop_left' l4']
  have hd9 : (fr b p ++ m).drop 9 = p ++ m := by
    rw [show 9 = 8 + 1 from rfl, ← List.drop_drop, hd8]; rfl
  have hb : body (fr b p ++ m) = b :: p := by
    unfold body
    rw [hd8, hn, List.take_succ_cons, List.take_left' rfl]
  have hkk : kind (fr b p ++ m) = b := by unfold kind; rw [hd8]; rfl
  unfold readL
  rw [hl, hn, hb, hm, hkk, hk, hd9, if_neg (by omega), if_neg (by omega), if_neg (by omega), if_neg (fun h => h rfl), if_neg (by omega), List.take_left' rfl]
theorem readL_ok {l : List UInt8} (h : (readL l).1 = 0) : ¬ l.length < 9 ∧ ¬ 262144 < num l ∧ ¬ l.length ≤ num l + 8 ∧ sumL (body l) = msk l ∧ ¬ ((kind l).toNat < 1 ∨ 3 < (kind l).toNat) ∧ readL l = (0, (kind l).toNat, (l.drop 9).take (num l)) := by
  unfold readL at h ⊢
  repeat' (split at h; · simp at h)
  rename_i h1 h2 h3 h4 h5
  have h4' : sumL (body l) = msk l := Classical.not_not.1 h4
  rw [if_neg h1, if_neg h2, if_neg h3, if_neg h4, if_neg h5]
  exact ⟨h1, h2, h3, h4', h5, rfl⟩
theorem readL_is {l : List UInt8} (h : (readL l).1 = 0) : Is l (readL l).2.1 (readL l).2.2 := by
  obtain ⟨h1, h2, h3, h4, h5, e⟩ := readL_ok h
  rw [e]
  have hpl : ((l.drop 9).take (num l)).length = num l := by rw [List.length_take, List.length_drop]; omega
  refine ⟨by simp only []; omega, by simp only []; omega, by simp only []; omega, l.drop (9 + num l), ?_⟩
  simp only []
  have hk : UInt8.ofNat (kind l).toNat = kind l := UInt8.toNat_inj.1 (toNat_ofNat' (UInt8.toNat_lt _))
  rw [hk]
  unfold fr
  rw [hpl, ← body_eq h3, h4]
  have e4 : Var.fb 4 (num l) = l.take 4 := by
    have := Var.fb_fv (l.take 4)
    rwa [show (l.take 4).length = 4 from by rw [List.length_take]; omega] at this
  have e8 : Var.fb 4 (msk l) = (l.drop 4).take 4 := by
    have := Var.fb_fv ((l.drop 4).take 4)
    rwa [show ((l.drop 4).take 4).length = 4 from by rw [List.length_take, List.length_drop]; omega] at this
  rw [e4, e8]
  unfold body
  have hd : l.drop (9 + num l) = ((l.drop 8).drop (num l + 1)) := by rw [List.drop_drop, show 8 + (num l + 1) = 9 + num l from by omega]
  rw [hd, List.append_assoc, List.append_assoc, List.take_append_drop, show l.drop 8 = (l.drop 4).drop 4 from by rw [List.drop_drop], List.take_append_drop, List.take_append_drop]
theorem readL_bad {l : List UInt8} (h : (readL l).1 ≠ 0) : (readL l).2 = (0, []) := by
  unfold readL at h ⊢
  repeat' (split; · rfl)
  rename_i h1 h2 h3 h4 h5
  rw [if_neg h1, if_neg h2, if_neg h3, if_neg h4, if_neg h5] at h
  exact absurd rfl h
theorem readL_is_iff {l : List UInt8} {k : Nat} {p : List UInt8} : Is l k p ↔ readL l = (0, k, p) := by
  constructor
  · rintro ⟨h1, h2, h3, m, rfl⟩
    exact readL_fr m h1 h2 h3
  · intro h
    have := readL_is (l := l) (by rw [h])
    rw [h] at this
    exact this
theorem Is.len {l : List UInt8} {k : Nat} {p : List UInt8} (h : Is l k p) : p.length + 9 ≤ l.length := by
  obtain ⟨_, _, _, m, rfl⟩ := h
  rw [List.length_append, fr_length]; omega
theorem readL_len {l : List UInt8} (h : (readL l).1 = 0) : (readL l).2.2.length + 9 ≤ l.length := (readL_is h).len
theorem readL_err (l : List UInt8) : (readL l).1 ≤ 42 := by
  unfold readL
  repeat' (split; · simp)
  simp
theorem readL_kind (l : List UInt8) : (readL l).2.1 < 256 := by
  unfold readL
  repeat' (split; · simp)
  exact UInt8.toNat_lt _
/-- What stands at a place of a text. -/
def readV (s : ByteArray) (a : Int) : Nat × Nat × List UInt8 := if a < 0 ∨ (s.size : Int) < a then (1, 0, []) else readL (s.data.toList.drop a.toNat)
def frv (r : Nat × Nat × List UInt8) (a : Int) : Value := .agg #[.int .u8 r.2.1, .string (B r.2.2), .int .i64 (if r.1 = 0 then a else 0)]
def nxt (r : Nat × Nat × List UInt8) (a : Int) : Int := if r.1 = 0 then a + (9 + r.2.2.length : Nat) else 0
def readE (s : ByteArray) (a : Int) : Ending := .returned (.tuple #[frv (readV s a) a, .int .i64 (nxt (readV s a) a), .int .i64 (readV s a).1])
def badE (e : Nat) : Ending := .returned (.tuple #[.agg #[.int .u8 (0 : Nat), .string (B []), .int .i64 0], .int .i64 0, .int .i64 e])
theorem readE_bad {s : ByteArray} {a : Int} {e : Nat} (he : e ≠ 0) (h : readV s a = (e, 0, [])) : readE s a = badE e := by
  simp [readE, h, frv, nxt, he, badE]
theorem readE_ok {s : ByteArray} {a : Int} {k : Nat} {p : List UInt8} (h : readV s a = (0, k, p)) : readE s a = .returned (.tuple #[.agg #[.int .u8 k, .string (B p), .int .i64 a], .int .i64 (a + (9 + p.length : Nat)), .int .i64 (0 : Nat)]) := by
  simp [readE, h, frv, nxt]
end Fr
end Go.Proofs.YtjpkncfmionieaaDoor
