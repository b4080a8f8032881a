/- Plain law: items, what they become, and what is read of them, whole and cut short. No program in sight. -/
import Derived.Test.YtmfigoffkopohaaLawAsk
namespace Go.Proofs.Ytmfigoffkopohaa
open Go.RowKit
set_option linter.unusedVariables false

/-- An Item. -/
structure ItV where
  what : Nat
  n : Nat
  s : ByteArray
def s64 (n : Nat) : Int := if n < 9223372036854775808 then (n : Int) else (n : Int) - 18446744073709551616
theorem s64_range {n : Nat} (h : n < 18446744073709551616) : -9223372036854775808 ≤ s64 n ∧ s64 n ≤ 9223372036854775807 := by
  unfold s64; split <;> omega
def ItV.v (x : ItV) : Value := .agg #[.int .u8 x.what, .int .u64 x.n, .string x.s]
def ItV.ok (x : ItV) : Prop := x.what < 256 ∧ x.n < 18446744073709551616 ∧ x.s.size ≤ maxLen
/-- Its bytes. -/
def ib (x : ItV) : List UInt8 :=
  if x.what = 0 then Var.vb x.n else if x.what = 1 then Var.vb (Var.zig (s64 x.n)) else if x.what = 2 then Var.fb 4 x.n else if x.what = 3 then Var.fb 8 x.n
  else Var.vb x.s.size ++ x.s.data.toList
/-- What is told of it where it is read: is it that, where does the reader stand, its error. -/
def isV (l : List UInt8) (p e : Nat) (x : ItV) : Bool × Nat × Nat :=
  if x.what = 0 then ((Var.rVarint l p e x.n).1 == x.n, (Var.rVarint l p e x.n).2)
  else if x.what = 1 then ((Var.rZag l p e (s64 x.n) (s64 x.n)).1 == s64 x.n, (Var.rZag l p e (s64 x.n) (s64 x.n)).2)
  else if x.what = 2 then ((Var.rFixed l p e 4).1 == x.n % 4294967296, (Var.rFixed l p e 4).2)
  else if x.what = 3 then ((Var.rFixed l p e 8).1 == x.n, (Var.rFixed l p e 8).2)
  else ((Var.rText l p e x.s.size).1 == x.s.data.toList, (Var.rText l p e x.s.size).2)
namespace Var
theorem go_torn : ∀ (k n i acc j : Nat), (vb n).length = k → i + k ≤ 10 → j < k → go ((vb n).take j) i acc = (0, 0, 8) := by
  intro k
  induction k with
  | zero => intro n i acc j _ _ h; omega
  | succ k ih =>
    intro n i acc j hk hi hj
    cases j with
    | zero => simp [go]
    | succ j =>
      have hn : 128 ≤ n := by
        rcases Nat.lt_or_ge n 128 with h | h
        · rw [vb_lt h] at hk; simp at hk; omega
        · exact h
      rw [vb_ge hn] at hk ⊢
      simp only [List.length_cons, Nat.add_right_cancel_iff] at hk
      rw [List.take_succ_cons, go, toNat_ofNat (by omega), if_neg (by rintro ⟨h1, h2⟩; omega), if_neg (by omega)]
      exact ih (n / 128) (i + 1) _ j hk (by omega) (by omega)
theorem uvI_at (pre r : List UInt8) : uvI (pre ++ r) (pre.length : Nat) = ((go r 0 0).1, if (go r 0 0).2.2 = 0 then pre.length + (go r 0 0).2.1 else 0, (go r 0 0).2.2) := by
  unfold uvI
  rw [if_neg (by simp; omega), Int.toNat_natCast]
  unfold uv
  rw [List.drop_left]
theorem uvI_whole (pre post : List UInt8) {n : Nat} (h : n < 18446744073709551616) : uvI (pre ++ (vb n ++ post)) (pre.length : Nat) = (n, pre.length + (vb n).length, 0) := by
  rw [uvI_at, go_vb post (vb n).length n 0 0 rfl (by have := vb_len10 h; omega) (by simpa using h)]
  simp
theorem uvI_torn (pre : List UInt8) {n j : Nat} (h : n < 18446744073709551616) (hj : j < (vb n).length) : uvI (pre ++ (vb n).take j) (pre.length : Nat) = (0, 0, 8) := by
  rw [uvI_at, go_torn (vb n).length n 0 0 j rfl (by have := vb_len10 h; omega) hj]
  simp
theorem fixI_whole (pre post f : List UInt8) (z : Nat) (hz : z = 4 ∨ z = 8) (hf : f.length = z) : fixI (pre ++ (f ++ post)) (pre.length : Nat) z = (fv f, pre.length + z, 0) := by
  unfold fixI
  rw [if_neg (by simp; omega), if_neg (by simp; omega)]
  subst hf
  simp
theorem fixI_torn (pre t : List UInt8) (z : Nat) (hz : z = 4 ∨ z = 8) (ht : t.length < z) : fixI (pre ++ t) (pre.length : Nat) z = (0, 0, 8) := by
  unfold fixI
  rw [if_neg (by simp; omega), if_pos (by simp; omega)]
end Var
theorem is_whole (pre post : List UInt8) (x : ItV) (hx : x.ok) : isV (pre ++ (ib x ++ post)) pre.length 0 x = (true, pre.length + (ib x).length, 0) := by
  obtain ⟨h1, h2, h3⟩ := hx
  have hsz : x.s.size < 18446744073709551616 := by unfold maxLen at h3; omega
  unfold isV ib
  by_cases w0 : x.what = 0
  · rw [if_pos w0, if_pos w0]
    simp only [Var.rVarint, Var.uvI_whole pre post h2]
    simp
  rw [if_neg w0, if_neg w0]
  by_cases w1 : x.what = 1
  · rw [if_pos w1, if_pos w1]
    have hr := s64_range h2
    simp only [Var.rZag, Var.uvI_whole pre post (Var.zig_lt hr.1 hr.2), Var.zag_zig]
    simp
  rw [if_neg w1, if_neg w1]
  by_cases w2 : x.what = 2
  · rw [if_pos w2, if_pos w2]
    have := Var.fixI_whole pre post (Var.fb 4 x.n) 4 (.inl rfl) (Var.fb_length 4 _)
    rw [show ((4 : Nat) : Int) = 4 from rfl] at this
    simp only [Var.rFixed, this, Var.fb_length, Var.fv_fb]
    simp
  rw [if_neg w2, if_neg w2]
  by_cases w3 : x.what = 3
  · rw [if_pos w3, if_pos w3]
    have := Var.fixI_whole pre post (Var.fb 8 x.n) 8 (.inr rfl) (Var.fb_length 8 _)
    rw [show ((8 : Nat) : Int) = 8 from rfl] at this
    simp only [Var.rFixed, this, Var.fb_length, Var.fv_fb]
    simp
    omega
  rw [if_neg w3, if_neg w3]
  have hv : Var.rVarint (pre ++ (Var.vb x.s.size ++ x.s.data.toList ++ post)) pre.length 0 x.s.size = (x.s.size, pre.length + (Var.vb x.s.size).length, 0) := by
    rw [List.append_assoc]
    simp only [Var.rVarint, Var.uvI_whole pre (x.s.data.toList ++ post) hsz]
    simp
  simp only [Var.rText, Int.toNat_natCast, hv]
  have hlen : x.s.data.toList.length = x.s.size := by simp
  have e : (pre ++ (Var.vb x.s.size ++ x.s.data.toList ++ post)).drop (pre.length + (Var.vb x.s.size).length) = x.s.data.toList ++ post := by
    rw [← List.append_assoc, ← List.append_assoc, List.append_assoc (pre ++ Var.vb x.s.size), ← List.length_append, List.drop_left]
  have el : (pre ++ (Var.vb x.s.size ++ x.s.data.toList ++ post)).length = pre.length + (Var.vb x.s.size).length + x.s.size + post.length := by simp; omega
  rw [if_pos trivial, if_pos trivial, if_neg (by rw [el]; omega)]
  unfold Var.rRaw
  rw [if_pos rfl, if_neg (by omega), if_neg (by rw [el]; omega), e, Int.toNat_natCast]
  simp only [List.length_append, hlen, Prod.mk.injEq, beq_iff_eq, and_true]
  refine ⟨?_, by omega⟩
  rw [← hlen, List.take_left]
theorem is_torn (pre : List UInt8) (x : ItV) (hx : x.ok) (j : Nat) (hj : j < (ib x).length) : (isV (pre ++ (ib x).take j) pre.length 0 x).2 = (pre.length, 8) := by
  obtain ⟨h1, h2, h3⟩ := hx
  have hsz : x.s.size < 18446744073709551616 := by unfold maxLen at h3; omega
  unfold isV
  unfold ib at hj ⊢
  by_cases w0 : x.what = 0
  · rw [if_pos w0] at hj
    rw [if_pos w0, if_pos w0]
    simp only [Var.rVarint, Var.uvI_torn pre h2 hj]
    simp
  rw [if_neg w0] at hj
  rw [if_neg w0, if_neg w0]
  by_cases w1 : x.what = 1
  · rw [if_pos w1] at hj
    rw [if_pos w1, if_pos w1]
    have hr := s64_range h2
    simp only [Var.rZag, Var.uvI_torn pre (Var.zig_lt hr.1 hr.2) hj]
    simp
  rw [if_neg w1] at hj
  rw [if_neg w1, if_neg w1]
  by_cases w2 : x.what = 2
  · rw [if_pos w2] at hj
    rw [if_pos w2, if_pos w2]
    rw [Var.fb_length] at hj
    have := Var.fixI_torn pre ((Var.fb 4 x.n).take j) 4 (.inl rfl) (by rw [List.length_take, Var.fb_length]; omega)
    rw [show ((4 : Nat) : Int) = 4 from rfl] at this
    simp only [Var.rFixed, this]
    simp
  rw [if_neg w2] at hj
  rw [if_neg w2, if_neg w2]
  by_cases w3 : x.what = 3
  · rw [if_pos w3] at hj
    rw [if_pos w3, if_pos w3]
    rw [Var.fb_length] at hj
    have := Var.fixI_torn pre ((Var.fb 8 x.n).take j) 8 (.inr rfl) (by rw [List.length_take, Var.fb_length]; omega)
    rw [show ((8 : Nat) : Int) = 8 from rfl] at this
    simp only [Var.rFixed, this]
    simp
  rw [if_neg w3] at hj
  rw [if_neg w3, if_neg w3]
  by_cases hjv : j < (Var.vb x.s.size).length
  · have hv : Var.rVarint (pre ++ (Var.vb x.s.size ++ x.s.data.toList).take j) pre.length 0 x.s.size = (0, pre.length, 8) := by
      rw [List.take_append_of_le_length (by omega)]
      simp only [Var.rVarint, Var.uvI_torn pre hsz hjv]
      simp
    simp only [Var.rText, Int.toNat_natCast, hv]
    simp
  · have et : (Var.vb x.s.size ++ x.s.data.toList).take j = Var.vb x.s.size ++ x.s.data.toList.take (j - (Var.vb x.s.size).length) := by
      rw [List.take_append, List.take_of_length_le (by omega)]
    have hlen : x.s.data.toList.length = x.s.size := by simp
    rw [List.length_append, hlen] at hj
    have hv : Var.rVarint (pre ++ (Var.vb x.s.size ++ x.s.data.toList).take j) pre.length 0 x.s.size = (x.s.size, pre.length + (Var.vb x.s.size).length, 0) := by
      rw [et]
      simp only [Var.rVarint, Var.uvI_whole pre (x.s.data.toList.take (j - (Var.vb x.s.size).length)) hsz]
      simp
    simp only [Var.rText, Int.toNat_natCast, hv]
    rw [if_pos trivial, if_pos trivial, if_pos (by rw [et]; simp [hlen]; omega)]
/-- The bytes of the first k items. -/
def ibs (f : Nat → ItV) : Nat → List UInt8
  | 0 => []
  | k + 1 => ibs f k ++ ib (f k)
theorem ibs_le (f : Nat → ItV) {a b : Nat} (h : a ≤ b) : ∃ t, ibs f b = ibs f a ++ t := by
  induction b with
  | zero => obtain rfl : a = 0 := by omega
            exact ⟨[], by simp⟩
  | succ b ih =>
    by_cases e : a = b + 1
    · subst e; exact ⟨[], by simp⟩
    · obtain ⟨t, ht⟩ := ih (by omega)
      exact ⟨t ++ ib (f b), by rw [ibs, ht, List.append_assoc]⟩
theorem ibs_mono (f : Nat → ItV) {a b : Nat} (h : a ≤ b) : (ibs f a).length ≤ (ibs f b).length := by
  obtain ⟨t, ht⟩ := ibs_le f h
  rw [ht, List.length_append]; omega
/-- What the items cost. -/
def cost (f : Nat → ItV) : Nat → Nat
  | 0 => 0
  | k + 1 => cost f k + (10 + min (f k).s.size 6000)
theorem cost_mono (f : Nat → ItV) {a b : Nat} (h : a ≤ b) : cost f a ≤ cost f b := by
  induction b with
  | zero => obtain rfl : a = 0 := by omega
            exact Nat.le_refl _
  | succ b ih =>
    by_cases e : a = b + 1
    · subst e; exact Nat.le_refl _
    · have := ih (by omega)
      rw [cost]; omega
theorem cost_ten (f : Nat → ItV) (k : Nat) : 10 * k ≤ cost f k := by
  induction k with
  | zero => simp
  | succ k ih => rw [cost]; omega
theorem ib_len (x : ItV) (hx : x.ok) : (ib x).length ≤ 10 + x.s.size := by
  obtain ⟨h1, h2, h3⟩ := hx
  have hsz : x.s.size < 18446744073709551616 := by unfold maxLen at h3; omega
  unfold ib
  split
  · have := Var.vb_len10 h2; omega
  · split
    · have hr := s64_range h2
      have := Var.vb_len10 (Var.zig_lt hr.1 hr.2); omega
    · split
      · rw [Var.fb_length]; omega
      · split
        · rw [Var.fb_length]; omega
        · have := Var.vb_len10 hsz
          simp; omega
theorem ibs_len (f : Nat → ItV) (len : Nat) (hok : ∀ i, i < len → (f i).ok) (hc : cost f len < 6000) : ∀ k, k ≤ len → (ibs f k).length ≤ cost f k := by
  intro k
  induction k with
  | zero => intro _; simp [ibs]
  | succ k ih =>
    intro hk
    have h1 := ih (by omega)
    have h2 := ib_len (f k) (hok k (by omega))
    have h3 := cost_mono f hk
    rw [cost] at h3 ⊢
    rw [ibs, List.length_append]
    omega
end Go.Proofs.Ytmfigoffkopohaa
