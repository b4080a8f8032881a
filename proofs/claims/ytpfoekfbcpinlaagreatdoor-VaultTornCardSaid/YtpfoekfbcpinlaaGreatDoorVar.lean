/- Plain law: varints, read and put; zigzag; fixed numbers. No program in sight. -/
import Derived.Lib.BitFns
namespace Go.Proofs.YtpfoekfbcpinlaaGreatDoor.Var
/-- A varint's bytes. -/
def vb (n : Nat) : List UInt8 := if h : n < 128 then [UInt8.ofNat n] else UInt8.ofNat (n % 128 + 128) :: vb (n / 128)
termination_by n
decreasing_by omega
theorem vb_lt {n : Nat} (h : n < 128) : vb n = [UInt8.ofNat n] := by rw [vb]; simp [h]
theorem vb_ge {n : Nat} (h : 128 ≤ n) : vb n = UInt8.ofNat (n % 128 + 128) :: vb (n / 128) := by rw [vb]; simp [Nat.not_lt.2 h]
theorem vb_pos (n : Nat) : 1 ≤ (vb n).length := by
  by_cases h : n < 128
  · rw [vb_lt h]; simp
  · rw [vb_ge (by omega)]; simp
theorem toNat_ofNat {k : Nat} (h : k < 256) : (UInt8.ofNat k).toNat = k := by rw [UInt8.toNat_ofNat', Nat.mod_eq_of_lt h]
/-- How many bytes: less than 128 to that. -/
theorem vb_le (k : Nat) : ∀ n, n < 128 ^ (k + 1) → (vb n).length ≤ k + 1 := by
  induction k with
  | zero => intro n h; rw [vb_lt (by simpa using h)]; simp
  | succ k ih =>
    intro n h
    by_cases hn : n < 128
    · rw [vb_lt hn]; simp
    · rw [vb_ge (by omega), List.length_cons]
      have := ih (n / 128) (by rw [Nat.div_lt_iff_lt_mul (by decide), ← Nat.pow_succ]; exact h)
      omega
theorem vb_ge_pow (k : Nat) : ∀ n, 128 ^ k ≤ n → k + 1 ≤ (vb n).length := by
  induction k with
  | zero => intro n _; exact vb_pos n
  | succ k ih =>
    intro n h
    have h1 : 1 ≤ 128 ^ k := Nat.pow_pos (by decide)
    have h128 : 128 ≤ n := by rw [Nat.pow_succ] at h; omega
    rw [vb_ge h128, List.length_cons]
    have := ih (n / 128) (by rw [Nat.le_div_iff_mul_le (by decide), ← Nat.pow_succ]; exact h)
    omega
theorem vb_len_eq {n k : Nat} (h1 : n < 128 ^ (k + 1)) (h2 : k = 0 ∨ 128 ^ k ≤ n) : (vb n).length = k + 1 := by
  have := vb_le k n h1
  rcases h2 with rfl | h2
  · have := vb_pos n; omega
  · have := vb_ge_pow k n h2; omega
theorem vb_len10 {n : Nat} (h : n < 18446744073709551616) : (vb n).length ≤ 10 := vb_le 9 n (Nat.lt_of_lt_of_le h (by decide))
/-- Fewer bytes are of lesser numbers. -/
theorem vb_fewer {a b : Nat} (h : (vb a).length < (vb b).length) : a < b := by
  rcases Nat.lt_or_ge a b with hab | hab
  · exact hab
  · exfalso
    obtain ⟨k, hk⟩ : ∃ k, (vb b).length = k + 1 := ⟨(vb b).length - 1, by have := vb_pos b; omega⟩
    cases k with
    | zero => have := vb_pos a; omega
    | succ k =>
      have hb : 128 ^ (k + 1) ≤ b := by
        rcases Nat.lt_or_ge b (128 ^ (k + 1)) with h1 | h1
        · have := vb_le k b h1; omega
        · exact h1
      have := vb_ge_pow (k + 1) a (Nat.le_trans hb hab)
      omega
/-- What is read from a place on: the number so far is acc, of i bytes. -/
def go : List UInt8 → Nat → Nat → Nat × Nat × Nat
  | [], _, _ => (0, 0, 8)
  | b :: r, i, acc => if i = 9 ∧ 1 < b.toNat then (0, 0, 4) else if b.toNat < 128 then (acc + b.toNat * 2 ^ (7 * i), i + 1, 0) else go r (i + 1) (acc + (b.toNat - 128) * 2 ^ (7 * i))
theorem go_vb (r : List UInt8) : ∀ (k n i acc : Nat), (vb n).length = k → i + k ≤ 10 → n * 2 ^ (7 * i) < 2 ^ 64 → go (vb n ++ r) i acc = (acc + n * 2 ^ (7 * i), i + (vb n).length, 0) := by
  intro k
  induction k with
  | zero => intro n i acc hk; have := vb_pos n; omega
  | succ k ih =>
    intro n i acc hk hi hn
    have hi9 : i = 9 → n ≤ 1 := by
      intro h; subst h
      rcases Nat.lt_or_ge 1 n with h1 | h1
      · exfalso
        have : 2 * 2 ^ 63 ≤ n * 2 ^ 63 := Nat.mul_le_mul_right _ h1
        have h3 : (2 : Nat) ^ (7 * 9) = 2 ^ 63 := rfl
        rw [h3] at hn
        have h4 : (2 : Nat) * 2 ^ 63 = 2 ^ 64 := rfl
        omega
      · exact h1
    by_cases h : n < 128
    · rw [vb_lt h, List.singleton_append, go, toNat_ofNat (by omega), if_neg (by rintro ⟨h1, h2⟩; have := hi9 h1; omega), if_pos h]
      simp
    · have hn128 : 128 ≤ n := by omega
      rw [vb_ge hn128] at hk ⊢
      rw [List.cons_append, go, toNat_ofNat (by omega), if_neg (by rintro ⟨h1, h2⟩; have := hi9 h1; omega), if_neg (by omega)]
      simp only [List.length_cons] at hk
      have e : 2 ^ (7 * (i + 1)) = 128 * 2 ^ (7 * i) := by rw [Nat.mul_add, Nat.pow_add, Nat.mul_comm]
      have hdiv : n / 128 * 2 ^ (7 * (i + 1)) + n % 128 * 2 ^ (7 * i) = n * 2 ^ (7 * i) := by
        rw [e, ← Nat.mul_assoc, ← Nat.add_mul, Nat.mul_comm (n / 128), Nat.div_add_mod]
      rw [ih (n / 128) (i + 1) _ (by omega) (by omega) (by omega)]
      simp only [List.length_cons, Prod.mk.injEq, and_true]
      have : (n % 128 + 128 - 128) = n % 128 := by omega
      rw [this]
      constructor
      · omega
      · omega
/-- The varint at a place. -/
def uv (l : List UInt8) (at' : Nat) : Nat × Nat × Nat := match go (l.drop at') 0 0 with
  | (n, k, e) => (n, if e = 0 then at' + k else 0, e)
theorem uv_vb (l r : List UInt8) (n : Nat) (h : n < 18446744073709551616) : uv (l ++ (vb n ++ r)) l.length = (n, l.length + (vb n).length, 0) := by
  unfold uv
  rw [List.drop_left, go_vb r (vb n).length n 0 0 rfl (by have := vb_len10 h; omega) (by simpa using h)]
  simp
theorem vb_inj {a b : Nat} (ha : a < 18446744073709551616) (hb : b < 18446744073709551616) (h : vb a = vb b) : a = b := by
  have h1 := uv_vb [] [] a ha
  rw [h] at h1
  have h2 := uv_vb [] [] b hb
  rw [h1] at h2
  simpa using (congrArg (·.1) h2)
/-- The last byte is not 0, unless it is the only one. -/
theorem vb_last : ∀ (k n : Nat), (vb n).length = k + 2 → ∃ b, (vb n)[k + 1]? = some b ∧ b ≠ 0 := by
  intro k
  induction k with
  | zero =>
    intro n h
    have hn : 128 ≤ n := by
      rcases Nat.lt_or_ge n 128 with h1 | h1
      · rw [vb_lt h1] at h; simp at h
      · exact h1
    rw [vb_ge hn] at h ⊢
    simp only [List.length_cons] at h
    have h2 : n / 128 < 128 := by
      rcases Nat.lt_or_ge (n / 128) 128 with h1 | h1
      · exact h1
      · rw [vb_ge h1] at h; have := vb_pos (n / 128 / 128); simp only [List.length_cons] at h; omega
    rw [vb_lt h2]
    refine ⟨UInt8.ofNat (n / 128), by simp, fun h0 => ?_⟩
    have := congrArg UInt8.toNat h0
    rw [toNat_ofNat (by omega)] at this
    simp at this
    omega
  | succ k ih =>
    intro n h
    have hn : 128 ≤ n := by
      rcases Nat.lt_or_ge n 128 with h1 | h1
      · rw [vb_lt h1] at h; simp at h
      · exact h1
    rw [vb_ge hn] at h ⊢
    simp only [List.length_cons] at h
    obtain ⟨b, h1, h2⟩ := ih (n / 128) (by omega)
    exact ⟨b, by simpa using h1, h2⟩
theorem uv_bounds {l : List UInt8} : ∀ (i acc : Nat), i ≤ 9 → acc < 2 ^ (7 * i) → (go l i acc).1 < 2 ^ 64 ∧ (go l i acc).2.1 ≤ i + l.length ∧ ((go l i acc).2.2 = 0 ∨ (go l i acc).2.2 = 8 ∨ (go l i acc).2.2 = 4) ∧ ((go l i acc).2.2 ≠ 0 → (go l i acc).1 = 0 ∧ (go l i acc).2.1 = 0) ∧ ((go l i acc).2.2 = 0 → i < (go l i acc).2.1) := by
  induction l with
  | nil => intro i acc _ _; simp [go]
  | cons b r ih =>
    intro i acc hi hacc
    have hb := UInt8.toNat_lt b
    by_cases h1 : i = 9 ∧ 1 < b.toNat
    · rw [go, if_pos h1]; simp
    · by_cases h2 : b.toNat < 128
      · rw [go, if_neg h1, if_pos h2]
        refine ⟨?_, by simp <;> omega, .inl rfl, fun h => absurd rfl h, fun _ => by simp⟩
        show acc + b.toNat * 2 ^ (7 * i) < 2 ^ 64
        by_cases h9 : i = 9
        · subst h9
          have : b.toNat ≤ 1 := by omega
          have h3 : b.toNat * 2 ^ (7 * 9) ≤ 1 * 2 ^ (7 * 9) := Nat.mul_le_mul_right _ this
          have h4 : (2 : Nat) ^ (7 * 9) = 9223372036854775808 := by decide
          rw [h4] at h3 hacc
          rw [h4]
          omega
        · have h3 : (b.toNat + 1) * 2 ^ (7 * i) ≤ 128 * 2 ^ (7 * i) := Nat.mul_le_mul_right _ (by omega)
          have h4 : 128 * 2 ^ (7 * i) = 2 ^ (7 * (i + 1)) := by rw [Nat.mul_add, Nat.pow_add, Nat.mul_comm]
          have h5 : 2 ^ (7 * (i + 1)) ≤ 2 ^ 64 := Nat.pow_le_pow_right (by decide) (by omega)
          rw [Nat.add_mul] at h3
          omega
      · rw [go, if_neg h1, if_neg h2]
        have h9 : i ≠ 9 := by rintro rfl; exact h1 ⟨rfl, by omega⟩
        have h3 : (b.toNat - 128 + 1) * 2 ^ (7 * i) ≤ 128 * 2 ^ (7 * i) := Nat.mul_le_mul_right _ (by omega)
        have h4 : 128 * 2 ^ (7 * i) = 2 ^ (7 * (i + 1)) := by rw [Nat.mul_add, Nat.pow_add, Nat.mul_comm]
        have := ih (i + 1) (acc + (b.toNat - 128) * 2 ^ (7 * i)) (by omega) (by rw [Nat.add_mul] at h3; omega)
        simp only [List.length_cons]
        obtain ⟨t1, t2, t3, t4, t5⟩ := this
        exact ⟨t1, by omega, t3, t4, fun h => by have := t5 h; omega⟩
/-- Bytes more, of nothing, ahead of the end. -/
def longer (l : List UInt8) : Nat → List UInt8
  | 0 => l
  | k + 1 => if (longer l k).length < 12 then (longer l k).set ((longer l k).length - 1) ((longer l k).getD ((longer l k).length - 1) 0 ||| 128) ++ [0] else longer l k
theorem aux_bounds (f : Nat) : ∀ x, x < 2 ^ f → x < 2 ^ Lib.bitLenAux f x ∧ (x ≠ 0 → 2 ^ Lib.bitLenAux f x ≤ 2 * x) := by
  induction f with
  | zero => intro x h; simp [Lib.bitLenAux]; omega
  | succ f ih =>
    intro x h
    unfold Lib.bitLenAux
    by_cases h0 : x = 0
    · subst h0; simp
    · rw [if_neg h0]
      obtain ⟨h1, h2⟩ := ih (x / 2) (by rw [Nat.pow_succ] at h; omega)
      rw [Nat.add_comm, Nat.pow_succ]
      refine ⟨by omega, fun _ => ?_⟩
      by_cases h3 : x / 2 = 0
      · rw [h3]
        have : Lib.bitLenAux f 0 = 0 := by cases f <;> simp [Lib.bitLenAux]
        rw [this]; omega
      · have := h2 h3; omega
theorem or_one (n : Nat) : n ||| 1 = n / 2 * 2 + 1 := by
  have h := Nat.two_pow_add_eq_or_of_lt (i := 1) (b := 1) (by decide) (n / 2)
  have e : n ||| 1 = 2 ^ 1 * (n / 2) ||| 1 := by
    refine Nat.eq_of_testBit_eq fun i => ?_
    rw [Nat.testBit_or, Nat.testBit_or]
    cases i with
    | zero => simp
    | succ i =>
      have : (2 ^ 1 * (n / 2)).testBit (i + 1) = n.testBit (i + 1) := by
        rw [Nat.pow_one, Nat.testBit_succ, Nat.testBit_succ, Nat.mul_div_cancel_left _ (by decide)]
      rw [this]
  rw [e, ← h]; omega
theorem len_vb {n : Nat} (h : n < 18446744073709551616) : (Lib.bitLen (n ||| 1) + 6) / 7 = (vb n).length := by
  have h1 : n ||| 1 < 2 ^ 64 := by rw [or_one]; omega
  obtain ⟨b1, b2⟩ := aux_bounds 64 (n ||| 1) h1
  have b3 := b2 (by rw [or_one]; omega)
  change n ||| 1 < 2 ^ Lib.bitLen (n ||| 1) at b1
  change 2 ^ Lib.bitLen (n ||| 1) ≤ 2 * (n ||| 1) at b3
  generalize Lib.bitLen (n ||| 1) = L at b1 b3
  obtain ⟨k, hk⟩ : ∃ k, (vb n).length = k + 1 := ⟨(vb n).length - 1, by have := vb_pos n; omega⟩
  have hlo : L ≤ 7 * k + 7 := by
    rcases Nat.lt_or_ge (7 * k + 7) L with h2 | h2
    · exfalso
      have h3 : 2 ^ (7 * k + 8) ≤ 2 ^ L := Nat.pow_le_pow_right (by decide) h2
      have h4 : 2 ^ (7 * k + 8) = 2 * 128 ^ (k + 1) := by rw [show 7 * k + 8 = 7 * (k + 1) + 1 from by omega, Nat.pow_succ, Nat.pow_mul, Nat.mul_comm]
      have h5 : 128 ^ (k + 1) ≤ n ||| 1 := by omega
      rw [or_one] at h5
      have h6 : 128 ^ (k + 1) ≤ n := by
        have : 128 ^ (k + 1) = 2 * (64 * 128 ^ k) := by rw [Nat.pow_succ]; omega
        omega
      have := vb_ge_pow (k + 1) n h6
      omega
    · exact h2
  have hhi : 7 * k + 1 ≤ L := by
    rcases Nat.lt_or_ge L (7 * k + 1) with h2 | h2
    · exfalso
      have h3 : 2 ^ L ≤ 2 ^ (7 * k) := Nat.pow_le_pow_right (by decide) (by omega)
      rw [Nat.pow_mul, show (2 : Nat) ^ 7 = 128 from rfl] at h3
      have h4 : n < 128 ^ k := by rw [or_one] at b1; omega
      cases k with
      | zero => rw [or_one] at b1; rw [Nat.pow_zero] at h3 h4; omega
      | succ k => have := vb_le k n h4; omega
    · exact h2
  omega
/-! zigzag -/
def zig (n : Int) : Nat := if 0 ≤ n then 2 * n.toNat else 2 * (-(n + 1)).toNat + 1
def zag (n : Nat) : Int := if n % 2 = 0 then ((n / 2 : Nat) : Int) else -((n / 2 : Nat) : Int) - 1
theorem zag_zig (n : Int) : zag (zig n) = n := by
  unfold zag zig
  by_cases h : 0 ≤ n
  · rw [if_pos h, if_pos (by omega)]; omega
  · rw [if_neg h, if_neg (by omega)]; omega
theorem zig_zag (n : Nat) : zig (zag n) = n := by
  unfold zag zig
  by_cases h : n % 2 = 0
  · rw [if_pos h, if_pos (by omega)]; omega
  · rw [if_neg h, if_neg (by omega)]; omega
theorem zig_lt {n : Int} (h1 : -9223372036854775808 ≤ n) (h2 : n ≤ 9223372036854775807) : zig n < 18446744073709551616 := by
  unfold zig; split <;> omega
theorem zag_range {n : Nat} (h : n < 18446744073709551616) : -9223372036854775808 ≤ zag n ∧ zag n ≤ 9223372036854775807 := by
  unfold zag; split <;> omega
/-! fixed numbers -/
/-- So many bytes of a number, the least first. -/
def fb : Nat → Nat → List UInt8
  | 0, _ => []
  | k + 1, n => UInt8.ofNat (n % 256) :: fb k (n / 256)
theorem fb_length (k : Nat) : ∀ n, (fb k n).length = k := by
  induction k with
  | zero => intro n; rfl
  | succ k ih => intro n; simp [fb, ih]
theorem fb_mod (k : Nat) : ∀ n, fb k (n % 256 ^ k) = fb k n := by
  induction k with
  | zero => intro n; rfl
  | succ k ih =>
    intro n
    have e1 : n % 256 ^ (k + 1) % 256 = n % 256 := by rw [Nat.pow_succ, Nat.mul_comm, Nat.mod_mul_right_mod]
    have e2 : n % 256 ^ (k + 1) / 256 = n / 256 % 256 ^ k := by rw [Nat.pow_succ, Nat.mul_comm, Nat.mod_mul_right_div_self]
    rw [fb, fb, e1, e2, ih]
/-- The number of bytes, the least first. -/
def fv : List UInt8 → Nat
  | [] => 0
  | b :: r => b.toNat + 256 * fv r
theorem fv_fb (k : Nat) : ∀ n, fv (fb k n) = n % 256 ^ k := by
  induction k with
  | zero => intro n; simp [fb, fv, Nat.mod_one]
  | succ k ih =>
    intro n
    rw [fb, fv, ih, toNat_ofNat (Nat.mod_lt _ (by decide)), Nat.pow_succ, Nat.mul_comm (256 ^ k), Nat.mod_mul]
theorem fv_lt (l : List UInt8) : fv l < 256 ^ l.length := by
  induction l with
  | nil => simp [fv]
  | cons b r ih =>
    have := UInt8.toNat_lt b
    rw [fv, List.length_cons, Nat.pow_succ]
    omega
theorem fb_fv (l : List UInt8) : fb l.length (fv l) = l := by
  induction l with
  | nil => rfl
  | cons b r ih =>
    have h := UInt8.toNat_lt b
    rw [List.length_cons, fb, fv, show (b.toNat + 256 * fv r) % 256 = b.toNat from by omega, show (b.toNat + 256 * fv r) / 256 = fv r from by omega, ih]
    congr 1
    exact UInt8.toNat_inj.1 (toNat_ofNat h)
theorem fv_append (l m : List UInt8) : fv (l ++ m) = fv l + 256 ^ l.length * fv m := by
  induction l with
  | nil => simp [fv]
  | cons b r ih =>
    rw [List.cons_append, fv, fv, ih, List.length_cons, Nat.pow_succ, Nat.mul_add, ← Nat.mul_assoc, Nat.mul_comm 256 (256 ^ r.length)]
    omega
end Go.Proofs.YtpfoekfbcpinlaaGreatDoor.Var
