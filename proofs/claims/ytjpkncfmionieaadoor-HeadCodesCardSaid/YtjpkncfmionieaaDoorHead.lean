/- Plain law: heads: which may be, their bytes, what bytes are read as. No program in sight. -/
import Derived.Test.YtjpkncfmionieaaDoorReaderFive
namespace Go.Proofs.YtjpkncfmionieaaDoor.Hd
open Go.Proofs.YtjpkncfmionieaaDoor.Var
set_option linter.unusedVariables false

/-! ### Varints, whole and least -/
theorem uvI_pre (pre r : List UInt8) : uvI (pre ++ r) (pre.length : Nat) = ((go r 0 0).1, if (go r 0 0).2.2 = 0 then pre.length + (go r 0 0).2.1 else 0, (go r 0 0).2.2) := by
  unfold uvI
  rw [if_neg (by simp; omega), Int.toNat_natCast]
  unfold uv
  rw [List.drop_left]
theorem uvI_put (pre post : List UInt8) {n : Nat} (h : n < 18446744073709551616) : uvI (pre ++ (vb n ++ post)) (pre.length : Nat) = (n, pre.length + (vb n).length, 0) := by
  rw [uvI_pre, go_vb post (vb n).length n 0 0 rfl (by have := vb_len10 h; omega) (by simpa using h)]
  simp
theorem rV_put (pre post : List UInt8) {n most : Nat} (hn : n ≤ most) (hm : most < 18446744073709551616) : rVarint (pre ++ (vb n ++ post)) pre.length 0 most = (n, pre.length + (vb n).length, 0) := by
  unfold rVarint
  rw [if_pos rfl, uvI_put pre post (by omega), if_pos rfl, if_neg (by omega)]
theorem go_value {l : List UInt8} : ∀ (i acc : Nat), acc < 2 ^ (7 * i) → (go l i acc).2.2 = 0 → i < (go l i acc).2.1 ∧ (go l i acc).1 < 2 ^ (7 * (go l i acc).2.1) := by
  induction l with
  | nil => intro i acc _ h; simp [go] at h
  | cons b r ih =>
    intro i acc hacc h
    have hb := UInt8.toNat_lt b
    have h4 : 128 * 2 ^ (7 * i) = 2 ^ (7 * (i + 1)) := by rw [Nat.mul_add, Nat.pow_add, Nat.mul_comm]
    by_cases h1 : i = 9 ∧ 1 < b.toNat
    · rw [go, if_pos h1] at h; simp at h
    · by_cases h2 : b.toNat < 128
      · rw [go, if_neg h1, if_pos h2]
        refine ⟨Nat.lt_succ_self i, ?_⟩
        show acc + b.toNat * 2 ^ (7 * i) < 2 ^ (7 * (i + 1))
        have h3 : (b.toNat + 1) * 2 ^ (7 * i) ≤ 128 * 2 ^ (7 * i) := Nat.mul_le_mul_right _ (by omega)
        rw [Nat.add_mul] at h3
        omega
      · rw [go, if_neg h1, if_neg h2] at h ⊢
        have h3 : (b.toNat - 128 + 1) * 2 ^ (7 * i) ≤ 128 * 2 ^ (7 * i) := Nat.mul_le_mul_right _ (by omega)
        have := ih (i + 1) (acc + (b.toNat - 128) * 2 ^ (7 * i)) (by rw [Nat.add_mul] at h3; omega) h
        exact ⟨by omega, this.2⟩
theorem rV_least (l : List UInt8) (p e most : Nat) (hp : p ≤ l.length) (h : (rVarint l p e most).2.2 = 0) : e = 0 ∧ (rVarint l p e most).1 ≤ most ∧ p + (vb (rVarint l p e most).1).length ≤ (rVarint l p e most).2.1 ∧ (rVarint l p e most).2.1 ≤ l.length := by
  have hf := uvI_facts l p hp
  unfold rVarint at h ⊢
  by_cases he : e = 0
  · rw [if_pos he] at h ⊢
    by_cases h0 : (uvI l p).2.2 = 0
    · rw [if_pos h0] at h ⊢
      by_cases hm : most < (uvI l p).1
      · rw [if_pos hm] at h; simp at h
      · rw [if_neg hm] at h ⊢
        refine ⟨he, by simp only []; omega, ?_, hf.2.1⟩
        simp only []
        have hl : l.take p ++ l.drop p = l := List.take_append_drop p l
        have hk : (l.take p).length = p := by rw [List.length_take]; omega
        have hu := uvI_pre (l.take p) (l.drop p)
        rw [hl, hk] at hu
        rw [hu] at h0 ⊢
        simp only [] at h0 ⊢
        rw [if_pos h0]
        obtain ⟨g1, g2⟩ := go_value 0 0 (by decide) h0
        obtain ⟨k, hk1⟩ : ∃ k, (go (l.drop p) 0 0).2.1 = k + 1 := ⟨(go (l.drop p) 0 0).2.1 - 1, by omega⟩
        rw [hk1] at g2 ⊢
        have := vb_le k _ (by rw [show (128 : Nat) = 2 ^ 7 from rfl, ← Nat.pow_mul]; exact g2)
        omega
    · rw [if_neg h0] at h; exact absurd h h0
  · rw [if_neg he] at h; exact absurd h he
theorem rV_stuck (l : List UInt8) (p e most : Nat) (he : e ≠ 0) : rVarint l p e most = (0, p, e) := by unfold rVarint; rw [if_neg he]
theorem rV_le (l : List UInt8) (p e most : Nat) (hp : p ≤ l.length) : (rVarint l p e most).2.1 ≤ l.length := by
  have hf := uvI_facts l p hp
  unfold rVarint
  split
  · split
    · split
      · exact hp
      · exact hf.2.1
    · exact hp
  · exact hp

/-! ### Heads -/
structure HV where
  gen : Int
  base : Int
  snap : Int
  log : List Int
def HV.tapes (h : HV) : List Int := if h.snap = 0 then h.log else h.snap :: h.log
/-- Do those tapes may be, behind those that were seen? -/
def mayT (seen : List Int) : List Int → Bool
  | [] => true
  | t :: r => (decide (2 ≤ t) && decide (t < 32) && !seen.contains t) && mayT (t :: seen) r
def HV.first (h : HV) : Bool := decide (1 ≤ h.gen ∧ h.gen ≤ 1099511627776 ∧ 0 ≤ h.base ∧ h.base ≤ 1099511627776 ∧ h.log ≠ [] ∧ ¬ (h.snap = 0 ∧ 0 < h.base))
def HV.may (h : HV) : Bool := h.first && mayT [] h.tapes
theorem mayT_iff : ∀ (l seen : List Int), mayT seen l = true ↔ (∀ t ∈ l, 2 ≤ t ∧ t < 32 ∧ t ∉ seen) ∧ l.Nodup
  | [], seen => by simp [mayT]
  | t :: r, seen => by
    rw [mayT, Bool.and_eq_true, mayT_iff r (t :: seen)]
    simp only [Bool.and_eq_true, decide_eq_true_eq, Bool.not_eq_true', List.contains_eq_mem, decide_eq_false_iff_not, List.mem_cons, not_or, List.nodup_cons, forall_eq_or_imp]
    constructor
    · rintro ⟨⟨⟨a, b⟩, c⟩, d, e⟩
      exact ⟨⟨⟨a, b, c⟩, fun u hu => ⟨(d u hu).1, (d u hu).2.1, (d u hu).2.2.2⟩⟩, fun hm => (d t hm).2.2.1 rfl, e⟩
    · rintro ⟨⟨⟨a, b, c⟩, d⟩, e, f⟩
      exact ⟨⟨⟨a, b⟩, c⟩, fun u hu => ⟨(d u hu).1, (d u hu).2.1, fun hx => e (hx ▸ hu), (d u hu).2.2⟩, f⟩
/-- The tapes that are none of heads. -/
def R : List Int := (List.range 30).map fun (k : Nat) => (k : Int) + 2
theorem R_count {a : Int} (h : 2 ≤ a ∧ a < 32) : R.count a = 1 := by
  obtain ⟨k, rfl⟩ : ∃ k : Nat, a = (k : Int) + 2 := ⟨(a - 2).toNat, by omega⟩
  have hk : k < 30 := by omega
  exact (by decide : ∀ k : Fin 30, R.count ((k.val : Int) + 2) = 1) ⟨k, hk⟩
theorem countP_or (p q : Int → Bool) : ∀ (l : List Int), (∀ x ∈ l, ¬ (p x = true ∧ q x = true)) → l.countP (fun x => p x || q x) = l.countP p + l.countP q
  | [], _ => rfl
  | x :: r, h => by
    have ih := countP_or p q r (fun y hy => h y (List.mem_cons_of_mem _ hy))
    have hx := h x (List.mem_cons_self ..)
    rw [List.countP_cons, List.countP_cons, List.countP_cons, ih]
    cases hp : p x <;> cases hq : q x
    · simp
    · simp; omega
    · simp; omega
    · exact absurd ⟨hp, hq⟩ hx
theorem count_in : ∀ (l : List Int), l.Nodup → (∀ t ∈ l, 2 ≤ t ∧ t < 32) → R.countP (fun t => l.contains t) = l.length
  | [], _, _ => by decide
  | a :: r, hn, hr => by
    rw [List.nodup_cons] at hn
    have ih := count_in r hn.2 (fun t ht => hr t (List.mem_cons_of_mem _ ht))
    have h1 : (fun t => (a :: r).contains t) = fun t => (t == a) || r.contains t := by
      funext t
      exact List.contains_cons
    rw [h1, countP_or _ _ _ (fun x _ hx => hn.1 (by have h2 := hx.1; have h3 := hx.2; rw [beq_iff_eq] at h2; subst h2; simpa using h3)), ih, List.length_cons]
    have := R_count (hr a (List.mem_cons_self ..))
    rw [List.count] at this
    omega
def HV.uses (h : HV) (t : Int) : Bool := (decide (t ≠ 0) && decide (h.snap = t)) || h.log.contains t
def HV.free (h : HV) : List Int := R.filter fun t => !h.uses t
theorem uses_tapes (h : HV) (t : Int) (ht : t ≠ 0) : h.uses t = h.tapes.contains t := by
  unfold HV.uses HV.tapes
  by_cases h0 : h.snap = 0
  · rw [if_pos h0, h0]
    simp [ht, Ne.symm ht]
  · rw [if_neg h0]
    by_cases h1 : h.snap = t
    · simp [h1, ht]
    · simp [h1, ht, Ne.symm h1]
theorem R_ne {t : Int} (h : t ∈ R) : t ≠ 0 := by
  obtain ⟨k, _, rfl⟩ := List.mem_map.1 h
  omega
/-- A head that may be: its tapes and the free ones are all. -/
theorem parted (h : HV) (hm : h.may = true) : h.tapes.length + h.free.length = 30 := by
  unfold HV.may at hm
  rw [Bool.and_eq_true] at hm
  obtain ⟨h1, h2⟩ := (mayT_iff _ _).1 hm.2
  have hc := count_in h.tapes h2 (fun t ht => ⟨(h1 t ht).1, (h1 t ht).2.1⟩)
  have hs := List.length_eq_countP_add_countP (fun t => h.tapes.contains t) (l := R)
  have hR : R.length = 30 := by decide
  have hf : h.free.length = R.countP (fun t => !h.tapes.contains t) := by
    unfold HV.free
    rw [← List.countP_eq_length_filter]
    exact List.countP_congr fun t ht => by rw [uses_tapes h t (R_ne ht)]
  have he : R.countP (fun t => !h.tapes.contains t) = R.countP (fun t => decide ¬ (h.tapes.contains t = true)) := List.countP_congr fun t _ => by simp
  omega
theorem HV.few {h : HV} (hm : h.may = true) : h.tapes.length ≤ 30 ∧ h.log.length ≤ 30 := by
  have := parted h hm
  have hl : h.log.length ≤ h.tapes.length := by unfold HV.tapes; split <;> simp
  omega

/-! ### Bytes -/
def logB (l : List Int) : List UInt8 := l.flatMap fun t => vb t.toNat
def HV.enc (h : HV) : List UInt8 := vb h.gen.toNat ++ (vb h.base.toNat ++ (vb h.snap.toNat ++ (vb h.log.length ++ logB h.log)))
def readN (l : List UInt8) : Nat → Nat → Nat → List Int × Nat × Nat
  | 0, p, e => ([], p, e)
  | k + 1, p, e => ((rVarint l p e 31).1 :: (readN l k (rVarint l p e 31).2.1 (rVarint l p e 31).2.2).1, (readN l k (rVarint l p e 31).2.1 (rVarint l p e 31).2.2).2)
theorem readN_len (l : List UInt8) : ∀ k p e, (readN l k p e).1.length = k
  | 0, _, _ => rfl
  | k + 1, p, e => by rw [readN, List.length_cons, readN_len l k]
theorem readN_put (post : List UInt8) : ∀ (q : List Int) (pre : List UInt8), (∀ t ∈ q, 0 ≤ t ∧ t ≤ 31) → readN (pre ++ (logB q ++ post)) q.length pre.length 0 = (q, pre.length + (logB q).length, 0)
  | [], pre, _ => by simp [readN, logB]
  | t :: r, pre, h => by
    have ht := h t (List.mem_cons_self ..)
    have hc : logB (t :: r) = vb t.toNat ++ logB r := by simp [logB]
    have hv := rV_put pre (logB r ++ post) (n := t.toNat) (most := 31) (by omega) (by decide)
    have hr := readN_put post r (pre ++ vb t.toNat) (fun u hu => h u (List.mem_cons_of_mem _ hu))
    rw [List.append_assoc, List.length_append] at hr
    rw [hc, List.append_assoc, List.length_cons, readN, hv]
    simp only [hr, List.length_append]
    refine Prod.ext ?_ (Prod.ext ?_ rfl)
    · simp only [List.cons.injEq, and_true]; omega
    · simp only []; omega
theorem readN_least (l : List UInt8) : ∀ k p e, p ≤ l.length → (readN l k p e).2.2 = 0 → e = 0 ∧ p + (logB (readN l k p e).1).length ≤ (readN l k p e).2.1 ∧ (readN l k p e).2.1 ≤ l.length
  | 0, p, e, hp, h => ⟨h, by simp [readN, logB], hp⟩
  | k + 1, p, e, hp, h => by
    rw [readN] at h ⊢
    have hle := rV_le l p e 31 hp
    obtain ⟨i1, i2, i3⟩ := readN_least l k _ _ hle h
    obtain ⟨j1, j2, j3, j4⟩ := rV_least l p e 31 hp i1
    refine ⟨j1, ?_, i3⟩
    have hc : ∀ (t : Nat) (r : List Int), (logB ((t : Int) :: r)).length = (vb t).length + (logB r).length := fun t r => by simp [logB]
    simp only [hc]
    omega
end Go.Proofs.YtjpkncfmionieaaDoor.Hd
