/- Frames cut short, or with one byte another one: the plain laws. -/
import Derived.Test.YtdclfffjiokenaaDoorPart
namespace Go.Proofs.YtdclfffjiokenaaDoor
open Go.RowKit
set_option linter.unusedVariables false

namespace Crc
theorem xor_cancel_right {a b c : Nat} (h : a ^^^ c = b ^^^ c) : a = b := by
  rw [Nat.xor_comm a, Nat.xor_comm b] at h
  exact xor_cancel_left h
theorem upd_inj (l : List UInt8) : ∀ {c d : Nat}, c < 2 ^ 32 → d < 2 ^ 32 → upd c l = upd d l → c = d := by
  induction l with
  | nil => intro c d _ _ h; exact h
  | cons b l ih =>
    intro c d hc hd h
    have h1 := ih (byte_lt hc b) (byte_lt hd b) h
    exact xor_cancel_right (steps_inj 8 (Nat.xor_lt_two_pow hc (u8_lt b)) (Nat.xor_lt_two_pow hd (u8_lt b)) h1)
theorem crc_set (l : List UInt8) (d : Nat) (y : UInt8) (h : crc (l.set d y) = crc l) : l.set d y = l := by
  rcases Nat.lt_or_ge d l.length with hd | hd
  · have e1 : l = l.take d ++ l[d] :: l.drop (d + 1) := by rw [List.getElem_cons_drop, List.take_append_drop]
    have e2 : l.set d y = l.take d ++ y :: l.drop (d + 1) := by rw [List.set_eq_take_append_cons_drop, if_pos hd]
    have h1 := add_eq_iff.1 h
    rw [e2] at h1
    conv at h1 => rhs; rw [e1]
    rw [upd_append, upd_append, upd_cons, upd_cons] at h1
    have hc := upd_lt (c := 0 ^^^ ones) (by decide) (l.take d)
    have h2 := upd_inj _ (byte_lt hc y) (byte_lt hc l[d]) h1
    have h3 := steps_inj 8 (Nat.xor_lt_two_pow hc (u8_lt y)) (Nat.xor_lt_two_pow hc (u8_lt l[d])) h2
    have h4 : y = l[d] := UInt8.toNat_inj.1 (xor_cancel_left h3)
    rw [h4]
    exact List.set_getElem_self hd
  · exact List.set_eq_of_length_le hd
end Crc
namespace Fr
theorem sumL_set (l : List UInt8) (d : Nat) (y : UInt8) (h : sumL (l.set d y) = sumL l) : l.set d y = l :=
  Crc.crc_set l d y (Crc.mask_inj (Crc.crc_lt _) (Crc.crc_lt _) h)
theorem num_take (l : List UInt8) {j : Nat} (h : 4 ≤ j) : num (l.take j) = num l := by
  unfold num; rw [List.take_take, Nat.min_eq_left h]
theorem num_fr (b : UInt8) (p m : List UInt8) (hp : p.length < 4294967296) : num (fr b p ++ m) = p.length := by
  unfold num
  have e0 : fr b p ++ m = Var.fb 4 p.length ++ (Var.fb 4 (sumL (b :: p)) ++ (b :: (p ++ m))) := by simp [fr]
  rw [e0, List.take_left' (Var.fb_length 4 _), Var.fv_fb]
  exact Nat.mod_eq_of_lt hp
theorem readL_torn (b : UInt8) (p r : List UInt8) (hp : p.length ≤ 262144) {j : Nat} (hj : j < p.length + 9) : (readL ((fr b p ++ r).take j)).1 ≠ 0 := by
  intro h
  obtain ⟨h1, h2, h3, h4, h5, _⟩ := readL_ok h
  have hl : ((fr b p ++ r).take j).length = j := by rw [List.length_take, List.length_append, fr_length]; omega
  rw [hl] at h1 h3
  rw [num_take _ (by omega), num_fr _ _ _ (by omega)] at h3
  omega
theorem readL_nil : (readL []).1 ≠ 0 := by decide
theorem fb_inj {k a b : Nat} (ha : a < 256 ^ k) (hb : b < 256 ^ k) (h : Var.fb k a = Var.fb k b) : a = b := by
  have := congrArg Var.fv h
  rwa [Var.fv_fb, Var.fv_fb, Nat.mod_eq_of_lt ha, Nat.mod_eq_of_lt hb] at this
/-- A frame with one byte another one. -/
theorem readL_bent (b : UInt8) (p r : List UInt8) (hp : p.length ≤ 262144) {d : Nat} (hd : d < p.length + 9) (y : UInt8) (hy : (fr b p).set d y ≠ fr b p) (h : (readL ((fr b p ++ r).set d y)).1 = 0) :
    (readL ((fr b p ++ r).set d y)).2.2.length ≠ p.length ∧ d < 4 := by
  obtain ⟨h1, h2, h3, m, h4⟩ := readL_is h
  obtain ⟨_, _, _, _, _, hro⟩ := readL_ok h
  generalize (readL ((fr b p ++ r).set d y)).2.1 = k' at *
  have hne : (readL ((fr b p ++ r).set d y)).2.2.length ≠ p.length := by
    intro hn
    generalize (readL ((fr b p ++ r).set d y)).2.2 = p' at *
    have e1 : (fr b p ++ r).set d y = (fr b p).set d y ++ r := List.set_append_left _ _ (by rw [fr_length]; exact hd)
    rw [e1] at h4
    have e2 : (fr b p).set d y = fr (UInt8.ofNat k') p' := (List.append_inj h4 (by rw [List.length_set, fr_length, fr_length, hn])).1
    generalize UInt8.ofNat k' = b' at *
    unfold fr at e2 hy
    rw [hn] at e2
    have l4 : (Var.fb 4 p.length).length = 4 := Var.fb_length 4 _
    have l4' : (Var.fb 4 (sumL (b :: p))).length = 4 := Var.fb_length 4 _
    have l4'' : (Var.fb 4 (sumL (b' :: p'))).length = 4 := Var.fb_length 4 _
    rcases Nat.lt_or_ge d 4 with hd4 | hd4
    · rw [List.set_append_left _ _ (by rw [l4]; exact hd4)] at e2 hy
      have e3 := (List.append_inj e2 (by rw [List.length_set])).1
      rw [e3] at hy
      exact hy rfl
    · rw [List.set_append_right _ _ (by rw [l4]; exact hd4), l4] at e2 hy
      have e3 := List.append_cancel_left e2
      rcases Nat.lt_or_ge (d - 4) 4 with hd8 | hd8
      · rw [List.set_append_left _ _ (by rw [l4']; exact hd8)] at e3 hy
        obtain ⟨e4, e5⟩ := List.append_inj e3 (by rw [List.length_set, l4', l4''])
        rw [← e5] at e4
        rw [e4] at hy
        exact hy rfl
      · rw [List.set_append_right _ _ (by rw [l4']; exact hd8), l4'] at e3 hy
        obtain ⟨e4, e5⟩ := List.append_inj e3 (by rw [l4', l4''])
        have e6 := fb_inj (by exact sumL_lt _) (by exact sumL_lt _) e4
        rw [← e5] at e6
        have e7 := sumL_set _ _ _ e6.symm
        rw [e7] at hy
        exact hy rfl
  refine ⟨hne, ?_⟩
  rcases Nat.lt_or_ge d 4 with hd4 | hd4
  · exact hd4
  · exfalso
    apply hne
    have hnum : num ((fr b p ++ r).set d y) = p.length := by
      rw [← num_fr b p r (by omega)]
      unfold num
      rw [List.take_set_of_le hd4]
    rw [hro, hnum]
    simp only []
    rw [List.length_take, List.length_drop, List.length_set, List.length_append, fr_length]
    omega
end Fr
theorem parts_take (f : Nat → PtV) {j len : Nat} (h : j ≤ len) : (parts f len).take j = parts f j := by
  unfold parts
  rw [← List.map_take, List.take_range, Nat.min_eq_left h]
theorem parts_cut (f : Nat → PtV) {j len : Nat} (h : j < len) : ∃ r, parts f len = parts f j ++ (f j).part :: r := by
  refine ⟨(parts f len).drop (j + 1), ?_⟩
  have h1 := List.take_append_drop (j + 1) (parts f len)
  rw [parts_take f h, parts_succ] at h1
  rw [List.append_assoc] at h1
  exact h1.symm
theorem scan_torn (f : Nat → PtV) (len : Nat) (hc : cost f len < 6000) (k j : Nat) (hk : k ≤ (rowB (parts f len)).length) (hj : j ≤ len) (h1 : (rowB (parts f j)).length ≤ k) (h2 : j = len ∨ k < (rowB (parts f (j + 1))).length) :
    scanL ((rowB (parts f len)).take k) 0 = (framesAt 0 (parts f j), (rowB (parts f j)).length) := by
  have hok := parts_ok f j (Nat.lt_of_le_of_lt (cost_mono f hj) hc)
  rcases Nat.lt_or_ge j len with hlt | hge
  · obtain ⟨r, hr⟩ := parts_cut f hlt
    have hx : (f j).part.ok := part_ok (small_of f len hc j hlt)
    rw [hr, rowB_append, rowB_cons, List.take_append, List.take_of_length_le h1]
    have h3 : k < (rowB (parts f j)).length + ((f j).part.p.length + 9) := by
      rcases h2 with h | h
      · omega
      · rw [parts_succ, rowB_append, List.length_append] at h
        have : (rowB [(f j).part]).length = (f j).part.p.length + 9 := by rw [rowB_cons]; simp [rowB, PartV.len]
        omega
    have ht := Fr.readL_torn (UInt8.ofNat (f j).part.k) (f j).part.p (rowB r) hx.2.2 (j := k - (rowB (parts f j)).length) (by omega)
    have := scan_row (parts f j) hok _ ht []
    simpa [PartV.b] using this
  · obtain rfl : j = len := by omega
    rw [List.take_of_length_le h1]
    have := scan_row (parts f j) hok [] Fr.readL_nil []
    simpa using this
/-- Where frames stand one behind the other, and then anything: they are scanned, and then what is there. -/
theorem scan_pre (l : List PartV) (hl : ∀ x ∈ l, x.ok) (tail : List UInt8) : ∀ pre : List UInt8, scanL (pre ++ rowB l ++ tail) pre.length = (framesAt pre.length l ++ (scanL (pre ++ rowB l ++ tail) (pre.length + (rowB l).length)).1, (scanL (pre ++ rowB l ++ tail) (pre.length + (rowB l).length)).2) := by
  induction l with
  | nil => intro pre; simp [framesAt, rowB]
  | cons x r ih =>
    intro pre
    obtain ⟨h1, h2, h3⟩ := hl x (List.mem_cons_self ..)
    have hd : (pre ++ rowB (x :: r) ++ tail).drop pre.length = Fr.fr (UInt8.ofNat x.k) x.p ++ (rowB r ++ tail) := by
      rw [rowB_cons, List.append_assoc, List.drop_left' rfl, List.append_assoc]; rfl
    have hr := Fr.readL_fr (rowB r ++ tail) h1 h2 h3
    rw [← hd] at hr
    have hf : frAt (pre ++ rowB (x :: r) ++ tail) pre.length = ⟨x.k, x.p, pre.length⟩ := by unfold frAt; rw [hr]
    have e : pre ++ rowB (x :: r) ++ tail = (pre ++ x.b) ++ rowB r ++ tail := by rw [rowB_cons]; simp
    have hn : (⟨x.k, x.p, pre.length⟩ : FrV).next = (pre ++ x.b).length := by
      rw [List.length_append, PartV.len]; unfold FrV.next; simp only []; omega
    have hl2 : (pre ++ x.b).length = pre.length + 9 + x.p.length := by rw [List.length_append, PartV.len]; omega
    have hl3 : pre.length + (rowB (x :: r)).length = (pre ++ x.b).length + (rowB r).length := by rw [rowB_cons, List.length_append, List.length_append]; omega
    rw [scanL_ok (by rw [hr]), hf, hn, e, ih (fun y hy => hl y (List.mem_cons_of_mem _ hy)) (pre ++ x.b), ← e, hl3, hl2]
    simp only [framesAt, List.cons_append]
theorem scanL_ge (l : List UInt8) (p : Nat) : p ≤ (scanL l p).2 := by
  induction p using scanL.induct (l := l) with
  | case1 p h ih => rw [scanL_ok h]; have := frAt_next h; simp only []; omega
  | case2 p h => rw [scanL_end h]; exact Nat.le_refl _
theorem scan_bent (f : Nat → PtV) (len : Nat) (hc : cost f len < 6000) (k j : Nat) (y : UInt8) (hj : j < len) (h1 : (rowB (parts f j)).length ≤ k) (h2 : k < (rowB (parts f (j + 1))).length) (hy : (rowB (parts f len)).set k y ≠ rowB (parts f len)) :
    ((scanL ((rowB (parts f len)).set k y) 0).1.take j = framesAt 0 (parts f j) ∧ (rowB (parts f j)).length ≤ (scanL ((rowB (parts f len)).set k y) 0).2) ∧
    ((Fr.readL (((rowB (parts f len)).set k y).drop (rowB (parts f j)).length)).1 = 0 → (Fr.readL (((rowB (parts f len)).set k y).drop (rowB (parts f j)).length)).2.2.length ≠ (f j).s.size ∧ k - (rowB (parts f j)).length < 4) := by
  have hok := parts_ok f j (Nat.lt_of_le_of_lt (cost_mono f (Nat.le_of_lt hj)) hc)
  obtain ⟨r, hr⟩ := parts_cut f hj
  have hx : (f j).part.ok := part_ok (small_of f len hc j hj)
  have h3 : k < (rowB (parts f j)).length + ((f j).part.p.length + 9) := by
    rw [parts_succ, rowB_append, List.length_append] at h2
    have : (rowB [(f j).part]).length = (f j).part.p.length + 9 := by rw [rowB_cons]; simp [rowB, PartV.len]
    omega
  have hz : (f j).part.p.length = (f j).s.size := by unfold PtV.part; exact data_len _
  have he : rowB (parts f len) = rowB (parts f j) ++ ((f j).part.b ++ rowB r) := by rw [hr, rowB_append, rowB_cons]
  rw [he, List.set_append_right _ _ h1] at hy ⊢
  generalize (f j).part = x at *
  have hd : k - (rowB (parts f j)).length < x.p.length + 9 := by omega
  refine ⟨?_, ?_⟩
  · have hp := scan_pre (parts f j) hok ((x.b ++ rowB r).set (k - (rowB (parts f j)).length) y) []
    simp only [List.nil_append, List.length_nil, Nat.zero_add] at hp
    rw [hp]
    refine ⟨?_, scanL_ge _ _⟩
    simp only []
    rw [List.take_left' (by rw [framesAt_length, parts_length])]
  · intro h0
    rw [List.drop_left' rfl] at h0 ⊢
    have hy2 : (Fr.fr (UInt8.ofNat x.k) x.p).set (k - (rowB (parts f j)).length) y ≠ Fr.fr (UInt8.ofNat x.k) x.p := by
      intro e
      apply hy
      unfold PartV.b
      rw [List.set_append_left _ _ (by rw [Fr.fr_length]; exact hd), e]
    have := Fr.readL_bent (UInt8.ofNat x.k) x.p (rowB r) hx.2.2 hd y hy2 h0
    rw [← hz]
    exact this
end Go.Proofs.YtdclfffjiokenaaDoor
