/- Plain law: what Put leaves on a disk; which head counts then. -/
import Derived.Test.YtjpkncfmionieaaDoorHeadSame
namespace Go.Proofs.YtjpkncfmionieaaDoor
open Go.RowKit
set_option linter.unusedVariables false

namespace Fr
theorem num_take (l : List UInt8) {j : Nat} (h : 4 ≤ j) : num (l.take j) = num l := by
  unfold num; rw [List.take_take, Nat.min_eq_left h]
theorem num_fr (b : UInt8) (p m : List UInt8) (hp : p.length < 4294967296) : num (fr b p ++ m) = p.length := by
  unfold num
  have e0 : fr b p ++ m = Var.fb 4 p.length ++ (Var.fb 4 (sumL (b :: p)) ++ (b :: (p ++ m))) := by simp [fr]
  rw [e0, List.take_left' (Var.fb_length 4 _), Var.fv_fb]
  exact Nat.mod_eq_of_lt hp
theorem readL_torn (b : UInt8) (p r : List UInt8) (hp : p.length ≤ 262144) {j : Nat} (hj : j < p.length + 9) : (readL ((fr b p ++ r).take j)).1 ≠ 0 := by
  intro h
  obtain ⟨h1, h2, h3, h4, h5, _⟩ := readL_ok h
  have hl : ((fr b p ++ r).take j).length = j := by rw [List.length_take, List.length_append, fr_length]; omega
  rw [hl] at h1 h3
  rw [num_take _ (by omega), num_fr _ _ _ (by omega)] at h3
  omega
end Fr
namespace Hd
theorem bytes_list (h : HV) : (bytesV h).data.toList = Fr.fr 3 h.enc := B_list _
theorem bytes_size (h : HV) : (bytesV h).size = h.enc.length + 9 := by unfold bytesV; rw [B_size, Fr.fr_length]
theorem ofV_fr {h : HV} (hm : h.may = true) (m : List UInt8) : ofV (Fr.fr 3 h.enc ++ m) = (h, true) := by
  have hr := Fr.readL_fr (k := 3) (p := h.enc) m (by decide) (by decide) (by have := enc_len hm; omega)
  have e3 : (UInt8.ofNat 3) = 3 := rfl
  rw [e3] at hr
  unfold ofV
  rw [hr, if_pos ⟨rfl, rfl⟩]
  simp only [dec_enc hm, decide_true]
theorem ofV_bytes {h : HV} (hm : h.may = true) : ofV (bytesV h).data.toList = (h, true) := by
  rw [bytes_list]
  have := ofV_fr hm []
  rwa [List.append_nil] at this
theorem ofV_bad {l : List UInt8} (h : (Fr.readL l).1 ≠ 0) : ofV l = (HV.zero, false) := by
  unfold ofV
  rw [if_neg (fun hh => h hh.1)]
theorem ofV_nil : ofV [] = (HV.zero, false) := ofV_bad (by decide)
theorem ofV_torn {h : HV} (hm : h.may = true) {j : Nat} (hj : j < (bytesV h).size) : ofV ((bytesV h).extract 0 j).data.toList = (HV.zero, false) := by
  have e : ((bytesV h).extract 0 j).data.toList = (Fr.fr 3 h.enc ++ []).take j := by
    rw [List.append_nil, ← bytes_list]
    simp [ByteArray.data_extract]
  rw [e]
  rw [bytes_size] at hj
  exact ofV_bad (Fr.readL_torn 3 h.enc [] (by have := enc_len hm; omega) hj)
theorem ofV_cases (l : List UInt8) : ofV l = (HV.zero, false) ∨ ∃ h : HV, h.may = true ∧ ofV l = (h, true) := by
  unfold ofV
  by_cases h : (Fr.readL l).1 = 0 ∧ (Fr.readL l).2.1 = 3
  · rw [if_pos h]
    generalize hd : decV (Fr.readL l).2.2 = V
    obtain ⟨q, e⟩ := V
    by_cases he : e = 0
    · subst he
      exact .inr ⟨q, (dec_may hd).1, by simp⟩
    · exact .inl (by simp [he, dec_no hd he])
  · rw [if_neg h]
    exact .inl rfl
/-- .. as numbers: of nothing the generation is 0, of a head it is more. -/
theorem ofV_gen (l : List UInt8) : ((ofV l).2 = true ↔ (ofV l).1.gen ≠ 0) ∧ 0 ≤ (ofV l).1.gen ∧ ((ofV l).2 = false → (ofV l).1 = HV.zero) ∧ ((ofV l).2 = true → (ofV l).1.may = true) := by
  rcases ofV_cases l with h | ⟨q, hq, h⟩
  · rw [h]
    exact ⟨⟨fun h => (by cases h), fun h => absurd rfl h⟩, Int.le_refl _, fun _ => rfl, fun h => (by cases h)⟩
  · rw [h]
    have := (may_first hq).1
    exact ⟨⟨fun _ => (by show q.gen ≠ 0; omega), fun _ => rfl⟩, (by show 0 ≤ q.gen; omega), fun h => (by cases h), fun _ => hq⟩
theorem loadV_none {x y : HV × Bool} (hx : x.1.gen = 0) (hy : y.1.gen = 0) : loadV x y = (HV.zero, 0, false) := if_pos ⟨hx, hy⟩
theorem loadV_left {x y : HV × Bool} (hx : x.1.gen ≠ 0) (h : y.1.gen ≤ x.1.gen) : loadV x y = (x.1, 0, true) := by
  unfold loadV
  rw [if_neg (fun hh => hx hh.1), if_pos h]
theorem loadV_right {x y : HV × Bool} (h0 : 0 ≤ x.1.gen) (h : x.1.gen < y.1.gen) : loadV x y = (y.1, 1, true) := by
  unfold loadV
  rw [if_neg (fun hh => by omega), if_neg (by omega)]
theorem other_le (D : DiskV) : otherV D ≤ 1 := by
  unfold otherV
  have := diskV_tape D
  split <;> omega
theorem op_eq (D : DiskV) (t : Nat) (may : Int) (dov torn : TapeV → TapeV) (hd : D.down = false) (ht : t < 32) (hm : may = 0) :
    opV D t may dov torn = if (failsV D).1 = true then (45, setT (failsV D).2 t (torn (D.tp t))) else (0, setT (failsV D).2 t (dov (D.tp t))) := by
  unfold opV
  rw [if_neg (by simp [hd]), if_neg (by omega), if_neg (fun h => h hm), Int.toNat_natCast]
theorem op_ref (D : DiskV) (t : Nat) (may : Int) (dov torn : TapeV → TapeV) (hd : D.down = false) (ht : t < 32) (hm : may ≠ 0) : opV D t may dov torn = (may, D) := by
  unfold opV
  rw [if_neg (by simp [hd]), if_neg (by omega), if_pos hm]
theorem fails_down {D : DiskV} (hd : D.down = false) : (failsV D).2.down = (failsV D).1 := by
  unfold failsV
  split
  · exact hd
  · rfl
theorem fails_off {D : DiskV} (hc : D.counts = false) : failsV D = (false, D) := by unfold failsV; rw [if_pos hc]
/-- What Put leaves. -/
theorem putV_out {D : DiskV} {h : HV} (hm : h.may = true) (hd : D.down = false) (ho : Ok D) :
    (∀ k, k ≠ otherV D → (putV D h).2.tp k = D.tp k) ∧ (putV D h).2.cap = D.cap ∧
    (((putV D h).1 = 45 ∧ (putV D h).2.down = true ∧ ((putV D h).2.tp (otherV D) = D.tp (otherV D) ∨ (putV D h).2.tp (otherV D) = ⟨bytesV h, 0⟩)) ∨
     ((putV D h).1 = 44 ∧ (putV D h).2.down = false ∧ (putV D h).2.tp (otherV D) = ⟨⟨#[]⟩, 0⟩) ∨
     ((putV D h).1 = 0 ∧ (putV D h).2.down = false ∧ (putV D h).2.tp (otherV D) = ⟨bytesV h, (bytesV h).size⟩)) := by
  have hs := bytes_size h
  have hel := enc_len hm
  have ht : otherV D < 32 := by have := other_le D; omega
  unfold putV
  rw [if_neg (by simp [hm]), if_neg (by simp [hd])]
  generalize otherV D = t at ht ⊢
  generalize bytesV h = s at hs ⊢
  have ew : wipeV D t = if (failsV D).1 = true then (45, setT (failsV D).2 t (D.tp t)) else (0, setT (failsV D).2 t ⟨⟨#[]⟩, 0⟩) := op_eq D t 0 _ _ hd ht rfl
  have hfd := fails_down hd
  have hft := fails_tp D
  have hfc := fails_cap D
  cases hf : (failsV D).1
  · rw [hf] at ew hfd
    simp only [Bool.false_eq_true, if_false] at ew
    rw [ew]
    simp only [ne_eq, not_true_eq_false, if_false]
    generalize hD1 : setT (failsV D).2 t ⟨⟨#[]⟩, 0⟩ = D1
    have d1 : D1.down = false := by rw [← hD1]; exact hfd
    have c1 : D1.cap = D.cap := by rw [← hD1]; exact hfc
    have t1 : D1.tp t = ⟨⟨#[]⟩, 0⟩ := by rw [← hD1]; exact setT_same _ _ _
    have o1 : ∀ k, k ≠ t → D1.tp k = D.tp k := fun k hk => by rw [← hD1, setT_other _ _ _ _ hk, hft]
    have ed : writeV D1 t s = opV D1 t (writeMay D1 (D1.tp t).b s) (fun x => ⟨x.b ++ s, x.firm⟩) (fun x => ⟨x.b ++ s, x.firm⟩) := by unfold writeV; rw [Int.toNat_natCast]
    have hsz : (⟨⟨#[]⟩, 0⟩ : TapeV).b ++ s = s := by show (⟨#[]⟩ : ByteArray) ++ s = s; exact ByteArray.empty_append
    by_cases hmay : writeMay D1 (D1.tp t).b s = 0
    · rw [op_eq D1 t _ _ _ d1 ht hmay, t1] at ed
      simp only [] at ed
      rw [hsz] at ed
      have hfd1 := fails_down d1
      have hft1 := fails_tp D1
      have hfc1 := fails_cap D1
      cases hf1 : (failsV D1).1
      · rw [hf1] at ed hfd1
        simp only [Bool.false_eq_true, if_false] at ed
        rw [ed]
        simp only [not_true_eq_false, if_false]
        generalize hD2 : setT (failsV D1).2 t ⟨s, 0⟩ = D2
        have d2 : D2.down = false := by rw [← hD2]; exact hfd1
        have c2 : D2.cap = D.cap := by rw [← hD2]; exact hfc1.trans c1
        have t2 : D2.tp t = ⟨s, 0⟩ := by rw [← hD2]; exact setT_same _ _ _
        have o2 : ∀ k, k ≠ t → D2.tp k = D.tp k := fun k hk => by rw [← hD2, setT_other _ _ _ _ hk, hft1, o1 k hk]
        have es : syncV D2 t = if (failsV D2).1 = true then (45, setT (failsV D2).2 t (D2.tp t)) else (0, setT (failsV D2).2 t ⟨(D2.tp t).b, (D2.tp t).b.size⟩) := op_eq D2 t 0 _ _ d2 ht rfl
        have hfd2 := fails_down d2
        have hft2 := fails_tp D2
        have hfc2 := fails_cap D2
        cases hf2 : (failsV D2).1
        · rw [hf2] at es hfd2
          simp only [Bool.false_eq_true, if_false] at es
          rw [es, t2]
          refine ⟨fun k hk => by rw [setT_other _ _ _ _ hk, hft2, o2 k hk], hfc2.trans c2, .inr (.inr ⟨rfl, hfd2, setT_same _ _ _⟩)⟩
        · rw [hf2] at es hfd2
          simp only [if_true] at es
          rw [es, t2]
          refine ⟨fun k hk => by rw [setT_other _ _ _ _ hk, hft2, o2 k hk], hfc2.trans c2, .inl ⟨rfl, hfd2, .inr (setT_same _ _ _)⟩⟩
      · rw [hf1] at ed hfd1
        simp only [if_true] at ed
        rw [ed]
        rw [if_pos (show ¬ (45 : Int) = 0 by decide)]
        refine ⟨fun k hk => by rw [setT_other _ _ _ _ hk, hft1, o1 k hk], hfc1.trans c1, .inl ⟨rfl, hfd1, .inr (setT_same _ _ _)⟩⟩
    · rw [op_ref D1 t _ _ _ d1 ht hmay] at ed
      have h44 : writeMay D1 (D1.tp t).b s = 44 := by
        unfold writeMay at hmay ⊢
        rw [t1] at hmay ⊢
        rw [if_neg (by show ¬ (1048576 : Int) - ((⟨#[]⟩ : ByteArray).size : Nat) < (s.size : Nat); have : (⟨#[]⟩ : ByteArray).size = 0 := rfl; omega)] at hmay ⊢
        split at hmay
        · rename_i hx; rw [if_pos hx]
        · exact absurd rfl hmay
      rw [ed, h44, if_pos (show ¬ (44 : Int) = 0 by decide)]
      exact ⟨o1, c1, .inr (.inl ⟨rfl, d1, t1⟩)⟩
  · rw [hf] at ew hfd
    simp only [if_true] at ew
    rw [ew, if_pos (show (45 : Int) ≠ 0 by decide)]
    exact ⟨fun k hk => by rw [setT_other _ _ _ _ hk, hft], hfc, .inl ⟨rfl, hfd, .inl (setT_same _ _ _)⟩⟩
/-- .. on a disk that does not fail, with room. -/
theorem putV_room {D : DiskV} {h : HV} (hm : h.may = true) (hd : D.down = false) (hc : D.counts = false) (hr : (used D.tp 32 : Int) - (D.tp (otherV D)).b.size + (h.enc.length + 9) ≤ D.cap) :
    putV D h = (0, setT D (otherV D) ⟨bytesV h, (bytesV h).size⟩) := by
  have hs := bytes_size h
  have hel := enc_len hm
  have ht : otherV D < 32 := by have := other_le D; omega
  unfold putV
  rw [if_neg (by simp [hm]), if_neg (by simp [hd])]
  generalize otherV D = t at ht hr ⊢
  generalize bytesV h = s at hs ⊢
  have ew : wipeV D t = (0, setT D t ⟨⟨#[]⟩, 0⟩) := by
    have : wipeV D t = _ := op_eq D t 0 _ _ hd ht rfl
    rw [this, fails_off hc]; rfl
  have hu := used_setT D t ⟨⟨#[]⟩, 0⟩ ht
  have hz : (⟨#[]⟩ : ByteArray).size = 0 := rfl
  have ed : writeV (setT D t ⟨⟨#[]⟩, 0⟩) t s = (0, setT D t ⟨s, 0⟩) := by
    have hmay : writeMay (setT D t ⟨⟨#[]⟩, 0⟩) ((setT D t ⟨⟨#[]⟩, 0⟩).tp t).b s = 0 := by
      unfold writeMay
      rw [setT_same]
      have hcap : (setT D t ⟨⟨#[]⟩, 0⟩).cap = D.cap := rfl
      rw [hcap]
      simp only [hz] at hu ⊢
      rw [if_neg (by omega), if_neg (by omega)]
    have hsz : (⟨#[]⟩ : ByteArray) ++ s = s := ByteArray.empty_append
    unfold writeV
    rw [Int.toNat_natCast]
    have hdd : (setT D t ⟨⟨#[]⟩, 0⟩).down = false := hd
    have hcc : (setT D t ⟨⟨#[]⟩, 0⟩).counts = false := hc
    rw [op_eq _ t _ _ _ hdd ht hmay, fails_off hcc, setT_same]
    simp only [Bool.false_eq_true, if_false, hsz, setT_twice]
  have es : syncV (setT D t ⟨s, 0⟩) t = (0, setT D t ⟨s, s.size⟩) := by
    have hdd : (setT D t ⟨s, 0⟩).down = false := hd
    have hcc : (setT D t ⟨s, 0⟩).counts = false := hc
    have : syncV (setT D t ⟨s, 0⟩) t = _ := op_eq _ t 0 _ _ hdd ht rfl
    rw [this, fails_off hcc, setT_same]
    simp only [Bool.false_eq_true, if_false, setT_twice]
  rw [ew]
  simp only [ne_eq, not_true_eq_false, if_false]
  rw [ed]
  simp only [not_true_eq_false, if_false]
  exact es
end Hd
end Go.Proofs.YtjpkncfmionieaaDoor
