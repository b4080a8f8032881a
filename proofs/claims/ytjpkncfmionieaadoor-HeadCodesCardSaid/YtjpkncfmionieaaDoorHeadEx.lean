/- The examples, plainly; what Back leaves where one tape alone has loose bytes. -/
import Derived.Test.YtjpkncfmionieaaDoorHeadLaw
namespace Go.Proofs.YtjpkncfmionieaaDoor
open Go.RowKit
set_option linter.unusedVariables false

theorem backT_at (kl : Nat) (kf : Nat → Int) (tp : Nat → TapeV) : ∀ k j, j < k → (backT kl kf tp k).1 j = (backS kl kf (tp j) (backT kl kf tp j).2).1
  | 0, j, h => absurd h (Nat.not_lt_zero j)
  | k + 1, j, h => by
    show (if j = k then _ else (backT kl kf tp k).1 j) = _
    by_cases e : j = k
    · subst e; rw [if_pos rfl]
    · rw [if_neg e]; exact backT_at kl kf tp k j (by omega)
theorem backS_firm (kl : Nat) (kf : Nat → Int) (x : TapeV) (turn : Nat) (h : x.b.size = x.firm) : backS kl kf x turn = (x, turn) := if_pos h
theorem backT_turn0 (kl : Nat) (kf : Nat → Int) (tp : Nat → TapeV) : ∀ k, (∀ j, j < k → (tp j).b.size = (tp j).firm) → (backT kl kf tp k).2 = 0
  | 0, _ => rfl
  | k + 1, h => by
    show (backS kl kf (tp k) (backT kl kf tp k).2).2 = 0
    rw [backS_firm _ _ _ _ (h k (by omega))]
    exact backT_turn0 kl kf tp k (fun j hj => h j (by omega))
theorem backS_same {kl : Nat} {kf : Nat → Int} {x : TapeV} {turn turn' : Nat} (h : x.b.size = x.firm) : (backS kl kf x turn).1 = x := by rw [backS_firm _ _ _ _ h]
/-- Where one tape alone has loose bytes. -/
theorem back_one (D : DiskV) (kl : Nat) (kf : Nat → Int) (t : Nat) (ht : t < 32) (hf : ∀ k, k < 32 → k ≠ t → (D.tp k).b.size = (D.tp k).firm) :
    (∀ k, k < 32 → k ≠ t → (backV D kl kf).tp k = D.tp k) ∧ (backV D kl kf).tp t = (backS kl kf (D.tp t) 0).1 := by
  refine ⟨fun k hk hkt => ?_, ?_⟩
  · show (backT kl kf D.tp 32).1 k = D.tp k
    rw [backT_at _ _ _ _ _ hk]
    exact backS_same (turn' := 0) (hf k hk hkt)
  · show (backT kl kf D.tp 32).1 t = _
    rw [backT_at _ _ _ _ _ ht, backT_turn0 _ _ _ _ (fun j hj => hf j (by omega) (by omega))]
namespace Hd
def eH (n : Int) : HV := ⟨n, 0, 0, [2]⟩
theorem eH_may {n : Int} (h1 : 1 ≤ n) (h2 : n ≤ 1099511627776) : (eH n).may = true := by
  unfold HV.may HV.first HV.tapes eH
  simp [mayT, h1, h2]
theorem eH_enc {n : Nat} (h2 : n < 128) : (eH n).enc = [UInt8.ofNat n, 0, 0, 1, 2] := by
  unfold HV.enc eH logB
  have v0 : Var.vb 0 = [0] := by rw [Var.vb_lt (by decide)]; rfl
  have v1 : Var.vb 1 = [1] := by rw [Var.vb_lt (by decide)]; rfl
  have v2 : Var.vb 2 = [2] := by rw [Var.vb_lt (by decide)]; rfl
  simp [Var.vb_lt h2, v0, v1, v2]
theorem eH_len {n : Nat} (h2 : n < 128) : (eH n).enc.length = 5 := by rw [eH_enc h2]; rfl
def xD0 : DiskV := ⟨fun _ => blank, 100, false, 0, false⟩
def xD1 : DiskV := setT xD0 0 ⟨bytesV (eH 1), (bytesV (eH 1)).size⟩
def xD2 : DiskV := setT xD1 1 ⟨bytesV (eH 2), (bytesV (eH 2)).size⟩
def xD3 : DiskV := setT xD2 0 ⟨bytesV (eH 3), (bytesV (eH 3)).size⟩
def xDf : DiskV := { xD3 with counts := true, left := 2 }
def xD4 : DiskV := (putV xDf (eH 4)).2
def xD5 : DiskV := backV xD4 1 (fun _ => 13)
theorem ok_new {c : Int} (h0 : 0 ≤ c) (h1 : c ≤ 9223372036854775807) : Ok ⟨fun _ => blank, c, false, 0, false⟩ := by
  have hu : ∀ k, used (fun _ => blank) k = 0 := by
    intro k
    induction k with
    | zero => rfl
    | succ k ih => rw [used, ih]; rfl
  refine ⟨fun _ _ => Nat.le_refl _, fun _ _ => Nat.zero_le _, h0, h1, ?_, by show (-1 : Int) ≤ 0; decide, by show (0 : Int) ≤ _; decide, fun h => by cases h⟩
  show (used (fun _ => blank) 32 : Int) ≤ c
  rw [hu]; exact h0
theorem eb_size {n : Nat} (h2 : n < 128) : (bytesV (eH n)).size = 14 := by rw [bytes_size, eH_len h2]
theorem of_e {n : Int} (h1 : 1 ≤ n) (h2 : n ≤ 1099511627776) : ofV (bytesV (eH n)).data.toList = (eH n, true) := ofV_bytes (eH_may h1 h2)
theorem of_blank : ofV blank.b.data.toList = (HV.zero, false) := ofV_nil
theorem disk0 (c : Int) : diskV ⟨fun _ => blank, c, false, 0, false⟩ = (HV.zero, 0, false) := by
  show loadV (ofV blank.b.data.toList) (ofV blank.b.data.toList) = _
  rw [of_blank]
  exact loadV_none rfl rfl
theorem x0 : diskV xD0 = (HV.zero, 0, false) := disk0 100
theorem other_none {D : DiskV} {h : HV} {t : Nat} (hv : diskV D = (h, t, false)) : otherV D = 0 := by unfold otherV; rw [hv]; rfl
theorem other_is {D : DiskV} {h : HV} {t : Nat} (hv : diskV D = (h, t, true)) : otherV D = 1 - t := by unfold otherV; rw [hv]; rfl
theorem used0 : used xD0.tp 32 = 0 := by decide +kernel
theorem put1 : putV xD0 (eH 1) = (0, xD1) := by
  have ho := other_none x0
  have := putV_room (D := xD0) (eH_may (n := 1) (by decide) (by decide)) rfl rfl (by rw [used0, ho, show (eH 1).enc.length = 5 from eH_len (n := 1) (by decide)]; show (0 : Int) - (0 : Nat) + _ ≤ 100; decide)
  rw [this, ho]; rfl
theorem x1 : diskV xD1 = (eH 1, 0, true) := by
  show loadV (ofV (bytesV (eH 1)).data.toList) (ofV blank.b.data.toList) = _
  rw [of_e (by decide) (by decide), of_blank]
  exact loadV_left (by decide) (by decide)
theorem used1 : used xD1.tp 32 = 14 := by
  have h := used_setT xD0 0 ⟨bytesV (eH 1), (bytesV (eH 1)).size⟩ (by decide)
  have h0 : (xD0.tp 0).b.size = 0 := rfl
  have hs : (bytesV (eH 1)).size = 14 := eb_size (n := 1) (by decide)
  rw [used0, h0, hs] at h
  exact h
theorem put2 : putV xD1 (eH 2) = (0, xD2) := by
  have ho := other_is x1
  have := putV_room (D := xD1) (eH_may (n := 2) (by decide) (by decide)) rfl rfl (by rw [used1, ho, show (eH 2).enc.length = 5 from eH_len (n := 2) (by decide)]; show (14 : Int) - (0 : Nat) + _ ≤ 100; decide)
  rw [this, ho]; rfl
theorem x2 : diskV xD2 = (eH 2, 1, true) := by
  show loadV (ofV (bytesV (eH 1)).data.toList) (ofV (bytesV (eH 2)).data.toList) = _
  rw [of_e (by decide) (by decide), of_e (by decide) (by decide)]
  exact loadV_right (by decide) (by decide)
theorem used2 : used xD2.tp 32 = 28 := by
  have h := used_setT xD1 1 ⟨bytesV (eH 2), (bytesV (eH 2)).size⟩ (by decide)
  have h0 : (xD1.tp 1).b.size = 0 := rfl
  have hs : (bytesV (eH 2)).size = 14 := eb_size (n := 2) (by decide)
  rw [used1, h0, hs] at h
  exact h
theorem put3 : putV xD2 (eH 3) = (0, xD3) := by
  have ho := other_is x2
  have h0 : (xD2.tp 0).b.size = 14 := eb_size (n := 1) (by decide)
  have := putV_room (D := xD2) (eH_may (n := 3) (by decide) (by decide)) rfl rfl (by rw [used2, ho, show (eH 3).enc.length = 5 from eH_len (n := 3) (by decide), h0]; show (28 : Int) - (14 : Nat) + _ ≤ 100; decide)
  rw [this, ho]; rfl
theorem x3' (D : DiskV) (h : D.tp = xD3.tp) : diskV D = (eH 3, 0, true) := by
  unfold diskV
  rw [h]
  show loadV (ofV (bytesV (eH 3)).data.toList) (ofV (bytesV (eH 2)).data.toList) = _
  rw [of_e (by decide) (by decide), of_e (by decide) (by decide)]
  exact loadV_left (by decide) (by decide)
theorem x3 : diskV xD3 = (eH 3, 0, true) := x3' _ rfl
theorem failf : failV xD3 2 = (0, xDf) := by rfl
theorem xf : diskV xDf = (eH 3, 0, true) := x3' _ rfl
theorem used3 : used xD3.tp 32 = 28 := by
  have h := used_setT xD2 0 ⟨bytesV (eH 3), (bytesV (eH 3)).size⟩ (by decide)
  have h0 : (xD2.tp 0).b.size = 14 := eb_size (n := 1) (by decide)
  have hs : (bytesV (eH 3)).size = 14 := eb_size (n := 3) (by decide)
  rw [used2, h0, hs] at h
  have h' : used xD3.tp 32 + 14 = 28 + 14 := h
  omega
theorem put4 : (putV xDf (eH 4)).1 = 45 := by
  have ho : otherV xDf = 1 := other_is xf
  have hm := eH_may (n := 4) (by decide) (by decide)
  have hs : (bytesV (eH 4)).size = 14 := eb_size (n := 4) (by decide)
  unfold putV
  rw [if_neg (by simp [hm]), if_neg (show ¬ xDf.down = true by decide), ho]
  generalize bytesV (eH 4) = s at hs ⊢
  have ew : wipeV xDf (1 : Nat) = (0, setT { xDf with left := 1, down := false } 1 ⟨⟨#[]⟩, 0⟩) := by
    have : wipeV xDf (1 : Nat) = _ := op_eq xDf 1 0 _ _ rfl (by decide) rfl
    rw [this]; rfl
  have hu : used (setT { xDf with left := 1, down := false } 1 ⟨⟨#[]⟩, 0⟩).tp 32 = 14 := by
    have h := used_setT { xDf with left := 1, down := false } 1 ⟨⟨#[]⟩, 0⟩ (by decide)
    have h0 : (({ xDf with left := 1, down := false } : DiskV).tp 1).b.size = 14 := eb_size (n := 2) (by decide)
    have hu3 : used ({ xDf with left := 1, down := false } : DiskV).tp 32 = 28 := used3
    have hz : (⟨#[]⟩ : ByteArray).size = 0 := rfl
    have h' : used (setT { xDf with left := 1, down := false } 1 ⟨⟨#[]⟩, 0⟩).tp 32 + 14 = 28 + 0 := by rw [← h0, h, hu3]; rfl
    omega
  rw [ew]
  simp only [ne_eq, not_true_eq_false, if_false]
  generalize hD1 : setT { xDf with left := 1, down := false } 1 ⟨⟨#[]⟩, 0⟩ = D1 at hu
  have d1 : D1.down = false := by rw [← hD1]; rfl
  have f1 : failsV D1 = (false, { D1 with left := 0, down := false }) := by rw [← hD1]; rfl
  have t1 : D1.tp 1 = ⟨⟨#[]⟩, 0⟩ := by rw [← hD1]; exact setT_same _ _ _
  have c1 : D1.cap = 100 := by rw [← hD1]; rfl
  have ed : writeV D1 (1 : Nat) s = (0, setT { D1 with left := 0, down := false } 1 ⟨s, 0⟩) := by
    have hmay : writeMay D1 (D1.tp 1).b s = 0 := by
      unfold writeMay
      rw [t1, c1, hu, hs]
      rfl
    have : writeV D1 (1 : Nat) s = _ := op_eq D1 1 (writeMay D1 (D1.tp 1).b s) (fun x => ⟨x.b ++ s, x.firm⟩) (fun x => ⟨x.b ++ s, x.firm⟩) d1 (by decide) hmay
    rw [this, f1, t1]
    simp only [Bool.false_eq_true, if_false]
    rw [show (⟨#[]⟩ : ByteArray) ++ s = s from ByteArray.empty_append]
  rw [ed]
  simp only [not_true_eq_false, if_false]
  have cc : D1.counts = true := by rw [← hD1]; rfl
  generalize hD2 : setT { D1 with left := 0, down := false } 1 ⟨s, 0⟩ = D2
  have d2 : D2.down = false := by rw [← hD2]; rfl
  have f2 : (failsV D2).1 = true := by
    rw [← hD2]
    unfold failsV
    have c2 : (setT { D1 with left := 0, down := false } 1 ⟨s, 0⟩).counts = true := cc
    rw [if_neg (by rw [c2]; decide)]
    rfl
  have es : syncV D2 (1 : Nat) = _ := op_eq D2 1 0 _ _ d2 (by decide) rfl
  rw [es, f2]
  rfl
theorem xf_down : xDf.down = false := rfl
theorem ok_x0 : Ok xD0 := ok_new (by decide) (by decide)
theorem ok_x1 : Ok xD1 := by have := putV_ok ok_x0 (eH 1); rwa [put1] at this
theorem ok_x2 : Ok xD2 := by have := putV_ok ok_x1 (eH 2); rwa [put2] at this
theorem ok_x3 : Ok xD3 := by have := putV_ok ok_x2 (eH 3); rwa [put3] at this
theorem ok_xf : Ok xDf := by have := ok_x3.failV 2 (by decide); rwa [failf] at this
theorem ok_x4 : Ok xD4 := putV_ok ok_xf (eH 4)
theorem ok_x5 : Ok xD5 := ok_x4.back _ _
theorem x5 : diskV xD5 = (eH 3, 0, true) := by
  have ho : otherV xDf = 1 := other_is xf
  have hm := eH_may (n := 4) (by decide) (by decide)
  obtain ⟨h1, _, h2⟩ := putV_out hm xf_down ok_xf
  rw [ho] at h1 h2
  have hf : ∀ k, k < 32 → k ≠ 1 → (xD4.tp k).b.size = (xD4.tp k).firm := fun k hk hk1 => by
    have : xD4.tp k = xDf.tp k := h1 k hk1
    rw [this]
    show (xD3.tp k).b.size = (xD3.tp k).firm
    by_cases h0 : k = 0
    · subst h0; rfl
    · have : xD3.tp k = blank := by
        show (setT xD2 0 _).tp k = blank
        rw [setT_other _ _ _ _ h0]
        show (setT xD1 1 _).tp k = blank
        rw [setT_other _ _ _ _ hk1]
        show (setT xD0 0 _).tp k = blank
        rw [setT_other _ _ _ _ h0]
        rfl
      rw [this]; rfl
  obtain ⟨b1, b2⟩ := back_one xD4 1 (fun _ => 13) 1 (by decide) hf
  have e0 : xD5.tp 0 = ⟨bytesV (eH 3), (bytesV (eH 3)).size⟩ := (b1 0 (by decide) (by decide)).trans (h1 0 (by decide))
  have hx : ofV (xD5.tp 0).b.data.toList = (eH 3, true) := by rw [e0]; exact of_e (by decide) (by decide)
  have hy : (ofV (xD5.tp 1).b.data.toList).1.gen ≤ 3 := by
    have e1 : xD5.tp 1 = (backS 1 (fun _ => 13) (xD4.tp 1) 0).1 := b2
    rw [e1]
    have hd : xD4.tp 1 = ⟨bytesV (eH 2), (bytesV (eH 2)).size⟩ ∨ xD4.tp 1 = ⟨bytesV (eH 4), 0⟩ := by
      rcases h2 with ⟨_, _, h2⟩ | ⟨h2, _⟩ | ⟨h2, _⟩
      · rcases h2 with h2 | h2
        · exact .inl h2
        · exact .inr h2
      · rw [put4] at h2; exact absurd h2 (by decide)
      · rw [put4] at h2; exact absurd h2 (by decide)
    rcases hd with h | h
    · rw [h, backS_same (turn' := 0) rfl]
      rw [show ofV (bytesV (eH 2)).data.toList = (eH 2, true) from of_e (by decide) (by decide)]
      decide
    · have hs : (bytesV (eH 4)).size = 14 := eb_size (n := 4) (by decide)
      have hb : (backS 1 (fun _ => 13) ⟨bytesV (eH 4), 0⟩ 0).1 = ⟨(bytesV (eH 4)).extract 0 13, 13⟩ := by
        have hn : backN 1 (fun _ => 13) ⟨bytesV (eH 4), 0⟩ 0 = 13 := by
          unfold backN
          rw [if_pos (by decide)]
          show keepN 13 ((bytesV (eH 4)).size - 0) = 13
          rw [hs]
          decide
        unfold backS
        rw [if_neg (show ¬ (bytesV (eH 4)).size = 0 by omega), hn]
      rw [h, hb, ofV_torn hm (by omega)]
      decide
  unfold diskV
  have := loadV_left (x := ofV (xD5.tp 0).b.data.toList) (y := ofV (xD5.tp 1).b.data.toList) (by rw [hx]; decide) (by rw [hx]; exact hy)
  rw [this, hx]
end Hd
end Go.Proofs.YtjpkncfmionieaaDoor
