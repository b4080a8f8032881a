/- Plain law: what counts behind a Put that failed anywhere, and a Back. -/
import Derived.Test.YtjpkncfmionieaaDoorHeadMany
namespace Go.Proofs.YtjpkncfmionieaaDoor
open Go.RowKit
set_option linter.unusedVariables false

namespace Hd
/-- One of the tapes 0 and 1, and the other one. -/
theorem disk_cases (D : DiskV) :
    (diskV D = (HV.zero, 0, false) ∧ otherV D = 0 ∧ (ofV (D.tp 0).b.data.toList).1.gen = 0 ∧ (ofV (D.tp 1).b.data.toList).1.gen = 0) ∨
    (∃ h : HV, diskV D = (h, 0, true) ∧ otherV D = 1 ∧ (ofV (D.tp 0).b.data.toList).1 = h ∧ h.gen ≠ 0 ∧ (ofV (D.tp 1).b.data.toList).1.gen ≤ h.gen) ∨
    (∃ h : HV, diskV D = (h, 1, true) ∧ otherV D = 0 ∧ (ofV (D.tp 1).b.data.toList).1 = h ∧ (ofV (D.tp 0).b.data.toList).1.gen < h.gen) := by
  have hx := (ofV_gen (D.tp 0).b.data.toList).2.1
  have hy := (ofV_gen (D.tp 1).b.data.toList).2.1
  by_cases h0 : (ofV (D.tp 0).b.data.toList).1.gen = 0 ∧ (ofV (D.tp 1).b.data.toList).1.gen = 0
  · have := loadV_none h0.1 h0.2
    exact .inl ⟨this, other_none this, h0.1, h0.2⟩
  · by_cases h1 : (ofV (D.tp 1).b.data.toList).1.gen ≤ (ofV (D.tp 0).b.data.toList).1.gen
    · have hne : (ofV (D.tp 0).b.data.toList).1.gen ≠ 0 := fun e => h0 ⟨e, by omega⟩
      have := loadV_left hne h1
      exact .inr (.inl ⟨_, this, other_is this, rfl, hne, h1⟩)
    · have := loadV_right hx (show _ < (ofV (D.tp 1).b.data.toList).1.gen by omega)
      exact .inr (.inr ⟨_, this, other_is this, rfl, by omega⟩)
theorem zero_gen : HV.zero.gen = 0 := rfl
/-- What counts, where the one tape is as it was, and the other one nothing, or a head of a greater generation. -/
theorem disk_after {D E : DiskV} (ho : E.tp (1 - otherV D) = D.tp (1 - otherV D)) :
    ((ofV (E.tp (otherV D)).b.data.toList).1 = HV.zero → diskV E = diskV D) ∧
    (∀ h : HV, h.gen ≠ 0 → 0 ≤ h.gen → (ofV (E.tp (otherV D)).b.data.toList).1 = h → ((diskV D).2.2 = true → (diskV D).1.gen < h.gen) → diskV E = (h, otherV D, true)) := by
  have zg := zero_gen
  rcases disk_cases D with ⟨h1, h2, h3, h4⟩ | ⟨p, h1, h2, h3, h4, h5⟩ | ⟨p, h1, h2, h3, h4⟩
  · rw [h2] at ho ⊢
    rw [h1]
    refine ⟨fun hz => ?_, fun h hg hp hv hn => ?_⟩
    · unfold diskV
      exact loadV_none (by rw [hz]; rfl) (by rw [ho]; exact h4)
    · unfold diskV
      rw [loadV_left (by rw [hv]; exact hg) (by rw [ho, hv, h4]; exact hp), hv]
  · rw [h2] at ho ⊢
    rw [h1]
    refine ⟨fun hz => ?_, fun h hg hp hv hn => ?_⟩
    · unfold diskV
      rw [loadV_left (by rw [ho, h3]; exact h4) (by rw [hz, ho, h3]; have := (ofV_gen (D.tp 0).b.data.toList).2.1; rw [h3] at this; exact this), ho, h3]
    · unfold diskV
      have := (ofV_gen (D.tp 0).b.data.toList).2.1
      rw [loadV_right (by rw [ho]; exact this) (by rw [ho, h3, hv]; exact hn rfl), hv]
  · rw [h2] at ho ⊢
    rw [h1]
    have h0 := (ofV_gen (D.tp 0).b.data.toList).2.1
    refine ⟨fun hz => ?_, fun h hg hp hv hn => ?_⟩
    · unfold diskV
      rw [loadV_right (by rw [hz]; exact Int.le_refl _) (by rw [hz, ho, h3]; show 0 < p.gen; omega), ho, h3]
    · unfold diskV
      have := hn rfl
      simp only [] at this
      rw [loadV_left (by rw [hv]; exact hg) (by rw [hv, ho, h3]; omega), hv]
/-- Wherever the disk fails in a Put: what is behind a Back. -/
theorem swaps_out {D0 D1 : DiskV} {h : HV} (kl : Nat) (kf : Nat → Int) (hok : Ok D1) (hd : D1.down = false) (htp : D1.tp = D0.tp) (hfirm : ∀ k, k < 32 → (D0.tp k).b.size = (D0.tp k).firm)
    (hnew : (diskV D0).2.2 = true → (diskV D0).1.gen < h.gen) :
    (putV D1 h).2.down = decide ((putV D1 h).1 = 45) ∧
    (∀ k, k < 32 → k ≠ otherV D0 → (backV (putV D1 h).2 kl kf).tp k = D0.tp k) ∧
    ((diskV (backV (putV D1 h).2 kl kf) = diskV D0 ∧ ((putV D1 h).1 = 44 ∨ (putV D1 h).1 = 45 ∨ (putV D1 h).1 = 4 ∧ h.may = false)) ∨
     (diskV (backV (putV D1 h).2 kl kf) = (h, otherV D0, true) ∧ ((putV D1 h).1 = 0 ∨ (putV D1 h).1 = 45))) := by
  have ho1 : otherV D1 = otherV D0 := by unfold otherV diskV; rw [htp]
  have hlt : otherV D0 ≤ 1 := other_le D0
  cases hm : h.may
  · have hp : putV D1 h = (4, D1) := by unfold putV; rw [if_pos hm]
    rw [hp]
    have hall : ∀ k, k < 32 → (backV D1 kl kf).tp k = D0.tp k := fun k hk => by
      obtain ⟨b1, b2⟩ := back_one D1 kl kf 0 (by decide) (fun k hk _ => by rw [htp]; exact hfirm k hk)
      by_cases e : k = 0
      · subst e
        rw [b2, backS_same (turn' := 0) (by rw [htp]; exact hfirm 0 (by decide)), htp]
      · rw [b1 k hk e, htp]
    refine ⟨by rw [hd]; rfl, fun k hk _ => hall k hk, .inl ⟨?_, .inr (.inr ⟨rfl, rfl⟩)⟩⟩
    unfold diskV
    rw [hall 0 (by decide), hall 1 (by decide)]
  · obtain ⟨p1, _, p2⟩ := putV_out hm hd hok
    rw [ho1] at p1 p2
    generalize putV D1 h = P at p1 p2 ⊢
    obtain ⟨f, D2⟩ := P
    simp only [] at p1 p2 ⊢
    generalize ht : otherV D0 = t at p1 p2 hlt ⊢
    obtain ⟨b1, b2⟩ := back_one D2 kl kf t (by omega) (fun k hk hkt => by rw [p1 k hkt, htp]; exact hfirm k hk)
    have hoth : ∀ k, k < 32 → k ≠ t → (backV D2 kl kf).tp k = D0.tp k := fun k hk hkt => by rw [b1 k hk hkt, p1 k hkt, htp]
    have hg := (may_first hm).1
    have hafter := disk_after (D := D0) (E := backV D2 kl kf) (by rw [ht]; exact hoth _ (by omega) (by omega))
    rw [ht, b2] at hafter
    have hz : ∀ x : TapeV, x.b.size = x.firm → D2.tp t = x → (backS kl kf (D2.tp t) 0).1 = x := fun x hx e => by rw [e]; exact backS_same (turn' := 0) hx
    rcases p2 with ⟨rfl, pd, pt⟩ | ⟨rfl, pd, pt⟩ | ⟨rfl, pd, pt⟩
    · refine ⟨by rw [pd]; rfl, hoth, ?_⟩
      rcases pt with pt | pt
      · refine .inl ⟨?_, .inr (.inl rfl)⟩
        have e1 : (backV D2 kl kf).tp t = D0.tp t := by rw [b2, hz (D1.tp t) (by rw [htp]; exact hfirm t (by omega)) pt, htp]
        have hall : ∀ k, k < 32 → (backV D2 kl kf).tp k = D0.tp k := fun k hk => by
          by_cases e : k = t
          · subst e; exact e1
          · exact hoth k hk e
        unfold diskV
        rw [hall 0 (by decide), hall 1 (by decide)]
      · have hbs := bytes_size h
        have hb : (backS kl kf (D2.tp t) 0).1 = ⟨(bytesV h).extract 0 (backN kl kf ⟨bytesV h, 0⟩ 0), backN kl kf ⟨bytesV h, 0⟩ 0⟩ := by
          rw [pt]
          unfold backS
          rw [if_neg (by show ¬ (bytesV h).size = 0; omega)]
          simp only [Nat.zero_add]
        have hn := backN_le kl kf ⟨bytesV h, 0⟩ 0
        have hn : backN kl kf ⟨bytesV h, 0⟩ 0 ≤ (bytesV h).size := hn
        generalize backN kl kf ⟨bytesV h, 0⟩ 0 = n at hb hn
        rw [hb] at hafter
        by_cases hfull : n = (bytesV h).size
        · refine .inr ⟨hafter.2 h (by omega) (by omega) ?_ hnew, .inr rfl⟩
          have : (bytesV h).extract 0 n = bytesV h := by rw [hfull]; exact ByteArray.extract_zero_size
          show (ofV ((bytesV h).extract 0 n).data.toList).1 = h
          rw [this, ofV_bytes hm]
        · refine .inl ⟨hafter.1 ?_, .inr (.inl rfl)⟩
          show (ofV ((bytesV h).extract 0 n).data.toList).1 = HV.zero
          rw [ofV_torn hm (by omega)]
    · refine ⟨by rw [pd]; rfl, hoth, .inl ⟨hafter.1 ?_, .inl rfl⟩⟩
      rw [hz _ rfl pt]
      show (ofV []).1 = HV.zero
      rw [ofV_nil]
    · refine ⟨by rw [pd]; rfl, hoth, .inr ⟨hafter.2 h (by omega) (by omega) ?_ hnew, .inl rfl⟩⟩
      rw [hz _ rfl pt]
      show (ofV (bytesV h).data.toList).1 = h
      rw [ofV_bytes hm]
theorem load_firm (f : Nat → ByteArray × ByteArray) (c : Int) (n : Nat) (h : ∀ i, i < n → (f i).2 = ⟨#[]⟩) (k : Nat) : ((loadD f c n).tp k).b.size = ((loadD f c n).tp k).firm := by
  show (loadT f n k).b.size = (loadT f n k).firm
  unfold loadT
  split
  · rename_i hk
    rw [h k hk]
    show ((f k).1 ++ (⟨#[]⟩ : ByteArray)).size = (f k).1.size
    rw [ByteArray.size_append]
    rfl
  · rfl
end Hd
end Go.Proofs.YtjpkncfmionieaaDoor
