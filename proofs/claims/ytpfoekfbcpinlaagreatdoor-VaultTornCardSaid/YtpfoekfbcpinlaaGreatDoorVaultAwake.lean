/- Plain law: turn, and Add. -/
import Derived.Test.YtpfoekfbcpinlaaGreatDoorVpAdd
import Derived.Test.YtpfoekfbcpinlaaGreatDoorVaultLay
namespace Go.Proofs.YtpfoekfbcpinlaaGreatDoor
open Go.RowKit
set_option linter.unusedVariables false

namespace Vp
/-- Where all that a head names is firm. -/
theorem firm_back {D : DiskV} {h : Hd.HV} {T : Int → List (List UInt8)} {s : ByteArray} {tail : List UInt8} (hf : ∀ k, k < 32 → h.uses (k : Nat) = true ∨ k < 2 → (D.tp k).firm = (D.tp k).b.size) (hv : (Hd.diskV D).1 = h ∧ (Hd.diskV D).2.2 = true) (hm : h.may = true) (hl : Lying D.tp h T s tail) :
    Back1 D fun h' l s' => h' = h ∧ l = recsOf h T ∧ s' = s := by
  intro E hE
  have hs : ∀ k, k < 32 → h.uses (k : Nat) = true ∨ k < 2 → E.tp k = D.tp k := fun k hk hu => (hE k hk).of_firm (hf k hk hu)
  have : Hd.diskV E = Hd.diskV D := diskV_tp fun k hk => hs k (by omega) (.inr hk)
  exact ⟨h, T, s, tail, by rw [this]; exact hv, hm, hl.congr hm fun t h2 h3 hu => by rw [hs t h3 (.inl hu)], rfl, rfl, rfl⟩
/-- A Put that did not come to its end. -/
theorem put_back {D D' : DiskV} {h h2 : Hd.HV} {T T2 : Int → List (List UInt8)} {s s2 : ByteArray} (hf : AllFirm D) (hv : (Hd.diskV D).1 = h ∧ (Hd.diskV D).2.2 = true) (hm : h.may = true) (hl : Lying D.tp h T s []) (hm2 : h2.may = true) (hg : h.gen < h2.gen) (hl2 : Lying D.tp h2 T2 s2 []) (ht : D'.tp = upd D.tp (Hd.otherV D) ⟨Hd.bytesV h2, 0⟩) :
    Back1 D' fun h' l s' => (h' = h ∧ l = recsOf h T ∧ s' = s) ∨ (h' = h2 ∧ l = recsOf h2 T2 ∧ s' = s2) := by
  intro E hE
  have hlt := Hd.other_le D
  have hoth : ∀ k, k < 32 → k ≠ Hd.otherV D → E.tp k = D.tp k := fun k hk hne => by
    have := hE k hk
    rw [ht, upd_other _ _ hne] at this
    exact this.of_firm (hf k hk)
  have hc := hE (Hd.otherV D) (by omega)
  rw [ht, upd_same] at hc
  obtain ⟨k, k1, k2, k3, k4⟩ := hc.list
  have k2 : k ≤ (Hd.bytesV h2).size := k2
  have k3 : tx (E.tp (Hd.otherV D)) = (Hd.bytesV h2).data.toList.take k := k3
  by_cases hfull : k = (Hd.bytesV h2).size
  · have hb : tx (E.tp (Hd.otherV D)) = tx ⟨Hd.bytesV h2, 0⟩ := by rw [k3, List.take_of_length_le (by rw [data_len]; omega)]
    have := put_head (E := E) hv hm2 hg (fun k hk hne => by rw [hoth k (by omega) hne]) hb
    exact ⟨h2, T2, s2, [], this, hm2, hl2.congr hm2 fun t h3 h4 _ => by rw [hoth t h4 (by omega)], .inr ⟨rfl, rfl, rfl⟩⟩
  · have hz : (Hd.ofV (tx (E.tp (Hd.otherV D)))).1 = Hd.HV.zero := by
      have e : tx (E.tp (Hd.otherV D)) = ((Hd.bytesV h2).extract 0 k).data.toList := by rw [k3]; simp [ByteArray.data_extract]
      rw [e, Hd.ofV_torn hm2 (by omega)]
    have := torn_head (D := D) (E := E) (fun k hk hne => by rw [hoth k (by omega) hne]) hz
    exact ⟨h, T, s, [], by rw [this]; exact hv, hm, hl.congr hm fun t h3 h4 _ => by rw [hoth t h4 (by omega)], .inl ⟨rfl, rfl, rfl⟩⟩
theorem next_tapes (h : Hd.HV) (t : Int) : (nextH h t).tapes = h.tapes ++ [t] := by
  unfold Hd.HV.tapes nextH
  split <;> simp
theorem may_iff (h : Hd.HV) : h.may = true ↔ h.first = true ∧ (∀ t ∈ h.tapes, 2 ≤ t ∧ t < 32) ∧ h.tapes.Nodup := by
  unfold Hd.HV.may
  rw [Bool.and_eq_true, Hd.mayT_iff]
  constructor
  · rintro ⟨a, b, c⟩
    exact ⟨a, fun t ht => ⟨(b t ht).1, (b t ht).2.1⟩, c⟩
  · rintro ⟨a, b, c⟩
    exact ⟨a, fun t ht => ⟨(b t ht).1, (b t ht).2, by simp⟩, c⟩
theorem free_mem {h : Hd.HV} {t : Int} (hf : t ∈ h.free) : 2 ≤ t ∧ t < 32 ∧ h.uses t = false := by
  have h1 := List.mem_filter.1 hf
  have h2 := h1.1
  unfold Hd.R at h2
  obtain ⟨k, hk, rfl⟩ := List.mem_map.1 h2
  rw [List.mem_range] at hk
  exact ⟨by omega, by omega, by simpa using h1.2⟩
theorem freeT_mem {h : Hd.HV} (hf : h.free ≠ []) : freeT h ∈ h.free := by
  unfold freeT
  cases hq : h.free with
  | nil => exact absurd hq hf
  | cons a r => simp
theorem not_tape {h : Hd.HV} {t : Int} (h0 : t ≠ 0) (hu : h.uses t = false) : t ∉ h.tapes := by
  rw [Hd.uses_tapes h t h0] at hu
  intro hm
  rw [List.contains_iff_mem.2 hm] at hu
  cases hu
theorem next_may {h : Hd.HV} {t : Int} (hm : h.may = true) (ht : t ∈ h.free) (hg : h.gen < 1099511627776) : (nextH h t).may = true := by
  obtain ⟨a, b, c⟩ := free_mem ht
  obtain ⟨f1, f2, f3, f4, f5, f6⟩ := Hd.may_first hm
  obtain ⟨_, m2, m3⟩ := (may_iff h).1 hm
  refine (may_iff _).2 ⟨?_, ?_, ?_⟩
  · unfold Hd.HV.first
    rw [decide_eq_true_eq]
    unfold nextH
    exact ⟨by simp only []; omega, by simp only []; omega, f3, f4, by simp, f6⟩
  · rw [next_tapes]
    intro u hu
    rcases List.mem_append.1 hu with h1 | h1
    · exact m2 u h1
    · rw [List.mem_singleton] at h1; subst h1; exact ⟨a, b⟩
  · rw [next_tapes, List.nodup_append]
    refine ⟨m3, by simp, fun x hx y hy => ?_⟩
    rw [List.mem_singleton] at hy
    subst hy
    exact fun e => not_tape (by omega) c (e ▸ hx)
theorem next_last (h : Hd.HV) (t : Int) : lastT (nextH h t) = t := by unfold lastT nextH; simp
theorem next_uses (h : Hd.HV) (t u : Int) : (nextH h t).uses u = (h.uses u || u == t) := by
  unfold Hd.HV.uses nextH
  simp only [List.contains_append, Bool.or_assoc]
  congr 2
  by_cases e : u = t <;> simp [e]
/-- The tapes as the next head names them. -/
theorem next_lying {tp : Nat → TapeV} {h : Hd.HV} {T : Int → List (List UInt8)} {s : ByteArray} {t : Int} (hm : h.may = true) (hl : Lying tp h T s []) (hf : t ∈ h.free) (hb : tx (tp t.toNat) = []) : Lying tp (nextH h t) (updT T t []) s [] := by
  obtain ⟨a, b, c⟩ := free_mem hf
  have hne : ∀ u ∈ h.log, u ≠ t := fun u hu e => by rw [e] at hu; rw [log_uses hu] at c; cases c
  refine ⟨hl.snap, hl.sno, fun u hu hnl => ?_, ?_, fun u hu => ?_, readL_nil⟩
  · rw [next_last] at hnl
    have hu : u ∈ h.log := by
      rcases List.mem_append.1 (show u ∈ h.log ++ [t] from hu) with h1 | h1
      · exact h1
      · exact absurd (List.mem_singleton.1 h1) hnl
    rw [updT_other _ _ hnl]
    by_cases e : u = lastT h
    · have := hl.last; rw [List.append_nil] at this; rw [e]; exact this
    · exact hl.logs u hu e
  · rw [next_last, updT_same, hb]; rfl
  · rcases List.mem_append.1 (show u ∈ h.log ++ [t] from hu) with h1 | h1
    · rw [updT_other _ _ (hne u h1)]; exact hl.small u h1
    · rw [List.mem_singleton.1 h1, updT_same]; exact Small.nil
theorem next_recs {h : Hd.HV} {T : Int → List (List UInt8)} {t : Int} (hf : t ∈ h.free) (l : List (List UInt8)) : recsOf (nextH h t) (updT T t l) = recsOf h T ++ l := by
  obtain ⟨a, b, c⟩ := free_mem hf
  have hne : ∀ u ∈ h.log, u ≠ t := fun u hu e => by rw [e] at hu; rw [log_uses hu] at c; cases c
  unfold recsOf
  rw [show (nextH h t).log = h.log ++ [t] from rfl, List.flatMap_append]
  congr 1
  · rw [List.flatMap_def, List.flatMap_def]
    congr 1
    exact List.map_congr_left fun u hu => updT_other _ _ (hne u hu)
  · simp [updT_same]
theorem used_same {tp tp' : Nat → TapeV} : ∀ k, (∀ j, j < k → (tp' j).b.size = (tp j).b.size) → used tp' k = used tp k
  | 0, _ => rfl
  | k + 1, h => by rw [used, used, used_same k (fun j hj => h j (by omega)), h k (by omega)]
theorem Inv.blank {D : DiskV} {h : Hd.HV} {T : Int → List (List UInt8)} {s : ByteArray} (i : Inv D h T s) {t : Nat} (h2 : 2 ≤ t) (h3 : t < 32) (hu : h.uses (t : Nat) = false) : D.tp t = blank :=
  tape_none (i.base.ok.firm t h3) (i.base.free t h2 h3 hu)
def TurnRef (D : DiskV) (h : Hd.HV) (size : Nat) : Prop := 1099511627776 ≤ h.gen ∨ h.free = [] ∨ D.cap < turnRoom D h size
/-- Turn, with room. -/
theorem turn_law {D : DiskV} {h : Hd.HV} {T : Int → List (List UInt8)} {s : ByteArray} {c size : Nat} (i : Inv D h T s) (hf : FirmAt D h T c) :
    (TurnRef D h size ∧ ((turnV D h size).1 = 40 ∨ (turnV D h size).1 = 44) ∧ (turnV D h size).2 = (D, h)) ∨
    ((turnV D h size).1 = 0 ∧ (turnV D h size).2.2 = nextH h (freeT h) ∧ Inv (turnV D h size).2.1 (nextH h (freeT h)) (updT T (freeT h) []) s ∧ AllFirm (turnV D h size).2.1 ∧ freeT h ∈ h.free ∧ h.gen < 1099511627776 ∧ (turnV D h size).2.1.cap = D.cap ∧ (turnV D h size).2.1.counts = D.counts ∧ (used (turnV D h size).2.1.tp 32 : Int) + size ≤ D.cap ∧ used (turnV D h size).2.1.tp 32 ≤ used D.tp 32 + HSize (nextH h (freeT h))) ∨
    ((turnV D h size).1 = 45 ∧ (turnV D h size).2.1.down = true ∧ (turnV D h size).2.2.may = true ∧ D.counts = true ∧ Back1 (turnV D h size).2.1 fun h' l s' => h'.base = h.base ∧ h'.snap = h.snap ∧ s' = s ∧ ∃ k, c ≤ k ∧ k ≤ (recsOf h T).length ∧ l = (recsOf h T).take k) := by
  unfold turnV
  by_cases hg : 1099511627776 ≤ h.gen
  · rw [if_pos hg]; exact .inl ⟨.inl hg, .inl rfl, rfl⟩
  rw [if_neg hg]
  by_cases hfr : h.free = []
  · rw [if_pos hfr]; exact .inl ⟨.inr (.inl hfr), .inr rfl, rfl⟩
  rw [if_neg hfr]
  by_cases hrm : D.cap < turnRoom D h size
  · rw [if_pos hrm]; exact .inl ⟨.inr (.inr hrm), .inr rfl, rfl⟩
  rw [if_neg hrm]
  right
  have hm := i.base.may
  have hmem := freeT_mem hfr
  obtain ⟨f1, f2, f3⟩ := free_mem hmem
  obtain ⟨t, ht⟩ : ∃ t : Nat, freeT h = t := ⟨(freeT h).toNat, by omega⟩
  have ht' : (freeT h).toNat = t := by omega
  have hcl := hf.le hm
  have hR : ∀ l, l = recsOf h T → ∃ k, c ≤ k ∧ k ≤ (recsOf h T).length ∧ l = (recsOf h T).take k := fun l e => ⟨_, hcl, Nat.le_refl _, by rw [e, List.take_length]⟩
  have hcnt : ∀ {P : Int × DiskV} {t x y}, Op D P t x y → P.1 = 45 → D.counts = true := fun o e => by
    cases hc : D.counts
    · have := (o.nc hc).1; rw [e] at this; exact absurd this (by decide)
    · rfl
  unfold turnG
  obtain ⟨la, hla, hla', hl2, hl32, hlu⟩ := last_nat hm
  have so := sync_up (D := D) (t := la) i.base.up hl32
  rw [← hla] at so
  have ok1 : Ok (syncV D (lastT h)).2 := i.base.ok.sync _
  generalize syncV D (lastT h) = P1 at so ok1 ⊢
  obtain ⟨z1, D1⟩ := P1
  rcases so.out with ⟨a1, b1, c1⟩ | ⟨a1, b1, c1⟩
  rotate_left 1
  · simp only [] at a1 b1 c1
    rw [if_pos (by simp [a1])]
    rw [upd_id] at c1
    exact .inr ⟨a1, b1, hm, hcnt so a1, (i.finds (D' := D1) (fun k hk _ => by rw [c1]) hf).mono fun h' l s' ⟨e1, e2, e3⟩ => ⟨by rw [e1], by rw [e1], e2, e3⟩⟩
  simp only [] at a1 b1 c1 ok1
  rw [if_neg (by simp [a1])]
  obtain ⟨i1, af1⟩ := i.synced (D' := D1) ok1 b1 (by rw [hla']; exact c1)
  have wo := wipe_up (D := D1) (t := t) b1 (by omega)
  rw [← ht] at wo
  have hbl : D1.tp t = blank := i1.blank (by omega) (by omega) (by rw [← ht]; exact f3)
  rw [hbl] at wo
  have hub : upd D1.tp t blank = D1.tp := by rw [← hbl]; exact upd_id _ _
  have ok2 : Ok (wipeV D1 (freeT h)).2 := ok1.wipe _
  simp only []
  generalize wipeV D1 (freeT h) = P2 at wo ok2 ⊢
  obtain ⟨z2, D2⟩ := P2
  have hc1 : D1.counts = D.counts := so.cnt
  have hcnt1 : D1.counts = true → D.counts = true := fun e => by rw [← hc1]; exact e
  rcases wo.out with ⟨a2, b2, c2⟩ | ⟨a2, b2, c2⟩
  rotate_left 1
  · simp only [] at a2 b2 c2
    rw [if_pos (by simp [a2])]
    rw [hub] at c2
    refine .inr ⟨a2, b2, hm, ?_, (i1.finds (D' := D2) (fun k hk _ => by rw [c2]) (i1.firmAll af1)).mono fun h' l s' ⟨e1, e2, k, e3, e4, e5⟩ => ⟨by rw [e1], by rw [e1], e2, k, by omega, e4, e5⟩⟩
    cases hc : D1.counts
    · have := (wo.nc hc).1; rw [a2] at this; exact absurd this (show ¬ ((45 : Int) = 0) by decide)
    · exact hcnt1 hc
  simp only [] at a2 b2 c2 ok2
  rw [hub] at c2
  rw [if_neg (by simp [a2])]
  simp only []
  have i2 : Inv D2 h T s := i1.of_tp ok2 b2 c2
  have af2 : AllFirm D2 := fun k hk => by rw [c2]; exact af1 k hk
  have hm2 := next_may hm hmem (by omega : h.gen < 1099511627776)
  have hsz : ∀ k, (D2.tp k).b.size = (D.tp k).b.size := fun k => by
    rw [c2, c1]
    by_cases e : k = la
    · subst e; rw [upd_same]; rfl
    · rw [upd_other _ _ e]
  have hus : used D2.tp 32 = used D.tp 32 := used_same 32 fun j _ => hsz j
  have hov : Hd.otherV D2 = Hd.otherV D := by
    unfold Hd.otherV
    have : Hd.diskV D2 = Hd.diskV D := disk_bytes fun k hk => by rw [c2, c1, upd_other _ _ (by omega)]
    rw [this]
  have hcap : D2.cap = D.cap := wo.cap.trans so.cap
  have hc2 : D2.counts = D.counts := wo.cnt.trans so.cnt
  have hroom : (used D.tp 32 : Int) + size - sizeF D t - sizeF D (Hd.otherV D) + HSize (nextH h (freeT h)) ≤ D.cap := by
    unfold turnRoom at hrm
    rw [ht'] at hrm
    omega
  have hst : sizeF D t = 0 := by unfold sizeF; rw [← hsz, c2, hbl]; rfl
  have hso : sizeF D (Hd.otherV D) = ((D2.tp (Hd.otherV D2)).b.size : Int) := by rw [hov, hsz]; rfl
  have po := put_up (D := D2) (h := nextH h (freeT h)) b2 hm2 (by rw [hus, ← hso, hcap]; omega) ok2
  have ok3 : Ok (Hd.putV D2 (nextH h (freeT h))).2 := Hd.putV_ok ok2 _
  have hl2 : Lying D2.tp (nextH h (freeT h)) (updT T (freeT h) []) s [] := next_lying hm i2.lie hmem (by rw [ht', c2, hbl]; rfl)
  generalize Hd.putV D2 (nextH h (freeT h)) = P3 at po ok3 ⊢
  obtain ⟨z3, D3⟩ := P3
  have hlt := Hd.other_le D2
  have hbo := bytes_ok hm2
  rcases po.out with ⟨a3, b3, c3⟩ | ⟨a3, b3, c3⟩
  · simp only [] at a3 b3 c3 ok3
    have af3 : AllFirm D3 := fun k hk => by
      rw [c3]
      by_cases e : k = Hd.otherV D2
      · rw [e, upd_same]
      · rw [upd_other _ _ e]; exact af2 k hk
    have hoth : ∀ k, 2 ≤ k → D3.tp k = D2.tp k := fun k hk => by rw [c3, upd_other _ _ (by omega)]
    refine .inl ⟨a3, by simp only []; rw [if_pos a3], Inv.of_all ⟨ok3, b3, hm2, fun k hk => af3 k (by omega), fun u h3 h4 hu => ?_, ?_⟩ (hl2.congr hm2 fun u h3 _ _ => by rw [hoth u h3]) af3, af3, hmem, by omega, po.cap.trans hcap, po.cnt.trans hc2, ?_, ?_⟩
    · rw [hoth u h3]
      rw [next_uses] at hu
      exact i2.base.free u h3 h4 (by cases hx : h.uses (u : Nat) <;> simp_all)
    · exact put_head i2.base.head hm2 (by show h.gen < h.gen + 1; omega) (fun k hk hne => by rw [c3, upd_other _ _ hne]) (by rw [c3, upd_same])
    · simp only []
      have hu3 := used_with (D := D2) (E := D3) (t := Hd.otherV D2) (by omega) c3
      have hx : (⟨Hd.bytesV (nextH h (freeT h)), (Hd.bytesV (nextH h (freeT h))).size⟩ : TapeV).b.size = HSize (nextH h (freeT h)) := hbo.2.2
      rw [hx] at hu3
      omega
    · simp only []
      have hu3 := used_with (D := D2) (E := D3) (t := Hd.otherV D2) (by omega) c3
      have hx : (⟨Hd.bytesV (nextH h (freeT h)), (Hd.bytesV (nextH h (freeT h))).size⟩ : TapeV).b.size = HSize (nextH h (freeT h)) := hbo.2.2
      rw [hx] at hu3
      omega
  · simp only [] at a3 b3 c3
    refine .inr ⟨a3, b3, by simp only []; rw [if_neg (by rw [a3]; decide)]; exact hm, ?_, ?_⟩
    · cases hc : D.counts
      · have := po.nc (hc2.trans hc); rw [a3] at this; exact absurd this (show ¬ ((45 : Int) = 0) by decide)
      · rfl
    · simp only []
      rcases c3 with c3 | c3
      · exact (i2.finds (D' := D3) (fun k hk _ => by rw [c3]) (i2.firmAll af2)).mono fun h' l s' ⟨e1, e2, k, e3, e4, e5⟩ => ⟨by rw [e1], by rw [e1], e2, k, by omega, e4, e5⟩
      · refine (put_back (D' := D3) af2 i2.base.head hm i2.lie hm2 (by show h.gen < h.gen + 1; omega) hl2 c3).mono ?_
        rintro h' l s' (⟨rfl, e2, e3⟩ | ⟨rfl, e2, e3⟩)
        · exact ⟨rfl, rfl, e3, hR l e2⟩
        · rw [next_recs hmem, List.append_nil] at e2
          exact ⟨rfl, rfl, e3, hR l e2⟩
/-- What Add did. -/
structure Added (D : DiskV) (h : Hd.HV) (T : Int → List (List UInt8)) (s : ByteArray) (m : Int) (b : List UInt8) (c : Nat) (D' : DiskV) (h' : Hd.HV) (T' : Int → List (List UInt8)) : Prop where
  inv : Inv D' h' T' s
  how : (h' = h ∧ T' = updT T (lastT h) (T (lastT h) ++ [b]) ∧ ¬ (0 < (recR (T (lastT h))).length ∧ m < ((recR (T (lastT h))).length : Int) + (b.length + 9)) ∧ used D'.tp 32 = used D.tp 32 + (b.length + 9) ∧ ∀ k, k < 2 → D'.tp k = D.tp k) ∨ (h' = nextH h (freeT h) ∧ T' = updT T (freeT h) [b] ∧ freeT h ∈ h.free ∧ h.gen < 1099511627776 ∧ (0 < (recR (T (lastT h))).length ∧ m < ((recR (T (lastT h))).length : Int) + (b.length + 9)) ∧ used D'.tp 32 ≤ used D.tp 32 + HSize h' + (b.length + 9))
  recs : recsOf h' T' = recsOf h T ++ [b]
  firm : FirmAt D' h' T' c
  base : h'.base = h.base ∧ h'.snap = h.snap
  cap : D'.cap = D.cap
  cnt : D'.counts = D.counts
theorem recB_len (b : ByteArray) : (recB b).size = b.data.toList.length + 9 := by rw [recB_size, data_len]
theorem take_snoc {R : List (List UInt8)} {b : List UInt8} {k : Nat} (h : k ≤ R.length) : (R ++ [b]).take k = R.take k := List.take_append_of_le_length h
def AddRef (D : DiskV) (h : Hd.HV) (T : Int → List (List UInt8)) (m : Int) (n : Nat) (b : ByteArray) : Prop :=
  262144 < b.size ∨ 1099511627776 ≤ h.base + n ∨ ((0 < (recR (T (lastT h))).length ∧ m < ((recR (T (lastT h))).length : Int) + (b.size + 9)) ∧ TurnRef D h (b.size + 9)) ∨ (¬ (0 < (recR (T (lastT h))).length ∧ m < ((recR (T (lastT h))).length : Int) + (b.size + 9)) ∧ D.cap < (used D.tp 32 : Int) + (b.size + 9))
/-- Add. -/
theorem add_law {D : DiskV} {h : Hd.HV} {T : Int → List (List UInt8)} {s b : ByteArray} {m : Int} {n c : Nat} (i : Inv D h T s) (hf : FirmAt D h T c) (hm2 : m ≤ 1048576) :
    (AddRef D h T m n b ∧ ((addV D h m n b).1 = 40 ∨ (addV D h m n b).1 = 44) ∧ (addV D h m n b).2 = (D, h, n)) ∨
    ((addV D h m n b).1 = 0 ∧ (addV D h m n b).2.2.2 = n + 1 ∧ b.size ≤ 262144 ∧ ∃ T', Added D h T s m b.data.toList c (addV D h m n b).2.1 (addV D h m n b).2.2.1 T') ∨
    ((addV D h m n b).1 = 45 ∧ (addV D h m n b).2.2.2 = n ∧ (addV D h m n b).2.1.down = true ∧ (addV D h m n b).2.2.1.may = true ∧ D.counts = true ∧ Back1 (addV D h m n b).2.1 fun h' l s' => h'.base = h.base ∧ h'.snap = h.snap ∧ s' = s ∧ ∃ k, c ≤ k ∧ k ≤ (recsOf h T).length + 1 ∧ l = (recsOf h T ++ [b.data.toList]).take k) := by
  unfold addV
  by_cases h1 : 262144 < b.size ∨ 1099511627776 ≤ h.base + n
  · rw [if_pos h1]; exact .inl ⟨h1.elim .inl (fun e => .inr (.inl e)), .inl rfl, rfl⟩
  have hm := i.base.may
  rw [if_neg h1, if_neg (by rw [i.base.up]; simp)]
  obtain ⟨la, hla, hla', hl2, hl32, hlu⟩ := last_nat hm
  have hlast := i.lie.last
  rw [List.append_nil, hla'] at hlast
  have hhere : sizeF D (lastT h).toNat = ((recR (T (lastT h))).length : Int) := by rw [hla']; unfold sizeF; rw [← hlast, tx_len]
  have hbs : b.size ≤ 262144 := by omega
  have hbl : b.data.toList.length = b.size := data_len b
  rw [hhere]
  have hsz := recB_size b
  -- writing on the last tape of a disk as a vault leaves it
  have hwr : ∀ (E : DiskV) (h2 : Hd.HV) (T2 : Int → List (List UInt8)) (c2 : Nat), Inv E h2 T2 s → FirmAt E h2 T2 c2 → ((recR (T2 (lastT h2))).length : Int) + (recB b).size ≤ 1048576 → (used E.tp 32 : Int) + (recB b).size ≤ E.cap →
      ((writeV E (lastT h2) (recB b)).1 = 0 ∧ Inv (writeV E (lastT h2) (recB b)).2 h2 (updT T2 (lastT h2) (T2 (lastT h2) ++ [b.data.toList])) s ∧ FirmAt (writeV E (lastT h2) (recB b)).2 h2 (updT T2 (lastT h2) (T2 (lastT h2) ++ [b.data.toList])) c2 ∧ (writeV E (lastT h2) (recB b)).2.cap = E.cap ∧ (writeV E (lastT h2) (recB b)).2.counts = E.counts ∧ used (writeV E (lastT h2) (recB b)).2.tp 32 = used E.tp 32 + (b.data.toList.length + 9) ∧ ∀ k, k < 2 → (writeV E (lastT h2) (recB b)).2.tp k = E.tp k) ∨
      ((writeV E (lastT h2) (recB b)).1 = 45 ∧ (writeV E (lastT h2) (recB b)).2.down = true ∧ E.counts = true ∧ Back1 (writeV E (lastT h2) (recB b)).2 fun h' l s' => h' = h2 ∧ s' = s ∧ ∃ k, c2 ≤ k ∧ k ≤ (recsOf h2 T2).length + 1 ∧ l = (recsOf h2 T2 ++ [b.data.toList]).take k) := by
    intro E h2 T2 c2 i2 hf2 hr1 hr2
    obtain ⟨lb, hlb, hlb', hb2, hb32, hbu⟩ := last_nat i2.base.may
    have hl2 := i2.lie.last
    rw [List.append_nil, hlb'] at hl2
    have ok2 : Ok (writeV E (lastT h2) (recB b)).2 := i2.base.ok.write _ _
    have wo := write_up (D := E) (t := lb) (s := recB b) i2.base.up hb32 (by rw [← tx_len, hl2]; exact hr1) hr2
    rw [← hlb] at wo
    generalize writeV E (lastT h2) (recB b) = P at wo ok2 ⊢
    obtain ⟨z, E2⟩ := P
    rcases wo.out with ⟨a1, b1, c1⟩ | ⟨a1, b1, c1⟩
    · simp only [] at a1 b1 c1 ok2
      obtain ⟨w1, w2⟩ := i2.wrote (b := b.data.toList) (D' := E2) (by omega) ok2 b1 (by rw [hlb']; exact c1) hf2
      refine .inl ⟨a1, w1, w2, wo.cap, wo.cnt, ?_, fun k hk => by show E2.tp k = E.tp k; rw [c1, upd_other _ _ (by omega)]⟩
      have hu := used_with hb32 c1
      have hz : (⟨(E.tp lb).b ++ recB b, (E.tp lb).firm⟩ : TapeV).b.size = (E.tp lb).b.size + (recB b).size := ByteArray.size_append ..
      rw [hz] at hu
      show used E2.tp 32 = _
      omega
    · simp only [] at a1 b1 c1 ok2
      refine .inr ⟨a1, b1, ?_, ?_⟩
      · cases hc : E.counts
        · have := (wo.nc hc).1; rw [a1] at this; exact absurd this (show ¬ ((45 : Int) = 0) by decide)
        · rfl
      · have hl : FirmAt (lit E) h2 T2 c2 := hf2
        obtain ⟨w1, w2⟩ := i2.lit.wrote (b := b.data.toList) (D' := lit E2) (by omega) (lit_ok ok2) rfl (by rw [hlb']; exact c1) hl
        refine (w1.finds (D' := E2) (fun k hk _ => rfl) w2).mono ?_
        rintro h' l s' ⟨e1, e2, k, e3, e4, e5⟩
        rw [recs_snoc i2.base.may] at e4 e5
        rw [List.length_append] at e4
        exact ⟨e1, e2, k, e3, e4, e5⟩
  by_cases hT : 0 < ((recR (T (lastT h))).length : Int) ∧ m < ((recR (T (lastT h))).length : Int) + ((recB b).size : Int)
  · rw [if_pos hT]
    rcases turn_law (size := (recB b).size) i hf with ⟨e0, e1, e2⟩ | ⟨e1, e2, i2, af2, hmem, hg, hcap, hcnt, hroom, hlu⟩ | ⟨e1, e2, e3, e4, e5⟩
    · rw [if_pos (by rcases e1 with e | e <;> rw [e] <;> decide)]
      exact .inl ⟨.inr (.inr (.inl ⟨⟨by omega, by have := hT.2; omega⟩, by rw [hsz] at e0; exact e0⟩)), e1, by rw [show ((turnV D h (recB b).size).2.1 : DiskV) = D from by rw [e2], show ((turnV D h (recB b).size).2.2 : Hd.HV) = h from by rw [e2]]⟩
    · right
      rw [if_neg (by rw [e1]; decide), e2]
      generalize (turnV D h (recB b).size).2.1 = E at *
      have hfa := i2.firmAll af2
      unfold addW
      have hlen0 : ((recR (updT T (freeT h) [] (lastT (nextH h (freeT h))))).length : Int) = 0 := by rw [next_last, updT_same]; rfl
      rcases hwr E (nextH h (freeT h)) _ _ i2 hfa (by rw [hlen0]; omega) (by rw [hcap]; exact hroom) with ⟨w1, w2, w3, w4, w5, w6, w7⟩ | ⟨w1, w2, w3, w4⟩
      · have hupd : updT (updT T (freeT h) []) (lastT (nextH h (freeT h))) (updT T (freeT h) [] (lastT (nextH h (freeT h))) ++ [b.data.toList]) = updT T (freeT h) [b.data.toList] := by rw [next_last, updT_same]; funext u; unfold updT; split <;> rfl
        rw [hupd] at w2 w3
        refine .inl ⟨w1, by simp only []; rw [if_pos w1], hbs, updT T (freeT h) [b.data.toList], w2, .inr ⟨rfl, rfl, hmem, hg, ⟨by omega, by have := hT.2; omega⟩, by show used (writeV E (lastT (nextH h (freeT h))) (recB b)).2.tp 32 ≤ used D.tp 32 + HSize (nextH h (freeT h)) + (b.data.toList.length + 9); omega⟩, next_recs hmem _, ?_, ⟨rfl, rfl⟩, w4.trans hcap, w5.trans hcnt⟩
        exact w3.less (by rw [next_recs hmem, List.append_nil]; exact hf.le hm)
      · refine .inr ⟨w1, by simp only []; rw [if_neg (by rw [w1]; decide)], w2, i2.base.may, by rw [← hcnt]; exact w3, w4.mono ?_⟩
        rintro h' l s' ⟨rfl, e4, k, e5, e6, e7⟩
        rw [next_recs hmem, List.append_nil] at e5 e6 e7
        exact ⟨rfl, rfl, e4, k, by have := hf.le hm; omega, e6, e7⟩
    · right; right
      rw [if_pos (by rw [e1]; decide)]
      refine ⟨e1, rfl, e2, e3, e4, e5.mono ?_⟩
      rintro h' l s' ⟨g1, g2, g3, k, g4, g5, g6⟩
      exact ⟨g1, g2, g3, k, g4, by omega, by rw [take_snoc g5]; exact g6⟩
  · rw [if_neg hT]
    by_cases hr : D.cap < (used D.tp 32 : Int) + ((recB b).size : Int)
    · rw [if_pos hr]; exact .inl ⟨.inr (.inr (.inr ⟨fun hh => hT ⟨by omega, by have := hh.2; omega⟩, by omega⟩)), .inr rfl, rfl⟩
    · rw [if_neg hr]
      right
      unfold addW
      rcases hwr D h T c i hf (by omega) (by omega) with ⟨w1, w2, w3, w4, w5, w6, w7⟩ | ⟨w1, w2, w3, w4⟩
      · refine .inl ⟨w1, by simp only []; rw [if_pos w1], hbs, _, w2, .inl ⟨rfl, rfl, fun hh => hT ⟨by omega, by have := hh.2; omega⟩, w6, w7⟩, recs_snoc hm, w3, ⟨rfl, rfl⟩, w4, w5⟩
      · refine .inr ⟨w1, by simp only []; rw [if_neg (by rw [w1]; decide)], w2, hm, w3, w4.mono ?_⟩
        rintro h' l s' ⟨rfl, e4, k, e5, e6, e7⟩
        exact ⟨rfl, rfl, e4, k, e5, e6, e7⟩
end Vp
end Go.Proofs.YtpfoekfbcpinlaaGreatDoor
/- Plain law: Lay. -/
namespace Go.Proofs.YtpfoekfbcpinlaaGreatDoor
open Go.RowKit
set_option linter.unusedVariables false

namespace Vp
theorem R_nodup : Hd.R.Nodup := by decide
theorem free_two {h : Hd.HV} (hf : ¬ h.free.length < 2) : freeT h ∈ h.free ∧ freeT2 h ∈ h.free ∧ freeT h ≠ freeT2 h := by
  have hn : h.free.Nodup := R_nodup.filter _
  unfold freeT freeT2
  cases hq : h.free with
  | nil => rw [hq] at hf; exact absurd (by decide) hf
  | cons a r =>
    cases r with
    | nil => rw [hq] at hf; exact absurd (by simp) hf
    | cons b r =>
      rw [hq] at hn
      refine ⟨by simp, by simp, ?_⟩
      have := (List.nodup_cons.1 hn).1
      intro e
      have e : a = b := e
      exact this (by rw [e]; exact List.mem_cons_self ..)
theorem layH_may {h : Hd.HV} {n : Nat} (hm : h.may = true) (hf : ¬ h.free.length < 2) (hg : h.gen < 1099511627776) (hb : h.base + n ≤ 1099511627776) : (layH h n).may = true := by
  obtain ⟨m1, m2, m3⟩ := free_two hf
  obtain ⟨a1, a2, a3⟩ := free_mem m1
  obtain ⟨b1, b2, b3⟩ := free_mem m2
  obtain ⟨f1, f2, f3, f4, f5, f6⟩ := Hd.may_first hm
  have ht : (layH h n).tapes = [freeT h, freeT2 h] := by unfold Hd.HV.tapes layH; rw [if_neg (by simp only []; omega)]
  refine (may_iff _).2 ⟨?_, ?_, ?_⟩
  · unfold Hd.HV.first
    rw [decide_eq_true_eq]
    unfold layH
    exact ⟨by simp only []; omega, by simp only []; omega, by simp only []; omega, by simp only []; omega, by simp, by simp only []; omega⟩
  · rw [ht]
    intro t h1
    simp only [List.mem_cons, List.not_mem_nil, or_false] at h1
    rcases h1 with rfl | rfl
    · exact ⟨a1, a2⟩
    · exact ⟨b1, b2⟩
  · rw [ht]; simp [m3]
theorem layH_last (h : Hd.HV) (n : Nat) : lastT (layH h n) = freeT2 h := rfl
theorem layH_uses {h : Hd.HV} {n : Nat} {t : Int} (h0 : t ≠ 0) : (layH h n).uses t = true ↔ t = freeT h ∨ t = freeT2 h := by
  rw [uses_iff h0]
  unfold layH
  simp only [List.mem_singleton]
  constructor
  · rintro (e | e)
    · exact .inl e.symm
    · exact .inr e
  · rintro (e | e)
    · exact .inl e.symm
    · exact .inr e
theorem oldT_mem {h : Hd.HV} {t : Int} : t ∈ oldT h ↔ (2 ≤ t ∧ t < 32) ∧ h.uses t = true := by
  unfold oldT
  rw [List.mem_filter]
  have : t ∈ Hd.R ↔ 2 ≤ t ∧ t < 32 := by
    unfold Hd.R
    rw [List.mem_map]
    constructor
    · rintro ⟨k, hk, rfl⟩
      rw [List.mem_range] at hk
      omega
    · intro hh
      exact ⟨(t - 2).toNat, by rw [List.mem_range]; omega, by omega⟩
  rw [this]
section steps
variable {D : DiskV} {h : Hd.HV} {n : Nat} {F : ByteArray}
theorem lay_step (i : Nat) (h0 : (layR D h n F i).1 = 0) : layR D h n F (i + 1) = layF (lastT h) (freeT h) (freeT2 h) F (layH h n) (layL h) i (layR D h n F i).2 := by
  unfold layR at *
  rw [runV, if_neg (by simpa using h0)]
theorem lay_stop {i j : Nat} (h0 : (layR D h n F i).1 ≠ 0) (hj : i ≤ j) : layR D h n F j = layR D h n F i := runV_err h0 j hj
theorem lay_err {i : Nat} (hi : i ≤ 6) (h0 : (layR D h n F i).1 ≠ 0) : layG D h n F = ((layR D h n F i).1, (layR D h n F i).2, h, n) := by
  unfold layG
  rw [lay_stop h0 (show i ≤ 7 + (oldT h).length by omega), lay_stop h0 hi, if_neg h0, if_neg h0]
/-- The tapes of the head that was are wiped. -/
theorem lay_olds (h7 : (layR D h n F 7).1 = 0) (up : (layR D h n F 7).2.down = false) : ∀ j, j ≤ (oldT h).length →
    ((layR D h n F (7 + j)).1 = 0 ∧ (layR D h n F (7 + j)).2.down = false ∧ (layR D h n F (7 + j)).2.cap = (layR D h n F 7).2.cap ∧ (layR D h n F (7 + j)).2.counts = (layR D h n F 7).2.counts ∧ (∀ k : Nat, (k : Int) ∉ (oldT h).take j → (layR D h n F (7 + j)).2.tp k = (layR D h n F 7).2.tp k) ∧ ∀ k : Nat, (k : Int) ∈ (oldT h).take j → (layR D h n F (7 + j)).2.tp k = blank) ∨
    ((layR D h n F (7 + j)).1 = 45 ∧ (layR D h n F (7 + j)).2.down = true ∧ (layR D h n F 7).2.counts = true ∧ ∀ k : Nat, (k : Int) ∉ oldT h → (layR D h n F (7 + j)).2.tp k = (layR D h n F 7).2.tp k)
  | 0, _ => .inl ⟨h7, up, rfl, rfl, fun _ _ => rfl, fun k hk => by simp at hk⟩
  | j + 1, hj => by
    rcases lay_olds h7 up j (by omega) with ⟨a, b, c, d, e, f⟩ | ⟨a, b, c, d⟩
    · have hst := lay_step (D := D) (h := h) (n := n) (F := F) (7 + j) a
      have hmem : (oldT h)[j]? = some (layL h j) := by
        unfold layL
        rw [List.getD_eq_getElem?_getD, List.getElem?_eq_getElem (by omega)]; rfl
      have hin : layL h j ∈ oldT h := List.mem_of_getElem? hmem
      obtain ⟨⟨l1, l2⟩, l3⟩ := oldT_mem.1 hin
      obtain ⟨t, ht⟩ : ∃ t : Nat, layL h j = t := ⟨(layL h j).toNat, by omega⟩
      have hF : layF (lastT h) (freeT h) (freeT2 h) F (layH h n) (layL h) (7 + j) (layR D h n F (7 + j)).2 = wipeV (layR D h n F (7 + j)).2 t := by
        rw [show 7 + j = j + 7 from by omega]
        show wipeV _ (layL h j) = _
        rw [ht]
      rw [hF] at hst
      rw [show 7 + (j + 1) = 7 + j + 1 from by omega, hst]
      have wo := wipe_up (D := (layR D h n F (7 + j)).2) (t := t) b (by omega)
      have htk : (oldT h).take (j + 1) = (oldT h).take j ++ [(t : Int)] := by rw [List.take_add_one, hmem, ht]; rfl
      rcases wo.out with ⟨w1, w2, w3⟩ | ⟨w1, w2, w3⟩
      · refine .inl ⟨w1, w2, wo.cap.trans c, wo.cnt.trans d, fun k hk => ?_, fun k hk => ?_⟩
        · rw [htk, List.mem_append, not_or] at hk
          rw [w3, upd_other _ _ (fun e => hk.2 (by rw [e]; exact List.mem_singleton.2 rfl))]
          exact e k hk.1
        · rw [w3]
          by_cases ek : k = t
          · rw [ek, upd_same]
          · rw [upd_other _ _ ek]
            rw [htk, List.mem_append, List.mem_singleton] at hk
            exact f k (hk.resolve_right (by omega))
      · refine .inr ⟨w1, w2, ?_, fun k hk => ?_⟩
        · rw [← d]
          cases hc : (layR D h n F (7 + j)).2.counts
          · have := (wo.nc hc).1; rw [w1] at this; exact absurd this (by decide)
          · rfl
        · rw [w3, upd_id]
          exact e k (fun hh => hk (List.mem_of_mem_take hh))
    · have hne : (layR D h n F (7 + j)).1 ≠ 0 := by rw [a]; decide
      rw [show 7 + (j + 1) = 7 + j + 1 from by omega, lay_stop hne (Nat.le_succ _)]
      exact .inr ⟨a, b, c, d⟩
end steps
def LayRef (D : DiskV) (h : Hd.HV) (n : Nat) (s : ByteArray) : Prop :=
  262144 < s.size ∨ 1099511627776 < h.base + n ∨ 1099511627776 ≤ h.gen ∨ h.free.length < 2 ∨ D.cap < (used D.tp 32 : Int) + (s.size + 9) ∨ D.cap < (used D.tp 32 : Int) + (s.size + 9) - sizeF D (Hd.otherV D) + HSize (layH h n)
/-- What the tapes have in all, where three alone have bytes. -/
theorem used_three {tp : Nat → TapeV} {a : Nat} (ha : 2 ≤ a) (ha2 : a < 32) (h : ∀ k, 2 ≤ k → k < 32 → k ≠ a → tp k = blank) : used tp 32 = (tp 0).b.size + (tp 1).b.size + (tp a).b.size := by
  have hz0 : (blank : TapeV).b.size = 0 := rfl
  have e : ∀ k, 2 ≤ k → k ≤ 32 → used tp k = (tp 0).b.size + (tp 1).b.size + if a < k then (tp a).b.size else 0 := by
    intro k
    induction k with
    | zero => intro h; omega
    | succ k ih =>
      intro h1 h2
      rw [used]
      by_cases hk : k = 1
      · subst hk
        rw [if_neg (by omega)]
        show (0 + (tp 0).b.size) + (tp 1).b.size = _
        omega
      · rw [ih (by omega) (by omega)]
        by_cases hka : k = a
        · subst hka; rw [if_neg (by omega), if_pos (by omega)]; omega
        · rw [h k (by omega) (by omega) hka, hz0]
          by_cases hlt : a < k
          · rw [if_pos hlt, if_pos (by omega)]; omega
          · rw [if_neg hlt, if_neg (by omega)]
  rw [e 32 (by decide) (Nat.le_refl _), if_pos ha2]
/-- Lay. -/
theorem lay_law {D : DiskV} {h : Hd.HV} {T : Int → List (List UInt8)} {s0 s : ByteArray} {n c : Nat} (i : Inv D h T s0) (hf : FirmAt D h T c) :
    (LayRef D h n s ∧ ((layV D h n s).1 = 40 ∨ (layV D h n s).1 = 44) ∧ (layV D h n s).2 = (D, h, n)) ∨
    ((layV D h n s).1 = 0 ∧ (layV D h n s).2.2.1 = layH h n ∧ (layV D h n s).2.2.2 = 0 ∧ s.size ≤ 262144 ∧ freeT h ∈ h.free ∧ freeT2 h ∈ h.free ∧ h.gen < 1099511627776 ∧ Inv (layV D h n s).2.1 (layH h n) (fun _ => []) s ∧ AllFirm (layV D h n s).2.1 ∧ (layV D h n s).2.1.cap = D.cap ∧ (layV D h n s).2.1.counts = D.counts ∧ used (layV D h n s).2.1.tp 32 = (D.tp (1 - Hd.otherV D)).b.size + HSize (layH h n) + (s.size + 9) ∧ (∀ k, k < 2 → k ≠ Hd.otherV D → tx ((layV D h n s).2.1.tp k) = tx (D.tp k)) ∧ tx ((layV D h n s).2.1.tp (Hd.otherV D)) = (Hd.bytesV (layH h n)).data.toList) ∨
    ((layV D h n s).1 = 45 ∧ (layV D h n s).2.2.2 ≤ n ∧ (layV D h n s).2.1.down = true ∧ (layV D h n s).2.2.1.may = true ∧ D.counts = true ∧ Back1 (layV D h n s).2.1 fun h' l s' => (h' = h ∧ s' = s0 ∧ ∃ k, c ≤ k ∧ k ≤ (recsOf h T).length ∧ l = (recsOf h T).take k) ∨ (h' = layH h n ∧ l = [] ∧ s' = s)) := by
  unfold layV
  by_cases h1 : 262144 < s.size ∨ 1099511627776 < h.base + n
  · rw [if_pos h1]; exact .inl ⟨h1.elim .inl (fun e => .inr (.inl e)), .inl rfl, rfl⟩
  rw [if_neg h1, if_neg (by rw [i.base.up]; simp)]
  by_cases hg : 1099511627776 ≤ h.gen
  · rw [if_pos hg]; exact .inl ⟨.inr (.inr (.inl hg)), .inl rfl, rfl⟩
  rw [if_neg hg]
  by_cases hfr : h.free.length < 2
  · rw [if_pos hfr]; exact .inl ⟨.inr (.inr (.inr (.inl hfr))), .inr rfl, rfl⟩
  rw [if_neg hfr]
  have hF0 := snapB_size s
  have hU0 : layU D h (snapB s) = (used D.tp 32 : Int) + (s.size + 9) ∧ sizeF D (freeT2 h).toNat = 0 := by
    obtain ⟨ma, mb, mab⟩ := free_two hfr
    obtain ⟨a1, a2, a3⟩ := free_mem ma
    obtain ⟨b1, b2, b3⟩ := free_mem mb
    unfold layU sizeF
    rw [i.blank (t := (freeT h).toNat) (by omega) (by omega) (by rw [show (((freeT h).toNat : Nat) : Int) = freeT h from by omega]; exact a3), i.blank (t := (freeT2 h).toNat) (by omega) (by omega) (by rw [show (((freeT2 h).toNat : Nat) : Int) = freeT2 h from by omega]; exact b3)]
    have hz : (blank : TapeV).b.size = 0 := rfl
    rw [hz, hF0]
    omega
  by_cases hrm : D.cap < layU D h (snapB s) ∨ D.cap < layU D h (snapB s) - sizeF D (freeT2 h).toNat - sizeF D (Hd.otherV D) + HSize (layH h n)
  · rw [if_pos hrm]; exact .inl ⟨.inr (.inr (.inr (.inr (hrm.imp (fun e => by rw [hU0.1] at e; exact e) (fun e => by rw [hU0.1, hU0.2] at e; omega))))), .inr rfl, rfl⟩
  rw [if_neg hrm]
  right
  have hm := i.base.may
  have hs : s.size ≤ 262144 := by omega
  have hFz := snapB_size s
  have hFl : (snapB s).data.toList = Fr.fr 2 s.data.toList := B_list _
  clear hU0
  generalize snapB s = F at *
  obtain ⟨ma, mb, mab⟩ := free_two hfr
  obtain ⟨a1, a2, a3⟩ := free_mem ma
  obtain ⟨b1, b2, b3⟩ := free_mem mb
  obtain ⟨a, ha⟩ : ∃ a : Nat, freeT h = a := ⟨(freeT h).toNat, by omega⟩
  obtain ⟨b, hb⟩ : ∃ b : Nat, freeT2 h = b := ⟨(freeT2 h).toNat, by omega⟩
  have hm2 := layH_may (n := n) hm hfr (by omega) (by omega)
  have hcl := hf.le hm
  have hcnt : ∀ {P : Int × DiskV} {E : DiskV} {t x y}, Op E P t x y → P.1 = 45 → E.counts = true := fun o e => by
    cases hc : DiskV.counts _
    · have := (o.nc hc).1; rw [e] at this; exact absurd this (by decide)
    · rfl
  have h0 : (layR D h n F 0) = (0, D) := rfl
  obtain ⟨la, hla, hla', hl2, hl32, hlu⟩ := last_nat hm
  have hala : a ≠ la := fun e => by rw [ha, e, hlu] at a3; cases a3
  have hbla : b ≠ la := fun e => by rw [hb, e, hlu] at b3; cases b3
  have hab : a ≠ b := fun e => mab (by rw [ha, hb, e])
  have huse : ∀ k, h.uses (k : Nat) = true ∨ k < 2 → k ≠ a ∧ k ≠ b := fun k hk => by
    rcases hk with hk | hk
    · exact ⟨fun e => (by rw [ha, ← e, hk] at a3; cases a3), fun e => (by rw [hb, ← e, hk] at b3; cases b3)⟩
    · omega
  -- the last tape is synced
  have s1 : layR D h n F 1 = syncV D (lastT h) := by rw [lay_step 0 (by rw [h0]), h0]; rfl
  have so := sync_up (D := D) (t := la) i.base.up hl32
  have ok1 : Ok (syncV D (lastT h)).2 := i.base.ok.sync _
  rw [← hla, ← s1] at so
  rw [← s1] at ok1
  rcases so.out with ⟨p1, q1, c1⟩ | ⟨p1, q1, c1⟩
  rotate_left 1
  · rw [upd_id] at c1
    rw [lay_err (i := 1) (by decide) (by rw [p1]; decide)]
    exact .inr ⟨p1, Nat.le_refl _, q1, hm, hcnt so p1, (i.finds (D' := (layR D h n F 1).2) (fun k _ _ => by rw [c1]) hf).mono fun h' l s' e => .inl e⟩
  obtain ⟨i1, af1⟩ := i.synced ok1 q1 (by rw [hla']; exact c1)
  have hA1 : (layR D h n F 1).2.tp a = blank := i1.blank (by omega) (by omega) (by rw [← ha]; exact a3)
  have hB1 : (layR D h n F 1).2.tp b = blank := i1.blank (by omega) (by omega) (by rw [← hb]; exact b3)
  have hsz1 : used (layR D h n F 1).2.tp 32 = used D.tp 32 := used_same 32 fun j _ => by
    rw [c1]
    by_cases e : j = la
    · rw [e, upd_same]; rfl
    · rw [upd_other _ _ e]
  have hfin : ∀ E : DiskV, (∀ k, k < 32 → h.uses (k : Nat) = true ∨ k < 2 → E.tp k = (layR D h n F 1).2.tp k) → Back1 E fun h' l s' => (h' = h ∧ s' = s0 ∧ ∃ k, c ≤ k ∧ k ≤ (recsOf h T).length ∧ l = (recsOf h T).take k) ∨ (h' = layH h n ∧ l = [] ∧ s' = s) := fun E hE =>
    (i1.finds hE (i1.firmAll af1)).mono fun h' l s' ⟨e1, e2, k, e3, e4, e5⟩ => .inl ⟨e1, e2, k, by omega, e4, e5⟩
  have hc1 : (layR D h n F 1).2.counts = D.counts := so.cnt
  have hk1 : (layR D h n F 1).2.cap = D.cap := so.cap
  -- a is wiped
  have s2 : layR D h n F 2 = wipeV (layR D h n F 1).2 a := by rw [lay_step 1 p1, ← ha]; rfl
  have wo := wipe_up (D := (layR D h n F 1).2) (t := a) q1 (by omega)
  have ok2 : Ok (wipeV (layR D h n F 1).2 a).2 := ok1.wipe _
  rw [← s2] at wo ok2
  have hub : ∀ (E : DiskV) (k : Nat), E.tp k = blank → upd E.tp k blank = E.tp := fun E k e => by rw [← e]; exact upd_id _ _
  rw [hA1] at wo
  have hn2 : ∀ z : Int, z = 45 → ¬ z = 0 := fun z e => by rw [e]; decide
  rcases wo.out with ⟨p2, q2, c2⟩ | ⟨p2, q2, c2⟩
  all_goals rw [hub _ _ hA1] at c2
  rotate_left 1
  · rw [lay_err (i := 2) (by decide) (hn2 _ p2)]
    exact .inr ⟨p2, Nat.le_refl _, q2, hm, by rw [← hc1]; exact hcnt wo p2, hfin _ fun k _ _ => by rw [c2]⟩
  have hc2 : (layR D h n F 2).2.counts = D.counts := wo.cnt.trans hc1
  have hk2 : (layR D h n F 2).2.cap = D.cap := wo.cap.trans hk1
  -- the snapshot is written
  have s3 : layR D h n F 3 = writeV (layR D h n F 2).2 a F := by rw [lay_step 2 p2, ← ha]; rfl
  have hA2 : (layR D h n F 2).2.tp a = blank := by rw [c2]; exact hA1
  have hz0 : (blank : TapeV).b.size = 0 := rfl
  have hna : sizeF D a = 0 := by unfold sizeF; rw [i.blank (by omega) (by omega) (by rw [← ha]; exact a3)]; rfl
  have hnb : sizeF D b = 0 := by unfold sizeF; rw [i.blank (by omega) (by omega) (by rw [← hb]; exact b3)]; rfl
  have hU : layU D h F = (used D.tp 32 : Int) + F.size := by
    unfold layU
    rw [show (freeT h).toNat = a from by omega, hna]; omega
  rw [hU, show (freeT2 h).toNat = b from by omega, hnb] at hrm
  have wr := write_up (D := (layR D h n F 2).2) (t := a) (s := F) q2 (by omega) (by rw [hA2, hz0]; omega) (by rw [c2, hsz1, hk2]; omega)
  have ok3 : Ok (writeV (layR D h n F 2).2 a F).2 := ok2.write _ _
  rw [← s3] at wr ok3
  have hx : (⟨((layR D h n F 2).2.tp a).b ++ F, ((layR D h n F 2).2.tp a).firm⟩ : TapeV) = ⟨F, 0⟩ := by rw [hA2]; exact congrArg (fun b => (⟨b, 0⟩ : TapeV)) (show (⟨#[]⟩ : ByteArray) ++ F = F from ByteArray.empty_append)
  rw [hx] at wr
  rcases wr.out with ⟨p3, q3, c3⟩ | ⟨p3, q3, c3⟩
  all_goals rw [c2] at c3
  rotate_left 1
  · rw [lay_err (i := 3) (by decide) (hn2 _ p3)]
    exact .inr ⟨p3, Nat.le_refl _, q3, hm, by rw [← hc2]; exact hcnt wr p3, hfin _ fun k _ hk => by rw [c3, upd_other _ _ (huse k hk).1]⟩
  have hc3 : (layR D h n F 3).2.counts = D.counts := wr.cnt.trans hc2
  have hk3 : (layR D h n F 3).2.cap = D.cap := wr.cap.trans hk2
  -- .. and synced
  have s4 : layR D h n F 4 = syncV (layR D h n F 3).2 a := by rw [lay_step 3 p3, ← ha]; rfl
  have sy := sync_up (D := (layR D h n F 3).2) (t := a) q3 (by omega)
  have ok4 : Ok (syncV (layR D h n F 3).2 a).2 := ok3.sync _
  rw [← s4] at sy ok4
  have hy : firmT ((layR D h n F 3).2.tp a) = ⟨F, F.size⟩ := by rw [c3, upd_same]; rfl
  rw [hy] at sy
  rcases sy.out with ⟨p4, q4, c4⟩ | ⟨p4, q4, c4⟩
  rotate_left 1
  · rw [upd_id, c3] at c4
    rw [lay_err (i := 4) (by decide) (hn2 _ p4)]
    exact .inr ⟨p4, Nat.le_refl _, q4, hm, by rw [← hc3]; exact hcnt sy p4, hfin _ fun k _ hk => by rw [c4, upd_other _ _ (huse k hk).1]⟩
  rw [c3, upd_twice] at c4
  have hc4 : (layR D h n F 4).2.counts = D.counts := sy.cnt.trans hc3
  have hk4 : (layR D h n F 4).2.cap = D.cap := sy.cap.trans hk3
  -- b is wiped
  have s5 : layR D h n F 5 = wipeV (layR D h n F 4).2 b := by rw [lay_step 4 p4, ← hb]; rfl
  have wb := wipe_up (D := (layR D h n F 4).2) (t := b) q4 (by omega)
  have ok5 : Ok (wipeV (layR D h n F 4).2 b).2 := ok4.wipe _
  rw [← s5] at wb ok5
  have hB4 : (layR D h n F 4).2.tp b = blank := by rw [c4, upd_other _ _ (fun e => hab e.symm)]; exact hB1
  rw [hB4] at wb
  rcases wb.out with ⟨p5, q5, c5⟩ | ⟨p5, q5, c5⟩
  all_goals rw [hub _ _ hB4, c4] at c5
  rotate_left 1
  · rw [lay_err (i := 5) (by decide) (hn2 _ p5)]
    exact .inr ⟨p5, Nat.le_refl _, q5, hm, by rw [← hc4]; exact hcnt wb p5, hfin _ fun k _ hk => by rw [c5, upd_other _ _ (huse k hk).1]⟩
  have hc5 : (layR D h n F 5).2.counts = D.counts := wb.cnt.trans hc4
  have hk5 : (layR D h n F 5).2.cap = D.cap := wb.cap.trans hk4
  -- the head is put
  have s6 : layR D h n F 6 = Hd.putV (layR D h n F 5).2 (layH h n) := by rw [lay_step 5 p5]; rfl
  have ho5 : ∀ k, k ≠ a → (layR D h n F 5).2.tp k = (layR D h n F 1).2.tp k := fun k hk => by rw [c5, upd_other _ _ hk]
  have hA5 : (layR D h n F 5).2.tp a = ⟨F, F.size⟩ := by rw [c5, upd_same]
  have hv5 : Hd.diskV (layR D h n F 5).2 = Hd.diskV (layR D h n F 1).2 := diskV_tp fun k hk => ho5 k (by omega)
  have hv1 : Hd.diskV (layR D h n F 1).2 = Hd.diskV D := diskV_tp fun k hk => by rw [c1, upd_other _ _ (by omega)]
  have hov : Hd.otherV (layR D h n F 5).2 = Hd.otherV D := by unfold Hd.otherV; rw [hv5, hv1]
  have hus5 : used (layR D h n F 5).2.tp 32 = used D.tp 32 + F.size := by
    have := used_with (D := (layR D h n F 1).2) (E := (layR D h n F 5).2) (t := a) (by omega) c5
    rw [hA1, hz0, hsz1] at this
    exact this
  have hlt := Hd.other_le D
  have hso : sizeF D (Hd.otherV D) = (((layR D h n F 5).2.tp (Hd.otherV (layR D h n F 5).2)).b.size : Int) := by
    rw [hov, ho5 _ (by omega), c1, upd_other _ _ (by omega)]; rfl
  have po := put_up (D := (layR D h n F 5).2) (h := layH h n) q5 hm2 (by rw [hus5, ← hso, hk5]; omega) ok5
  have ok6 : Ok (Hd.putV (layR D h n F 5).2 (layH h n)).2 := Hd.putV_ok ok5 _
  rw [← s6, hov] at po
  rw [← s6] at ok6
  have af5 : AllFirm (layR D h n F 5).2 := fun k hk => by
    by_cases e : k = a
    · rw [e, hA5]
    · rw [ho5 k e]; exact af1 k hk
  have hlo : Lying (layR D h n F 5).2.tp h T s0 [] := i1.lie.congr hm fun k _ _ hk => by rw [ho5 k (huse k (.inl hk)).1]
  have hB5 : (layR D h n F 5).2.tp b = blank := by rw [ho5 b (fun e => hab e.symm)]; exact hB1
  have hln : Lying (layR D h n F 5).2.tp (layH h n) (fun _ => []) s [] := by
    refine ⟨fun _ => ⟨?_, hs⟩, fun e => absurd e (by show freeT h ≠ 0; omega), fun u hu hne => ?_, ?_, fun _ _ => Small.nil, readL_nil⟩
    · rw [show (layH h n).snap.toNat = a from by show (freeT h).toNat = a; omega, hA5]; exact hFl
    · exact absurd (List.mem_singleton.1 hu) hne
    · rw [layH_last, show (freeT2 h).toNat = b from by omega, hB5]; rfl
  have hvh : (Hd.diskV (layR D h n F 5).2).1 = h ∧ (Hd.diskV (layR D h n F 5).2).2.2 = true := by rw [hv5]; exact i1.base.head
  have hgl : h.gen < (layH h n).gen := by show h.gen < h.gen + 1; omega
  rcases po.out with ⟨p6, q6, c6⟩ | ⟨p6, q6, c6⟩
  rotate_left 1
  · rw [lay_err (i := 6) (by decide) (hn2 _ p6)]
    refine .inr ⟨p6, Nat.le_refl _, q6, hm, ?_, ?_⟩
    · cases hc : D.counts
      · have := po.nc (hc5.trans hc); rw [p6] at this; exact absurd this (show ¬ ((45 : Int) = 0) by decide)
      · rfl
    · rcases c6 with c6 | c6
      · exact hfin _ fun k _ hk => by rw [c6, ho5 k (huse k hk).1]
      · refine (put_back (D' := (layR D h n F 6).2) af5 hvh hm hlo hm2 hgl hln (by rw [hov]; exact c6)).mono ?_
        rintro h' l s' (⟨e1, e2, e3⟩ | ⟨e1, e2, e3⟩)
        · exact .inl ⟨e1, e3, _, hcl, Nat.le_refl _, by rw [e2, List.take_length]⟩
        · exact .inr ⟨e1, by rw [e2]; rfl, e3⟩
  have hc6 : (layR D h n F 6).2.counts = D.counts := po.cnt.trans hc5
  have hk6 : (layR D h n F 6).2.cap = D.cap := po.cap.trans hk5
  have s7 : layR D h n F 7 = (0, (layR D h n F 6).2) := by rw [lay_step 6 p6]; rfl
  have hG : layG D h n F = ((layR D h n F (7 + (oldT h).length)).1, (layR D h n F (7 + (oldT h).length)).2, layH h n, 0) := by unfold layG; rw [if_pos p6, if_pos p6]
  have ho6 : ∀ k, 2 ≤ k → (layR D h n F 6).2.tp k = (layR D h n F 5).2.tp k := fun k hk => by rw [c6, upd_other _ _ (by omega)]
  have hold : ∀ k : Nat, k < 2 ∨ (layH h n).uses (k : Nat) = true → (k : Int) ∉ oldT h := fun k hk hh => by
    obtain ⟨x1, x2⟩ := oldT_mem.1 hh
    rcases hk with hk | hk
    · omega
    · rcases (layH_uses (by omega)).1 hk with e | e
      · rw [e, a3] at x2; cases x2
      · rw [e, b3] at x2; cases x2
  have hhd : ∀ E : DiskV, (∀ k, k < 2 → E.tp k = (layR D h n F 6).2.tp k) → (Hd.diskV E).1 = layH h n ∧ (Hd.diskV E).2.2 = true := fun E hE =>
    put_head (D := (layR D h n F 5).2) (E := E) hvh hm2 hgl (fun k hk hne => by rw [hov] at hne; rw [hE k hk, c6, upd_other _ _ hne]) (by rw [hov, hE _ (by omega), c6, upd_same])
  have hfirm6 : ∀ k, k < 2 → ((layR D h n F 6).2.tp k).firm = ((layR D h n F 6).2.tp k).b.size := fun k hk => by
    rw [c6]
    by_cases e : k = Hd.otherV D
    · rw [e, upd_same]
    · rw [upd_other _ _ e]; exact af5 k (by omega)
  have okG : Ok (layR D h n F (7 + (oldT h).length)).2 := runV_ok i.base.ok (fun j E hE => by
    match j with
    | 0 => exact hE.sync _
    | 1 => exact hE.wipe _
    | 2 => exact hE.write _ _
    | 3 => exact hE.sync _
    | 4 => exact hE.wipe _
    | 5 => exact Hd.putV_ok hE _
    | 6 => exact hE
    | j + 7 => exact hE.wipe _) _
  rw [hG]
  rcases lay_olds (D := D) (h := h) (n := n) (F := F) (by rw [s7]) (by rw [s7]; exact q6) (oldT h).length (Nat.le_refl _) with ⟨x1, x2, x3, x4, x5, x6⟩ | ⟨x1, x2, x3, x4⟩
  · rw [List.take_length] at x5 x6
    rw [s7] at x3 x4 x5
    simp only [] at x3 x4 x5
    generalize layR D h n F (7 + (oldT h).length) = PE at *
    obtain ⟨z, E⟩ := PE
    simp only [] at x1 x2 x3 x4 x5 x6 okG ⊢
    have hE : ∀ k : Nat, k < 2 ∨ (layH h n).uses (k : Nat) = true → E.tp k = (layR D h n F 6).2.tp k := fun k hk => x5 k (hold k hk)
    have hfreeE : ∀ t : Nat, 2 ≤ t → t < 32 → (layH h n).uses (t : Nat) = false → E.tp t = blank := fun t h2 h3 hu => by
      by_cases ho : (t : Int) ∈ oldT h
      · exact x6 t ho
      · have hta : t ≠ a := fun e => by rw [e, (layH_uses (by omega)).2 (.inl ha.symm)] at hu; cases hu
        rw [x5 t ho, ho6 t h2, ho5 t hta]
        exact i1.blank h2 h3 (by cases hx : h.uses (t : Nat); rfl; exact absurd (oldT_mem.2 ⟨by omega, hx⟩) ho)
    have afE : AllFirm E := fun k hk => by
      by_cases h2 : k < 2
      · rw [hE k (.inl h2)]; exact hfirm6 k h2
      · cases hu : (layH h n).uses (k : Nat)
        · rw [hfreeE k (by omega) hk hu]; rfl
        · rw [hE k (.inr hu), ho6 k (by omega)]; exact af5 k hk
    refine .inl ⟨x1, trivial, trivial, hs, ma, mb, by omega, Inv.of_all ⟨okG, x2, hm2, fun k hk => afE k (by omega), fun t h2 h3 hu => by rw [hfreeE t h2 h3 hu]; rfl, hhd E fun k hk => hE k (.inl hk)⟩ (hln.congr hm2 fun t h2 _ hu => by rw [hE t (.inr hu), ho6 t h2]) afE, afE, x3.trans hk6, x4.trans hc6, ?_, fun k hk hne => by rw [hE k (.inl hk), c6, upd_other _ _ hne, ho5 k (by omega), c1, upd_other _ _ (by omega)], by rw [hE _ (.inl (by omega)), c6, upd_same]⟩
    have hbo := (bytes_ok hm2).2.2
    have h3 := used_three (tp := E.tp) (a := a) (by omega) (by omega) (fun k h2 h3 hka => by
      cases hu : (layH h n).uses (k : Nat)
      · exact hfreeE k h2 h3 hu
      · rcases (layH_uses (by omega)).1 hu with e | e
        · exact absurd (by omega : k = a) hka
        · obtain rfl : k = b := by omega
          rw [hE _ (.inr hu), ho6 _ h2]; exact hB5)
    rw [h3, hE a (.inr ((layH_uses (by omega)).2 (.inl ha.symm))), ho6 a (by omega), hA5]
    have e0 : ∀ k, k < 2 → (E.tp k).b.size = if k = Hd.otherV D then HSize (layH h n) else (D.tp k).b.size := fun k hk => by
      rw [hE k (.inl hk), c6]
      by_cases e : k = Hd.otherV D
      · rw [if_pos e, e, upd_same]; exact hbo
      · rw [if_neg e, upd_other _ _ e, ho5 k (by omega), c1, upd_other _ _ (by omega)]
    rw [e0 0 (by decide), e0 1 (by decide)]
    rcases (by omega : Hd.otherV D = 0 ∨ Hd.otherV D = 1) with e | e
    · rw [e]; simp only [if_true]; show HSize (layH h n) + (D.tp 1).b.size + F.size = (D.tp 1).b.size + HSize (layH h n) + (s.size + 9); omega
    · rw [e]; show (D.tp 0).b.size + HSize (layH h n) + F.size = (D.tp 0).b.size + HSize (layH h n) + (s.size + 9); omega
  · rw [s7] at x3 x4
    simp only [] at x3 x4
    generalize layR D h n F (7 + (oldT h).length) = PE at *
    obtain ⟨z, E⟩ := PE
    simp only [] at x1 x2 x3 x4 ⊢
    have hE : ∀ k : Nat, k < 2 ∨ (layH h n).uses (k : Nat) = true → E.tp k = (layR D h n F 6).2.tp k := fun k hk => x4 k (hold k hk)
    refine .inr ⟨x1, Nat.zero_le _, x2, hm2, by rw [← hc6]; exact x3, (firm_back (D := E) (T := fun _ => []) (s := s) (tail := []) (fun k hk hu => ?_) (hhd E fun k hk => hE k (.inl hk)) hm2 (hln.congr hm2 fun t h2 _ hu => by rw [hE t (.inr hu), ho6 t h2])).mono fun h' l s' ⟨e1, e2, e3⟩ => .inr ⟨e1, by rw [e2]; rfl, e3⟩⟩
    rcases hu with hu | hu
    · have := uses_ge hm2 hu
      rw [hE k (.inr hu), ho6 k this]; exact af5 k hk
    · rw [hE k (.inl hu)]; exact hfirm6 k hu
end Vp
end Go.Proofs.YtpfoekfbcpinlaaGreatDoor
/- Plain law: a vault on a disk without bytes. -/
namespace Go.Proofs.YtpfoekfbcpinlaaGreatDoor
open Go.RowKit
set_option linter.unusedVariables false

namespace Vp
def newD (c : Int) : DiskV := ⟨fun _ => blank, c, false, 0, false⟩
theorem used_blank (k : Nat) : used (fun _ => blank) k = 0 := by
  induction k with
  | zero => rfl
  | succ k ih => rw [used, ih]; rfl
theorem first_size : HSize firstH = 14 := by
  have : firstH = Hd.eH 1 := rfl
  rw [this]
  unfold HSize
  rw [if_pos (Hd.eH_may (n := 1) (by decide) (by decide)), show (Hd.eH 1).enc.length = 5 from Hd.eH_len (n := 1) (by decide)]
theorem first_last : lastT firstH = 2 := rfl
theorem first_uses {t : Nat} : firstH.uses (t : Nat) = true ↔ t = 2 := by
  unfold Hd.HV.uses firstH
  simp
  omega
/-- What counts behind a Put where none counted. -/
theorem put_first {D E : DiskV} {h : Hd.HV} (hv : (Hd.diskV D).2.2 = false) (hm : h.may = true) (hE : tx (E.tp 1) = tx (D.tp 1)) (hb : tx (E.tp 0) = tx ⟨Hd.bytesV h, 0⟩) : (Hd.diskV E).1 = h ∧ (Hd.diskV E).2.2 = true := by
  have h1 := (Hd.may_first hm).1
  have hx : (Hd.ofV (E.tp 0).b.data.toList).1 = h := by rw [show (E.tp 0).b.data.toList = (Hd.bytesV h).data.toList from hb, Hd.ofV_bytes hm]
  have hz : (Hd.ofV (D.tp 1).b.data.toList).1.gen = 0 := by
    rcases Hd.disk_cases D with ⟨_, _, _, e⟩ | ⟨p, e, _⟩ | ⟨p, e, _⟩
    · exact e
    · rw [e] at hv; cases hv
    · rw [e] at hv; cases hv
  have hy : (Hd.ofV (E.tp 1).b.data.toList).1.gen = 0 := by rw [show (E.tp 1).b.data.toList = (D.tp 1).b.data.toList from hE]; exact hz
  unfold Hd.diskV
  rw [Hd.loadV_left (by rw [hx]; omega) (by rw [hx, hy]; omega)]
  exact ⟨hx, rfl⟩
theorem other_zero {D : DiskV} (hv : (Hd.diskV D).2.2 = false) : Hd.otherV D = 0 := by unfold Hd.otherV; rw [hv]; rfl
/-- Open, of a disk on which no head counts, that does not fail. -/
theorem open_first {D : DiskV} (ho : Ok D) (hd : D.down = false) (hc : D.counts = false) (hv : (Hd.diskV D).2.2 = false) (h2 : (oL D).1 = 0) :
    (oL D).2.2 = firstH ∧ oS D = (0, false, ⟨#[]⟩) ∧ (oR D).1 = [] ∧ openE D = 0 ∧ Inv (openD D) firstH (fun _ => []) ⟨#[]⟩ ∧ AllFirm (openD D) ∧ (openD D).counts = false ∧ (openD D).cap = D.cap ∧
    tx ((openD D).tp 0) = (Hd.bytesV firstH).data.toList ∧ tx ((openD D).tp 1) = tx (D.tp 1) ∧ ∀ k, 2 ≤ k → k < 32 → (openD D).tp k = blank := by
  have hl := loose_nc ho.firm hd hc isTwo 32 (Nat.le_refl _)
  have hok1 : Ok (withT D (looseT D isTwo 32)) := by have := looseS_ok ho isTwo 32; rw [hl] at this; exact this
  have ht1 : ∀ k, k < 2 → looseT D isTwo 32 k = firmT (D.tp k) := fun k hk => by unfold looseT; rw [if_pos ⟨by omega, two_is hk⟩]
  have ht2 : ∀ k, 2 ≤ k → looseT D isTwo 32 k = D.tp k := fun k hk => by
    unfold looseT
    rw [if_neg]
    rintro ⟨_, h⟩
    unfold isTwo at h
    rw [decide_eq_true_eq] at h
    omega
  have ho1 : o1 D = (0, withT D (looseT D isTwo 32)) := hl
  have hv1 : Hd.diskV (withT D (looseT D isTwo 32)) = Hd.diskV D := disk_bytes fun k hk => by show (looseT D isTwo 32 k).b = _; rw [ht1 k hk]; rfl
  generalize hD1 : withT D (looseT D isTwo 32) = D1 at *
  have tp1 : ∀ k, D1.tp k = looseT D isTwo 32 k := fun k => by rw [← hD1]; rfl
  have up1 : D1.down = false := by rw [← hD1]; exact hd
  have nc1 : D1.counts = false := by rw [← hD1]; exact hc
  have cap1 : D1.cap = D.cap := by rw [← hD1]; rfl
  have wo := wipe_up (D := D1) (t := 2) up1 (by decide)
  have w0 := wo.nc nc1
  have hLv : oL D = ((Hd.putV (wipeV D1 2).2 firstH).1, (Hd.putV (wipeV D1 2).2 firstH).2, firstH) := by
    unfold oL
    rw [ho1]
    unfold vloadV
    simp only []
    rw [if_neg (by rw [up1]; simp), if_neg (by rw [hv1, hv]; simp), if_neg (by have := w0.1; exact fun h => h this)]
  rw [hLv] at h2
  have hw2 : (wipeV D1 2).2 = setT D1 2 blank := w0.2
  rw [hw2] at h2 hLv
  have hok2 : Ok (setT D1 2 blank) := by rw [← hw2]; exact hok1.wipe _
  have hv2 : (Hd.diskV (setT D1 2 blank)).2.2 = false := by
    have : Hd.diskV (setT D1 2 blank) = Hd.diskV D1 := diskV_tp fun k hk => setT_other _ _ _ _ (by omega)
    rw [this, hv1]; exact hv
  have ho0 := other_zero hv2
  obtain ⟨p1, p2, p3⟩ := Hd.putV_out (D := setT D1 2 blank) (h := firstH) firstH_may up1 hok2
  have hokL : Ok (Hd.putV (setT D1 2 blank) firstH).2 := Hd.putV_ok hok2 _
  have hcn : (Hd.putV (setT D1 2 blank) firstH).2.counts = false := by
    have hcc : ∀ {E : DiskV} {t : Int} {may : Int} {dov torn : TapeV → TapeV}, E.counts = false → (opV E t may dov torn).2.counts = false := fun {E t may dov torn} e => by
      unfold opV
      split
      · exact e
      · split
        · exact e
        · split
          · exact e
          · split
            · show (failsV E).2.counts = false; rw [fails_cnt]; exact e
            · show (failsV E).2.counts = false; rw [fails_cnt]; exact e
    unfold Hd.putV
    split
    · exact nc1
    · split
      · exact nc1
      · split
        · exact hcc nc1
        · split
          · exact hcc (hcc nc1)
          · exact hcc (hcc (hcc nc1))
  rw [ho0] at p1 p3
  generalize Hd.putV (setT D1 2 blank) firstH = P at *
  obtain ⟨z, D2⟩ := P
  simp only [] at p1 p2 p3 h2 hLv hokL hcn
  subst h2
  obtain ⟨_, up2, p4⟩ : (0 : Int) = 0 ∧ D2.down = false ∧ D2.tp 0 = ⟨Hd.bytesV firstH, (Hd.bytesV firstH).size⟩ := by
    rcases p3 with ⟨e, _⟩ | ⟨e, _⟩ | e
    · exact absurd e (by decide)
    · exact absurd e (by decide)
    · exact e
  have hD21 : D2.tp 1 = firmT (D.tp 1) := by rw [p1 1 (by decide), setT_other _ _ _ _ (by decide), tp1, ht1 1 (by decide)]
  have hwn := wipe_nc (D := D2) hokL.firm up2 hcn firstH 32 (Nat.le_refl _)
  have hW : oW D = (0, withT D2 (wipeT D2 firstH 32)) := by unfold oW; rw [hLv]; exact hwn
  have hokW : Ok (oW D).2 := by unfold oW; rw [hLv]; exact wipeS_ok hokL firstH 32
  have hw1 : ∀ k, k < 2 → (oW D).2.tp k = D2.tp k := fun k hk => by
    rw [hW]
    show wipeT D2 firstH 32 k = _
    unfold wipeT
    rw [if_neg (by omega)]
  have hw3 : ∀ k, 2 ≤ k → k < 32 → (oW D).2.tp k = blank := fun k h2 h3 => by
    rw [hW]
    show wipeT D2 firstH 32 k = _
    unfold wipeT
    cases hu : firstH.uses (k : Nat)
    · rw [if_pos ⟨h3, h2, rfl⟩]
    · rw [if_neg (by simp)]
      obtain rfl := first_uses.1 hu
      rw [p1 2 (by decide), setT_same]
  have hb : Base (oW D).2 firstH := ⟨hokW, by rw [hW]; exact up2, firstH_may, fun k hk => by
    rw [hw1 k hk]
    rcases (by omega : k = 0 ∨ k = 1) with rfl | rfl
    · rw [p4]
    · rw [hD21]; rfl, fun t h2 h3 _ => by rw [hw3 t h2 h3]; rfl, put_first hv firstH_may (by rw [hw1 1 (by decide), hD21]; rfl) (by rw [hw1 0 (by decide), p4])⟩
  have hln : Lying (oW D).2.tp firstH (fun _ => []) ⟨#[]⟩ [] := ⟨fun e => absurd rfl e, fun _ => rfl, fun t ht hne => absurd (List.mem_singleton.1 ht) hne, by rw [first_last, show ((2 : Int)).toNat = 2 from rfl, hw3 2 (by decide) (by decide)]; rfl, fun _ _ => Small.nil, readL_nil⟩
  obtain ⟨a1, a2, a3, a4, a5, a6, a7, a8⟩ := open_end (D := (oW D).2) rfl (by rw [ho1]) (by rw [hLv]) (by rw [hW]) (by rw [hLv]) hb hln (by rw [hW]; exact hcn)
  refine ⟨by rw [hLv], a1, a2, a3, a4, a5, a6, ?_, ?_, ?_, fun k h2 h3 => ?_⟩
  · rw [a7, hW]
    show D2.cap = _
    rw [p2]; exact cap1
  · rw [a8 0 (by decide) (by decide), hw1 0 (by decide), p4]
  · rw [a8 1 (by decide) (by decide), hw1 1 (by decide), hD21]; rfl
  · have hz : tx ((openD D).tp k) = [] := by
      by_cases e : (k : Int) = lastT firstH
      · have := a4.lie.last
        rw [← e, Int.toNat_natCast] at this
        rw [this]; rfl
      · rw [a8 k h3 e, hw3 k h2 h3]; rfl
    have hzz : ((openD D).tp k).b.size = 0 := by rw [← tx_len, hz]; rfl
    exact tape_none (by rw [a5 k h3]; exact Nat.le_refl _) hzz
/-- .. of a disk without bytes, with room for a head. -/
theorem open_new {c : Int} (h14 : 14 ≤ c) (hc : c ≤ 9223372036854775807) :
    (oL (newD c)).2.2 = firstH ∧ oS (newD c) = (0, false, ⟨#[]⟩) ∧ (oR (newD c)).1 = [] ∧ openE (newD c) = 0 ∧ Inv (openD (newD c)) firstH (fun _ => []) ⟨#[]⟩ ∧ AllFirm (openD (newD c)) ∧ (openD (newD c)).counts = false ∧ (openD (newD c)).cap = c ∧ used (openD (newD c)).tp 32 = 14 := by
  have hok : Ok (newD c) := Hd.ok_new (by omega) hc
  have hv : (Hd.diskV (newD c)).2.2 = false := by
    have := Hd.disk0 c
    show (Hd.diskV ⟨fun _ => blank, c, false, 0, false⟩).2.2 = false
    rw [this]
  have h2 : (oL (newD c)).1 = 0 := by
    have hl : o1 (newD c) = (0, newD c) := loose_none 32 (fun _ _ _ => rfl) (fun _ _ => Nat.le_refl _)
    have hw : wipeV (newD c) 2 = (0, newD c) := by
      have := (wipe_up (D := newD c) (t := 2) rfl (by decide)).nc rfl
      rw [Prod.ext_iff]
      refine ⟨this.1, this.2.trans ?_⟩
      show (⟨upd (fun _ => blank) 2 blank, c, false, 0, false⟩ : DiskV) = _
      rw [show upd (fun _ => blank) 2 blank = (fun _ => blank) from upd_id (fun _ => blank) 2]; rfl
    unfold oL
    rw [hl]
    unfold vloadV
    simp only []
    rw [if_neg (show ¬ (newD c).down = true from fun h => by cases h), if_neg (by rw [hv]; simp), hw, if_neg (by simp)]
    simp only []
    refine (put_up (D := newD c) (h := firstH) rfl firstH_may ?_ hok).nc rfl
    rw [first_size, show used (newD c).tp 32 = 0 from used_blank 32, other_zero hv]
    show (0 : Int) - (0 : Nat) + (14 : Nat) ≤ c
    omega
  obtain ⟨a1, a2, a3, a4, a5, a6, a7, a8, a9, a10, a11⟩ := open_first hok rfl rfl hv h2
  refine ⟨a1, a2, a3, a4, a5, a6, a7, a8, ?_⟩
  have e : ∀ k, 1 ≤ k → k ≤ 32 → used (openD (newD c)).tp k = 14 := by
    intro k
    induction k with
    | zero => intro h; omega
    | succ k ih =>
      intro h1 h3
      rw [used]
      rcases (by omega : k = 0 ∨ k = 1 ∨ 2 ≤ k) with rfl | rfl | h4
      · rw [used, ← tx_len, a9, data_len, (bytes_ok firstH_may).2.2, first_size]
      · rw [ih (by decide) (by decide), ← tx_len, a10]; rfl
      · rw [ih (by omega) (by omega), a11 k h4 (by omega)]; rfl
  exact e 32 (by decide) (by decide)
end Vp
end Go.Proofs.YtpfoekfbcpinlaaGreatDoor
/- batonlaw10: texts, is, on, finds. -/
namespace Go.Proofs.YtpfoekfbcpinlaaGreatDoor
open Go.RowKit
set_option linter.unusedVariables false

/-- Texts in a row, whatever is laid beside. -/
def StrIn (w : World) (ao : Option Addr) (len : Nat) (f : Nat → ByteArray) : Prop := ∀ W, Below w.heap.size w W → ∀ j, j < len → ∃ a, ao = some a ∧ W.cell? (a.add j) = some (.string (f j))
theorem StrIn.below {w w' : World} {ao : Option Addr} {len : Nat} {f : Nat → ByteArray} (h : StrIn w ao len f) (hb : Below w.heap.size w w') : StrIn w' ao len f := fun W hW => h W (hb.trans (hW.mono hb.size))
theorem StrIn.of_rk {w : World} {ao : Option Addr} {cap : Nat} {L : List (List UInt8)} (h : RK 1 w (.slice ao L.length cap) L.length (recC L)) : StrIn w ao L.length (fun j => B (L.getD j [])) := fun W hW j hj => by
  obtain ⟨q, c, hv, _, _, _, _⟩ := h.at_ (by omega)
  simp only [Value.slice.injEq] at hv
  obtain ⟨rfl, _, rfl⟩ := hv
  refine ⟨_, rfl, ?_⟩
  rw [Addr.add_lit, Nat.zero_add]
  refine (h.below hW).cell j _ ?_
  rw [recC_get L j hj]
  show some (Value.string (B L[j])) = some (Value.string (B (L.getD j [])))
  rw [List.getD_eq_getElem?_getD, List.getElem?_eq_getElem hj]
  rfl
theorem text_eq {x y : ByteArray} : (x.toList == y.toList) = decide (x = y) := by
  rw [Bool.eq_iff_iff, beq_iff_eq, decide_eq_true_eq, bytes_toList, bytes_toList]
  exact ⟨fun h => bytes_ext h, fun h => by rw [h]⟩
set_option maxRecDepth 20000 in
theorem texts_any (ao bo : Option Addr) (ca cb n m : Nat) (f g : Nat → ByteArray) (w : World) (hn : n ≤ maxLen) (hm : m ≤ maxLen) (ha : StrIn w ao n f) (hb : StrIn w bo m g) :
    Calls Tryz.prog 31 #[.slice ao n ca, .slice bo m cb] w fun e w' => e = .returned (.bool (decide (n = m ∧ ∀ j, j < n → f j = g j))) ∧ Below w.heap.size w w' := by
  unfold maxLen at hn hm
  by_cases hnm : n = m
  rotate_left 1
  · rw [decide_eq_false (fun h => hnm h.1)]
    have t3 : ((n : Int) != (m : Int)) = true := by rw [bne_iff_ne]; omega
    clear hnm ha hb
    go_enter Tryz.func31, Tryz.ntmps31
    go_wp2
    go_ret
    exact ⟨by trivial, Below.refl _ _⟩
  subst hnm
  have HA := Kp.mk ha
  have HB := Kp.mk hb
  have HD : Kp (decide (n = n ∧ ∀ j, j < n → f j = g j) = decide (∀ j, j < n → f j = g j)) := ⟨by rw [Bool.eq_iff_iff, decide_eq_true_eq, decide_eq_true_eq]; simp⟩
  rw [HD.out]
  obtain ⟨R, hR⟩ : ∃ R, decide (∀ j, j < n → f j = g j) = R := ⟨_, rfl⟩
  rw [hR]
  have HR := Kp.mk hR
  have HDr : Kp (∀ md, Below w.heap.size w (w.drewN md)) := ⟨fun md => ⟨rfl, rfl, rfl, Nat.le_refl _, fun _ _ => rfl⟩⟩
  have HDr2 : Kp (∀ md nq, Below w.heap.size w ((w.drewN md).drewN nq)) := ⟨fun md nq => ⟨rfl, rfl, rfl, Nat.le_refl _, fun _ _ => rfl⟩⟩
  clear hR HD ha hb
  go_enter Tryz.func31, Tryz.ntmps31
  go_wp2
  go_loopw [5] (fun i wr => ∃ k md : Nat, k ≤ n ∧ i = .int .i64 k ∧ (∀ j, j < k → f j = g j) ∧ wr = w.drewN md) (fun i _ => n - (intOf i).toNat)
  case atStart => exact ⟨0, 0, by omega, rfl, fun j hj => absurd hj (Nat.not_lt_zero j), rfl⟩
  case round =>
    obtain ⟨k, md, hk, rfl, hno, rfl⟩ := hrel
    have HNo := Kp.mk hno
    clear hno
    by_cases hkl : k < n
    · obtain ⟨a, rfl, hc⟩ := HA.out w (Below.refl _ _) k hkl
      obtain ⟨b, rfl, hd⟩ := HB.out w (Below.refl _ _) k hkl
      have hk0 : (0 : Int) ≤ (k : Int) := by omega
      have hk1 : (k : Int) < (n : Int) := by omega
      by_cases he : f k = g k
      · have HE : Kp (∀ j, j < k + 1 → f j = g j) := ⟨fun j hj => by
          by_cases h : j < k
          · exact HNo.out j h
          · obtain rfl : j = k := by omega
            exact he⟩
        rw [he] at hc
        clear he
        generalize g k = u at hc hd
        go_wp2_with fail
        go_quiet (fail)
        go_wp2
        go_roundw
        case rel => exact ⟨k + 1, _, by omega, by go_num, HE.out, rfl⟩
        case measure => simp [intOf]; omega
      · have HV : Kp (R = false) := ⟨by rw [← HR.out]; exact decide_eq_false fun h => he (h k hkl)⟩
        have t4 : ((f k).toList == (g k).toList) = false := by rw [text_eq]; exact decide_eq_false he
        generalize f k = x at hc t4
        generalize g k = y at hd t4
        clear he
        go_wp2_with fail
        go_quiet (fail)
        go_wp2
        go_ret
        exact ⟨by rw [HV.out] <;> rfl, HDr2.out _ _⟩
    · obtain rfl : k = n := by omega
      have HV : Kp (R = true) := ⟨by rw [← HR.out]; exact decide_eq_true HNo.out⟩
      go_wp2
      go_ret
      exact ⟨by rw [HV.out] <;> rfl, HDr.out _⟩
/-- is: is that the head? -/
theorem is_any (g v : Nat) (D : DiskV) (q : HdV) (m : Int) (n : Nat) (ga ba sa : Int) (lo : Option Addr) (ll lc : Nat) (lf : Nat → Int) (w : World) (h : VS w g v D q m n) (hp : HdAt w ⟨ga, ba, sa, lo, ll, lc, lf⟩) :
    Calls Tryz.prog 26 #[.pointer (some ⟨v, 0, none⟩), .int .i64 ga, .int .i64 ba, .int .i64 sa, .slice lo ll lc] w fun e w' => e = .returned (.bool (Hd.sameB q.hv ⟨ga, ba, sa, rowI lf ll⟩)) ∧ Below w.heap.size w w' := by
  have HH := Kp.mk (vHead_any g v D q m n w h)
  have HS := Kp.mk (fun W (p : HdV) (hW : Below w.heap.size w W) (hq : HdAt W p) => rSame_any p ⟨ga, ba, sa, lo, ll, lc, lf⟩ W hq (hp.below hW))
  clear h hp
  generalize q.hv = hv at HH ⊢
  unfold HdV.v at HS
  go_enter Tryz.func26, Tryz.ntmps26
  go_wp2_with fail
  refine HH.out.mono ?_
  rintro e w1 ⟨p, rfl, hpv, -, -, hown, b1⟩
  have B1 := Kp.mk b1
  have HS1 := Kp.mk (HS.out w1 p b1 hown.at')
  have HPv := Kp.mk hpv
  clear hpv hown b1 HS
  unfold HdV.v
  go_wp2_with fail
  refine HS1.out.mono ?_
  rintro e w2 ⟨rfl, b2⟩
  have B2 := Kp.mk (B1.out.trans (b2.mono B1.out.size))
  clear b2
  go_wp2
  go_ret
  exact ⟨by rw [← HPv.out] <;> rfl, B2.out⟩
set_option maxRecDepth 20000 in
set_option maxHeartbeats 1000000 in
/-- on: a vault on a disk without bytes. -/
theorem on_any (c m : Int) (w : World) (ht : Tab w) (h14 : 14 ≤ c) (hc : c ≤ 9223372036854775807) (h1 : 1 ≤ m) (h2 : m ≤ 1048576) :
    Calls Tryz.prog 10 #[.int .i64 c, .int .i64 m] w fun e w' => ∃ v q, e = .returned (.tuple #[.pointer (some ⟨w.heap.size, 0, none⟩), .pointer (some ⟨v, 0, none⟩)]) ∧ VS w' w.heap.size v (openD (Vp.newD c)) q m 0 ∧ q.hv = firstH ∧ w.heap.size < v ∧ (∀ k, blk (.slice q.lo q.ll q.lc) = some k → w.heap.size < k) ∧ Below w.heap.size w w' := by
  obtain ⟨o1, o2, o3, o4, o5, o6, o7, o8, o9⟩ := Vp.open_new h14 hc
  have HN := Kp.mk (New_ok c w (by omega) hc)
  have HO := Kp.mk (fun W (hd : DiskAt W w.heap.size (Vp.newD c)) (hW : ∀ W', Chg W W' w.heap.size → Tab W') => Open_any w.heap.size (Vp.newD c) m W hd (Hd.ok_new (by omega) hc) hW h1 h2)
  have HT := Kp.mk ht
  have HF := Kp.mk (And.intro o1 (And.intro o2 (And.intro o3 o4)))
  clear ht o1 o2 o3 o4 o5 o6 o7 o8 o9
  go_enter Tryz.func10, Tryz.ntmps10
  go_wp2_with fail
  refine HN.out.mono ?_
  rintro e w1 ⟨rfl, d1, b1⟩
  have HB1 := Kp.mk b1
  have HO1 := Kp.mk (HO.out w1 d1 (fun W' hW => HT.out.below (hW.below b1 b1.size (Nat.le_refl _))))
  have HG : Kp (w.heap.size < w1.heap.size) := ⟨d1.lt⟩
  clear d1 b1 HN HO
  go_wp2_with fail
  refine HO1.out.mono ?_
  rintro e w2 (⟨he, -⟩ | ⟨-, v, q, ao, cap, rfl, op⟩)
  · exact absurd HF.out.2.2.2 he
  · have HVS := Kp.mk op.vs
    have HRo : Kp ((oR (Vp.newD c)).1.length = 0) := ⟨by rw [HF.out.2.2.1]; rfl⟩
    have HHd := Kp.mk (op.hd.trans HF.out.1)
    have HCh := Kp.mk (op.chg.below HB1.out HB1.out.size (Nat.le_refl _))
    have HV : Kp (w.heap.size < v ∧ ∀ k, blk (.slice q.lo q.ll q.lc) = some k → w.heap.size < k) := ⟨by have := op.vn; have := HG.out; omega, fun k hk => by have := op.hdn k hk; have := HG.out; omega⟩
    rw [HRo.out] at HVS ⊢
    rw [HF.out.2.1]
    simp only []
    clear op HO1 HF
    go_wp2
    go_ret2
    exact ⟨v, q, rfl, HVS.out.alloc _, HHd.out, HV.out.1, HV.out.2, HCh.out.alloc HCh.out.size _⟩
set_option maxRecDepth 20000 in
set_option maxHeartbeats 1000000 in
/-- finds, where that is found. -/
theorem finds_yes (g : Nat) (D : DiskV) (m : Int) (has : Bool) (sn : ByteArray) (ro : Option Addr) (rn rc : Nat) (f : Nat → ByteArray) (w : World) (hd : DiskAt w g D) (ho : Ok D) (ht : ∀ W, Chg w W g → Tab W) (h1 : 1 ≤ m) (h2 : m ≤ 1048576)
    (he : openE D = 0) (hs : oS D = (0, has, sn)) (hrn : rn ≤ 1000000) (hl : (oR D).1.length = rn) (hr : ∀ j, j < rn → B ((oR D).1.getD j []) = f j) (hst : ∀ W, Chg w W g → StrIn W ro rn f) :
    Calls Tryz.prog 17 #[.pointer (some ⟨g, 0, none⟩), .int .i64 m, .bool has, .string sn, .slice ro rn rc] w fun e w' => e = .returned (.bool true) ∧ DiskAt w' g (openD D) ∧ Ok (openD D) ∧ Chg w w' g := by
  have HO := Kp.mk (Open_any g D m w hd ho ht h1 h2)
  have HS := Kp.mk (fun W (hW : Chg w W g) => hst W hW)
  have HL := Kp.mk (And.intro hl hr)
  have HE := Kp.mk he
  have hsn : (sn.toList == sn.toList) = true := by simp
  rw [hs] at HO
  simp only [] at HO
  clear hd ho ht he hs hl hr hst
  go_enter Tryz.func17, Tryz.ntmps17
  go_wp2_with fail
  refine HO.out.mono ?_
  rintro e w2 (⟨he, -⟩ | ⟨-, v, q, ao, cap, rfl, op⟩)
  · exact absurd HE.out he
  · have HCh := Kp.mk op.chg
    have HDk := Kp.mk op.vs.disk
    have HOk := Kp.mk op.vs.ok
    have HTx := Kp.mk (fun o => texts_any ao ro cap rc (oR D).1.length rn (fun j => B ((oR D).1.getD j [])) f (w2.alloc o) (by rw [HL.out.1]; unfold maxLen; omega) (by unfold maxLen; omega) ((StrIn.of_rk op.row).below ((Below.refl _ _).alloc (Nat.le_refl _) _)) ((HS.out w2 op.chg).below ((Below.refl _ _).alloc (Nat.le_refl _) _)))
    have hdec : decide ((oR D).1.length = rn ∧ ∀ j, j < (oR D).1.length → B ((oR D).1.getD j []) = f j) = true := decide_eq_true ⟨HL.out.1, fun j hj => HL.out.2 j (by rw [← HL.out.1]; exact hj)⟩
    rw [hdec] at HTx
    clear op hdec HO
    go_wp2_with fail
    refine (HTx.out _).mono ?_
    rintro e w3 ⟨rfl, b3⟩
    have HB3 := Kp.mk b3
    clear b3 HTx
    go_wp2
    go_ret
    exact ⟨by trivial, (HDk.out.alloc _).below HB3.out, HOk.out, HCh.out.trans ((Chg.alloc _ _ _).trans (Chg.of_below HB3.out g))⟩
end Go.Proofs.YtpfoekfbcpinlaaGreatDoor
/- Plain law: what is done on a disk that does not fail; the example that each statement asks. -/
namespace Go.Proofs.YtpfoekfbcpinlaaGreatDoor
open Go.RowKit
set_option linter.unusedVariables false

namespace Vp
theorem add_done {D : DiskV} {h : Hd.HV} {T : Int → List (List UInt8)} {s b : ByteArray} {m : Int} {n c : Nat} (i : Inv D h T s) (hf : FirmAt D h T c) (hm2 : m ≤ 1048576) (hc : D.counts = false) (hr : ¬ AddRef D h T m n b) :
    ∃ D' h' T', addV D h m n b = (0, D', h', n + 1) ∧ Added D h T s m b.data.toList c D' h' T' ∧ D'.counts = false := by
  rcases add_law (n := n) (b := b) i hf hm2 with ⟨e, _⟩ | ⟨e1, e2, e3, T', e4⟩ | ⟨_, _, _, _, e, _⟩
  · exact absurd e hr
  · exact ⟨(addV D h m n b).2.1, (addV D h m n b).2.2.1, T', by rw [← e1, ← e2], e4, e4.cnt.trans hc⟩
  · rw [hc] at e; cases e
theorem lay_done {D : DiskV} {h : Hd.HV} {T : Int → List (List UInt8)} {s0 s : ByteArray} {n : Nat} (i : Inv D h T s0) (hc : D.counts = false) (hr : ¬ LayRef D h n s) :
    ∃ D', layV D h n s = (0, D', layH h n, 0) ∧ Inv D' (layH h n) (fun _ => []) s ∧ AllFirm D' ∧ D'.cap = D.cap ∧ D'.counts = false ∧ used D'.tp 32 = (D.tp (1 - Hd.otherV D)).b.size + HSize (layH h n) + (s.size + 9) ∧ (∀ k, k < 2 → k ≠ Hd.otherV D → tx (D'.tp k) = tx (D.tp k)) ∧ tx (D'.tp (Hd.otherV D)) = (Hd.bytesV (layH h n)).data.toList := by
  rcases lay_law (n := n) (s := s) i i.firmSome with ⟨e, _⟩ | ⟨e1, e2, e3, _, _, _, _, e4, e5, e6, e7, e8, e9, e10⟩ | ⟨_, _, _, _, e, _⟩
  · exact absurd e hr
  · exact ⟨(layV D h n s).2.1, by rw [← e1, ← e2, ← e3], e4, e5, e6, e7.trans hc, e8, e9, e10⟩
  · rw [hc] at e; cases e
theorem sync_done {D : DiskV} {h : Hd.HV} {T : Int → List (List UInt8)} {s : ByteArray} (i : Inv D h T s) (hc : D.counts = false) : ∃ D', syncV D (lastT h) = (0, D') ∧ Inv D' h T s ∧ AllFirm D' ∧ D'.cap = D.cap ∧ D'.counts = false ∧ used D'.tp 32 = used D.tp 32 ∧ ∀ k, tx (D'.tp k) = tx (D.tp k) := by
  obtain ⟨la, hla, hla', hl2, hl32, hlu⟩ := last_nat i.base.may
  have so := sync_up (D := D) (t := la) i.base.up hl32
  rw [← hla] at so
  rcases sync_law i with ⟨e1, e2, e3, e4⟩ | ⟨_, _, _, e⟩
  · have hb : ∀ k, tx ((syncV D (lastT h)).2.tp k) = tx (D.tp k) := fun k => by
      rw [e4, hla']
      by_cases e : k = la
      · rw [e, upd_same]; rfl
      · rw [upd_other _ _ e]
    exact ⟨(syncV D (lastT h)).2, by rw [← e1], e2, e3, so.cap, so.cnt.trans hc, used_same 32 fun j _ => by rw [← tx_len, hb, tx_len], hb⟩
  · rw [hc] at e; cases e
/-- Open finds what stands there, of a disk all of which is firm. -/
theorem open_firm {D : DiskV} {h : Hd.HV} {T : Int → List (List UInt8)} {s : ByteArray} (i : Inv D h T s) (hf : AllFirm D) : openE D = 0 ∧ (oL D).2.2 = h ∧ oS D = (0, decide (h.snap ≠ 0), s) ∧ (oR D).1 = recsOf h T ∧ openD D = D := by
  obtain ⟨la, hla, hla', hl2, hl32, hlu⟩ := last_nat i.base.may
  obtain ⟨e1, e2, e3, e4⟩ := open_inv i
  rcases e4 with ⟨a, _, _, _, _, _, b⟩ | ⟨a, _, _, _⟩
  · exact ⟨a, e1, e2, e3, b hf⟩
  · exfalso
    obtain ⟨x1, x2, x3, hh, hW⟩ := open_kept i.base
    obtain ⟨_, _, hE, _⟩ := open_from x1 x2 x3 hh (by rw [hW]; exact i.base) (by rw [hW]; exact i.lie) (.inl rfl)
    rw [hW, show lastD D h T [] = D from by unfold lastD; rw [if_pos rfl], loose_none 32 (fun j hj _ => hf j hj) i.base.ok.firm] at hE
    rw [hE] at a
    exact absurd a (show ¬ ((0 : Int) = 45) by decide)
/-- .. of a disk that does not fail. -/
theorem open_done {D : DiskV} {h : Hd.HV} {T : Int → List (List UInt8)} {s : ByteArray} (i : Inv D h T s) (hc : D.counts = false) : openE D = 0 ∧ (oL D).2.2 = h ∧ oS D = (0, decide (h.snap ≠ 0), s) ∧ (oR D).1 = recsOf h T ∧ Inv (openD D) h T s ∧ AllFirm (openD D) ∧ (openD D).counts = false ∧ (openD D).cap = D.cap ∧ ∀ k, k < 32 → tx ((openD D).tp k) = tx (D.tp k) := by
  obtain ⟨e1, e2, e3, e4⟩ := open_inv i
  rcases e4 with ⟨a, b, c, d, e, f, _⟩ | ⟨_, _, _, e⟩
  · exact ⟨a, e1, e2, e3, b, c, e.trans hc, d, f⟩
  · rw [hc] at e; cases e
def sA : ByteArray := ⟨#[97]⟩
def sB : ByteArray := ⟨#[98]⟩
def sS : ByteArray := ⟨#[115]⟩
theorem first_recs (l : List (List UInt8)) (T : Int → List (List UInt8)) : recsOf firstH (updT T 2 l) = l := by
  unfold recsOf firstH
  simp [updT_same]
theorem recs_two (T : Int → List (List UInt8)) : recsOf firstH T = T 2 := by unfold recsOf firstH; simp
theorem hsize_le (h : Hd.HV) : HSize h ≤ 400 := by
  unfold HSize
  split
  · rename_i hm; have := enc_len hm; omega
  · omega
theorem awake_plain : ∃ D1 D2 D3 D4 : DiskV, addV (openD (newD 10000)) firstH 100 0 sA = (0, D1, firstH, 1) ∧ addV D1 firstH 100 1 sB = (0, D2, firstH, 2) ∧ syncV D2 (lastT firstH) = (0, D3) ∧
    (openE D3 = 0 ∧ oS D3 = (0, false, ⟨#[]⟩) ∧ (oR D3).1 = [[97], [98]] ∧ openD D3 = D3) ∧ layV D3 firstH 2 sS = (0, D4, ⟨2, 2, 3, [4]⟩, 0) ∧ (openE D4 = 0 ∧ oS D4 = (0, true, sS) ∧ (oR D4).1 = []) := by
  obtain ⟨o1, o2, o3, o4, o5, o6, o7, o8, o9⟩ := open_new (c := 10000) (by decide) (by decide)
  generalize openD (newD 10000) = D0 at *
  have hg1 : firstH.gen = 1 := rfl
  have hgb : firstH.base = 0 := rfl
  have hsA : sA.size = 1 := rfl
  have hsB : sB.size = 1 := rfl
  have hsS : sS.size = 1 := rfl
  obtain ⟨D1, h1, T1, a1, a2, a3⟩ := add_done (b := sA) (m := 100) (n := 0) o5 (o5.firmAll o6) (by decide) o7 (by
    unfold AddRef
    rw [first_last, hgb, hsA, o9, o8]
    simp only [recR_nil, List.length_nil]
    omega)
  obtain ⟨rfl, rfl, x1⟩ : h1 = firstH ∧ T1 = updT (fun _ => []) 2 [[97]] ∧ used D1.tp 32 = 24 := by
    rcases a2.how with ⟨e1, e2, _, e3, _⟩ | ⟨_, _, _, _, e, _⟩
    · exact ⟨e1, e2, by rw [e3, o9]; rfl⟩
    · exact absurd e.1 (Nat.lt_irrefl 0)
  obtain ⟨D2, h2, T2, b1, b2, b3⟩ := add_done (b := sB) (m := 100) (n := 1) a2.inv a2.firm (by decide) a3 (by
    unfold AddRef
    rw [first_last, updT_same, hgb, hsB, x1, a2.cap, o8]
    have : (recR [[97]]).length = 10 := by rw [recR_one, Fr.fr_length]; rfl
    rw [this]
    omega)
  obtain ⟨rfl, rfl, x2⟩ : h2 = firstH ∧ T2 = updT (updT (fun _ => []) 2 [[97]]) 2 [[97], [98]] ∧ used D2.tp 32 = 34 := by
    rcases b2.how with ⟨e1, e2, _, e3, _⟩ | ⟨_, _, _, _, ⟨_, e⟩, _⟩
    · refine ⟨e1, e2, by rw [e3, x1]; rfl⟩
    · exfalso
      rw [first_last, updT_same, recR_one, Fr.fr_length] at e
      exact absurd e (by decide)
  obtain ⟨D3, c1, c2, c3, c4, c5, c6, _⟩ := sync_done b2.inv b3
  obtain ⟨d1, d2, d3, d4, d5⟩ := open_firm c2 c3
  have hr : recsOf firstH (updT (updT (fun _ => []) 2 [[97]]) 2 [[97], [98]]) = [[97], [98]] := first_recs _ _
  have hH : layH firstH 2 = ⟨2, 2, 3, [4]⟩ := by unfold layH; rw [show freeT firstH = 3 from by decide, show freeT2 firstH = 4 from by decide]; rfl
  obtain ⟨D4, e1, e2, e3, e4, e5, _⟩ := lay_done (s := sS) (n := 2) c2 c5 (by
    unfold LayRef
    rw [hg1, hgb, hsS, c6, x2, c4, b2.cap, a2.cap, o8]
    have hfl : ¬ firstH.free.length < 2 := by decide
    have := hsize_le (layH firstH 2)
    have hso : 0 ≤ sizeF D3 (Hd.otherV D3) := by unfold sizeF; omega
    omega)
  obtain ⟨f1, f2, f3, f4, _⟩ := open_firm e2 e3
  rw [hH] at e1 f3 f4
  exact ⟨D1, D2, D3, D4, a1, b1, c1, ⟨d1, d3, d4.trans hr, d5⟩, e1, f1, f3, f4⟩
end Vp
end Go.Proofs.YtpfoekfbcpinlaaGreatDoor
/- batonlaw10.awake: the example that each statement asks. -/
namespace Go.Proofs.YtpfoekfbcpinlaaGreatDoor
open Go.RowKit
set_option linter.unusedVariables false

theorem str_chg {w : World} {g : Nat} {ao : Option Addr} {cap : Nat} {L : List (List UInt8)} (h : RK 1 w (.slice ao L.length cap) L.length (recC L)) (hn : ∀ k, blk (.slice ao L.length cap) = some k → k ≠ g) : ∀ W, Chg w W g → StrIn W ao L.length (fun j => B (L.getD j [])) :=
  fun W hW => StrIn.of_rk (h.same hW.size fun k hk => hW.block k (h.lt k hk) (fun e => hn k hk (Option.some.inj e)))
theorem str_none {g : Nat} {w : World} (f : Nat → ByteArray) : ∀ W, Chg w W g → StrIn W none 0 f := fun W _ W' _ j hj => absurd hj (Nat.not_lt_zero j)
/-- A vault, as add leaves it. -/
theorem Add_to {g v : Nat} {D D' : DiskV} {q : HdV} {m : Int} {n n' : Nat} {s : ByteArray} {w : World} {h h' : Hd.HV} {z : Int} (hv : VS w g v D q m n) (hq : q.hv = h) (hm : h.may = true) (hn : n ≤ 1000000000000) (hs : s.size ≤ 140737488351000) (hp : addV D h m n s = (z, D', h', n')) :
    Calls Tryz.prog 11 #[.pointer (some ⟨v, 0, none⟩), .string s] w fun e w' => e = .returned (.int .i64 z) ∧ (∃ p' : HdV, p'.hv = h' ∧ VS w' g v D' p' m n' ∧ ∀ k, blk (.slice p'.lo p'.ll p'.lc) = some k → blk (.slice q.lo q.ll q.lc) = some k ∨ w.heap.size ≤ k) ∧ Ch2 w w' g v := by
  have := Add_any g v D q m n s w hv (by rw [hq]; exact hm) hn hs
  rw [hq, hp] at this
  exact this
theorem Lay_to {g v : Nat} {D D' : DiskV} {q : HdV} {m : Int} {n n' : Nat} {s : ByteArray} {w : World} {h h' : Hd.HV} {z : Int} (hv : VS w g v D q m n) (hq : q.hv = h) (hm : h.may = true) (hn : n ≤ 1000000000000) (hs : s.size ≤ 140737488351000) (hp : layV D h n s = (z, D', h', n')) :
    Calls Tryz.prog 21 #[.pointer (some ⟨v, 0, none⟩), .string s] w fun e w' => e = .returned (.int .i64 z) ∧ (∃ p' : HdV, p'.hv = h' ∧ VS w' g v D' p' m n' ∧ ∀ k, blk (.slice p'.lo p'.ll p'.lc) = some k → blk (.slice q.lo q.ll q.lc) = some k ∨ w.heap.size ≤ k) ∧ Ch2 w w' g v := by
  have := Lay_any g v D q m n s w hv (by rw [hq]; exact hm) hn hs
  rw [hq, hp] at this
  exact this
theorem Sync_to {g v : Nat} {D D' : DiskV} {q : HdV} {m : Int} {n : Nat} {w : World} {h : Hd.HV} {z : Int} (hv : VS w g v D q m n) (hq : q.hv = h) (hm : h.may = true) (hp : syncV D (lastT h) = (z, D')) :
    Calls Tryz.prog 12 #[.pointer (some ⟨v, 0, none⟩)] w fun e w' => e = .returned (.int .i64 z) ∧ VS w' g v D' q m n ∧ Ch2 w w' g v := by
  have := vSync_any g v D q m n w hv (may_log (by rw [hq]; exact hm)).1
  rw [hq, hp] at this
  exact this
theorem is_one {g v : Nat} {D : DiskV} {q : HdV} {m : Int} {n : Nat} {ga ba sa x : Int} {b : Nat} {w : World} {T : TypeId} (hv : VS w g v D q m n) (hb : w.heap[b]? = some (.cells #[.int .i64 x] T (0, 0))) (hq : q.hv = ⟨ga, ba, sa, [x]⟩) :
    Calls Tryz.prog 26 #[.pointer (some ⟨v, 0, none⟩), .int .i64 ga, .int .i64 ba, .int .i64 sa, .slice (some ⟨b, 0, none⟩) 1 1] w fun e w' => e = .returned (.bool true) ∧ Below w.heap.size w w' := by
  have := is_any g v D q m n ga ba sa (some ⟨b, 0, none⟩) 1 1 (fun _ => x) w hv ((HdOwn.mk (B := 0) (q := ⟨ga, ba, sa, some ⟨b, 0, none⟩, 1, 1, fun _ => x⟩) (rk_block hb) (fun _ _ => Nat.zero_le _) (by show (1 : Nat) ≤ 31; decide)).at')
  rw [hq] at this
  have e : Hd.sameB ⟨ga, ba, sa, [x]⟩ ⟨ga, ba, sa, rowI (fun _ => x) 1⟩ = true := by unfold Hd.sameB; simp [rowI]
  rw [e] at this
  exact this
set_option maxRecDepth 20000 in
set_option maxHeartbeats 4000000 in
theorem awake_any (w : World) (ht : Tab w) :
    Calls Tryz.prog 9 #[] w fun e w' => e = .returned (.bool true) ∧ Below w.heap.size w w' := by
  obtain ⟨D1, D2, D3, D4, p1, p2, p3, ⟨p4, p5, p6, p7⟩, p8, p9, p10, p11⟩ := Vp.awake_plain
  have HP := Kp.mk (And.intro p1 (And.intro p2 (And.intro p3 (And.intro p8 (And.intro p4 (And.intro p5 (And.intro p6 (And.intro p7 (And.intro p9 (And.intro p10 p11))))))))))
  clear p1 p2 p3 p4 p5 p6 p7 p8 p9 p10 p11
  have HO := Kp.mk (on_any 10000 100 w ht (by decide) (by decide) (by decide) (by decide))
  have HT := Kp.mk ht
  clear ht
  go_enter Tryz.func9, Tryz.ntmps9
  go_wp2_with fail
  refine HO.out.mono ?_
  rintro e w1 ⟨v, q0, rfl, s0, hq0, hgv, hfr, b1⟩
  have S0 := Kp.mk s0
  have B1 := Kp.mk b1
  have Q0 := Kp.mk hq0
  have HV := Kp.mk hgv
  clear s0 hq0 hfr b1 HO hgv
  go_wp2_with fail
  have X1 := heap_alloc_new w1 (.cells #[.int .i64 2] 3)
  have S1 := S0.out.alloc (.cells #[.int .i64 2] 3)
  refine (is_one (x := 2) S1 X1 (by rw [Q0.out]; rfl)).mono ?_
  rintro e w2 ⟨rfl, b2⟩
  have S2 := Kp.mk (S1.below b2)
  have B2 := Kp.mk ((B1.out.alloc B1.out.size (.cells #[.int .i64 2] 3)).trans (b2.mono (by have := B1.out.size; simp; omega)))
  clear b2 X1 S1
  go_wp2_with fail
  refine (Add_to S2.out Q0.out firstH_may (by decide) (by decide) HP.out.1).mono ?_
  rintro e w3 ⟨rfl, ⟨q1, hq1, s3, -⟩, c3⟩
  have S3 := Kp.mk s3
  have Q1 := Kp.mk hq1
  have B3 := Kp.mk (c3.below B2.out B2.out.size (Nat.le_refl _) (Nat.le_of_lt HV.out))
  clear s3 hq1 c3
  go_wp2_with fail
  refine (Add_to S3.out Q1.out firstH_may (by decide) (by decide) HP.out.2.1).mono ?_
  rintro e w4 ⟨rfl, ⟨q2, hq2, s4, -⟩, c4⟩
  have S4 := Kp.mk s4
  have Q2 := Kp.mk hq2
  have B4 := Kp.mk (c4.below B3.out B3.out.size (Nat.le_refl _) (Nat.le_of_lt HV.out))
  clear s4 hq2 c4
  go_wp2_with fail
  refine (Sync_to S4.out Q2.out firstH_may HP.out.2.2.1).mono ?_
  rintro e w5 ⟨rfl, s5, c5⟩
  have S5 := Kp.mk s5
  have B5 := Kp.mk (c5.below B4.out B4.out.size (Nat.le_refl _) (Nat.le_of_lt HV.out))
  clear s5 c5
  go_wp2_with fail
  have X5 := heap_alloc_new w5 (.cells #[.string ⟨#[97]⟩, .string ⟨#[98]⟩] 9)
  have S5a := S5.out.alloc (.cells #[.string ⟨#[97]⟩, .string ⟨#[98]⟩] 9)
  have B5a := B5.out.alloc B5.out.size (.cells #[.string ⟨#[97]⟩, .string ⟨#[98]⟩] 9)
  have R5 : RK 1 (w5.alloc (.cells #[.string ⟨#[97]⟩, .string ⟨#[98]⟩] 9)) (.slice (some ⟨w5.heap.size, 0, none⟩) 2 2) 2 (recC [[97], [98]]) := RK.block X5 rfl (by decide)
  have hg5 := S5.out.disk.lt
  refine (finds_yes w.heap.size D3 100 false ⟨#[]⟩ (some ⟨w5.heap.size, 0, none⟩) 2 2 (fun j => B ([[97], [98]].getD j [])) _ S5a.disk S5a.ok (fun W hW => HT.out.below (hW.below B5a B5a.size (Nat.le_refl _))) (by decide) (by decide) HP.out.2.2.2.2.1 HP.out.2.2.2.2.2.1 (by decide) (by rw [HP.out.2.2.2.2.2.2.1]; rfl) (fun j _ => by rw [HP.out.2.2.2.2.2.2.1])
    (str_chg (L := [[97], [98]]) R5 (fun k hk => by have hk : some w5.heap.size = some k := hk; obtain rfl := Option.some.inj hk; omega))).mono ?_
  rintro e w6 ⟨rfl, d6, o6, c6⟩
  rw [HP.out.2.2.2.2.2.2.2.1] at d6 o6
  have S6 := Kp.mk (S5a.chg c6 d6 o6)
  have B6 := Kp.mk (c6.below B5a B5a.size (Nat.le_refl _))
  clear d6 o6 c6 X5 S5a B5a R5 hg5
  go_wp2_with fail
  refine (Lay_to S6.out Q2.out firstH_may (by decide) (by decide) HP.out.2.2.2.1).mono ?_
  rintro e w7 ⟨rfl, ⟨q3, hq3, s7, -⟩, c7⟩
  have S7 := Kp.mk s7
  have Q3 := Kp.mk hq3
  have B7 := Kp.mk (c7.below B6.out B6.out.size (Nat.le_refl _) (Nat.le_of_lt HV.out))
  clear s7 hq3 c7
  go_wp2_with fail
  have X7 := heap_alloc_new w7 (.cells #[.int .i64 4] 3)
  have S7a := S7.out.alloc (.cells #[.int .i64 4] 3)
  refine (is_one (x := 4) S7a X7 Q3.out).mono ?_
  rintro e w8 ⟨rfl, b8⟩
  have S8 := Kp.mk (S7a.below b8)
  have B8 := Kp.mk ((B7.out.alloc B7.out.size (.cells #[.int .i64 4] 3)).trans (b8.mono (by have := B7.out.size; simp; omega)))
  clear b8 X7 S7a
  go_wp2_with fail
  refine (Since_any w.heap.size v D4 q3 100 0 w8 S8.out).mono ?_
  rintro e w9 ⟨rfl, rfl⟩
  have hb : q3.base = 2 := by have : q3.hv.base = 2 := by rw [Q3.out]
                              exact this
  have HC := Kp.mk (Count_any w.heap.size v D4 q3 100 0 w9 S8.out (by rw [hb]; decide) (by rw [hb]; decide))
  rw [hb] at HC
  clear hb
  go_wp2_with fail
  refine HC.out.mono ?_
  rintro e w10 ⟨rfl, k, rfl⟩
  have S10 := Kp.mk (S8.out.drewN k)
  have B10 : Kp (Below w.heap.size w (w9.drewN k)) := ⟨⟨B8.out.os, B8.out.tape, B8.out.output, B8.out.size, B8.out.block⟩⟩
  clear HC
  go_wp2_with fail
  refine (finds_yes w.heap.size D4 100 true ⟨#[115]⟩ none 0 0 (fun j => B (([] : List (List UInt8)).getD j [])) _ S10.out.disk S10.out.ok (fun W hW => HT.out.below (hW.below B10.out B10.out.size (Nat.le_refl _))) (by decide) (by decide) HP.out.2.2.2.2.2.2.2.2.1 HP.out.2.2.2.2.2.2.2.2.2.1 (by decide) (by rw [HP.out.2.2.2.2.2.2.2.2.2.2]; rfl) (fun j hj => absurd hj (Nat.not_lt_zero j)) (str_none _)).mono ?_
  rintro e w11 ⟨rfl, d11, o11, c11⟩
  have B11 := Kp.mk (c11.below B10.out B10.out.size (Nat.le_refl _))
  clear d11 o11 c11
  go_wp2
  go_ret
  exact ⟨by trivial, B11.out⟩
end Go.Proofs.YtpfoekfbcpinlaaGreatDoor
