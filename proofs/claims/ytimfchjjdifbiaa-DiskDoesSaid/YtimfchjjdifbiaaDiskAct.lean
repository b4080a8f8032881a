/- act. -/
import Derived.Test.YtimfchjjdifbiaaDiskThree
namespace Go.Proofs.Ytimfchjjdifbiaa
open Go.RowKit
set_option linter.unusedVariables false

/-- What act answers, and leaves. -/
def opV (D : DiskV) (t may : Int) (dov torn : TapeV → TapeV) : Int × DiskV :=
  if D.down = true then (45, D) else if t < 0 ∨ 32 ≤ t then (1, D) else if may ≠ 0 then (may, D) else
    if (failsV D).1 = true then (45, setT (failsV D).2 t.toNat (torn (D.tp t.toNat))) else (0, setT (failsV D).2 t.toNat (dov (D.tp t.toNat)))
theorem fails_tp (D : DiskV) : (failsV D).2.tp = D.tp := by unfold failsV; split <;> rfl
set_option maxRecDepth 20000 in
set_option maxHeartbeats 1000000 in
theorem act_sync (g : Nat) (D : DiskV) (t may : Int) (dov torn : TapeV → TapeV) (w : World) (h : DiskAt w g D) (ho : Ok D)
    (hmay : ∀ k : Nat, t = k → k < 32 → Calls Try.prog 42 #[.agg #[.string (D.tp k).b, .int .i64 (D.tp k).firm]] w fun e w' => e = .returned (.int .i64 may) ∧ Below w.heap.size w w')
    (hdo : ∀ k : Nat, t = k → k < 32 → may = 0 → ∀ W D', Chg w W g → DiskAt W g D' → D'.tp = D.tp → Calls Try.prog 38 #[.pointer (some ⟨g, k * 2, none⟩)] W fun e W' => e = .returned (.tuple #[]) ∧ DiskAt W' g (setT D' k (dov (D.tp k))) ∧ Chg W W' g)
    (htorn : ∀ k : Nat, t = k → k < 32 → may = 0 → ∀ W D', Chg w W g → DiskAt W g D' → D'.tp = D.tp → Calls Try.prog 43 #[.pointer (some ⟨g, k * 2, none⟩)] W fun e W' => e = .returned (.tuple #[]) ∧ DiskAt W' g (setT D' k (torn (D.tp k))) ∧ Chg W W' g) :
    Calls Try.prog 40 #[.pointer (some ⟨g, 0, none⟩), .int .i64 t, .func (.func 42) #[] #[], .func (.func 38) #[] #[], .func (.func 43) #[] #[]] w fun e w' => e = .returned (.int .i64 (opV D t may dov torn).1) ∧ DiskAt w' g (opV D t may dov torn).2 ∧ Chg w w' g := by
  have k67 := h.c67
  by_cases hd : D.down = true
  · have hV : Kp (opV D t may dov torn = (45, D)) := ⟨by unfold opV; rw [if_pos hd]⟩
    rw [hd] at k67
    have H := Kp.mk h
    clear h hd hmay hdo htorn ho
    go_enter Try.func40, Try.ntmps40
    go_wp2
    go_ret
    exact ⟨by rw [hV.out] <;> rfl, by rw [hV.out]; exact H.out, Chg.refl _ _⟩
  · have hd' : D.down = false := by simpa using hd
    rw [hd'] at k67
    by_cases ht : t < 0 ∨ 32 ≤ t
    · have hV : Kp (opV D t may dov torn = (1, D)) := ⟨by unfold opV; rw [if_neg hd, if_pos ht]⟩
      have H := Kp.mk h
      clear h hd hd' hmay hdo htorn ho
      by_cases h0 : t < 0
      · have p1 : decide (t < 0) = true := by rw [decide_eq_true_eq]; exact h0
        clear ht
        go_enter Try.func40, Try.ntmps40
        go_wp2
        go_ret
        exact ⟨by rw [hV.out] <;> rfl, by rw [hV.out]; exact H.out, Chg.refl _ _⟩
      · have p1 : decide (t < 0) = false := by rw [decide_eq_false_iff_not]; exact h0
        have p2 : decide ((32 : Int) ≤ t) = true := by rw [decide_eq_true_eq]; omega
        clear ht
        go_enter Try.func40, Try.ntmps40
        go_wp2
        go_ret
        exact ⟨by rw [hV.out] <;> rfl, by rw [hV.out]; exact H.out, Chg.refl _ _⟩
    · obtain ⟨k, rfl, hk⟩ : ∃ k : Nat, t = k ∧ k < 32 := ⟨t.toNat, by omega, by omega⟩
      have p1 : decide ((k : Int) < 0) = false := by rw [decide_eq_false_iff_not]; omega
      have p2 : decide ((32 : Int) ≤ (k : Int)) = false := by rw [decide_eq_false_iff_not]; omega
      have p2' : decide (32 ≤ k) = false := by rw [decide_eq_false_iff_not]; omega
      have kb := h.tb k hk
      have kf := h.tf k hk
      have i1 : (0 : Int) ≤ (k : Int) := by omega
      have i2 : (k : Int) < 32 := by omega
      have HM := Kp.mk (hmay k rfl hk)
      have H := Kp.mk h
      clear hmay
      by_cases hm : may = 0
      · have HDo := Kp.mk (hdo k rfl hk hm)
        have HTo := Kp.mk (htorn k rfl hk hm)
        have HF := Kp.mk (fun W hW => fails_any g D W hW ho)
        have HTP := Kp.mk (fails_tp D)
        have hV : Kp (opV D k may dov torn = if (failsV D).1 = true then (45, setT (failsV D).2 k (torn (D.tp k))) else (0, setT (failsV D).2 k (dov (D.tp k)))) := ⟨by unfold opV; rw [if_neg hd, if_neg ht, if_neg (by omega), Int.toNat_natCast]⟩
        generalize failsV D = r at HF HTP hV
        obtain ⟨fl, D1⟩ := r
        simp only [] at HF HTP hV
        clear h hd hd' hdo htorn ho ht
        subst hm
        cases fl
        · rw [if_neg (by simp)] at hV
          go_enter Try.func40, Try.ntmps40
          go_wp2_with fail
          refine HM.out.mono ?_
          rintro e w1 ⟨rfl, b1⟩
          have H1 := Kp.mk (H.out.below b1)
          have C1 := Kp.mk (Chg.of_below b1 g)
          clear b1 kb kf k67
          go_wp2_with fail
          refine (HF.out _ H1.out).mono ?_
          rintro e w2 ⟨rfl, d2, c2'⟩
          have H2 := Kp.mk d2
          have C2 := Kp.mk (C1.out.trans c2')
          clear d2 c2'
          go_wp2_with fail
          refine (HDo.out _ _ C2.out H2.out HTP.out).mono ?_
          rintro e w3 ⟨rfl, d3, c3'⟩
          have H3 := Kp.mk d3
          have C3 := Kp.mk (C2.out.trans c3')
          clear d3 c3'
          go_wp2
          go_ret
          exact ⟨by rw [hV.out] <;> rfl, by rw [hV.out]; exact H3.out, C3.out⟩
        · rw [if_pos rfl] at hV
          go_enter Try.func40, Try.ntmps40
          go_wp2_with fail
          refine HM.out.mono ?_
          rintro e w1 ⟨rfl, b1⟩
          have H1 := Kp.mk (H.out.below b1)
          have C1 := Kp.mk (Chg.of_below b1 g)
          clear b1 kb kf k67
          go_wp2_with fail
          refine (HF.out _ H1.out).mono ?_
          rintro e w2 ⟨rfl, d2, c2'⟩
          have H2 := Kp.mk d2
          have C2 := Kp.mk (C1.out.trans c2')
          clear d2 c2'
          go_wp2_with fail
          refine (HTo.out _ _ C2.out H2.out HTP.out).mono ?_
          rintro e w3 ⟨rfl, d3, c3'⟩
          have H3 := Kp.mk d3
          have C3 := Kp.mk (C2.out.trans c3')
          clear d3 c3'
          go_wp2
          go_ret
          exact ⟨by rw [hV.out] <;> rfl, by rw [hV.out]; exact H3.out, C3.out⟩
      · have hV : Kp (opV D k may dov torn = (may, D)) := ⟨by unfold opV; rw [if_neg hd, if_neg ht, if_pos hm]⟩
        have hm' : (may == 0) = false := by rw [beq_eq_false_iff_ne]; exact hm
        clear h hd hd' hdo htorn ho ht
        go_enter Try.func40, Try.ntmps40
        go_wp2_with fail
        refine HM.out.mono ?_
        rintro e w1 ⟨rfl, b1⟩
        have H1 := Kp.mk (H.out.below b1)
        have C1 := Kp.mk (Chg.of_below b1 g)
        clear b1 kb kf k67
        go_wp2
        go_ret
        exact ⟨by rw [hV.out] <;> rfl, by rw [hV.out]; exact H1.out, C1.out⟩
set_option maxRecDepth 20000 in
set_option maxHeartbeats 1000000 in
theorem act_wipe (g : Nat) (D : DiskV) (t may : Int) (dov torn : TapeV → TapeV) (w : World) (h : DiskAt w g D) (ho : Ok D)
    (hmay : ∀ k : Nat, t = k → k < 32 → Calls Try.prog 42 #[.agg #[.string (D.tp k).b, .int .i64 (D.tp k).firm]] w fun e w' => e = .returned (.int .i64 may) ∧ Below w.heap.size w w')
    (hdo : ∀ k : Nat, t = k → k < 32 → may = 0 → ∀ W D', Chg w W g → DiskAt W g D' → D'.tp = D.tp → Calls Try.prog 46 #[.pointer (some ⟨g, k * 2, none⟩)] W fun e W' => e = .returned (.tuple #[]) ∧ DiskAt W' g (setT D' k (dov (D.tp k))) ∧ Chg W W' g)
    (htorn : ∀ k : Nat, t = k → k < 32 → may = 0 → ∀ W D', Chg w W g → DiskAt W g D' → D'.tp = D.tp → Calls Try.prog 43 #[.pointer (some ⟨g, k * 2, none⟩)] W fun e W' => e = .returned (.tuple #[]) ∧ DiskAt W' g (setT D' k (torn (D.tp k))) ∧ Chg W W' g) :
    Calls Try.prog 40 #[.pointer (some ⟨g, 0, none⟩), .int .i64 t, .func (.func 42) #[] #[], .func (.func 46) #[] #[], .func (.func 43) #[] #[]] w fun e w' => e = .returned (.int .i64 (opV D t may dov torn).1) ∧ DiskAt w' g (opV D t may dov torn).2 ∧ Chg w w' g := by
  have k67 := h.c67
  by_cases hd : D.down = true
  · have hV : Kp (opV D t may dov torn = (45, D)) := ⟨by unfold opV; rw [if_pos hd]⟩
    rw [hd] at k67
    have H := Kp.mk h
    clear h hd hmay hdo htorn ho
    go_enter Try.func40, Try.ntmps40
    go_wp2
    go_ret
    exact ⟨by rw [hV.out] <;> rfl, by rw [hV.out]; exact H.out, Chg.refl _ _⟩
  · have hd' : D.down = false := by simpa using hd
    rw [hd'] at k67
    by_cases ht : t < 0 ∨ 32 ≤ t
    · have hV : Kp (opV D t may dov torn = (1, D)) := ⟨by unfold opV; rw [if_neg hd, if_pos ht]⟩
      have H := Kp.mk h
      clear h hd hd' hmay hdo htorn ho
      by_cases h0 : t < 0
      · have p1 : decide (t < 0) = true := by rw [decide_eq_true_eq]; exact h0
        clear ht
        go_enter Try.func40, Try.ntmps40
        go_wp2
        go_ret
        exact ⟨by rw [hV.out] <;> rfl, by rw [hV.out]; exact H.out, Chg.refl _ _⟩
      · have p1 : decide (t < 0) = false := by rw [decide_eq_false_iff_not]; exact h0
        have p2 : decide ((32 : Int) ≤ t) = true := by rw [decide_eq_true_eq]; omega
        clear ht
        go_enter Try.func40, Try.ntmps40
        go_wp2
        go_ret
        exact ⟨by rw [hV.out] <;> rfl, by rw [hV.out]; exact H.out, Chg.refl _ _⟩
    · obtain ⟨k, rfl, hk⟩ : ∃ k : Nat, t = k ∧ k < 32 := ⟨t.toNat, by omega, by omega⟩
      have p1 : decide ((k : Int) < 0) = false := by rw [decide_eq_false_iff_not]; omega
      have p2 : decide ((32 : Int) ≤ (k : Int)) = false := by rw [decide_eq_false_iff_not]; omega
      have p2' : decide (32 ≤ k) = false := by rw [decide_eq_false_iff_not]; omega
      have kb := h.tb k hk
      have kf := h.tf k hk
      have i1 : (0 : Int) ≤ (k : Int) := by omega
      have i2 : (k : Int) < 32 := by omega
      have HM := Kp.mk (hmay k rfl hk)
      have H := Kp.mk h
      clear hmay
      by_cases hm : may = 0
      · have HDo := Kp.mk (hdo k rfl hk hm)
        have HTo := Kp.mk (htorn k rfl hk hm)
        have HF := Kp.mk (fun W hW => fails_any g D W hW ho)
        have HTP := Kp.mk (fails_tp D)
        have hV : Kp (opV D k may dov torn = if (failsV D).1 = true then (45, setT (failsV D).2 k (torn (D.tp k))) else (0, setT (failsV D).2 k (dov (D.tp k)))) := ⟨by unfold opV; rw [if_neg hd, if_neg ht, if_neg (by omega), Int.toNat_natCast]⟩
        generalize failsV D = r at HF HTP hV
        obtain ⟨fl, D1⟩ := r
        simp only [] at HF HTP hV
        clear h hd hd' hdo htorn ho ht
        subst hm
        cases fl
        · rw [if_neg (by simp)] at hV
          go_enter Try.func40, Try.ntmps40
          go_wp2_with fail
          refine HM.out.mono ?_
          rintro e w1 ⟨rfl, b1⟩
          have H1 := Kp.mk (H.out.below b1)
          have C1 := Kp.mk (Chg.of_below b1 g)
          clear b1 kb kf k67
          go_wp2_with fail
          refine (HF.out _ H1.out).mono ?_
          rintro e w2 ⟨rfl, d2, c2'⟩
          have H2 := Kp.mk d2
          have C2 := Kp.mk (C1.out.trans c2')
          clear d2 c2'
          go_wp2_with fail
          refine (HDo.out _ _ C2.out H2.out HTP.out).mono ?_
          rintro e w3 ⟨rfl, d3, c3'⟩
          have H3 := Kp.mk d3
          have C3 := Kp.mk (C2.out.trans c3')
          clear d3 c3'
          go_wp2
          go_ret
          exact ⟨by rw [hV.out] <;> rfl, by rw [hV.out]; exact H3.out, C3.out⟩
        · rw [if_pos rfl] at hV
          go_enter Try.func40, Try.ntmps40
          go_wp2_with fail
          refine HM.out.mono ?_
          rintro e w1 ⟨rfl, b1⟩
          have H1 := Kp.mk (H.out.below b1)
          have C1 := Kp.mk (Chg.of_below b1 g)
          clear b1 kb kf k67
          go_wp2_with fail
          refine (HF.out _ H1.out).mono ?_
          rintro e w2 ⟨rfl, d2, c2'⟩
          have H2 := Kp.mk d2
          have C2 := Kp.mk (C1.out.trans c2')
          clear d2 c2'
          go_wp2_with fail
          refine (HTo.out _ _ C2.out H2.out HTP.out).mono ?_
          rintro e w3 ⟨rfl, d3, c3'⟩
          have H3 := Kp.mk d3
          have C3 := Kp.mk (C2.out.trans c3')
          clear d3 c3'
          go_wp2
          go_ret
          exact ⟨by rw [hV.out] <;> rfl, by rw [hV.out]; exact H3.out, C3.out⟩
      · have hV : Kp (opV D k may dov torn = (may, D)) := ⟨by unfold opV; rw [if_neg hd, if_neg ht, if_pos hm]⟩
        have hm' : (may == 0) = false := by rw [beq_eq_false_iff_ne]; exact hm
        clear h hd hd' hdo htorn ho ht
        go_enter Try.func40, Try.ntmps40
        go_wp2_with fail
        refine HM.out.mono ?_
        rintro e w1 ⟨rfl, b1⟩
        have H1 := Kp.mk (H.out.below b1)
        have C1 := Kp.mk (Chg.of_below b1 g)
        clear b1 kb kf k67
        go_wp2
        go_ret
        exact ⟨by rw [hV.out] <;> rfl, by rw [hV.out]; exact H1.out, C1.out⟩
set_option maxRecDepth 20000 in
set_option maxHeartbeats 1000000 in
theorem act_trim (g : Nat) (D : DiskV) (t may : Int) (B : Nat) (dov torn : TapeV → TapeV) (w : World) (h : DiskAt w g D) (ho : Ok D)
    (hmay : ∀ k : Nat, t = k → k < 32 → Calls Try.prog 44 #[.agg #[.string (D.tp k).b, .int .i64 (D.tp k).firm], .pointer (some ⟨B, 0, none⟩)] w fun e w' => e = .returned (.int .i64 may) ∧ Below w.heap.size w w')
    (hdo : ∀ k : Nat, t = k → k < 32 → may = 0 → ∀ W D', Chg w W g → DiskAt W g D' → D'.tp = D.tp → Calls Try.prog 45 #[.pointer (some ⟨g, k * 2, none⟩), .pointer (some ⟨B, 0, none⟩)] W fun e W' => e = .returned (.tuple #[]) ∧ DiskAt W' g (setT D' k (dov (D.tp k))) ∧ Chg W W' g)
    (htorn : ∀ k : Nat, t = k → k < 32 → may = 0 → ∀ W D', Chg w W g → DiskAt W g D' → D'.tp = D.tp → Calls Try.prog 43 #[.pointer (some ⟨g, k * 2, none⟩)] W fun e W' => e = .returned (.tuple #[]) ∧ DiskAt W' g (setT D' k (torn (D.tp k))) ∧ Chg W W' g) :
    Calls Try.prog 40 #[.pointer (some ⟨g, 0, none⟩), .int .i64 t, .func (.func 44) #[] #[.pointer (some ⟨B, 0, none⟩)], .func (.func 45) #[] #[.pointer (some ⟨B, 0, none⟩)], .func (.func 43) #[] #[]] w fun e w' => e = .returned (.int .i64 (opV D t may dov torn).1) ∧ DiskAt w' g (opV D t may dov torn).2 ∧ Chg w w' g := by
  have k67 := h.c67
  by_cases hd : D.down = true
  · have hV : Kp (opV D t may dov torn = (45, D)) := ⟨by unfold opV; rw [if_pos hd]⟩
    rw [hd] at k67
    have H := Kp.mk h
    clear h hd hmay hdo htorn ho
    go_enter Try.func40, Try.ntmps40
    go_wp2
    go_ret
    exact ⟨by rw [hV.out] <;> rfl, by rw [hV.out]; exact H.out, Chg.refl _ _⟩
  · have hd' : D.down = false := by simpa using hd
    rw [hd'] at k67
    by_cases ht : t < 0 ∨ 32 ≤ t
    · have hV : Kp (opV D t may dov torn = (1, D)) := ⟨by unfold opV; rw [if_neg hd, if_pos ht]⟩
      have H := Kp.mk h
      clear h hd hd' hmay hdo htorn ho
      by_cases h0 : t < 0
      · have p1 : decide (t < 0) = true := by rw [decide_eq_true_eq]; exact h0
        clear ht
        go_enter Try.func40, Try.ntmps40
        go_wp2
        go_ret
        exact ⟨by rw [hV.out] <;> rfl, by rw [hV.out]; exact H.out, Chg.refl _ _⟩
      · have p1 : decide (t < 0) = false := by rw [decide_eq_false_iff_not]; exact h0
        have p2 : decide ((32 : Int) ≤ t) = true := by rw [decide_eq_true_eq]; omega
        clear ht
        go_enter Try.func40, Try.ntmps40
        go_wp2
        go_ret
        exact ⟨by rw [hV.out] <;> rfl, by rw [hV.out]; exact H.out, Chg.refl _ _⟩
    · obtain ⟨k, rfl, hk⟩ : ∃ k : Nat, t = k ∧ k < 32 := ⟨t.toNat, by omega, by omega⟩
      have p1 : decide ((k : Int) < 0) = false := by rw [decide_eq_false_iff_not]; omega
      have p2 : decide ((32 : Int) ≤ (k : Int)) = false := by rw [decide_eq_false_iff_not]; omega
      have p2' : decide (32 ≤ k) = false := by rw [decide_eq_false_iff_not]; omega
      have kb := h.tb k hk
      have kf := h.tf k hk
      have i1 : (0 : Int) ≤ (k : Int) := by omega
      have i2 : (k : Int) < 32 := by omega
      have HM := Kp.mk (hmay k rfl hk)
      have H := Kp.mk h
      clear hmay
      by_cases hm : may = 0
      · have HDo := Kp.mk (hdo k rfl hk hm)
        have HTo := Kp.mk (htorn k rfl hk hm)
        have HF := Kp.mk (fun W hW => fails_any g D W hW ho)
        have HTP := Kp.mk (fails_tp D)
        have hV : Kp (opV D k may dov torn = if (failsV D).1 = true then (45, setT (failsV D).2 k (torn (D.tp k))) else (0, setT (failsV D).2 k (dov (D.tp k)))) := ⟨by unfold opV; rw [if_neg hd, if_neg ht, if_neg (by omega), Int.toNat_natCast]⟩
        generalize failsV D = r at HF HTP hV
        obtain ⟨fl, D1⟩ := r
        simp only [] at HF HTP hV
        clear h hd hd' hdo htorn ho ht
        subst hm
        cases fl
        · rw [if_neg (by simp)] at hV
          go_enter Try.func40, Try.ntmps40
          go_wp2_with fail
          refine HM.out.mono ?_
          rintro e w1 ⟨rfl, b1⟩
          have H1 := Kp.mk (H.out.below b1)
          have C1 := Kp.mk (Chg.of_below b1 g)
          clear b1 kb kf k67
          go_wp2_with fail
          refine (HF.out _ H1.out).mono ?_
          rintro e w2 ⟨rfl, d2, c2'⟩
          have H2 := Kp.mk d2
          have C2 := Kp.mk (C1.out.trans c2')
          clear d2 c2'
          go_wp2_with fail
          refine (HDo.out _ _ C2.out H2.out HTP.out).mono ?_
          rintro e w3 ⟨rfl, d3, c3'⟩
          have H3 := Kp.mk d3
          have C3 := Kp.mk (C2.out.trans c3')
          clear d3 c3'
          go_wp2
          go_ret
          exact ⟨by rw [hV.out] <;> rfl, by rw [hV.out]; exact H3.out, C3.out⟩
        · rw [if_pos rfl] at hV
          go_enter Try.func40, Try.ntmps40
          go_wp2_with fail
          refine HM.out.mono ?_
          rintro e w1 ⟨rfl, b1⟩
          have H1 := Kp.mk (H.out.below b1)
          have C1 := Kp.mk (Chg.of_below b1 g)
          clear b1 kb kf k67
          go_wp2_with fail
          refine (HF.out _ H1.out).mono ?_
          rintro e w2 ⟨rfl, d2, c2'⟩
          have H2 := Kp.mk d2
          have C2 := Kp.mk (C1.out.trans c2')
          clear d2 c2'
          go_wp2_with fail
          refine (HTo.out _ _ C2.out H2.out HTP.out).mono ?_
          rintro e w3 ⟨rfl, d3, c3'⟩
          have H3 := Kp.mk d3
          have C3 := Kp.mk (C2.out.trans c3')
          clear d3 c3'
          go_wp2
          go_ret
          exact ⟨by rw [hV.out] <;> rfl, by rw [hV.out]; exact H3.out, C3.out⟩
      · have hV : Kp (opV D k may dov torn = (may, D)) := ⟨by unfold opV; rw [if_neg hd, if_neg ht, if_pos hm]⟩
        have hm' : (may == 0) = false := by rw [beq_eq_false_iff_ne]; exact hm
        clear h hd hd' hdo htorn ho ht
        go_enter Try.func40, Try.ntmps40
        go_wp2_with fail
        refine HM.out.mono ?_
        rintro e w1 ⟨rfl, b1⟩
        have H1 := Kp.mk (H.out.below b1)
        have C1 := Kp.mk (Chg.of_below b1 g)
        clear b1 kb kf k67
        go_wp2
        go_ret
        exact ⟨by rw [hV.out] <;> rfl, by rw [hV.out]; exact H1.out, C1.out⟩
set_option maxRecDepth 20000 in
set_option maxHeartbeats 1000000 in
theorem act_write (g : Nat) (D : DiskV) (t may : Int) (B C : Nat) (dov torn : TapeV → TapeV) (w : World) (h : DiskAt w g D) (ho : Ok D)
    (hmay : ∀ k : Nat, t = k → k < 32 → Calls Try.prog 41 #[.agg #[.string (D.tp k).b, .int .i64 (D.tp k).firm], .pointer (some ⟨B, 0, none⟩), .pointer (some ⟨C, 0, none⟩)] w fun e w' => e = .returned (.int .i64 may) ∧ Below w.heap.size w w')
    (hdo : ∀ k : Nat, t = k → k < 32 → may = 0 → ∀ W D', Chg w W g → DiskAt W g D' → D'.tp = D.tp → Calls Try.prog 39 #[.pointer (some ⟨g, k * 2, none⟩), .pointer (some ⟨B, 0, none⟩)] W fun e W' => e = .returned (.tuple #[]) ∧ DiskAt W' g (setT D' k (dov (D.tp k))) ∧ Chg W W' g)
    (htorn : ∀ k : Nat, t = k → k < 32 → may = 0 → ∀ W D', Chg w W g → DiskAt W g D' → D'.tp = D.tp → Calls Try.prog 39 #[.pointer (some ⟨g, k * 2, none⟩), .pointer (some ⟨B, 0, none⟩)] W fun e W' => e = .returned (.tuple #[]) ∧ DiskAt W' g (setT D' k (torn (D.tp k))) ∧ Chg W W' g) :
    Calls Try.prog 40 #[.pointer (some ⟨g, 0, none⟩), .int .i64 t, .func (.func 41) #[] #[.pointer (some ⟨B, 0, none⟩), .pointer (some ⟨C, 0, none⟩)], .func (.func 39) #[] #[.pointer (some ⟨B, 0, none⟩)], .func (.func 39) #[] #[.pointer (some ⟨B, 0, none⟩)]] w fun e w' => e = .returned (.int .i64 (opV D t may dov torn).1) ∧ DiskAt w' g (opV D t may dov torn).2 ∧ Chg w w' g := by
  have k67 := h.c67
  by_cases hd : D.down = true
  · have hV : Kp (opV D t may dov torn = (45, D)) := ⟨by unfold opV; rw [if_pos hd]⟩
    rw [hd] at k67
    have H := Kp.mk h
    clear h hd hmay hdo htorn ho
    go_enter Try.func40, Try.ntmps40
    go_wp2
    go_ret
    exact ⟨by rw [hV.out] <;> rfl, by rw [hV.out]; exact H.out, Chg.refl _ _⟩
  · have hd' : D.down = false := by simpa using hd
    rw [hd'] at k67
    by_cases ht : t < 0 ∨ 32 ≤ t
    · have hV : Kp (opV D t may dov torn = (1, D)) := ⟨by unfold opV; rw [if_neg hd, if_pos ht]⟩
      have H := Kp.mk h
      clear h hd hd' hmay hdo htorn ho
      by_cases h0 : t < 0
      · have p1 : decide (t < 0) = true := by rw [decide_eq_true_eq]; exact h0
        clear ht
        go_enter Try.func40, Try.ntmps40
        go_wp2
        go_ret
        exact ⟨by rw [hV.out] <;> rfl, by rw [hV.out]; exact H.out, Chg.refl _ _⟩
      · have p1 : decide (t < 0) = false := by rw [decide_eq_false_iff_not]; exact h0
        have p2 : decide ((32 : Int) ≤ t) = true := by rw [decide_eq_true_eq]; omega
        clear ht
        go_enter Try.func40, Try.ntmps40
        go_wp2
        go_ret
        exact ⟨by rw [hV.out] <;> rfl, by rw [hV.out]; exact H.out, Chg.refl _ _⟩
    · obtain ⟨k, rfl, hk⟩ : ∃ k : Nat, t = k ∧ k < 32 := ⟨t.toNat, by omega, by omega⟩
      have p1 : decide ((k : Int) < 0) = false := by rw [decide_eq_false_iff_not]; omega
      have p2 : decide ((32 : Int) ≤ (k : Int)) = false := by rw [decide_eq_false_iff_not]; omega
      have p2' : decide (32 ≤ k) = false := by rw [decide_eq_false_iff_not]; omega
      have kb := h.tb k hk
      have kf := h.tf k hk
      have i1 : (0 : Int) ≤ (k : Int) := by omega
      have i2 : (k : Int) < 32 := by omega
      have HM := Kp.mk (hmay k rfl hk)
      have H := Kp.mk h
      clear hmay
      by_cases hm : may = 0
      · have HDo := Kp.mk (hdo k rfl hk hm)
        have HTo := Kp.mk (htorn k rfl hk hm)
        have HF := Kp.mk (fun W hW => fails_any g D W hW ho)
        have HTP := Kp.mk (fails_tp D)
        have hV : Kp (opV D k may dov torn = if (failsV D).1 = true then (45, setT (failsV D).2 k (torn (D.tp k))) else (0, setT (failsV D).2 k (dov (D.tp k)))) := ⟨by unfold opV; rw [if_neg hd, if_neg ht, if_neg (by omega), Int.toNat_natCast]⟩
        generalize failsV D = r at HF HTP hV
        obtain ⟨fl, D1⟩ := r
        simp only [] at HF HTP hV
        clear h hd hd' hdo htorn ho ht
        subst hm
        cases fl
        · rw [if_neg (by simp)] at hV
          go_enter Try.func40, Try.ntmps40
          go_wp2_with fail
          refine HM.out.mono ?_
          rintro e w1 ⟨rfl, b1⟩
          have H1 := Kp.mk (H.out.below b1)
          have C1 := Kp.mk (Chg.of_below b1 g)
          clear b1 kb kf k67
          go_wp2_with fail
          refine (HF.out _ H1.out).mono ?_
          rintro e w2 ⟨rfl, d2, c2'⟩
          have H2 := Kp.mk d2
          have C2 := Kp.mk (C1.out.trans c2')
          clear d2 c2'
          go_wp2_with fail
          refine (HDo.out _ _ C2.out H2.out HTP.out).mono ?_
          rintro e w3 ⟨rfl, d3, c3'⟩
          have H3 := Kp.mk d3
          have C3 := Kp.mk (C2.out.trans c3')
          clear d3 c3'
          go_wp2
          go_ret
          exact ⟨by rw [hV.out] <;> rfl, by rw [hV.out]; exact H3.out, C3.out⟩
        · rw [if_pos rfl] at hV
          go_enter Try.func40, Try.ntmps40
          go_wp2_with fail
          refine HM.out.mono ?_
          rintro e w1 ⟨rfl, b1⟩
          have H1 := Kp.mk (H.out.below b1)
          have C1 := Kp.mk (Chg.of_below b1 g)
          clear b1 kb kf k67
          go_wp2_with fail
          refine (HF.out _ H1.out).mono ?_
          rintro e w2 ⟨rfl, d2, c2'⟩
          have H2 := Kp.mk d2
          have C2 := Kp.mk (C1.out.trans c2')
          clear d2 c2'
          go_wp2_with fail
          refine (HTo.out _ _ C2.out H2.out HTP.out).mono ?_
          rintro e w3 ⟨rfl, d3, c3'⟩
          have H3 := Kp.mk d3
          have C3 := Kp.mk (C2.out.trans c3')
          clear d3 c3'
          go_wp2
          go_ret
          exact ⟨by rw [hV.out] <;> rfl, by rw [hV.out]; exact H3.out, C3.out⟩
      · have hV : Kp (opV D k may dov torn = (may, D)) := ⟨by unfold opV; rw [if_neg hd, if_neg ht, if_pos hm]⟩
        have hm' : (may == 0) = false := by rw [beq_eq_false_iff_ne]; exact hm
        clear h hd hd' hdo htorn ho ht
        go_enter Try.func40, Try.ntmps40
        go_wp2_with fail
        refine HM.out.mono ?_
        rintro e w1 ⟨rfl, b1⟩
        have H1 := Kp.mk (H.out.below b1)
        have C1 := Kp.mk (Chg.of_below b1 g)
        clear b1 kb kf k67
        go_wp2
        go_ret
        exact ⟨by rw [hV.out] <;> rfl, by rw [hV.out]; exact H1.out, C1.out⟩
end Go.Proofs.Ytimfchjjdifbiaa
