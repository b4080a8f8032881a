/- The reference's disk: Sync, Wipe, Trim, Write. -/
import Derived.Test.YtimfchjjdifbiaaDRefGo
namespace Go.Proofs.Ytimfchjjdifbiaa
open Go.RowKit
set_option linter.unusedVariables false

theorem OkR.turn {R : RefV} (h : OkR R) : OkR (turnR R).2 := by
  unfold turnR
  have := h.left
  have := h.left2
  split
  · exact h
  · split
    · exact ⟨h.most, h.left, h.left2, h.cap, h.cap2⟩
    · exact ⟨h.most, by show -1 ≤ R.left - 1; omega, by show R.left - 1 ≤ _; omega, h.cap, h.cap2⟩
theorem turn_t (R : RefV) : (turnR R).2.t = R.t := by
  unfold turnR
  split
  · rfl
  · split <;> rfl
theorem infoRTape : (Try.prog.info? 50).map (fun i => (i.zero, i.size, i.bytes)) = some (some (.agg #[.string ⟨#[]⟩, .string ⟨#[]⟩]), 2, 32) := by kernel_rfl
theorem Chg2.dr {w w' : World} {g q : Nat} (h : Chg2 w w' g q) : Chg2 w w'.drew g q := ⟨h.os, h.tape, h.output, h.size, h.block⟩
set_option maxRecDepth 20000 in
set_option maxHeartbeats 1000000 in
theorem rSync_any (g q cp : Nat) (R : RefV) (t : Int) (w : World) (h : RDAt w g q cp R) (ho : OkR R) :
    Calls Try.prog 30 #[.pointer (some ⟨g, 0, none⟩), .int .i64 t] w fun e w' => e = .returned (.int .i64 (syncR R t).1) ∧ RDAt w' g q cp (syncR R t).2 ∧ Chg2 w w' g q := by
  have HW := Kp.mk (rwrong_any g q cp R t w h)
  by_cases hw : wrongR R t = 0
  · have HT := Kp.mk (rturn_any g q cp R w h ho)
    obtain ⟨k, rfl, hk⟩ := wrongR_in hw
    have HB : Kp (bothR R k = (R.t k).1 ++ (R.t k).2) := ⟨by unfold bothR; rw [Int.toNat_natCast]⟩
    have hV0 : Kp (syncR R k = if (turnR R).1 = true then (0, setR (turnR R).2 k (bothR R k, ⟨#[]⟩)) else (45, (turnR R).2)) := ⟨by unfold syncR; rw [if_pos hw, Int.toNat_natCast]⟩
    have hm := ho.most k hk
    have hRt := turn_t R
    rw [hw] at HW
    generalize turnR R = r at HT hV0 hRt
    obtain ⟨b, R1⟩ := r
    simp only [] at HT hV0 hRt
    have i1 : (0 : Int) ≤ (k : Int) := by omega
    have i2 : (k : Int) < 32 := by omega
    cases b
    · have hV : Kp (syncR R k = (45, R1)) := ⟨by rw [hV0.out]; rfl⟩
      clear h ho hw hV0
      go_enter Try.func30, Try.ntmps30
      go_wp2_with fail
      refine HW.out.mono ?_
      rintro e w1 ⟨rfl, rfl⟩
      go_wp2_with fail
      refine HT.out.mono ?_
      rintro e w1 ⟨rfl, d1, c1⟩
      have H := Kp.mk (And.intro d1 c1)
      clear d1 c1
      go_wp2
      go_ret
      exact ⟨by rw [hV.out] <;> rfl, by rw [hV.out]; exact H.out.1, H.out.2⟩
    · have hV : Kp (syncR R k = (0, setR R1 k (bothR R k, ⟨#[]⟩))) := ⟨by rw [hV0.out]; rfl⟩
      rw [HB.out] at hV
      rw [← hRt] at hV hm
      clear h ho hw hV0
      go_enter Try.func30, Try.ntmps30
      go_wp2_with fail
      refine HW.out.mono ?_
      rintro e w1 ⟨rfl, rfl⟩
      go_wp2_with fail
      refine HT.out.mono ?_
      rintro e w1 ⟨rfl, d1, c1⟩
      have H := Kp.mk (And.intro d1 c1)
      have k0 := d1.c0
      have a1 := d1.a1 k hk
      have a2 := d1.a2 k hk
      have f1 := d1.freeq (k * 2) (by omega)
      have f2 := d1.freeq (k * 2 + 1) (by omega)
      have HP := Kp.mk (d1.putT k hk ((R1.t k).1 ++ (R1.t k).2) ⟨#[]⟩)
      generalize R1.t k = p at hm a1 a2 HP hV
      obtain ⟨x, y⟩ := p
      simp only [] at hm a1 a2 HP hV
      have hcat : ¬ 9223372036854775807 < x.size + y.size := by omega
      clear d1 c1 HB hRt
      go_wp2_with fail
      go_region
      all_goals go_wp2
      all_goals go_ret
      all_goals exact ⟨by rw [hV.out] <;> rfl, by rw [hV.out]; exact HP.out, ((H.out.2.trans (Chg2.setq _ _ _ _ _)).trans (Chg2.setq _ _ _ _ _)).dr⟩
  · have hV : Kp (syncR R t = (wrongR R t, R)) := ⟨by unfold syncR; rw [if_neg hw]⟩
    have p1 : (wrongR R t == 0) = false := by rw [beq_eq_false_iff_ne]; exact hw
    have H := Kp.mk h
    clear h ho hw
    generalize wrongR R t = e1 at *
    go_enter Try.func30, Try.ntmps30
    go_wp2_with fail
    refine HW.out.mono ?_
    rintro e w1 ⟨rfl, rfl⟩
    go_wp2
    go_ret
    exact ⟨by rw [hV.out] <;> rfl, by rw [hV.out]; exact H.out, Chg2.refl _ _ _⟩
set_option maxRecDepth 20000 in
set_option maxHeartbeats 1000000 in
theorem rWipe_any (g q cp : Nat) (R : RefV) (t : Int) (w : World) (h : RDAt w g q cp R) (ho : OkR R) :
    Calls Try.prog 32 #[.pointer (some ⟨g, 0, none⟩), .int .i64 t] w fun e w' => e = .returned (.int .i64 (wipeR R t).1) ∧ RDAt w' g q cp (wipeR R t).2 ∧ Chg2 w w' g q := by
  have HW := Kp.mk (rwrong_any g q cp R t w h)
  by_cases hw : wrongR R t = 0
  · have HT := Kp.mk (rturn_any g q cp R w h ho)
    obtain ⟨k, rfl, hk⟩ := wrongR_in hw
    have hV0 : Kp (wipeR R k = if (turnR R).1 = true then (0, setR (turnR R).2 k (⟨#[]⟩, ⟨#[]⟩)) else (45, (turnR R).2)) := ⟨by unfold wipeR; rw [if_pos hw, Int.toNat_natCast]⟩
    have hm := ho.most k hk
    have hRt := turn_t R
    rw [hw] at HW
    generalize turnR R = r at HT hV0 hRt
    obtain ⟨b, R1⟩ := r
    simp only [] at HT hV0 hRt
    have i1 : (0 : Int) ≤ (k : Int) := by omega
    have i2 : (k : Int) < 32 := by omega
    cases b
    · have hV : Kp (wipeR R k = (45, R1)) := ⟨by rw [hV0.out]; rfl⟩
      clear h ho hw hV0
      go_enter Try.func32, Try.ntmps32
      go_wp2_with fail
      refine HW.out.mono ?_
      rintro e w1 ⟨rfl, rfl⟩
      go_wp2_with fail
      refine HT.out.mono ?_
      rintro e w1 ⟨rfl, d1, c1⟩
      have H := Kp.mk (And.intro d1 c1)
      clear d1 c1
      go_wp2
      go_ret
      exact ⟨by rw [hV.out] <;> rfl, by rw [hV.out]; exact H.out.1, H.out.2⟩
    · have hV : Kp (wipeR R k = (0, setR R1 k (⟨#[]⟩, ⟨#[]⟩))) := ⟨by rw [hV0.out]; rfl⟩
      rw [← hRt] at hm
      clear h ho hw hV0
      go_enter Try.func32, Try.ntmps32
      go_wp2_with fail
      refine HW.out.mono ?_
      rintro e w1 ⟨rfl, rfl⟩
      go_wp2_with fail
      refine HT.out.mono ?_
      rintro e w1 ⟨rfl, d1, c1⟩
      have H := Kp.mk (And.intro d1 c1)
      have k0 := d1.c0
      have a1 := d1.a1 k hk
      have a2 := d1.a2 k hk
      have f1 := d1.freeq (k * 2) (by omega)
      have f2 := d1.freeq (k * 2 + 1) (by omega)
      have HP := Kp.mk (d1.putT k hk ⟨#[]⟩ ⟨#[]⟩)
      generalize R1.t k = p at hm a1 a2
      obtain ⟨x, y⟩ := p
      simp only [] at hm a1 a2
      clear d1 c1 hRt
      go_wp2
      go_ret
      exact ⟨by rw [hV.out] <;> rfl, by rw [hV.out]; exact HP.out, (H.out.2.trans (Chg2.setq _ _ _ _ _)).trans (Chg2.setq _ _ _ _ _)⟩
  · have hV : Kp (wipeR R t = (wrongR R t, R)) := ⟨by unfold wipeR; rw [if_neg hw]⟩
    have p1 : (wrongR R t == 0) = false := by rw [beq_eq_false_iff_ne]; exact hw
    have H := Kp.mk h
    clear h ho hw
    generalize wrongR R t = e1 at *
    go_enter Try.func32, Try.ntmps32
    go_wp2_with fail
    refine HW.out.mono ?_
    rintro e w1 ⟨rfl, rfl⟩
    go_wp2
    go_ret
    exact ⟨by rw [hV.out] <;> rfl, by rw [hV.out]; exact H.out, Chg2.refl _ _ _⟩
set_option maxRecDepth 20000 in
set_option maxHeartbeats 1000000 in
theorem rTrim_any (g q cp : Nat) (R : RefV) (t n : Int) (w : World) (h : RDAt w g q cp R) (ho : OkR R) :
    Calls Try.prog 31 #[.pointer (some ⟨g, 0, none⟩), .int .i64 t, .int .i64 n] w fun e w' => e = .returned (.int .i64 (trimR R t n).1) ∧ RDAt w' g q cp (trimR R t n).2 ∧ Chg2 w w' g q := by
  have HW := Kp.mk (rwrong_any g q cp R t w h)
  by_cases hw : wrongR R t = 0
  · have HT := Kp.mk (rturn_any g q cp R w h ho)
    obtain ⟨k, rfl, hk⟩ := wrongR_in hw
    have HB : Kp (bothR R k = (R.t k).1 ++ (R.t k).2) := ⟨by unfold bothR; rw [Int.toNat_natCast]⟩
    have hm := ho.most k hk
    have hRt := turn_t R
    have i1 : (0 : Int) ≤ (k : Int) := by omega
    have i2 : (k : Int) < 32 := by omega
    have k0 := h.c0
    have a1 := h.a1 k hk
    have a2 := h.a2 k hk
    have HR := Kp.mk h
    have hV1 : trimR R k n = if n < 0 ∨ ((bothR R k).size : Int) < n then (1, R) else if (turnR R).1 = true then (0, setR (turnR R).2 k ((bothR R k).extract 0 n.toNat, ⟨#[]⟩)) else (45, (turnR R).2) := by unfold trimR; rw [if_pos hw, Int.toNat_natCast]
    rw [HB.out] at hV1
    rw [hw] at HW
    generalize hrk : R.t k = p at hm a1 a2 hV1
    obtain ⟨x, y⟩ := p
    simp only [] at hm a1 a2 hV1
    have hsz : (x ++ y).size = x.size + y.size := ByteArray.size_append
    have hcat : ¬ 9223372036854775807 < x.size + y.size := by omega
    generalize hss : x ++ y = s at hV1 hsz
    clear hsz
    clear h HB
    by_cases hn : n < 0 ∨ (s.size : Int) < n
    · have hV : Kp (trimR R k n = (1, R)) := ⟨by rw [hV1, if_pos hn]⟩
      clear hV1 ho hw HT hRt
      by_cases h0 : n < 0
      · have t1 : decide (n < 0) = true := by rw [decide_eq_true_eq]; exact h0
        clear hn
        go_enter Try.func31, Try.ntmps31
        go_wp2_with fail
        refine HW.out.mono ?_
        rintro e w1 ⟨rfl, rfl⟩
        go_wp2_with fail
        go_quiet (fail)
        go_wp2
        go_ret
        exact ⟨by rw [hV.out] <;> rfl, by rw [hV.out]; exact HR.out, Chg2.drewN _ _ _ _⟩
      · have t1 : decide (n < 0) = false := by rw [decide_eq_false_iff_not]; exact h0
        have t2 : decide ((s.size : Int) < n) = true := by rw [decide_eq_true_eq]; omega
        clear hn
        go_enter Try.func31, Try.ntmps31
        go_wp2_with fail
        refine HW.out.mono ?_
        rintro e w1 ⟨rfl, rfl⟩
        go_wp2_with fail
        go_quiet (fail)
        go_wp2
        go_ret
        exact ⟨by rw [hV.out] <;> rfl, by rw [hV.out]; exact HR.out, Chg2.drewN _ _ _ _⟩
    · have t1 : decide (n < 0) = false := by rw [decide_eq_false_iff_not]; omega
      have t2 : decide ((s.size : Int) < n) = false := by rw [decide_eq_false_iff_not]; omega
      have n1 : (0 : Int) ≤ n := by omega
      have n2 : n ≤ (s.size : Int) := by omega
      have hV0 : Kp (trimR R k n = if (turnR R).1 = true then (0, setR (turnR R).2 k (s.extract 0 n.toNat, ⟨#[]⟩)) else (45, (turnR R).2)) := ⟨by rw [hV1, if_neg hn]⟩
      have HT' : Kp (∀ m, Calls Try.prog 48 #[.pointer (some ⟨g, 0, none⟩)] (w.drewN m) fun e w' => e = .returned (.bool (turnR R).1) ∧ RDAt w' g q cp (turnR R).2 ∧ Chg2 (w.drewN m) w' g q) := ⟨fun m => rturn_any g q cp R _ HR.out ho⟩
      clear HT
      generalize turnR R = r at HT' hV0 hRt
      obtain ⟨b, R1⟩ := r
      simp only [] at HT' hV0 hRt
      rw [← hRt] at hrk
      clear hn hw ho hV1
      cases b
      · have hV : Kp (trimR R k n = (45, R1)) := ⟨by rw [hV0.out]; rfl⟩
        clear hV0
        go_enter Try.func31, Try.ntmps31
        go_wp2_with fail
        refine HW.out.mono ?_
        rintro e w1 ⟨rfl, rfl⟩
        go_wp2_with fail
        go_quiet (fail)
        go_wp2_with fail
        refine (HT'.out _).mono ?_
        rintro e w1 ⟨rfl, d1, c1⟩
        have H := Kp.mk (And.intro d1 ((Chg2.drewN _ _ _ _).trans c1))
        clear d1 c1
        go_wp2
        go_ret
        exact ⟨by rw [hV.out] <;> rfl, by rw [hV.out]; exact H.out.1, H.out.2⟩
      · have hV : Kp (trimR R k n = (0, setR R1 k (s.extract 0 n.toNat, ⟨#[]⟩))) := ⟨by rw [hV0.out]; rfl⟩
        clear hV0
        go_enter Try.func31, Try.ntmps31
        go_wp2_with fail
        refine HW.out.mono ?_
        rintro e w1 ⟨rfl, rfl⟩
        go_wp2_with fail
        go_quiet (fail)
        go_wp2_with fail
        refine (HT'.out _).mono ?_
        rintro e w1 ⟨rfl, d1, c1⟩
        have H := Kp.mk (And.intro d1 ((Chg2.drewN _ _ _ _).trans c1))
        have k0 := d1.c0
        have b1 := d1.a1 k hk
        have b2 := d1.a2 k hk
        have f1 := d1.freeq (k * 2) (by omega)
        have f2 := d1.freeq (k * 2 + 1) (by omega)
        have HP := Kp.mk (d1.putT k hk (s.extract 0 n.toNat) ⟨#[]⟩)
        rw [hrk] at b1 b2
        clear d1 c1 hRt
        go_wp2_with fail
        go_region
        all_goals go_wp2
        all_goals go_ret
        all_goals exact ⟨by rw [hV.out] <;> rfl, by rw [hV.out]; exact HP.out, ((H.out.2.trans (Chg2.setq _ _ _ _ _)).trans (Chg2.setq _ _ _ _ _)).dr⟩
  · have hV : Kp (trimR R t n = (wrongR R t, R)) := ⟨by unfold trimR; rw [if_neg hw]⟩
    have p1 : (wrongR R t == 0) = false := by rw [beq_eq_false_iff_ne]; exact hw
    have H := Kp.mk h
    clear h ho hw
    generalize wrongR R t = e1 at *
    go_enter Try.func31, Try.ntmps31
    go_wp2_with fail
    refine HW.out.mono ?_
    rintro e w1 ⟨rfl, rfl⟩
    go_wp2
    go_ret
    exact ⟨by rw [hV.out] <;> rfl, by rw [hV.out]; exact H.out, Chg2.refl _ _ _⟩
end Go.Proofs.Ytimfchjjdifbiaa
