/- The reference's disk: Write. -/
import Derived.Test.YtimfchjjdifbiaaDRefOps
import Derived.BigQuiet
namespace Go.Proofs.Ytimfchjjdifbiaa
open Go.RowKit
set_option linter.unusedVariables false

set_option maxRecDepth 20000 in
set_option maxHeartbeats 1000000 in
theorem rWrite_any (g q cp : Nat) (R : RefV) (t : Int) (s : ByteArray) (w : World) (h : RDAt w g q cp R) (ho : OkR R) (hs : s.size ≤ 1099511627776) :
    Calls Try.prog 29 #[.pointer (some ⟨g, 0, none⟩), .int .i64 t, .string s] w fun e w' => e = .returned (.int .i64 (writeR R t s).1) ∧ RDAt w' g q cp (writeR R t s).2 ∧ Chg2 w w' g q := by
  have HW := Kp.mk (rwrong_any g q cp R t w h)
  by_cases hw : wrongR R t = 0
  · obtain ⟨k, rfl, hk⟩ := wrongR_in hw
    have hm := ho.most k hk
    have hRt := turn_t R
    have i1 : (0 : Int) ≤ (k : Int) := by omega
    have i2 : (k : Int) < 32 := by omega
    have k0 := h.c0
    have k1 := h.c1
    have a1 := h.a1 k hk
    have a2 := h.a2 k hk
    have HR := Kp.mk h
    have c0 := ho.cap
    have c1 := ho.cap2
    have hU := usedR_le ho.most 32 (Nat.le_refl _)
    have HU := Kp.mk (fun n => rUsed_any g q cp R (w.drewN n) h ho.most)
    have HT := Kp.mk (fun n => rturn_any g q cp R (w.drewN n) h ho)
    have hV1 : writeR R k s = if 1048576 < (R.t k).1.size + (R.t k).2.size + s.size then (40, R) else if R.cap < (usedR R.t 32 : Int) + s.size then (44, R) else (if (turnR R).1 = true then 0 else 45, setR (turnR R).2 k ((R.t k).1, (R.t k).2 ++ s)) := by
      unfold writeR; rw [if_pos hw, Int.toNat_natCast]
    rw [hw] at HW
    clear h hw
    generalize hrk : R.t k = p at hm a1 a2 hV1
    obtain ⟨x, y⟩ := p
    simp only [] at hm a1 a2 hV1
    by_cases h1 : 1048576 < x.size + y.size + s.size
    · have hV : Kp (writeR R k s = (40, R)) := ⟨by rw [hV1, if_pos h1]⟩
      have t1 : decide ((1048576 : Int) < (x.size : Int) + (y.size : Int) + (s.size : Int)) = true := by rw [decide_eq_true_eq]; omega
      clear hV1 ho hRt h1 HT HU
      go_enter Try.func29, Try.ntmps29
      go_wp2_with fail
      refine HW.out.mono ?_
      rintro e w1 ⟨rfl, rfl⟩
      go_wp2_with fail
      go_quiet (fail)
      go_wp2
      go_ret
      exact ⟨by rw [hV.out] <;> rfl, by rw [hV.out]; exact HR.out, Chg2.drewN _ _ _ _⟩
    · rw [if_neg h1] at hV1
      have t1 : decide ((1048576 : Int) < (x.size : Int) + (y.size : Int) + (s.size : Int)) = false := by rw [decide_eq_false_iff_not]; omega
      generalize hcap : R.cap = cap at k1 c0 c1 hV1
      generalize usedR R.t 32 = U at hU HU hV1
      have hsz : s.size ≤ 1048576 := by omega
      by_cases h2 : cap < (U : Int) + s.size
      · have hV : Kp (writeR R k s = (44, R)) := ⟨by rw [hV1, if_pos h2]⟩
        have t2 : decide (cap < (U : Int) + (s.size : Int)) = true := by rw [decide_eq_true_eq]; omega
        clear hV1 ho hRt h1 h2 HT
        go_enter Try.func29, Try.ntmps29
        go_wp2_with fail
        refine HW.out.mono ?_
        rintro e w1 ⟨rfl, rfl⟩
        go_wp2_with fail
        go_quiet (fail)
        go_wp2_with fail
        go_quiet ((go_at_call 14; refine (HU.out _).mono ?_; rintro e wq ⟨rfl, mq, rfl⟩; exact ⟨rfl, _, by rw [World.drewN_drewN, Nat.add_assoc]⟩))
        go_wp2
        go_ret
        exact ⟨by rw [hV.out] <;> rfl, by rw [hV.out]; exact HR.out, (Chg2.drewN _ _ _ _).trans (Chg2.drewN _ _ _ _)⟩
      · have t2 : decide (cap < (U : Int) + (s.size : Int)) = false := by rw [decide_eq_false_iff_not]; omega
        rw [if_neg h2] at hV1
        have hV := Kp.mk hV1
        clear hV1 ho h1 h2
        generalize turnR R = r at HT hV hRt
        obtain ⟨b, R1⟩ := r
        simp only [] at HT hV hRt
        rw [← hRt] at hrk
        have hcat : ¬ 9223372036854775807 < y.size + s.size := by omega
        go_enter Try.func29, Try.ntmps29
        go_wp2_with fail
        refine HW.out.mono ?_
        rintro e w1 ⟨rfl, rfl⟩
        go_wp2_with fail
        go_quiet (fail)
        go_wp2_with fail
        go_quiet ((go_at_call 14; refine (HU.out _).mono ?_; rintro e wq ⟨rfl, mq, rfl⟩; exact ⟨rfl, _, by rw [World.drewN_drewN, Nat.add_assoc]⟩))
        clear t1 t2
        go_wp2_with fail
        refine (HT.out _).mono ?_
        rintro e w1 ⟨rfl, d1, c1⟩
        have H := Kp.mk (And.intro d1 ((Chg2.drewN _ _ _ _).trans c1))
        have k0' := d1.c0
        have b1 := d1.a1 k hk
        have b2 := d1.a2 k hk
        have f2 := d1.freeq (k * 2 + 1) (by omega)
        have HP := Kp.mk (d1.put2 k hk (y ++ s))
        rw [hrk] at b1 b2 HP
        simp only [] at b1 b2
        clear d1 c1 hRt
        cases b
        all_goals go_wp2_with fail
        all_goals go_region
        all_goals go_wp2
        all_goals go_ret
        all_goals exact ⟨by rw [hV.out] <;> rfl, by rw [hV.out, setR_put]; exact HP.out, (H.out.2.trans (Chg2.setq _ _ _ _ _)).dr⟩
  · have hV : Kp (writeR R t s = (wrongR R t, R)) := ⟨by unfold writeR; rw [if_neg hw]⟩
    have p1 : (wrongR R t == 0) = false := by rw [beq_eq_false_iff_ne]; exact hw
    have H := Kp.mk h
    clear h ho hw
    generalize wrongR R t = e1 at *
    go_enter Try.func29, Try.ntmps29
    go_wp2_with fail
    refine HW.out.mono ?_
    rintro e w1 ⟨rfl, rfl⟩
    go_wp2
    go_ret
    exact ⟨by rw [hV.out] <;> rfl, by rw [hV.out]; exact H.out, Chg2.refl _ _ _⟩
end Go.Proofs.Ytimfchjjdifbiaa
