/- The reference's disk: Back. -/
import Derived.Test.YtimfchjjdifbiaaDRefOps
import Derived.BigQuiet
namespace Go.Proofs.Ytimfchjjdifbiaa
open Go.RowKit
set_option linter.unusedVariables false

theorem backRT_ge (kl : Nat) (kf : Nat → Int) (f : Nat → ByteArray × ByteArray) : ∀ k j, k ≤ j → (backRT kl kf f k).1 j = f j
  | 0, _, _ => rfl
  | k + 1, j, h => by
    show (if j = k then _ else (backRT kl kf f k).1 j) = f j
    rw [if_neg (by omega)]
    exact backRT_ge kl kf f k j (by omega)
theorem backRT_turn (kl : Nat) (kf : Nat → Int) (f : Nat → ByteArray × ByteArray) : ∀ k, (backRT kl kf f k).2 ≤ k
  | 0 => Nat.le_refl _
  | k + 1 => by
    have := backRT_turn kl kf f k
    show (backRS kl kf (f k) (backRT kl kf f k).2).2 ≤ k + 1
    unfold backRS
    split <;> simp only [] <;> omega
theorem stayR_le (kl : Nat) (kf : Nat → Int) (m turn : Nat) : stayR kl kf m turn ≤ m := by
  unfold stayR
  split
  · exact keepN_le _ _
  · omega
/-- The disk behind the first k tapes. -/
def backRD (R : RefV) (kl : Nat) (kf : Nat → Int) (k : Nat) : RefV := { R with t := (backRT kl kf R.t k).1 }
theorem backRD_succ (R : RefV) (kl : Nat) (kf : Nat → Int) (k : Nat) : backRD R kl kf (k + 1) = setR (backRD R kl kf k) k (backRS kl kf (R.t k) (backRT kl kf R.t k).2).1 := rfl
set_option maxRecDepth 20000 in
set_option maxHeartbeats 1000000 in
theorem rBack_any (g q cp : Nat) (R : RefV) (ko : Option Addr) (kl kc : Nat) (kf : Nat → Int) (w : World) (h : RDAt w g q cp R) (ho : OkR R) (hkl : kl ≤ maxLen)
    (hk : ∀ W, Chg2 w W g q → ∀ j, j < kl → ∃ a, ko = some a ∧ W.cell? (a.add j) = some (.int .i64 (kf j))) :
    Calls Try.prog 35 #[.pointer (some ⟨g, 0, none⟩), .slice ko kl kc] w fun e w' => e = .returned (.tuple #[]) ∧ RDAt w' g q cp (backR R kl kf) ∧ Chg2 w w' g q := by
  unfold maxLen at hkl
  have HK := Kp.mk hk
  have HO := Kp.mk ho
  have H0 : Kp (RDAt w g q cp (backRD R kl kf 0)) := ⟨h⟩
  clear h hk ho
  go_enter Try.func35, Try.ntmps35
  go_wp2
  go_loopw [4, 5] (fun tn i wr => ∃ k : Nat, i = .int .i64 k ∧ k ≤ 32 ∧ tn = .int .i64 (backRT kl kf R.t k).2 ∧ RDAt wr g q cp (backRD R kl kf k) ∧ Chg2 w wr g q) (fun _ i _ => 32 - (intOf i).toNat)
  case atStart => exact ⟨0, rfl, by omega, rfl, H0.out, Chg2.refl _ _ _⟩
  case round =>
    obtain ⟨k, rfl, hk, rfl, hd, hc⟩ := hrel
    have HC := Kp.mk hc
    have HDk := Kp.mk hd
    have k0 := hd.c0
    by_cases hk2 : k < 32
    · have a1 := hd.a1 k hk2
      have a2 := hd.a2 k hk2
      have f1 := hd.freeq (k * 2) (by omega)
      have f2 := hd.freeq (k * 2 + 1) (by omega)
      have hget : (backRD R kl kf k).t k = R.t k := backRT_ge kl kf R.t k k (Nat.le_refl _)
      rw [hget] at a1 a2
      have hm := HO.out.most k hk2
      have ht := backRT_turn kl kf R.t k
      have HSt := Kp.mk (backRD_succ R kl kf k)
      have HT : Kp ((backRT kl kf R.t (k + 1)).2 = (backRS kl kf (R.t k) (backRT kl kf R.t k).2).2) := ⟨rfl⟩
      have HN := Kp.mk (stayR_le kl kf (R.t k).2.size (backRT kl kf R.t k).2)
      have HNV : Kp (stayR kl kf (R.t k).2.size (backRT kl kf R.t k).2 = if (backRT kl kf R.t k).2 < kl then keepN (kf (backRT kl kf R.t k).2) (R.t k).2.size else 0) := ⟨rfl⟩
      have HG := Kp.mk hget
      clear hget
      have HSV : Kp (backRS kl kf (R.t k) (backRT kl kf R.t k).2 = if (R.t k).2.size = 0 then (R.t k, (backRT kl kf R.t k).2) else (((R.t k).1 ++ (R.t k).2.extract 0 (stayR kl kf (R.t k).2.size (backRT kl kf R.t k).2), ⟨#[]⟩), (backRT kl kf R.t k).2 + 1)) := ⟨rfl⟩
      have HKt := Kp.mk (HK.out wr HC.out (backRT kl kf R.t k).2)
      generalize (backRT kl kf R.t k).2 = tn at ht HSt HT HN HNV HSV HKt
      generalize stayR kl kf (R.t k).2.size tn = n at HN HNV HSV
      generalize R.t k = p at a1 a2 hm HSt HT HN HNV HSV HG
      obtain ⟨x, y⟩ := p
      simp only [] at a1 a2 hm HN HNV HSV
      have i1 : (0 : Int) ≤ (k : Int) := by omega
      have i2 : (k : Int) < 32 := by omega
      have HP := Kp.mk (fun z => hd.putT k hk2 (x ++ y.extract 0 z) ⟨#[]⟩)
      clear hd hc
      by_cases he : y.size = 0
      · have hq : Kp (backRD R kl kf (k + 1) = backRD R kl kf k ∧ (backRT kl kf R.t (k + 1)).2 = tn) := ⟨by
          rw [HSt.out, HT.out, HSV.out, if_pos he]
          refine ⟨?_, rfl⟩
          show setR (backRD R kl kf k) k (x, y) = _
          rw [← HG.out]
          unfold setR
          cases hR : backRD R kl kf k
          simp only [RefV.mk.injEq, and_true]
          funext j
          split
          · rename_i e; rw [e]
          · rfl⟩
        have hz : ((y.size : Int) == 0) = true := by rw [beq_iff_eq]; omega
        clear he
        go_wp2
        go_roundw
        case rel => exact ⟨k + 1, by go_num, by omega, by rw [hq.out.2], by rw [hq.out.1]; exact HDk.out, HC.out⟩
        case measure => simp [intOf]; omega
      · have zf : ((y.size : Int) == 0) = false := by rw [beq_eq_false_iff_ne]; omega
        have hn0 : (0 : Int) ≤ (n : Int) := by omega
        have hn1 : (n : Int) ≤ (y.size : Int) := by have := HN.out; omega
        have hcat : ¬ 9223372036854775807 < x.size + (y.extract 0 n).size := by rw [extract_size y n HN.out]; have := HN.out; omega
        by_cases hlt : tn < kl
        · obtain ⟨a, rfl, hcell⟩ := HKt.out hlt
          rw [if_pos hlt] at HNV
          generalize kf tn = z at hcell HNV
          have q0 : decide ((tn : Int) < (kl : Int)) = true := by rw [decide_eq_true_eq]; omega
          have j1 : (0 : Int) ≤ (tn : Int) := by omega
          have j2 : (tn : Int) < (kl : Int) := by omega
          have nz : (IntKind.u64.wrap z).tmod ((y.size : Int) + 1) = (n : Int) := by
            rw [IntKind.wrap_u64, HNV.out, Int.tmod_eq_emod_of_nonneg (Int.emod_nonneg _ (by decide))]
            unfold keepN
            have h3 : (z % 18446744073709551616) = ((z % 18446744073709551616).toNat : Int) := by
              have := Int.emod_nonneg z (show (18446744073709551616 : Int) ≠ 0 by decide)
              omega
            generalize (z % 18446744073709551616).toNat = Z at h3 ⊢
            rw [h3, Int.natCast_emod, Int.natCast_add]
            rfl
          have n3 : IntKind.i64.wrap (n : Int) = (n : Int) := by rw [IntKind.wrap_i64]; omega
          go_wp2
          clear nz
          go_region
          all_goals go_wp2
          all_goals go_roundw
          case rel => exact ⟨k + 1, by go_num, by omega, by rw [HT.out, HSV.out, if_neg he]; go_num, by rw [HSt.out, HSV.out, if_neg he]; exact HP.out n, ((HC.out.trans (Chg2.setq _ _ _ _ _)).trans (Chg2.setq _ _ _ _ _)).dr⟩
          case measure => simp [intOf]; omega
        · rw [if_neg hlt] at HNV
          obtain rfl : n = 0 := HNV.out
          have hx0 : x ++ y.extract 0 0 = x := by
            rw [show y.extract 0 0 = ⟨#[]⟩ from by apply ByteArray.ext; apply Array.ext'; simp]
            exact ByteArray.append_empty
          have q0 : decide ((tn : Int) < (kl : Int)) = false := by rw [decide_eq_false_iff_not]; omega
          have q0' : decide (tn < kl) = false := by rw [decide_eq_false_iff_not]; omega
          go_wp2
          go_region
          all_goals go_wp2
          all_goals go_roundw
          case rel => exact ⟨k + 1, by go_num, by omega, by rw [HT.out, HSV.out, if_neg he]; go_num, by rw [HSt.out, HSV.out, if_neg he]; show RDAt _ g q cp (setR _ k (x ++ y.extract 0 0, ⟨#[]⟩)); have H0 := HP.out 0; rw [hx0] at H0 ⊢; exact H0, ((HC.out.trans (Chg2.setq _ _ _ _ _)).trans (Chg2.setq _ _ _ _ _)).dr⟩
          case measure => simp [intOf]; omega
    · obtain rfl : k = 32 := by omega
      have e2 := hd.free 2
      have e3 := hd.free 3
      have k2 := hd.c2
      have k3 := hd.c3
      have HF := Kp.mk ((hd.set_dark false).set_left (-1))
      clear hd hc
      go_wp2
      go_end0
      exact ⟨rfl, HF.out, (HC.out.trans (Chg2.setg _ _ _ _ _)).trans (Chg2.setg _ _ _ _ _)⟩
end Go.Proofs.Ytimfchjjdifbiaa
