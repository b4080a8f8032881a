/- Back. -/
import Derived.Test.YtimfchjjdifbiaaDiskTapes
namespace Go.Proofs.Ytimfchjjdifbiaa
open Go.RowKit
set_option linter.unusedVariables false

theorem chg_drewN (w : World) (n g : Nat) : Chg w (w.drewN n) g := ⟨rfl, rfl, rfl, Nat.le_refl _, fun _ _ _ => rfl⟩
/-- How many loose bytes stay. -/
def keepN (z : Int) (m : Nat) : Nat := (z % 18446744073709551616).toNat % (m + 1)
def backN (kl : Nat) (kf : Nat → Int) (x : TapeV) (turn : Nat) : Nat := if turn < kl then keepN (kf turn) (x.b.size - x.firm) else 0
def backS (kl : Nat) (kf : Nat → Int) (x : TapeV) (turn : Nat) : TapeV × Nat :=
  if x.b.size = x.firm then (x, turn) else (⟨x.b.extract 0 (x.firm + backN kl kf x turn), x.firm + backN kl kf x turn⟩, turn + 1)
def backT (kl : Nat) (kf : Nat → Int) (tp : Nat → TapeV) : Nat → (Nat → TapeV) × Nat
  | 0 => (tp, 0)
  | k + 1 => (fun j => if j = k then (backS kl kf (tp k) (backT kl kf tp k).2).1 else (backT kl kf tp k).1 j, (backS kl kf (tp k) (backT kl kf tp k).2).2)
def backV (D : DiskV) (kl : Nat) (kf : Nat → Int) : DiskV := ⟨(backT kl kf D.tp 32).1, D.cap, false, 0, false⟩
theorem backT_ge (kl : Nat) (kf : Nat → Int) (tp : Nat → TapeV) : ∀ k j, k ≤ j → (backT kl kf tp k).1 j = tp j
  | 0, _, _ => rfl
  | k + 1, j, h => by
    show (if j = k then _ else (backT kl kf tp k).1 j) = tp j
    rw [if_neg (by omega)]
    exact backT_ge kl kf tp k j (by omega)
theorem backT_turn (kl : Nat) (kf : Nat → Int) (tp : Nat → TapeV) : ∀ k, (backT kl kf tp k).2 ≤ k
  | 0 => Nat.le_refl _
  | k + 1 => by
    have := backT_turn kl kf tp k
    show (backS kl kf (tp k) (backT kl kf tp k).2).2 ≤ k + 1
    unfold backS
    split <;> simp only [] <;> omega
theorem keepN_le (z : Int) (m : Nat) : keepN z m ≤ m := by
  unfold keepN
  have := Nat.mod_lt (z % 18446744073709551616).toNat (show 0 < m + 1 by omega)
  omega
theorem backN_le (kl : Nat) (kf : Nat → Int) (x : TapeV) (turn : Nat) : backN kl kf x turn ≤ x.b.size - x.firm := by
  unfold backN
  split
  · exact keepN_le _ _
  · omega
/-- The disk behind the first k tapes. -/
def backD (D : DiskV) (kl : Nat) (kf : Nat → Int) (k : Nat) : DiskV := { D with tp := (backT kl kf D.tp k).1 }
theorem backD_succ (D : DiskV) (kl : Nat) (kf : Nat → Int) (k : Nat) : backD D kl kf (k + 1) = setT (backD D kl kf k) k (backS kl kf (D.tp k) (backT kl kf D.tp k).2).1 := rfl
theorem extract_size (b : ByteArray) (n : Nat) (h : n ≤ b.size) : (b.extract 0 n).size = n := by simp only [ByteArray.size_extract]; omega
set_option maxRecDepth 20000 in
set_option maxHeartbeats 1000000 in
theorem Back_any (g : Nat) (D : DiskV) (ko : Option Addr) (kl kc : Nat) (kf : Nat → Int) (w : World) (h : DiskAt w g D) (ho : Ok D) (hkl : kl ≤ maxLen)
    (hk : ∀ W, Chg w W g → ∀ j, j < kl → ∃ a, ko = some a ∧ W.cell? (a.add j) = some (.int .i64 (kf j))) :
    Calls Try.prog 22 #[.pointer (some ⟨g, 0, none⟩), .slice ko kl kc] w fun e w' => e = .returned (.int .i64 0) ∧ DiskAt w' g (backV D kl kf) ∧ Chg w w' g := by
  unfold maxLen at hkl
  have HK := Kp.mk hk
  have HO := Kp.mk ho
  have H0 : Kp (DiskAt w g (backD D kl kf 0)) := ⟨h⟩
  clear h hk ho
  go_enter Try.func22, Try.ntmps22
  go_wp2
  go_loopw [5, 12] (fun tn i wr => ∃ k : Nat, i = .int .i64 k ∧ k ≤ 32 ∧ tn = .int .i64 (backT kl kf D.tp k).2 ∧ DiskAt wr g (backD D kl kf k) ∧ Chg w wr g) (fun _ i _ => 32 - (intOf i).toNat)
  case atStart => exact ⟨0, rfl, by omega, rfl, H0.out, Chg.refl _ _⟩
  case round =>
    obtain ⟨k, rfl, hk, rfl, hd, hc⟩ := hrel
    have HC := Kp.mk hc
    have HDk := Kp.mk hd
    by_cases hk2 : k < 32
    · have kb := hd.tb k hk2
      have kf' := hd.tf k hk2
      have fb := hd.free (k * 2)
      have hget : (backD D kl kf k).tp k = D.tp k := backT_ge kl kf D.tp k k (Nat.le_refl _)
      rw [hget] at kb kf'
      have h1 := HO.out.firm k hk2
      have h2 := HO.out.most k hk2
      have ht := backT_turn kl kf D.tp k
      have HSt := Kp.mk (backD_succ D kl kf k)
      have HT : Kp ((backT kl kf D.tp (k + 1)).2 = (backS kl kf (D.tp k) (backT kl kf D.tp k).2).2) := ⟨rfl⟩
      have HN := Kp.mk (backN_le kl kf (D.tp k) (backT kl kf D.tp k).2)
      have HNV : Kp (backN kl kf (D.tp k) (backT kl kf D.tp k).2 = if (backT kl kf D.tp k).2 < kl then keepN (kf (backT kl kf D.tp k).2) ((D.tp k).b.size - (D.tp k).firm) else 0) := ⟨rfl⟩
      have HG := Kp.mk hget
      clear hget
      have HSV : Kp (backS kl kf (D.tp k) (backT kl kf D.tp k).2 = if (D.tp k).b.size = (D.tp k).firm then (D.tp k, (backT kl kf D.tp k).2) else (⟨(D.tp k).b.extract 0 ((D.tp k).firm + backN kl kf (D.tp k) (backT kl kf D.tp k).2), (D.tp k).firm + backN kl kf (D.tp k) (backT kl kf D.tp k).2⟩, (backT kl kf D.tp k).2 + 1)) := ⟨rfl⟩
      have HKt := Kp.mk (HK.out wr HC.out (backT kl kf D.tp k).2)
      generalize (backT kl kf D.tp k).2 = tn at ht HSt HT HN HNV HSV HKt
      generalize backN kl kf (D.tp k) tn = n at HN HNV HSV
      generalize D.tp k = x at kb kf' h1 h2 HSt HT HN HNV HSV HG
      obtain ⟨b, f⟩ := x
      simp only [] at kb kf' h1 h2 HN HNV HSV
      have i1 : (0 : Int) ≤ (k : Int) := by omega
      have i2 : (k : Int) < 32 := by omega
      have n1 : IntKind.i64.wrap ((b.size : Int) - (f : Int)) = (b.size : Int) - (f : Int) := by rw [IntKind.wrap_i64]; omega
      clear hd hc
      by_cases he : b.size = f
      · have hz : ((b.size : Int) - (f : Int)) = 0 := by omega
        have hq : Kp (backD D kl kf (k + 1) = backD D kl kf k ∧ (backT kl kf D.tp (k + 1)).2 = tn) := ⟨by
          rw [HSt.out, HT.out, HSV.out, if_pos he]
          refine ⟨?_, rfl⟩
          show setT (backD D kl kf k) k ⟨b, f⟩ = _
          rw [← HG.out, setT_id]⟩
        have hz' : ((b.size : Int) - (f : Int) == 0) = true := by rw [beq_iff_eq]; exact hz
        clear hz he n1
        go_wp2_with fail
        go_quiet (fail)
        go_wp2
        go_roundw
        case rel => exact ⟨k + 1, by go_num, by omega, by rw [hq.out.2], by rw [hq.out.1]; exact HDk.out, ⟨HC.out.os, HC.out.tape, HC.out.output, HC.out.size, HC.out.block⟩⟩
        case measure => simp [intOf]; omega
      · obtain ⟨m, hm⟩ : ∃ m, b.size - f = m := ⟨_, rfl⟩
        have hm' : (b.size : Int) - (f : Int) = (m : Int) := by omega
        rw [hm] at HN HNV
        have hm1 : 1 ≤ m := by omega
        have hm2 : f + m = b.size := by omega
        have zf : ((b.size : Int) - (f : Int) == 0) = false := by rw [beq_eq_false_iff_ne]; omega
        have HM := Kp.mk hm'
        clear hm hm' n1
        rw [if_neg he] at HSV
        by_cases hlt : tn < kl
        · obtain ⟨a, rfl, hcell⟩ := HKt.out hlt
          rw [if_pos hlt] at HNV
          generalize kf tn = z at hcell HNV
          have q0 : decide ((tn : Int) < (kl : Int)) = true := by rw [decide_eq_true_eq]; omega
          have j1 : (0 : Int) ≤ (tn : Int) := by omega
          have j2 : (tn : Int) < (kl : Int) := by omega
          go_wp2_with fail
          go_quiet (fail)
          have nz : (IntKind.u64.wrap z).tmod ((b.size : Int) - (f : Int) + 1) = (n : Int) := by
            rw [HM.out, IntKind.wrap_u64, HNV.out, Int.tmod_eq_emod_of_nonneg (Int.emod_nonneg _ (by decide))]
            unfold keepN
            have h3 : (z % 18446744073709551616) = ((z % 18446744073709551616).toNat : Int) := by
              have := Int.emod_nonneg z (show (18446744073709551616 : Int) ≠ 0 by decide)
              omega
            generalize (z % 18446744073709551616).toNat = Z at h3 ⊢
            rw [h3, Int.natCast_emod, Int.natCast_add]
            rfl
          go_wp2
          have hn := HN.out
          have n3 : IntKind.i64.wrap (n : Int) = (n : Int) := by rw [IntKind.wrap_i64]; omega
          have n4 : IntKind.i64.wrap ((f : Int) + (n : Int)) = (f : Int) + (n : Int) := by rw [IntKind.wrap_i64]; omega
          have n5 : (0 : Int) ≤ (f : Int) + (n : Int) := by omega
          have n6 : (f : Int) + (n : Int) ≤ (b.size : Int) := by omega
          have n7 : ((f : Int) + (n : Int)).toNat = f + n := by omega
          go_region
          clear n3 n4 n5 n6 n7
          have HS1 := Kp.mk (fun q => DiskAt.set_b (w := wr.drewN q) HDk.out k hk2 (b.extract 0 (f + n)))
          go_wp2_with fail
          refine (sync_any g k _ _ (HS1.out _) hk2 (by rw [setT_same]; simp only [ByteArray.size_extract]; omega)).mono ?_
          rintro e w3 ⟨rfl, d3, c3⟩
          rw [setT_twice, setT_same] at d3
          simp only [extract_size b (f + n) (by omega)] at d3
          have H3 := Kp.mk d3
          have C3 : Kp (Chg w w3 g) := ⟨((HC.out.trans (chg_drewN wr _ g)).trans (Chg.set (wr.drewN _) g (k * 2) (.string (b.extract 0 (f + n))))).trans c3⟩
          clear d3 c3
          go_wp2
          go_roundw
          case rel => exact ⟨k + 1, by go_num, by omega, by rw [HT.out, HSV.out]; go_num, by rw [HSt.out, HSV.out]; exact H3.out, C3.out⟩
          case measure => simp [intOf]; omega
        · rw [if_neg hlt] at HNV
          obtain rfl : n = 0 := HNV.out
          have q0 : decide ((tn : Int) < (kl : Int)) = false := by rw [decide_eq_false_iff_not]; omega
          have q0' : decide (tn < kl) = false := by rw [decide_eq_false_iff_not]; omega
          go_wp2_with fail
          go_quiet (fail)
          go_wp2
          have n5 : (0 : Int) ≤ (f : Int) := by omega
          have n6 : (f : Int) ≤ (b.size : Int) := by omega
          go_region
          clear n5 n6
          have HS1 := Kp.mk (fun q => DiskAt.set_b (w := wr.drewN q) HDk.out k hk2 (b.extract 0 (f)))
          go_wp2_with fail
          refine (sync_any g k _ _ (HS1.out _) hk2 (by rw [setT_same]; simp only [ByteArray.size_extract]; omega)).mono ?_
          rintro e w3 ⟨rfl, d3, c3⟩
          rw [setT_twice, setT_same] at d3
          simp only [extract_size b (f) (by omega)] at d3
          have H3 := Kp.mk d3
          have C3 : Kp (Chg w w3 g) := ⟨((HC.out.trans (chg_drewN wr _ g)).trans (Chg.set (wr.drewN _) g (k * 2) (.string (b.extract 0 (f))))).trans c3⟩
          clear d3 c3
          go_wp2
          go_roundw
          case rel => exact ⟨k + 1, by go_num, by omega, by rw [HT.out, HSV.out]; go_num, by rw [HSt.out, HSV.out]; simp only [Nat.add_zero]; exact H3.out, C3.out⟩
          case measure => simp [intOf]; omega
    · obtain rfl : k = 32 := by omega
      have d65 := hd.c65
      have d66 := hd.c66
      have d67 := hd.c67
      have e65 := hd.free 65
      have e66 := hd.free 66
      have e67 := hd.free 67
      have HF := Kp.mk (((hd.set_c false).set_l 0).set_d false)
      clear hd hc
      go_wp2
      go_ret
      exact ⟨rfl, HF.out, ((HC.out.trans (Chg.set _ _ _ _)).trans (Chg.set _ _ _ _)).trans (Chg.set _ _ _ _)⟩
end Go.Proofs.Ytimfchjjdifbiaa
