/- Back. -/
import Derived.Test.YtpfoekfbcpinlaaGreatDoorDiskTapes
namespace Go.Proofs.YtpfoekfbcpinlaaGreatDoor
open Go.RowKit
set_option linter.unusedVariables false

theorem chg_drewN (w : World) (n g : Nat) : Chg w (w.drewN n) g := ⟨rfl, rfl, rfl, Nat.le_refl _, fun _ _ _ => rfl⟩
/-- How many loose bytes stay. -/
def keepN (z : Int) (m : Nat) : Nat := (z % 18446744073709551616).toNat % (m + 1)
def backN (kl : Nat) (kf : Nat → Int) (x : TapeV) (turn : Nat) : Nat := if turn < kl then keepN (kf turn) (x.b.size - x.firm) else 0
def backS (kl : Nat) (kf : Nat → Int) (x : TapeV) (turn : Nat) : TapeV × Nat :=
  if x.b.size = x.firm then (x, turn) else (⟨x.b.extract 0 (x.firm + backN kl kf x turn), x.firm + backN kl kf x turn⟩, turn + 1)
def backT (kl : Nat) (kf : Nat → Int) (tp : Nat → TapeV) : Nat → (Nat → TapeV) × Nat
  | 0 => (tp, 0)
  | k + 1 => (fun j => if j = k then (backS kl kf (tp k) (backT kl kf tp k).2).1 else (backT kl kf tp k).1 j, (backS kl kf (tp k) (backT kl kf tp k).2).2)
def backV (D : DiskV) (kl : Nat) (kf : Nat → Int) : DiskV := ⟨(backT kl kf D.tp 32).1, D.cap, false, 0, false⟩
theorem backT_ge (kl : Nat) (kf : Nat → Int) (tp : Nat → TapeV) : ∀ k j, k ≤ j → (backT kl kf tp k).1 j = tp j
  | 0, _, _ => rfl
  | k + 1, j, h => by
    show (if j = k then _ else (backT kl kf tp k).1 j) = tp j
    rw [if_neg (by omega)]
    exact backT_ge kl kf tp k j (by omega)
theorem backT_turn (kl : Nat) (kf : Nat → Int) (tp : Nat → TapeV) : ∀ k, (backT kl kf tp k).2 ≤ k
  | 0 => Nat.le_refl _
  | k + 1 => by
    have := backT_turn kl kf tp k
    show (backS kl kf (tp k) (backT kl kf tp k).2).2 ≤ k + 1
    unfold backS
    split <;> simp only [] <;> omega
theorem keepN_le (z : Int) (m : Nat) : keepN z m ≤ m := by
  unfold keepN
  have := Nat.mod_lt (z % 18446744073709551616).toNat (show 0 < m + 1 by omega)
  omega
theorem backN_le (kl : Nat) (kf : Nat → Int) (x : TapeV) (turn : Nat) : backN kl kf x turn ≤ x.b.size - x.firm := by
  unfold backN
  split
  · exact keepN_le _ _
  · omega
/-- The disk behind the first k tapes. -/
def backD (D : DiskV) (kl : Nat) (kf : Nat → Int) (k : Nat) : DiskV := { D with tp := (backT kl kf D.tp k).1 }
theorem backD_succ (D : DiskV) (kl : Nat) (kf : Nat → Int) (k : Nat) : backD D kl kf (k + 1) = setT (backD D kl kf k) k (backS kl kf (D.tp k) (backT kl kf D.tp k).2).1 := rfl
theorem extract_size (b : ByteArray) (n : Nat) (h : n ≤ b.size) : (b.extract 0 n).size = n := by simp only [ByteArray.size_extract]; omega
set_option maxRecDepth 20000 in
set_option maxHeartbeats 1000000 in
theorem Back_any (g : Nat) (D : DiskV) (ko : Option Addr) (kl kc : Nat) (kf : Nat → Int) (w : World) (h : DiskAt w g D) (ho : Ok D) (hkl : kl ≤ maxLen)
    (hk : ∀ W, Chg w W g → ∀ j, j < kl → ∃ a, ko = some a ∧ W.cell? (a.add j) = some (.int .i64 (kf j))) :
    Calls Tryz.prog 38 #[.pointer (some ⟨g, 0, none⟩), .slice ko kl kc] w fun e w' => e = .returned (.int .i64 0) ∧ DiskAt w' g (backV D kl kf) ∧ Chg w w' g := by
  unfold maxLen at hkl
  have HK := Kp.mk hk
  have HO := Kp.mk ho
  have H0 : Kp (DiskAt w g (backD D kl kf 0)) := ⟨h⟩
  clear h hk ho
  go_enter Tryz.func38, Tryz.ntmps38
  go_wp2
  go_loopw [5, 12] (fun tn i wr => ∃ k : Nat, i = .int .i64 k ∧ k ≤ 32 ∧ tn = .int .i64 (backT kl kf D.tp k).2 ∧ DiskAt wr g (backD D kl kf k) ∧ Chg w wr g) (fun _ i _ => 32 - (intOf i).toNat)
  case atStart => exact ⟨0, rfl, by omega, rfl, H0.out, Chg.refl _ _⟩
  case round =>
    obtain ⟨k, rfl, hk, rfl, hd, hc⟩ := hrel
    have HC := Kp.mk hc
    have HDk := Kp.mk hd
    by_cases hk2 : k < 32
    · have kb := hd.tb k hk2
      have kf' := hd.tf k hk2
      have fb := hd.free (k * 2)
      have hget : (backD D kl kf k).tp k = D.tp k := backT_ge kl kf D.tp k k (Nat.le_refl _)
      rw [hget] at kb kf'
      have h1 := HO.out.firm k hk2
      have h2 := HO.out.most k hk2
      have ht := backT_turn kl kf D.tp k
      have HSt := Kp.mk (backD_succ D kl kf k)
      have HT : Kp ((backT kl kf D.tp (k + 1)).2 = (backS kl kf (D.tp k) (backT kl kf D.tp k).2).2) := ⟨rfl⟩
      have HN := Kp.mk (backN_le kl kf (D.tp k) (backT kl kf D.tp k).2)
      have HNV : Kp (backN kl kf (D.tp k) (backT kl kf D.tp k).2 = if (backT kl kf D.tp k).2 < kl then keepN (kf (backT kl kf D.tp k).2) ((D.tp k).b.size - (D.tp k).firm) else 0) := ⟨rfl⟩
      have HG := Kp.mk hget
      clear hget
      have HSV : Kp (backS kl kf (D.tp k) (backT kl kf D.tp k).2 = if (D.tp k).b.size = (D.tp k).firm then (D.tp k, (backT kl kf D.tp k).2) else (⟨(D.tp k).b.extract 0 ((D.tp k).firm + backN kl kf (D.tp k) (backT kl kf D.tp k).2), (D.tp k).firm + backN kl kf (D.tp k) (backT kl kf D.tp k).2⟩, (backT kl kf D.tp k).2 + 1)) := ⟨rfl⟩
      have HKt := Kp.mk (HK.out wr HC.out (backT kl kf D.tp k).2)
      generalize (backT kl kf D.tp k).2 = tn at ht HSt HT HN HNV HSV HKt
      generalize backN kl kf (D.tp k) tn = n at HN HNV HSV
      generalize D.tp k = x at kb kf' h1 h2 HSt HT HN HNV HSV HG
      obtain ⟨b, f⟩ := x
      simp only [] at kb kf' h1 h2 HN HNV HSV
      have i1 : (0 : Int) ≤ (k : Int) := by omega
      have i2 : (k : Int) < 32 := by omega
      have n1 : IntKind.i64.wrap ((b.size : Int) - (f : Int)) = (b.size : Int) - (f : Int) := by rw [IntKind.wrap_i64]; omega
      clear hd hc
      by_cases he : b.size = f
      · have hz : ((b.size : Int) - (f : Int)) = 0 := by omega
        have hq : Kp (backD D kl kf (k + 1) = backD D kl kf k ∧ (backT kl kf D.tp (k + 1)).2 = tn) := ⟨by
          rw [HSt.out, HT.out, HSV.out, if_pos he]
          refine ⟨?_, rfl⟩
          show setT (backD D kl kf k) k ⟨b, f⟩ = _
          rw [← HG.out, setT_id]⟩
        have hz' : ((b.size : Int) - (f : Int) == 0) = true := by rw [beq_iff_eq]; exact hz
        clear hz he n1
        go_wp2_with fail
        go_quiet (fail)
        go_wp2
        go_roundw
        case rel => exact ⟨k + 1, by go_num, by omega, by rw [hq.out.2], by rw [hq.out.1]; exact HDk.out, ⟨HC.out.os, HC.out.tape, HC.out.output, HC.out.size, HC.out.block⟩⟩
        case measure => simp [intOf]; omega
      · obtain ⟨m, hm⟩ : ∃ m, b.size - f = m := ⟨_, rfl⟩
        have hm' : (b.size : Int) - (f : Int) = (m : Int) := by omega
        rw [hm] at HN HNV
        have hm1 : 1 ≤ m := by omega
        have hm2 : f + m = b.size := by omega
        have zf : ((b.size : Int) - (f : Int) == 0) = false := by rw [beq_eq_false_iff_ne]; omega
        have HM := Kp.mk hm'
        clear hm hm' n1
        rw [if_neg he] at HSV
        by_cases hlt : tn < kl
        · obtain ⟨a, rfl, hcell⟩ := HKt.out hlt
          rw [if_pos hlt] at HNV
          generalize kf tn = z at hcell HNV
          have q0 : decide ((tn : Int) < (kl : Int)) = true := by rw [decide_eq_true_eq]; omega
          have j1 : (0 : Int) ≤ (tn : Int) := by omega
          have j2 : (tn : Int) < (kl : Int) := by omega
          go_wp2_with fail
          go_quiet (fail)
          have nz : (IntKind.u64.wrap z).tmod ((b.size : Int) - (f : Int) + 1) = (n : Int) := by
            rw [HM.out, IntKind.wrap_u64, HNV.out, Int.tmod_eq_emod_of_nonneg (Int.emod_nonneg _ (by decide))]
            unfold keepN
            have h3 : (z % 18446744073709551616) = ((z % 18446744073709551616).toNat : Int) := by
              have := Int.emod_nonneg z (show (18446744073709551616 : Int) ≠ 0 by decide)
              omega
            generalize (z % 18446744073709551616).toNat = Z at h3 ⊢
            rw [h3, Int.natCast_emod, Int.natCast_add]
            rfl
          go_wp2
          have hn := HN.out
          have n3 : IntKind.i64.wrap (n : Int) = (n : Int) := by rw [IntKind.wrap_i64]; omega
          have n4 : IntKind.i64.wrap ((f : Int) + (n : Int)) = (f : Int) + (n : Int) := by rw [IntKind.wrap_i64]; omega
          have n5 : (0 : Int) ≤ (f : Int) + (n : Int) := by omega
          have n6 : (f : Int) + (n : Int) ≤ (b.size : Int) := by omega
          have n7 : ((f : Int) + (n : Int)).toNat = f + n := by omega
          go_region
          clear n3 n4 n5 n6 n7
          have HS1 := Kp.mk (fun q => DiskAt.set_b (w := wr.drewN q) HDk.out k hk2 (b.extract 0 (f + n)))
          go_wp2_with fail
          refine (sync_any g k _ _ (HS1.out _) hk2 (by rw [setT_same]; simp only [ByteArray.size_extract]; omega)).mono ?_
          rintro e w3 ⟨rfl, d3, c3⟩
          rw [setT_twice, setT_same] at d3
          simp only [extract_size b (f + n) (by omega)] at d3
          have H3 := Kp.mk d3
          have C3 : Kp (Chg w w3 g) := ⟨((HC.out.trans (chg_drewN wr _ g)).trans (Chg.set (wr.drewN _) g (k * 2) (.string (b.extract 0 (f + n))))).trans c3⟩
          clear d3 c3
          go_wp2
          go_roundw
          case rel => exact ⟨k + 1, by go_num, by omega, by rw [HT.out, HSV.out]; go_num, by rw [HSt.out, HSV.out]; exact H3.out, C3.out⟩
          case measure => simp [intOf]; omega
        · rw [if_neg hlt] at HNV
          obtain rfl : n = 0 := HNV.out
          have q0 : decide ((tn : Int) < (kl : Int)) = false := by rw [decide_eq_false_iff_not]; omega
          have q0' : decide (tn < kl) = false := by rw [decide_eq_false_iff_not]; omega
          go_wp2_with fail
          go_quiet (fail)
          go_wp2
          have n5 : (0 : Int) ≤ (f : Int) := by omega
          have n6 : (f : Int) ≤ (b.size : Int) := by omega
          go_region
          clear n5 n6
          have HS1 := Kp.mk (fun q => DiskAt.set_b (w := wr.drewN q) HDk.out k hk2 (b.extract 0 (f)))
          go_wp2_with fail
          refine (sync_any g k _ _ (HS1.out _) hk2 (by rw [setT_same]; simp only [ByteArray.size_extract]; omega)).mono ?_
          rintro e w3 ⟨rfl, d3, c3⟩
          rw [setT_twice, setT_same] at d3
          simp only [extract_size b (f) (by omega)] at d3
          have H3 := Kp.mk d3
          have C3 : Kp (Chg w w3 g) := ⟨((HC.out.trans (chg_drewN wr _ g)).trans (Chg.set (wr.drewN _) g (k * 2) (.string (b.extract 0 (f))))).trans c3⟩
          clear d3 c3
          go_wp2
          go_roundw
          case rel => exact ⟨k + 1, by go_num, by omega, by rw [HT.out, HSV.out]; go_num, by rw [HSt.out, HSV.out]; simp only [Nat.add_zero]; exact H3.out, C3.out⟩
          case measure => simp [intOf]; omega
    · obtain rfl : k = 32 := by omega
      have d65 := hd.c65
      have d66 := hd.c66
      have d67 := hd.c67
      have e65 := hd.free 65
      have e66 := hd.free 66
      have e67 := hd.free 67
      have HF := Kp.mk (((hd.set_c false).set_l 0).set_d false)
      clear hd hc
      go_wp2
      go_ret
      exact ⟨rfl, HF.out, ((HC.out.trans (Chg.set _ _ _ _)).trans (Chg.set _ _ _ _)).trans (Chg.set _ _ _ _)⟩
end Go.Proofs.YtpfoekfbcpinlaaGreatDoor
/- Load, New. -/
namespace Go.Proofs.YtpfoekfbcpinlaaGreatDoor
open Go.RowKit
set_option linter.unusedVariables false

/-- A new disk's cells. -/
def zeroCells : Array Value := #[.string ⟨#[]⟩, .int .i64 0, .string ⟨#[]⟩, .int .i64 0, .string ⟨#[]⟩, .int .i64 0, .string ⟨#[]⟩, .int .i64 0, .string ⟨#[]⟩, .int .i64 0, .string ⟨#[]⟩, .int .i64 0, .string ⟨#[]⟩, .int .i64 0, .string ⟨#[]⟩, .int .i64 0, .string ⟨#[]⟩, .int .i64 0, .string ⟨#[]⟩, .int .i64 0, .string ⟨#[]⟩, .int .i64 0, .string ⟨#[]⟩, .int .i64 0, .string ⟨#[]⟩, .int .i64 0, .string ⟨#[]⟩, .int .i64 0, .string ⟨#[]⟩, .int .i64 0, .string ⟨#[]⟩, .int .i64 0, .string ⟨#[]⟩, .int .i64 0, .string ⟨#[]⟩, .int .i64 0, .string ⟨#[]⟩, .int .i64 0, .string ⟨#[]⟩, .int .i64 0, .string ⟨#[]⟩, .int .i64 0, .string ⟨#[]⟩, .int .i64 0, .string ⟨#[]⟩, .int .i64 0, .string ⟨#[]⟩, .int .i64 0, .string ⟨#[]⟩, .int .i64 0, .string ⟨#[]⟩, .int .i64 0, .string ⟨#[]⟩, .int .i64 0, .string ⟨#[]⟩, .int .i64 0, .string ⟨#[]⟩, .int .i64 0, .string ⟨#[]⟩, .int .i64 0, .string ⟨#[]⟩, .int .i64 0, .string ⟨#[]⟩, .int .i64 0, .int .i64 0, .bool false, .int .i64 0, .bool false]
def newCells (c : Int) : Array Value := zeroCells.setIfInBounds 64 (.int .i64 c)
def blank : TapeV := ⟨⟨#[]⟩, 0⟩
theorem zero_size : zeroCells.size = 68 := rfl
set_option maxRecDepth 20000 in
theorem zero_lay : Lay ⟨fun _ => blank, 0, false, 0, false⟩ zeroCells :=
  ⟨rfl, fun t ht => match t, ht with
    | 0, _ => ⟨rfl, rfl⟩
    | 1, _ => ⟨rfl, rfl⟩
    | 2, _ => ⟨rfl, rfl⟩
    | 3, _ => ⟨rfl, rfl⟩
    | 4, _ => ⟨rfl, rfl⟩
    | 5, _ => ⟨rfl, rfl⟩
    | 6, _ => ⟨rfl, rfl⟩
    | 7, _ => ⟨rfl, rfl⟩
    | 8, _ => ⟨rfl, rfl⟩
    | 9, _ => ⟨rfl, rfl⟩
    | 10, _ => ⟨rfl, rfl⟩
    | 11, _ => ⟨rfl, rfl⟩
    | 12, _ => ⟨rfl, rfl⟩
    | 13, _ => ⟨rfl, rfl⟩
    | 14, _ => ⟨rfl, rfl⟩
    | 15, _ => ⟨rfl, rfl⟩
    | 16, _ => ⟨rfl, rfl⟩
    | 17, _ => ⟨rfl, rfl⟩
    | 18, _ => ⟨rfl, rfl⟩
    | 19, _ => ⟨rfl, rfl⟩
    | 20, _ => ⟨rfl, rfl⟩
    | 21, _ => ⟨rfl, rfl⟩
    | 22, _ => ⟨rfl, rfl⟩
    | 23, _ => ⟨rfl, rfl⟩
    | 24, _ => ⟨rfl, rfl⟩
    | 25, _ => ⟨rfl, rfl⟩
    | 26, _ => ⟨rfl, rfl⟩
    | 27, _ => ⟨rfl, rfl⟩
    | 28, _ => ⟨rfl, rfl⟩
    | 29, _ => ⟨rfl, rfl⟩
    | 30, _ => ⟨rfl, rfl⟩
    | 31, _ => ⟨rfl, rfl⟩
    | n + 32, h => absurd h (by omega), rfl, rfl, rfl, rfl⟩
theorem newCells_lay (c : Int) : Lay ⟨fun _ => blank, c, false, 0, false⟩ (newCells c) := by
  obtain ⟨h0, h1, h2, h3, h4, h5⟩ := zero_lay
  unfold newCells
  refine ⟨by simpa using h0, fun k hk => ?_, ?_, ?_, ?_, ?_⟩
  · rw [get_set _ _ _ _ (by omega), get_set _ _ _ _ (by omega), if_neg (by omega), if_neg (by omega)]
    exact h1 k hk
  · rw [get_set _ _ _ _ (by omega), if_pos rfl]
  · rw [get_set _ _ _ _ (by omega), if_neg (by omega)]; exact h3
  · rw [get_set _ _ _ _ (by omega), if_neg (by omega)]; exact h4
  · rw [get_set _ _ _ _ (by omega), if_neg (by omega)]; exact h5
theorem zero_disk (w : World) : (zeroValue 90).run Tryz.prog w = .ok (.agg zeroCells) w := by kernel_rfl
/-- The tapes that are loaded. -/
def loadT (f : Nat → ByteArray × ByteArray) (k : Nat) (t : Nat) : TapeV := if t < k then ⟨(f t).1 ++ (f t).2, (f t).1.size⟩ else blank
def loadD (f : Nat → ByteArray × ByteArray) (c : Int) (k : Nat) : DiskV := ⟨loadT f k, c, false, 0, false⟩
theorem loadD_succ (f : Nat → ByteArray × ByteArray) (c : Int) (k : Nat) : loadD f c (k + 1) = setT (loadD f c k) k ⟨(f k).1 ++ (f k).2, (f k).1.size⟩ := by
  unfold loadD setT
  simp only [DiskV.mk.injEq, and_true]
  funext t
  unfold loadT
  by_cases h : t = k
  · subst h; rw [if_pos (by omega), if_pos rfl]
  · rw [if_neg h]
    by_cases h2 : t < k
    · rw [if_pos (by omega), if_pos h2]
    · rw [if_neg (by omega), if_neg h2]
def big (f : Nat → ByteArray × ByteArray) (len : Nat) : Prop := ∃ i, i < len ∧ 1048576 < (f i).1.size + (f i).2.size
theorem load_most (f : Nat → ByteArray × ByteArray) (k : Nat) (h : ¬ big f k) : ∀ t, (loadT f k t).b.size ≤ 1048576 := by
  intro t
  unfold loadT
  split
  · rename_i ht
    rcases Nat.lt_or_ge 1048576 ((f t).1.size + (f t).2.size) with h1 | h1
    · exact absurd ⟨t, ht, h1⟩ h
    · simpa using h1
  · exact Nat.zero_le _
theorem load_ok (f : Nat → ByteArray × ByteArray) (c : Int) (k : Nat) (h : ¬ big f k) (h0 : 0 ≤ c) (h1 : c ≤ 9223372036854775807) (hr : (used (loadT f k) 32 : Int) ≤ c) : Ok (loadD f c k) :=
  ⟨fun t _ => by
    show (loadT f k t).firm ≤ (loadT f k t).b.size
    unfold loadT
    split
    · simp
    · exact Nat.le_refl _, fun t _ => load_most f k h t, h0, h1, hr, (by decide : (-1 : Int) ≤ 0), (by decide : (0 : Int) ≤ 9223372036854775807), fun h => by cases h⟩
/-- A row of tapes that came in: it can be read whatever is laid behind it. -/
def TapesIn (w : World) (ao : Option Addr) (len : Nat) (f : Nat → ByteArray × ByteArray) : Prop :=
  ∀ W, Below w.heap.size w W → ∀ i, i < len → ∃ a, ao = some a ∧ (f i).1.size ≤ 1099511627776 ∧ (f i).2.size ≤ 1099511627776 ∧ W.cell? (a.add (i * 2)) = some (.string (f i).1) ∧ W.cell? ⟨(a.add (i * 2)).block, (a.add (i * 2)).off + 1, none⟩ = some (.string (f i).2)
theorem Load_arg (c : Int) (ao : Option Addr) (len cap : Nat) (w : World) (hl : len ≤ maxLen) (h : c < 0 ∨ 32 < len) :
    Calls Tryz.prog 30 #[.int .i64 c, .slice ao len cap] w fun e w' => e = .returned (.tuple #[.pointer none, .int .i64 1]) ∧ w = w' := by
  unfold maxLen at hl
  by_cases h0 : c < 0
  · have p1 : decide (c < 0) = true := by rw [decide_eq_true_eq]; exact h0
    clear h
    go_enter Tryz.func30, Tryz.ntmps30
    go_wp2
    go_ret2
    exact ⟨rfl, rfl⟩
  · have p1 : decide (c < 0) = false := by rw [decide_eq_false_iff_not]; exact h0
    have p2 : decide ((32 : Int) < (len : Int)) = true := by rw [decide_eq_true_eq]; omega
    have p2' : decide (32 < len) = true := by rw [decide_eq_true_eq]; omega
    clear h
    go_enter Tryz.func30, Tryz.ntmps30
    go_wp2
    go_ret2
    exact ⟨rfl, rfl⟩
/-- What Load answers behind its first test. -/
def loadV (f : Nat → ByteArray × ByteArray) (c : Int) (len : Nat) (e : Ending) (w w' : World) : Prop :=
  (big f len ∧ e = .returned (.tuple #[.pointer none, .int .i64 40])) ∨ (¬ big f len ∧ c < used (loadT f len) 32 ∧ e = .returned (.tuple #[.pointer none, .int .i64 44])) ∨
    (¬ big f len ∧ (used (loadT f len) 32 : Int) ≤ c ∧ e = .returned (.tuple #[.pointer (some ⟨w.heap.size, 0, none⟩), .int .i64 0]) ∧ DiskAt w' w.heap.size (loadD f c len))
set_option maxRecDepth 20000 in
set_option maxHeartbeats 1000000 in
theorem Load_go (c : Int) (ao : Option Addr) (len cap : Nat) (f : Nat → ByteArray × ByteArray) (w : World) (hl : len ≤ 32) (h0 : 0 ≤ c) (h1 : c ≤ 9223372036854775807) (hf : TapesIn w ao len f) :
    Calls Tryz.prog 30 #[.int .i64 c, .slice ao len cap] w fun e w' => loadV f c len e w w' ∧ Below w.heap.size w w' := by
  have p1 : decide (c < 0) = false := by rw [decide_eq_false_iff_not]; omega
  have p2 : decide ((32 : Int) < (len : Int)) = false := by rw [decide_eq_false_iff_not]; omega
  have p2' : decide (32 < len) = false := by rw [decide_eq_false_iff_not]; omega
  have HF := Kp.mk hf
  have D0 : Kp (DiskAt (w.alloc (.cells (newCells c) 90)) w.heap.size (loadD f c 0)) := ⟨⟨_, heap_alloc_new w _, newCells_lay c⟩⟩
  have B0 : Kp (Below w.heap.size w (w.alloc (.cells (newCells c) 90))) := ⟨(Below.refl _ _).alloc (Nat.le_refl _) _⟩
  unfold newCells at D0 B0
  clear hf
  have hz1 := zero_disk
  have hz2 := zero_size
  go_enter Tryz.func30, Tryz.ntmps30
  go_wp2
  clear hz1 hz2 p1 p2 p2'
  generalize zeroCells.setIfInBounds 64 (.int .i64 c) = Z at D0 B0 ⊢
  generalize w.alloc (.cells Z 90) = w0 at D0 B0 ⊢
  go_loopw [25] (fun i wr => ∃ k : Nat, i = .int .i64 k ∧ k ≤ len ∧ ¬ big f k ∧ DiskAt wr w.heap.size (loadD f c k) ∧ Below w.heap.size w wr) (fun i _ => len - (intOf i).toNat)
  case atStart => exact ⟨0, rfl, by omega, fun ⟨i, hi, _⟩ => absurd hi (Nat.not_lt_zero i), D0.out, B0.out⟩
  case round =>
    obtain ⟨k, rfl, hk, hnb, hd, hb⟩ := hrel
    have HD := Kp.mk hd
    have HB := Kp.mk hb
    have HNB := Kp.mk hnb
    by_cases hk2 : k < len
    · obtain ⟨a, rfl, z1, z2, y1, y2⟩ := HF.out _ hb k hk2
      have HS := Kp.mk (loadD_succ f c k)
      have HBig : Kp (1048576 < (f k).1.size + (f k).2.size → big f len) := ⟨fun h => ⟨k, hk2, h⟩⟩
      have HNB2 : Kp (¬ 1048576 < (f k).1.size + (f k).2.size → ¬ big f (k + 1)) := ⟨fun h ⟨i, hi, h3⟩ => by
        by_cases e : i = k
        · subst e; exact h h3
        · exact HNB.out ⟨i, by omega, h3⟩⟩
      generalize f k = p at z1 z2 y1 y2 HS HBig HNB2
      obtain ⟨x, y⟩ := p
      simp only [] at z1 z2 y1 y2 HS HBig HNB2
      have j1 : (0 : Int) ≤ (k : Int) := by omega
      have j2 : (k : Int) < (len : Int) := by omega
      have j3 : (k : Int) < 32 := by omega
      have y1' : ∀ o, (wr.alloc o).cell? (a.add (k * 2)) = some (.string x) := fun o => by rw [World.cell?_alloc_lt _ _ _ (World.block_lt_of_cell? _ _ y1)]; exact y1
      have y2' : ∀ o, (wr.alloc o).cell? ⟨(a.add (k * 2)).block, (a.add (k * 2)).off + 1, none⟩ = some (.string y) := fun o => by rw [World.cell?_alloc_lt _ _ _ (World.block_lt_of_cell? _ _ y2)]; exact y2
      have HDA := Kp.mk (fun o => hd.alloc o)
      have hgz := hd.lt
      clear hd hb hnb
      by_cases hbig : 1048576 < x.size + y.size
      · have q1 : decide ((1048576 : Int) < (x.size : Int) + (y.size : Int)) = true := by rw [decide_eq_true_eq]; omega
        go_wp2
        go_ret2
        exact ⟨.inl ⟨HBig.out hbig, rfl⟩, HB.out.alloc HB.out.size _⟩
      · have q1 : decide ((1048576 : Int) < (x.size : Int) + (y.size : Int)) = false := by rw [decide_eq_false_iff_not]; omega
        obtain ⟨e1, s1⟩ : ∃ e, wr.cell? ⟨w.heap.size, k * 2, none⟩ = some (.string e) := ⟨_, HD.out.tb k (by omega)⟩
        obtain ⟨e2, s2⟩ : ∃ e : Nat, wr.cell? ⟨w.heap.size, k * 2 + 1, none⟩ = some (.int .i64 e) := ⟨_, HD.out.tf k (by omega)⟩
        have r1 := HD.out.free (k * 2)
        have r2 := HD.out.free (k * 2 + 1)
        have hne : ¬ w.heap.size = wr.heap.size := by omega
        have hne' : ¬ wr.heap.size = w.heap.size := by omega
        go_wp2
        have hcat : ¬ 9223372036854775807 < x.size + y.size := by omega
        have u0 : ∀ A B C, (((wr.setCell ⟨w.heap.size, k * 2, none⟩ A).setCell ⟨w.heap.size, k * 2 + 1, none⟩ B).alloc (.cells #[.string x, .string y] C)).cell? ⟨wr.heap.size, 0, none⟩ = some (.string x) := fun A B C => by
          have h1 := heap_alloc_new ((wr.setCell ⟨w.heap.size, k * 2, none⟩ A).setCell ⟨w.heap.size, k * 2 + 1, none⟩ B) (.cells #[.string x, .string y] C)
          rw [show ((wr.setCell ⟨w.heap.size, k * 2, none⟩ A).setCell ⟨w.heap.size, k * 2 + 1, none⟩ B).heap.size = wr.heap.size from by simp] at h1
          exact cell_of_row _ _ _ _ _ _ h1
        have u1 : ∀ A B C, (((wr.setCell ⟨w.heap.size, k * 2, none⟩ A).setCell ⟨w.heap.size, k * 2 + 1, none⟩ B).alloc (.cells #[.string x, .string y] C)).cell? ⟨wr.heap.size, 1, none⟩ = some (.string y) := fun A B C => by
          have h1 := heap_alloc_new ((wr.setCell ⟨w.heap.size, k * 2, none⟩ A).setCell ⟨w.heap.size, k * 2 + 1, none⟩ B) (.cells #[.string x, .string y] C)
          rw [show ((wr.setCell ⟨w.heap.size, k * 2, none⟩ A).setCell ⟨w.heap.size, k * 2 + 1, none⟩ B).heap.size = wr.heap.size from by simp] at h1
          exact cell_of_row _ _ _ _ _ _ h1
        go_region_held3 (fun w' => w'.cell? ⟨wr.heap.size, 0, none⟩ = some (.string x) ∧ w'.cell? ⟨wr.heap.size, 1, none⟩ = some (.string y)) (go_keep) (fail)
        go_wp2
        go_roundw
        case rel => exact ⟨k + 1, by go_num, by omega, HNB2.out hbig, by rw [HS.out]; exact (HD.out.set_t k (by omega) _ _).alloc _, (((HB.out.setCell (p := ⟨w.heap.size, k * 2, none⟩) (Nat.le_refl _) _).setCell (p := ⟨w.heap.size, k * 2 + 1, none⟩) (Nat.le_refl _) _).alloc (by simpa using HB.out.size) _).drew⟩
        case measure => simp [intOf]; omega
    · obtain rfl : k = len := by omega
      obtain ⟨cs, hcs, hlay⟩ := hd
      have HR : Kp (wr.rangeAt w.heap.size 0 (cs.extract 0 64).toList) := ⟨by have := World.rangeAt_of_block hcs 0 64; simpa using this⟩
      have HI := Kp.mk (fun t ht wx => tape_index hlay t ht wx)
      have HS : Kp ((Tryz.prog.info? 88).map (·.size) = some (cs.extract 0 64).toList.length) := ⟨by rw [infoTapes]; simp [hlay.1]⟩
      obtain ⟨L, hL⟩ : ∃ L, (cs.extract 0 64).toList = L := ⟨_, rfl⟩
      rw [show cs.extract 0 64 = L.toArray from by rw [← hL]] at HI
      rw [hL] at HR HS
      have HMo := Kp.mk (load_most f k hnb)
      have HU := Kp.mk (used_le (tp := loadT f k) (fun t _ => load_most f k hnb t))
      replace HI : Kp (∀ t : Nat, t < 32 → ∀ wx, (Instr.index 88 (.agg L.toArray) (.int .i64 t)).run Tryz.prog wx = .ok (.agg #[.string (loadT f k t).b, .int .i64 (loadT f k t).firm]) wx) := HI
      clear hcs hlay hL hb hnb D0 B0
      go_wp2_with (refine wpList_load_mid rfl 88 (.tmp 55) rfl w.heap.size 0 rfl _ _ HR.out Tryz.underlying88 rfl HS.out ?_)
      clear HR HS
      obtain ⟨wo, hwo⟩ : ∃ wo : World, wo = wr := ⟨_, rfl⟩
      rw [← hwo] at HD HB ⊢
      clear hwo
      go_loopw [7, 57] (fun n i wr => ∃ q : Nat, i = .int .i64 q ∧ q ≤ 32 ∧ n = .int .i64 (c - used (loadT f k) q) ∧ Below wo.heap.size wo wr) (fun _ i _ => 32 - (intOf i).toNat)
      case atStart => exact ⟨0, rfl, by omega, by simp [used], Below.refl _ _⟩
      case round =>
        obtain ⟨q, rfl, hq, rfl, hb⟩ := hrel
        have B := Kp.mk hb
        clear hb
        by_cases hq2 : q < 32
        · have hidx := HI.out q hq2
          have g1 := HU.out q hq
          have g2 := HMo.out q
          have g3 : Kp (used (loadT f k) (q + 1) = used (loadT f k) q + (loadT f k q).b.size) := ⟨rfl⟩
          generalize (loadT f k q).b = s at hidx g2 g3
          generalize (loadT f k q).firm = m at hidx
          generalize hU : used (loadT f k) q = U at g1 g3 ⊢
          have HUe := Kp.mk hU
          clear hU
          go_wp2
          go_roundw
          case rel => exact ⟨q + 1, by go_num, by omega, by rw [g3.out]; go_num, B.out.alloc B.out.size _⟩
          case measure => simp [intOf]; omega
        · obtain rfl : q = 32 := by omega
          have g1 := HU.out 32 hq
          have HD2 := Kp.mk (HD.out.below B.out)
          have HB2 := Kp.mk (HB.out.trans (B.out.mono HB.out.size))
          by_cases hfull : c - (used (loadT f k) 32 : Int) < 0
          · have q1 : decide (c - (used (loadT f k) 32 : Int) < 0) = true := by rw [decide_eq_true_eq]; exact hfull
            have HX : Kp (c < used (loadT f k) 32) := ⟨by omega⟩
            have HY : Kp (loadV f c k (.returned (.tuple #[.pointer none, .int .i64 44])) w wr) := ⟨.inr (.inl ⟨HNB.out, HX.out, rfl⟩)⟩
            generalize used (loadT f k) 32 = U at g1 q1 HX
            go_wp2
            go_ret2
            exact ⟨HY.out, HB2.out⟩
          · have q1 : decide (c - (used (loadT f k) 32 : Int) < 0) = false := by rw [decide_eq_false_iff_not]; exact hfull
            have HY : Kp (loadV f c k (.returned (.tuple #[.pointer (some ⟨w.heap.size, 0, none⟩), .int .i64 0])) w wr) := ⟨.inr (.inr ⟨HNB.out, by omega, rfl, HD2.out⟩)⟩
            generalize used (loadT f k) 32 = U at g1 q1
            go_wp2
            go_ret2
            exact ⟨HY.out, HB2.out⟩
set_option maxRecDepth 20000 in
theorem New_ok (c : Int) (w : World) (h0 : 0 ≤ c) (h1 : c ≤ 9223372036854775807) :
    Calls Tryz.prog 44 #[.int .i64 c] w fun e w' => e = .returned (.tuple #[.pointer (some ⟨w.heap.size, 0, none⟩), .int .i64 0]) ∧ DiskAt w' w.heap.size ⟨fun _ => blank, c, false, 0, false⟩ ∧ Below w.heap.size w w' := by
  have HL := Kp.mk (Load_go c none 0 0 (fun _ => (⟨#[]⟩, ⟨#[]⟩)) w (by omega) h0 h1 (fun W _ i hi => absurd hi (Nat.not_lt_zero i)))
  have hu : ∀ k, used (loadT (fun _ => (⟨#[]⟩, ⟨#[]⟩)) 0) k = 0 := by
    intro k
    induction k with
    | zero => rfl
    | succ k ih => rw [used, ih]; rfl
  have HU := Kp.mk (hu 32)
  clear hu
  go_enter Tryz.func44, Tryz.ntmps44
  go_wp2_with fail
  refine HL.out.mono ?_
  rintro e w1 ⟨hv, hb⟩
  rcases hv with ⟨⟨i, hi, _⟩, _⟩ | ⟨_, hc, _⟩ | ⟨_, _, rfl, hd⟩
  · exact absurd hi (Nat.not_lt_zero i)
  · rw [HU.out] at hc; exact absurd hc (by omega)
  · have H := Kp.mk (And.intro hd hb)
    clear hd hb HL
    go_wp2
    go_ret2
    exact ⟨rfl, H.out.1, H.out.2⟩
theorem New_no (c : Int) (w : World) (h : c < 0) :
    Calls Tryz.prog 44 #[.int .i64 c] w fun e w' => e = .returned (.tuple #[.pointer none, .int .i64 1]) ∧ w = w' := by
  have HL := Kp.mk (Load_arg c none 0 0 w (by decide) (.inl h))
  go_enter Tryz.func44, Tryz.ntmps44
  go_wp2_with fail
  refine HL.out.mono ?_
  rintro e w1 ⟨rfl, rfl⟩
  go_wp2
  go_ret2
  exact ⟨rfl, rfl⟩
end Go.Proofs.YtpfoekfbcpinlaaGreatDoor
