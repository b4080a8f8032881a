/- Plain law: what Open opened it leaves as a vault leaves a disk. -/
import Derived.Test.YtpfoekfbcpinlaaGreatDoorVaultAwake
namespace Go.Proofs.YtpfoekfbcpinlaaGreatDoor
open Go.RowKit
set_option linter.unusedVariables false

namespace Vp
/-- The records that are scanned on a tape. -/
def scanT (D : DiskV) (t : Int) : List (List UInt8) := (scanL (tx (D.tp t.toNat)) 0).1.map FrV.p
def scanR (D : DiskV) (t : Int) : List UInt8 := (tx (D.tp t.toNat)).drop (scanL (tx (D.tp t.toNat)) 0).2
theorem tape_inv {D : DiskV} {h : Hd.HV} {t : Int} (hd : D.down = false) (h1 : 0 ≤ t) (h2 : t < 32) (he : (tapeV D h t).2.1 = 0) :
    tx (D.tp t.toNat) = recR (scanT D t) ++ scanR D t ∧ Small (scanT D t) ∧ (Fr.readL (scanR D t)).1 ≠ 0 ∧ (t ≠ lastT h → scanR D t = [] ∧ tapeV D h t = (scanT D t, 0, D)) := by
  unfold tapeV at he ⊢
  rw [read_tape hd h1 h2] at he ⊢
  rw [if_neg (by simp)] at he ⊢
  simp only [] at he ⊢
  by_cases hk : ((scanL (D.tp t.toNat).b.data.toList 0).1.all fun f => f.k == 1) = false
  · rw [if_pos hk] at he; exact absurd he (show ¬ ((4 : Int) = 0) by decide)
  · rw [if_neg hk] at he ⊢
    have hk' : ((scanL (tx (D.tp t.toNat)) 0).1.all fun f => f.k == 1) = true := by simpa using hk
    obtain ⟨a, b, c, d, e⟩ := scan_only hk'
    refine ⟨a, b, d, fun hne => ?_⟩
    by_cases hg : (scanL (D.tp t.toNat).b.data.toList 0).2 = (D.tp t.toNat).b.size
    · rw [if_pos hg]
      refine ⟨?_, rfl⟩
      unfold scanR
      rw [show (scanL (tx (D.tp t.toNat)) 0).2 = (tx (D.tp t.toNat)).length from by rw [tx_len]; exact hg, List.drop_length]
    · rw [if_neg hg, if_pos hne] at he
      exact absurd he (show ¬ ((42 : Int) = 0) by decide)
theorem snap_inv {D : DiskV} {h : Hd.HV} (hd : D.down = false) (hm : h.may = true) (he : (snapV D h).1 = 0) :
    (h.snap ≠ 0 → tx (D.tp h.snap.toNat) = Fr.fr 2 (snapV D h).2.2.data.toList ∧ (snapV D h).2.2.size ≤ 262144) ∧ (h.snap = 0 → (snapV D h).2.2 = ⟨#[]⟩) := by
  unfold snapV at he ⊢
  by_cases h0 : h.snap = 0
  · rw [if_pos h0]; exact ⟨fun h => absurd h0 h, fun _ => rfl⟩
  · obtain ⟨a, b, _, _⟩ := snap_in hm h0
    rw [if_neg h0, read_tape hd (by omega) b, if_neg (by simp)] at he ⊢
    simp only [] at he ⊢
    refine ⟨fun _ => ?_, fun h => absurd h h0⟩
    have : (oneV (D.tp h.snap.toNat).b 2).2 = true := by
      cases hx : (oneV (D.tp h.snap.toNat).b 2).2
      · rw [hx] at he; exact absurd he (show ¬ ((4 : Int) = 0) by decide)
      · rfl
    exact one_inv this
theorem rec_inv {D : DiskV} {h : Hd.HV} (hd : D.down = false) (hm : h.may = true) (he : (recS D h h.log.length).2.1 = 0) :
    (∀ t ∈ h.log, t ≠ lastT h → tx (D.tp t.toNat) = recR (scanT D t)) ∧ tx (D.tp (lastT h).toNat) = recR (scanT D (lastT h)) ++ scanR D (lastT h) ∧ (∀ t ∈ h.log, Small (scanT D t)) ∧ (Fr.readL (scanR D (lastT h))).1 ≠ 0 := by
  obtain ⟨pre, hp, hn, _⟩ := log_cut hm
  obtain ⟨la, hla⟩ : ∃ la, la = lastT h := ⟨_, rfl⟩
  have hlen : h.log.length = pre.length + 1 := by rw [hp, List.length_append]; rfl
  have hget : ∀ i, (hi : i < pre.length) → h.log.getD i 0 = pre[i] := fun i hi => by
    conv => lhs; rw [hp]
    rw [List.getD_eq_getElem?_getD, List.getElem?_append_left hi, List.getElem?_eq_getElem hi]; rfl
  have hlast : h.log.getD pre.length 0 = lastT h := by
    rw [← hla] at hp ⊢
    rw [hp, List.getD_eq_getElem?_getD, List.getElem?_append_right (Nat.le_refl _)]; simp
  have hmem : ∀ i, i < h.log.length → h.log.getD i 0 ∈ h.log := fun i hi => by rw [List.getD_eq_getElem?_getD, List.getElem?_eq_getElem hi]; exact List.getElem_mem _
  have herr : ∀ k, k ≤ h.log.length → (recS D h k).2.1 = 0 := fun k hk => by
    rcases Decidable.em ((recS D h k).2.1 = 0) with h1 | h1
    · exact h1
    · rw [recS_err h1 _ hk] at he; exact absurd he h1
  have hpre : ∀ k, k ≤ pre.length → (recS D h k).2.2 = D ∧ ∀ i, i < k → tx (D.tp (h.log.getD i 0).toNat) = recR (scanT D (h.log.getD i 0)) ∧ Small (scanT D (h.log.getD i 0)) := by
    intro k
    induction k with
    | zero => intro _; exact ⟨rfl, fun i hi => absurd hi (Nat.not_lt_zero i)⟩
    | succ k ih =>
      intro hk
      obtain ⟨i1, i2⟩ := ih (by omega)
      have h1 := herr (k + 1) (by omega)
      have h0 := herr k (by omega)
      have hin := log_in hm (hmem k (by omega))
      have hne : h.log.getD k 0 ≠ lastT h := fun e => hn (by rw [← e, hget k (by omega)]; exact List.getElem_mem _)
      rw [recS, if_neg (by simpa using h0)] at h1 ⊢
      rw [i1] at h1 ⊢
      have h2 : (tapeV D h (h.log.getD k 0)).2.1 = 0 := by
        split at h1
        · rename_i hx; exact absurd h1 hx
        · rename_i hx; simpa using hx
      obtain ⟨a, b, c, d⟩ := tape_inv hd (by omega) hin.2 h2
      obtain ⟨d1, d2⟩ := d hne
      rw [if_neg (by simpa using h2), d2]
      refine ⟨rfl, fun i hi => ?_⟩
      by_cases e : i = k
      · subst e; rw [d1, List.append_nil] at a; exact ⟨a, b⟩
      · exact i2 i (by omega)
  obtain ⟨p1, p2⟩ := hpre pre.length (Nat.le_refl _)
  have hL : (tapeV D h (lastT h)).2.1 = 0 := by
    have h1 := herr (pre.length + 1) (by omega)
    have h0 := herr pre.length (by omega)
    rw [recS, if_neg (by simpa using h0), p1, hlast] at h1
    split at h1
    · rename_i hx; exact absurd h1 hx
    · rename_i hx; simpa using hx
  have hin := log_in hm (lastT_mem hm)
  obtain ⟨a, b, c, _⟩ := tape_inv hd (by omega) hin.2 hL
  have hall : ∀ t ∈ h.log, t = lastT h ∨ ∃ i, i < pre.length ∧ h.log.getD i 0 = t := fun t ht => by
    rw [hp] at ht
    rcases List.mem_append.1 ht with h1 | h1
    · obtain ⟨i, hi, e⟩ := List.getElem_of_mem h1
      exact .inr ⟨i, hi, by rw [hget i hi, e]⟩
    · exact .inl (List.mem_singleton.1 h1)
  refine ⟨fun t ht hne => ?_, a, fun t ht => ?_, c⟩
  · rcases hall t ht with e | ⟨i, hi, rfl⟩
    · exact absurd e hne
    · exact (p2 i hi).1
  · rcases hall t ht with rfl | ⟨i, hi, rfl⟩
    · exact b
    · exact (p2 i hi).2
/-- What Open opens. -/
theorem open_zero {D : DiskV} (ho : Ok D) (hd : D.down = false) (hc : D.counts = false) (he : openE D = 0) :
    ∃ h T s, (oL D).2.2 = h ∧ oS D = (0, decide (h.snap ≠ 0), s) ∧ (oR D).1 = recsOf h T ∧ Inv (openD D) h T s ∧ AllFirm (openD D) ∧ (openD D).counts = false := by
  have hz : (oL D).1 = 0 ∧ (oS D).1 = 0 ∧ (oR D).2.1 = 0 := by
    unfold openE at he
    split at he
    · rename_i hx; exact absurd he hx
    · split at he
      · rename_i hx; exact absurd he hx
      · rename_i h2
        split at he
        · rename_i hx; exact absurd he hx
        · split at he
          · rename_i hx; exact absurd he hx
          · rename_i h4
            split at he
            · rename_i hx; exact absurd he hx
            · rename_i h5
              exact ⟨by simpa using h2, by simpa using h4, by simpa using h5⟩
  cases hv : (Hd.diskV D).2.2
  · obtain ⟨a1, a2, a3, a4, a5, a6, a7, a8, _⟩ := open_first ho hd hc hv hz.1
    exact ⟨firstH, _, _, a1, a2, by rw [a3, recs_two], a5, a6, a7⟩
  · have hm : (Hd.diskV D).1.may = true := by
      have h1 := vload_is hd (h := (Hd.diskV D).1) ⟨rfl, hv⟩
      have := vload_may (D := D) (by rw [h1])
      rw [h1] at this
      exact this
    obtain ⟨e1, e2, e3, hh, b, nc, cap, w1, w2⟩ := open_base ho hd hc ⟨rfl, hv⟩ hm
    generalize (Hd.diskV D).1 = h at *
    have hS : (snapV (oW D).2 h).1 = 0 := by have := hz.2.1; unfold oS at this; rw [hh] at this; exact this
    have hR : (recS (oW D).2 h h.log.length).2.1 = 0 := by have := hz.2.2; unfold oR at this; rw [hh] at this; exact this
    obtain ⟨s1, s2⟩ := snap_inv b.up hm hS
    obtain ⟨r1, r2, r3, r4⟩ := rec_inv b.up hm hR
    have hl : Lying (oW D).2.tp h (scanT (oW D).2) (snapV (oW D).2 h).2.2 (scanR (oW D).2 (lastT h)) := ⟨s1, s2, r1, r2, r3, r4⟩
    obtain ⟨a1, a2, a3, a4, a5, a6, _⟩ := open_end rfl e1 e2 e3 hh b hl nc
    exact ⟨h, _, _, hh, a1, a2, a4, a5, a6⟩
theorem eqb_refl (l : ByteArray) : (l.toList == l.toList) = true := by simp
theorem diskB_refl (D : DiskV) : diskB D D = true := by
  unfold diskB tapeB
  simp
end Vp
end Go.Proofs.YtpfoekfbcpinlaaGreatDoor
/- The walk of Large: tapes that are few enough; Open refused. -/
namespace Go.Proofs.YtpfoekfbcpinlaaGreatDoor
open Go.RowKit
set_option linter.unusedVariables false

def costL (f : Nat → ByteArray × ByteArray) : Nat → Nat
  | 0 => 0
  | k + 1 => costL f k + (min (f k).1.size 20000 + min (f k).2.size 20000)
theorem costL_mono (f : Nat → ByteArray × ByteArray) {a b : Nat} (h : a ≤ b) : costL f a ≤ costL f b := by
  induction b with
  | zero => obtain rfl : a = 0 := by omega
            exact Nat.le_refl _
  | succ b ih =>
    by_cases e : a = b + 1
    · subst e; exact Nat.le_refl _
    · have := ih (by omega)
      show _ ≤ costL f b + _
      omega
theorem small_tapeL (f : Nat → ByteArray × ByteArray) (n i : Nat) (h : costL f n < 20000) (hi : i < n) : (f i).1.size < 20000 ∧ (f i).2.size < 20000 := by
  have h1 := costL_mono f (show i + 1 ≤ n by omega)
  have h2 : costL f (i + 1) = costL f i + (min (f i).1.size 20000 + min (f i).2.size 20000) := rfl
  omega
theorem TapesAt.smallL {w : World} {ao : Option Addr} {len : Nat} {f : Nat → ByteArray × ByteArray} (h : TapesAt w ao len f) (hc : costL f len < 20000) : TapesIn w ao len f := fun W hW i hi => by
  obtain ⟨a, h1, h2, h3, h4, h5⟩ := h W hW i hi
  have := small_tapeL f len i hc hi
  exact ⟨a, h1, by omega, by omega, h4, h5⟩
set_option maxRecDepth 20000 in
set_option maxHeartbeats 2000000 in
theorem Large_any (ao : Option Addr) (len cap : Nat) (f : Nat → ByteArray × ByteArray) (w : World) (hl : len ≤ maxLen) (hf : TapesAt w ao len f) :
    Calls Tryz.prog 29 #[.slice ao len cap] w fun e w' => e = .returned (.bool (decide (20000 ≤ costL f len ∨ 40 < len))) ∧ ∃ m, w' = w.drewN m := by
  unfold maxLen at hl
  have HF := Kp.mk (hf w (Below.refl _ _))
  clear hf
  go_enter Tryz.func29, Tryz.ntmps29
  go_wp2
  go_loopw [3, 4] (fun n i wr => ∃ j m : Nat, j ≤ len ∧ i = .int .i64 j ∧ n = .int .i64 (costL f j) ∧ costL f j < 60100 ∧ wr = w.drewN m) (fun _ i _ => len - (intOf i).toNat)
  case atStart => exact ⟨0, 0, by omega, rfl, rfl, (by show (0 : Nat) < 60100; decide), rfl⟩
  case round =>
    obtain ⟨j, me, hj, rfl, rfl, hc2, rfl⟩ := hrel
    by_cases hgo2 : j < len ∧ costL f j < 20000
    · obtain ⟨hjl, h6⟩ := hgo2
      obtain ⟨a, rfl, hs, ht, c0, c1⟩ := HF.out j hjl
      unfold maxLen at hs ht
      have HC2 : Kp (costL f (j + 1) = costL f j + (min (f j).1.size 20000 + min (f j).2.size 20000)) := ⟨rfl⟩
      have t1 : decide ((costL f j : Int) < 20000) = true := by rw [decide_eq_true_eq]; omega
      have t1' : decide (costL f j < 20000) = true := by rw [decide_eq_true_eq]; omega
      generalize f j = q at c0 c1 hs ht HC2
      obtain ⟨qs, ql⟩ := q
      simp only [] at c0 c1 hs ht HC2
      generalize costL f j = E at h6 hc2 HC2 t1 t1' ⊢
      obtain ⟨m1, hm1⟩ : ∃ m, min qs.size 20000 = m := ⟨_, rfl⟩
      obtain ⟨m2, hm2⟩ : ∃ m, min ql.size 20000 = m := ⟨_, rfl⟩
      have hmin1 : min (qs.size : Int) 20000 = (m1 : Int) := by omega
      have hmin2 : min (ql.size : Int) 20000 = (m2 : Int) := by omega
      have hb1 : m1 ≤ 20000 := by omega
      have hb2 : m2 ≤ 20000 := by omega
      have HM : Kp (∀ z m : Nat, min z 20000 = m → (if (z : Int) < (20000 : Int) then (z : Int) else (20000 : Int)) = (m : Int)) := ⟨fun z m e => by split <;> omega⟩
      have HM1 := Kp.mk (HM.out _ m1 hm1)
      have HM2 := Kp.mk (HM.out _ m2 hm2)
      rw [hm1, hm2] at HC2
      clear hm1 hm2 HM
      have hk0 : (0 : Int) ≤ (j : Int) := by omega
      have hk1 : (j : Int) < (len : Int) := by omega
      have n5 : IntKind.i64.wrap ((E : Int) + (m1 : Int)) = ((E + m1 : Nat) : Int) := by rw [IntKind.wrap_i64]; omega
      have n6 : IntKind.i64.wrap (((E + m1 : Nat) : Int) + (m2 : Int)) = ((E + m1 + m2 : Nat) : Int) := by rw [IntKind.wrap_i64]; omega
      go_wp2_with fail
      go_quiet (fail)
      clear n5 n6
      go_wp2
      go_roundw
      case rel => exact ⟨j + 1, _, by omega, by go_num, by rw [HC2.out, HM1.out, HM2.out]; go_num, by rw [HC2.out]; omega, rfl⟩
      case measure => simp [intOf]; omega
    · by_cases hjl : j < len
      · have h6 : ¬ costL f j < 20000 := fun h => hgo2 ⟨hjl, h⟩
        have t1 : decide ((costL f j : Int) < 20000) = false := by rw [decide_eq_false_iff_not]; omega
        have t1' : decide (costL f j < 20000) = false := by rw [decide_eq_false_iff_not]; omega
        have t2 : decide ((20000 : Int) ≤ (costL f j : Int)) = true := by rw [decide_eq_true_eq]; omega
        have t2' : decide (20000 ≤ costL f j) = true := by rw [decide_eq_true_eq]; omega
        have HV : Kp (decide (20000 ≤ costL f len ∨ 40 < len) = true) := ⟨decide_eq_true (by have := costL_mono f hj; omega)⟩
        go_wp2
        go_ret
        exact ⟨ret_bool HV.out.symm, _, rfl⟩
      · obtain rfl : j = len := by omega
        by_cases h6 : 20000 ≤ costL f j
        · have HV : Kp (decide (20000 ≤ costL f j ∨ 40 < j) = true) := ⟨decide_eq_true (.inl h6)⟩
          have t2 : decide ((20000 : Int) ≤ (costL f j : Int)) = true := by rw [decide_eq_true_eq]; omega
          have t2' : decide (20000 ≤ costL f j) = true := by rw [decide_eq_true_eq]; omega
          clear h6
          go_wp2
          go_ret
          exact ⟨ret_bool (by first | exact HV.out.symm | rfl | simp), _, rfl⟩
        · have HV : Kp (decide (20000 ≤ costL f j ∨ 40 < j) = decide ((40 : Int) < (j : Int))) := ⟨by rw [Bool.eq_iff_iff, decide_eq_true_eq, decide_eq_true_eq]; omega⟩
          have t2 : decide ((20000 : Int) ≤ (costL f j : Int)) = false := by rw [decide_eq_false_iff_not]; omega
          have t2' : decide (20000 ≤ costL f j) = false := by rw [decide_eq_false_iff_not]; omega
          clear h6
          by_cases h7 : (40 : Int) < (j : Int)
          · have t3 : decide ((40 : Int) < (j : Int)) = true := by rw [decide_eq_true_eq]; exact h7
            have t3' : decide (40 < j) = true := by rw [decide_eq_true_eq]; omega
            rw [t3] at HV
            go_wp2
            go_ret
            exact ⟨ret_bool (by first | exact HV.out.symm | rfl | simp), _, rfl⟩
          · have t3 : decide ((40 : Int) < (j : Int)) = false := by rw [decide_eq_false_iff_not]; exact h7
            have t3' : decide (40 < j) = false := by rw [decide_eq_false_iff_not]; omega
            rw [t3] at HV
            go_wp2
            go_ret
            exact ⟨ret_bool (by first | exact HV.out.symm | rfl | simp), _, rfl⟩
/-- Open refuses a number. -/
theorem Open_no (g : Nat) (m : Int) (w : World) (h : m < 1 ∨ 1048576 < m) :
    Calls Tryz.prog 20 #[.pointer (some ⟨g, 0, none⟩), .int .i64 m] w fun e w' => e = .returned (.tuple #[.pointer none, .agg #[.bool false, .string ⟨#[]⟩, .slice none 0 0], .int .i64 1]) ∧ Below w.heap.size w w' := by
  have HB : Kp (Below w.heap.size w (w.alloc (.cells #[.bool false, .string ⟨#[]⟩, .slice none 0 0] 48))) := ⟨(Below.refl _ _).alloc (Nat.le_refl _) _⟩
  by_cases h1 : m < 1
  · have t1 : decide (m < 1) = true := by rw [decide_eq_true_eq]; exact h1
    clear h h1
    go_enter Tryz.func20, Tryz.ntmps20
    go_wp2
    refine bodyPost_ret (v := .tuple #[.pointer none, .agg #[.bool false, .string ⟨#[]⟩, .slice none 0 0], .int .i64 1]) (by simp [results, Tryz.results20, go_sem]) rfl ?_
    exact ⟨rfl, HB.out⟩
  · have t1 : decide (m < 1) = false := by rw [decide_eq_false_iff_not]; exact h1
    have t2 : decide ((1048576 : Int) < m) = true := by rw [decide_eq_true_eq]; omega
    clear h h1
    go_enter Tryz.func20, Tryz.ntmps20
    go_wp2
    refine bodyPost_ret (v := .tuple #[.pointer none, .agg #[.bool false, .string ⟨#[]⟩, .slice none 0 0], .int .i64 1]) (by simp [results, Tryz.results20, go_sem]) rfl ?_
    exact ⟨rfl, HB.out⟩
theorem Open_nil (m : Int) (w : World) :
    Calls Tryz.prog 20 #[.pointer none, .int .i64 m] w fun e w' => e = .returned (.tuple #[.pointer none, .agg #[.bool false, .string ⟨#[]⟩, .slice none 0 0], .int .i64 2]) ∧ Below w.heap.size w w' := by
  have HB : Kp (Below w.heap.size w (w.alloc (.cells #[.bool false, .string ⟨#[]⟩, .slice none 0 0] 48))) := ⟨(Below.refl _ _).alloc (Nat.le_refl _) _⟩
  go_enter Tryz.func20, Tryz.ntmps20
  go_wp2
  refine bodyPost_ret (v := .tuple #[.pointer none, .agg #[.bool false, .string ⟨#[]⟩, .slice none 0 0], .int .i64 2]) (by simp [results, Tryz.results20, go_sem]) rfl ?_
  exact ⟨rfl, HB.out⟩
end Go.Proofs.YtpfoekfbcpinlaaGreatDoor
