/- The walk of DiskFirm: it returns true, and leaves what was there. -/
import Derived.Test.YtinjagebogifpaaDiskEx
namespace Go.Proofs.Ytinjagebogifpaa
open Go.RowKit
set_option linter.unusedVariables false

/-! ### Plain law: what is firm stays -/
theorem ba_pre (b : ByteArray) (m n : Nat) (h : m ≤ n) : (b.extract 0 n).extract 0 m = b.extract 0 m := by
  rw [ByteArray.extract_extract]
  congr 1
  omega
theorem ba_app (b s : ByteArray) (m : Nat) (h : m ≤ b.size) : (b ++ s).extract 0 m = b.extract 0 m := by
  rw [ByteArray.extract_append, show 0 - b.size = 0 from by omega, show m - b.size = 0 from by omega]
  apply ByteArray.ext
  rw [ByteArray.data_append, ByteArray.data_extract (a := s)]
  simp
/-- Tape k begins by F, and that is firm. -/
def Keeps (k : Nat) (F : ByteArray) (D : DiskV) : Prop := F.size ≤ (D.tp k).firm ∧ (D.tp k).b.extract 0 F.size = F
theorem keeps_set {k t : Nat} {F : ByteArray} {D D' : DiskV} {x : TapeV} (h : Keeps k F D) (htp : D'.tp = D.tp) (hx : t = k → F.size ≤ x.firm ∧ x.b.extract 0 F.size = F) : Keeps k F (setT D' t x) := by
  unfold Keeps
  by_cases e : k = t
  · subst e; rw [setT_same]; exact hx rfl
  · rw [setT_other _ _ _ _ e, htp]; exact h
theorem keeps_op {k : Nat} {F : ByteArray} {D : DiskV} (h : Keeps k F D) (t may : Int) (dov torn : TapeV → TapeV)
    (h1 : t = k → k < 32 → may = 0 → F.size ≤ (dov (D.tp k)).firm ∧ (dov (D.tp k)).b.extract 0 F.size = F) (h2 : t = k → k < 32 → may = 0 → F.size ≤ (torn (D.tp k)).firm ∧ (torn (D.tp k)).b.extract 0 F.size = F) : Keeps k F (opV D t may dov torn).2 := by
  unfold opV
  split
  · exact h
  · split
    · exact h
    · rename_i ht
      split
      · exact h
      · rename_i hm
        obtain ⟨j, rfl, hj⟩ : ∃ j : Nat, t = j ∧ j < 32 := ⟨t.toNat, by omega, by omega⟩
        rw [Int.toNat_natCast]
        split
        · exact keeps_set h (fails_tp D) fun e => by subst e; exact h2 rfl hj (by omega)
        · exact keeps_set h (fails_tp D) fun e => by subst e; exact h1 rfl hj (by omega)
theorem keeps_act {k : Nat} {F : ByteArray} {D : DiskV} (hk : k < 32) (ho : Ok D) (h : Keeps k F D) (a : ActV) (ha : ¬ (a.t = k ∧ (a.what = 2 ∨ a.what = 3))) : Keeps k F (doV D a).2 := by
  have hf := ho.firm k hk
  obtain ⟨qw, qt, qn, qs, ko, kl, kc, kf⟩ := a
  simp only [] at ha
  match qw, ha with
  | 0, _ =>
    have hx : F.size ≤ (D.tp k).firm ∧ ((D.tp k).b ++ qs).extract 0 F.size = F := ⟨h.1, by rw [ba_app _ _ _ (by have := h.1; omega)]; exact h.2⟩
    exact keeps_op h _ _ _ _ (fun _ _ _ => hx) (fun _ _ _ => hx)
  | 1, _ => exact keeps_op h _ _ _ _ (fun _ _ _ => ⟨by have := h.1; show F.size ≤ (D.tp k).b.size; omega, h.2⟩) (fun _ _ _ => h)
  | 2, ha => exact keeps_op h _ _ _ _ (fun e _ _ => absurd ⟨e, .inl rfl⟩ ha) (fun _ _ _ => h)
  | 3, ha => exact keeps_op h _ _ _ _ (fun e _ _ => absurd ⟨e, .inr rfl⟩ ha) (fun _ _ _ => h)
  | 4, _ => exact h
  | 5, _ =>
    show Keeps k F (failV D qn).2
    unfold failV
    split
    · exact h
    · split
      · exact h
      · exact h
  | z + 6, _ =>
    obtain ⟨n, h1, h2, h3⟩ := back_tape D ho.firm kl kf 32 k hk (Nat.le_refl _)
    show F.size ≤ ((backT kl kf D.tp 32).1 k).firm ∧ ((backT kl kf D.tp 32).1 k).b.extract 0 F.size = F
    rw [h3]
    have := h.1
    exact ⟨by show F.size ≤ n; omega, by show ((D.tp k).b.extract 0 n).extract 0 F.size = F; rw [ba_pre _ _ _ (by omega)]; exact h.2⟩
/-- Behind a Sync that was done. -/
theorem sync_ok {D : DiskV} {t : Int} (h : (syncV D t).1 = 0) (ho : Ok D) : ∃ k : Nat, t = k ∧ k < 32 ∧ readV (syncV D t).2 t = (((syncV D t).2.tp k).b, 0) ∧ Keeps k ((syncV D t).2.tp k).b (syncV D t).2 := by
  unfold syncV opV at *
  split at h
  · exact absurd h (show ¬ ((45 : Int) = 0) by decide)
  · rename_i hd
    split at h
    · exact absurd h (show ¬ ((1 : Int) = 0) by decide)
    · rename_i ht
      obtain ⟨k, rfl, hk⟩ : ∃ k : Nat, t = k ∧ k < 32 := ⟨t.toNat, by omega, by omega⟩
      rw [if_neg (by simp)] at h
      split at h
      · exact absurd h (show ¬ ((45 : Int) = 0) by decide)
      · rename_i hf
        have hfd : (failsV D).2.down = false := by
          unfold failsV at hf ⊢
          split
          · simpa using hd
          · rename_i hc
            rw [if_neg hc] at hf
            simpa using hf
        rw [if_neg hd, if_neg ht, if_neg (by simp), if_neg hf, Int.toNat_natCast]
        refine ⟨k, rfl, hk, ?_, ?_⟩
        · unfold readV
          rw [if_neg (by show ¬ (failsV D).2.down = true; rw [hfd]; simp), if_neg ht, Int.toNat_natCast]
        · unfold Keeps
          rw [setT_same]
          exact ⟨Nat.le_refl _, ByteArray.extract_zero_size⟩
set_option maxRecDepth 100000 in
theorem diskFirm_big0 (w : World) (c t : Int) (bo : Option Addr) (lb cb : Nat) (g : Nat → ByteArray × ByteArray) (ao : Option Addr) (len cap : Nat) (f : Nat → ActV) (ao2 : Option Addr) (len2 cap2 : Nat) (f2 : Nat → ActV) (hlb : lb ≤ maxLen) (hl : len ≤ maxLen) (hl2 : len2 ≤ maxLen) (hg : TapesAt w bo lb g) (hf : ActsIn w ao len f) (hf2 : ActsIn w ao2 len2 f2) (hc0 : ¬ costA f len + costT g lb < 20000) :
    Calls Try.prog 5 #[.int .i64 c, .slice bo lb cb, .slice ao len cap, .int .i64 t, .slice ao2 len2 cap2] w fun e w' => e = .returned (.bool true) ∧ Below w.heap.size w w' := by
  have HL0 := Kp.mk (long_any w ao len cap f bo lb cb g hl hf hlb hg)
  rw [show decide (20000 ≤ costA f len + costT g lb) = true from by rw [decide_eq_true_eq]; omega] at HL0
  unfold maxLen at *
  go_enter Try.func5, Try.ntmps5
  go_wp2_with fail
  refine (HL0.out).mono ?_
  rintro e w' ⟨rfl, md0, rfl⟩
  go_wp2_with fail
  refine (awake_any _).mono ?_
  rintro e w1 ⟨rfl, hb1⟩
  have HB1 : Kp (Below w.heap.size w w1) := ⟨⟨hb1.os, hb1.tape, hb1.output, hb1.size, hb1.block⟩⟩
  clear hb1
  go_wp2
  go_ret
  exact ⟨by trivial, HB1.out⟩
set_option maxRecDepth 100000 in
theorem diskFirm_big1 (w : World) (c t : Int) (bo : Option Addr) (lb cb : Nat) (g : Nat → ByteArray × ByteArray) (ao : Option Addr) (len cap : Nat) (f : Nat → ActV) (ao2 : Option Addr) (len2 cap2 : Nat) (f2 : Nat → ActV) (hlb : lb ≤ maxLen) (hl : len ≤ maxLen) (hl2 : len2 ≤ maxLen) (hg : TapesAt w bo lb g) (hf : ActsIn w ao len f) (hf2 : ActsIn w ao2 len2 f2) (hc0 : costA f len + costT g lb < 20000) (hc1 : ¬ costA f2 len2 + costT (fun _ => (⟨#[]⟩, ⟨#[]⟩)) 0 < 20000) :
    Calls Try.prog 5 #[.int .i64 c, .slice bo lb cb, .slice ao len cap, .int .i64 t, .slice ao2 len2 cap2] w fun e w' => e = .returned (.bool true) ∧ Below w.heap.size w w' := by
  have HL0 := Kp.mk (long_any w ao len cap f bo lb cb g hl hf hlb hg)
  rw [show decide (20000 ≤ costA f len + costT g lb) = false from by rw [decide_eq_false_iff_not]; omega] at HL0
  have HL1 := Kp.mk (fun md => long_any (w.drewN md) ao2 len2 cap2 f2 none 0 0 (fun _ => (⟨#[]⟩, ⟨#[]⟩)) hl2 (fun W hW => hf2 W ⟨hW.os, hW.tape, hW.output, hW.size, hW.block⟩) (Nat.zero_le _) (fun W _ i hi => absurd hi (Nat.not_lt_zero i)))
  rw [show decide (20000 ≤ costA f2 len2 + costT (fun _ => (⟨#[]⟩, ⟨#[]⟩)) 0) = true from by rw [decide_eq_true_eq]; omega] at HL1
  unfold maxLen at *
  go_enter Try.func5, Try.ntmps5
  go_wp2_with fail
  refine (HL0.out).mono ?_
  rintro e w' ⟨rfl, md0, rfl⟩
  go_wp2_with fail
  refine (HL1.out _).mono ?_
  rintro e w' ⟨rfl, md1, rfl⟩
  go_wp2_with fail
  refine (awake_any _).mono ?_
  rintro e w1 ⟨rfl, hb1⟩
  have HB1 : Kp (Below w.heap.size w w1) := ⟨⟨hb1.os, hb1.tape, hb1.output, hb1.size, hb1.block⟩⟩
  clear hb1
  go_wp2
  go_ret
  exact ⟨by trivial, HB1.out⟩
set_option maxRecDepth 100000 in
theorem diskFirm_big2 (w : World) (c t : Int) (bo : Option Addr) (lb cb : Nat) (g : Nat → ByteArray × ByteArray) (ao : Option Addr) (len cap : Nat) (f : Nat → ActV) (ao2 : Option Addr) (len2 cap2 : Nat) (f2 : Nat → ActV) (hlb : lb ≤ maxLen) (hl : len ≤ maxLen) (hl2 : len2 ≤ maxLen) (hg : TapesAt w bo lb g) (hf : ActsIn w ao len f) (hf2 : ActsIn w ao2 len2 f2) (hc0 : costA f len + costT g lb < 20000) (hc1 : costA f2 len2 + costT (fun _ => (⟨#[]⟩, ⟨#[]⟩)) 0 < 20000) (hc2 : len > 200) :
    Calls Try.prog 5 #[.int .i64 c, .slice bo lb cb, .slice ao len cap, .int .i64 t, .slice ao2 len2 cap2] w fun e w' => e = .returned (.bool true) ∧ Below w.heap.size w w' := by
  have HL0 := Kp.mk (long_any w ao len cap f bo lb cb g hl hf hlb hg)
  rw [show decide (20000 ≤ costA f len + costT g lb) = false from by rw [decide_eq_false_iff_not]; omega] at HL0
  have HL1 := Kp.mk (fun md => long_any (w.drewN md) ao2 len2 cap2 f2 none 0 0 (fun _ => (⟨#[]⟩, ⟨#[]⟩)) hl2 (fun W hW => hf2 W ⟨hW.os, hW.tape, hW.output, hW.size, hW.block⟩) (Nat.zero_le _) (fun W _ i hi => absurd hi (Nat.not_lt_zero i)))
  rw [show decide (20000 ≤ costA f2 len2 + costT (fun _ => (⟨#[]⟩, ⟨#[]⟩)) 0) = false from by rw [decide_eq_false_iff_not]; omega] at HL1
  have t2 : decide ((200 : Int) < (len : Int)) = true := by rw [decide_eq_true_eq]; omega
  have t2' : decide (200 < len) = true := by rw [decide_eq_true_eq]; omega
  unfold maxLen at *
  go_enter Try.func5, Try.ntmps5
  go_wp2_with fail
  refine (HL0.out).mono ?_
  rintro e w' ⟨rfl, md0, rfl⟩
  go_wp2_with fail
  refine (HL1.out _).mono ?_
  rintro e w' ⟨rfl, md1, rfl⟩
  go_wp2_with fail
  refine (awake_any _).mono ?_
  rintro e w1 ⟨rfl, hb1⟩
  have HB1 : Kp (Below w.heap.size w w1) := ⟨⟨hb1.os, hb1.tape, hb1.output, hb1.size, hb1.block⟩⟩
  clear hb1
  go_wp2
  go_ret
  exact ⟨by trivial, HB1.out⟩
set_option maxRecDepth 100000 in
theorem diskFirm_big3 (w : World) (c t : Int) (bo : Option Addr) (lb cb : Nat) (g : Nat → ByteArray × ByteArray) (ao : Option Addr) (len cap : Nat) (f : Nat → ActV) (ao2 : Option Addr) (len2 cap2 : Nat) (f2 : Nat → ActV) (hlb : lb ≤ maxLen) (hl : len ≤ maxLen) (hl2 : len2 ≤ maxLen) (hg : TapesAt w bo lb g) (hf : ActsIn w ao len f) (hf2 : ActsIn w ao2 len2 f2) (hc0 : costA f len + costT g lb < 20000) (hc1 : costA f2 len2 + costT (fun _ => (⟨#[]⟩, ⟨#[]⟩)) 0 < 20000) (hc2 : len ≤ 200) (hc3 : len2 > 200) :
    Calls Try.prog 5 #[.int .i64 c, .slice bo lb cb, .slice ao len cap, .int .i64 t, .slice ao2 len2 cap2] w fun e w' => e = .returned (.bool true) ∧ Below w.heap.size w w' := by
  have HL0 := Kp.mk (long_any w ao len cap f bo lb cb g hl hf hlb hg)
  rw [show decide (20000 ≤ costA f len + costT g lb) = false from by rw [decide_eq_false_iff_not]; omega] at HL0
  have HL1 := Kp.mk (fun md => long_any (w.drewN md) ao2 len2 cap2 f2 none 0 0 (fun _ => (⟨#[]⟩, ⟨#[]⟩)) hl2 (fun W hW => hf2 W ⟨hW.os, hW.tape, hW.output, hW.size, hW.block⟩) (Nat.zero_le _) (fun W _ i hi => absurd hi (Nat.not_lt_zero i)))
  rw [show decide (20000 ≤ costA f2 len2 + costT (fun _ => (⟨#[]⟩, ⟨#[]⟩)) 0) = false from by rw [decide_eq_false_iff_not]; omega] at HL1
  have t2 : decide ((200 : Int) < (len : Int)) = false := by rw [decide_eq_false_iff_not]; omega
  have t2' : decide (200 < len) = false := by rw [decide_eq_false_iff_not]; omega
  have t3 : decide ((200 : Int) < (len2 : Int)) = true := by rw [decide_eq_true_eq]; omega
  have t3' : decide (200 < len2) = true := by rw [decide_eq_true_eq]; omega
  unfold maxLen at *
  go_enter Try.func5, Try.ntmps5
  go_wp2_with fail
  refine (HL0.out).mono ?_
  rintro e w' ⟨rfl, md0, rfl⟩
  go_wp2_with fail
  refine (HL1.out _).mono ?_
  rintro e w' ⟨rfl, md1, rfl⟩
  go_wp2_with fail
  refine (awake_any _).mono ?_
  rintro e w1 ⟨rfl, hb1⟩
  have HB1 : Kp (Below w.heap.size w w1) := ⟨⟨hb1.os, hb1.tape, hb1.output, hb1.size, hb1.block⟩⟩
  clear hb1
  go_wp2
  go_ret
  exact ⟨by trivial, HB1.out⟩
set_option maxRecDepth 100000 in
set_option maxHeartbeats 4000000 in
theorem diskFirm_core (w : World) (c t : Int) (bo : Option Addr) (lb cb : Nat) (g : Nat → ByteArray × ByteArray) (ao : Option Addr) (len cap : Nat) (f : Nat → ActV) (ao2 : Option Addr) (len2 cap2 : Nat) (f2 : Nat → ActV) (hlb : lb ≤ maxLen) (hl : len ≤ 200) (hl2 : len2 ≤ 200) (hg : TapesAt w bo lb g) (hf : ActsIn w ao len f) (hf2 : ActsIn w ao2 len2 f2)
    (hc : costA f len + costT g lb < 20000) (hc' : costA f2 len2 + costT (fun _ => (⟨#[]⟩, ⟨#[]⟩)) 0 < 20000) (hc2 : c ≤ 9223372036854775807) :
    Calls Try.prog 5 #[.int .i64 c, .slice bo lb cb, .slice ao len cap, .int .i64 t, .slice ao2 len2 cap2] w fun e w' => e = .returned (.bool true) ∧ Below w.heap.size w w' := by
  have HL0 := Kp.mk (long_any w ao len cap f bo lb cb g (by unfold maxLen; omega) hf hlb hg)
  rw [show decide (20000 ≤ costA f len + costT g lb) = false from by rw [decide_eq_false_iff_not]; omega] at HL0
  have HL1 := Kp.mk (fun md => long_any (w.drewN md) ao2 len2 cap2 f2 none 0 0 (fun _ => (⟨#[]⟩, ⟨#[]⟩)) (by unfold maxLen; omega) (fun W hW => hf2 W ⟨hW.os, hW.tape, hW.output, hW.size, hW.block⟩) (Nat.zero_le _) (fun W _ i hi => absurd hi (Nat.not_lt_zero i)))
  rw [show decide (20000 ≤ costA f2 len2 + costT (fun _ => (⟨#[]⟩, ⟨#[]⟩)) 0) = false from by rw [decide_eq_false_iff_not]; omega] at HL1
  have t1 : decide ((200 : Int) < (len : Int)) = false := by rw [decide_eq_false_iff_not]; omega
  have t1' : decide (200 < len) = false := by rw [decide_eq_false_iff_not]; omega
  have t2 : decide ((200 : Int) < (len2 : Int)) = false := by rw [decide_eq_false_iff_not]; omega
  have t2' : decide (200 < len2) = false := by rw [decide_eq_false_iff_not]; omega
  have HF := Kp.mk hf
  have HF2 := Kp.mk hf2
  have HTI := Kp.mk (hg.small (by omega))
  have HLB := Kp.mk hlb
  clear hg hf hf2 hc hc' hlb
  go_enter Try.func5, Try.ntmps5
  go_wp2_with fail
  refine HL0.out.mono ?_
  rintro e w' ⟨rfl, md, rfl⟩
  go_wp2_with fail
  refine (HL1.out _).mono ?_
  rintro e w' ⟨rfl, md1, rfl⟩
  go_wp2_with fail
  refine (awake_any _).mono ?_
  rintro e w1 ⟨rfl, hb1⟩
  have HB1 : Kp (Below w.heap.size w w1) := ⟨⟨hb1.os, hb1.tape, hb1.output, hb1.size, hb1.block⟩⟩
  clear hb1 HL0 HL1 t1 t1' t2 t2'
  have HT1 : Kp (TapesIn w1 bo lb g) := ⟨fun W hW => HTI.out W (HB1.out.trans (hW.mono HB1.out.size))⟩
  have HF1 : Kp (ActsIn w1 ao len f) := ⟨fun W hW => HF.out W (HB1.out.trans (hW.mono HB1.out.size))⟩
  go_wp2_with fail
  refine (made_any c bo lb cb g ao len cap f _ HLB.out hl hc2 HT1.out HF1.out).mono ?_
  rintro e w2 ⟨hv, hb2⟩
  have HB2 := Kp.mk (HB1.out.trans (hb2.mono HB1.out.size))
  clear hb2
  rcases hv with rfl | ⟨p, D, rfl, hp, hd, ho, _⟩
  · go_wp2
    go_ret
    exact ⟨by trivial, HB2.out⟩
  · have G : Kp (w.heap.size ≤ p) := ⟨Nat.le_trans HB1.out.size hp⟩
    have HSy := Kp.mk (Sync_any p D t w2 hd ho)
    have HO1 := Kp.mk (ho.sync t)
    by_cases hs : (syncV D t).1 = 0
    · obtain ⟨k, rfl, hk, hrd, hkp⟩ := sync_ok hs ho
      rw [hs] at HSy
      have HRd := Kp.mk (fun wx hx => Read_any p (syncV D k).2 k wx hx)
      rw [hrd] at HRd
      generalize hFe : ((syncV D k).2.tp k).b = F at HRd hkp
      have hFm := (HO1.out).most k hk
      rw [hFe] at hFm
      generalize (syncV D k).2 = D1 at HSy HO1 HRd hkp
      have HK := Kp.mk hkp
      clear hd ho hp hs hrd hFe hkp HT1 HF1 HTI HF HLB
      go_wp2_with fail
      refine HSy.out.mono ?_
      rintro e w3 ⟨rfl, d3, c3⟩
      have D3 := Kp.mk d3
      have B3 := Kp.mk (c3.below HB2.out HB2.out.size G.out)
      clear d3 c3 HSy HB2
      go_wp2_with fail
      refine (HRd.out _ D3.out).mono ?_
      rintro e w' ⟨rfl, rfl⟩
      go_wp2
      go_loopw [14] (fun i wr => ∃ (j : Nat) (D : DiskV), i = .int .i64 j ∧ j ≤ len2 ∧ Keeps k F D ∧ Ok D ∧ DiskAt wr p D ∧ Below w.heap.size w wr) (fun i _ => len2 - (intOf i).toNat)
      case atStart => exact ⟨0, D1, rfl, by omega, HK.out, HO1.out, D3.out, B3.out⟩
      case round =>
        obtain ⟨j, D, rfl, hj, hkp, ho, hd, hb⟩ := hrel
        have DD := Kp.mk hd
        have OO := Kp.mk ho
        have KK := Kp.mk hkp
        have BB := Kp.mk hb
        clear HK HO1 D3 B3
        by_cases hjl : j < len2
        · obtain ⟨a, rfl, hok, hat⟩ := HF2.out wr hb j hjl
          have HDo := Kp.mk (do_any p D (f2 j) wr hd ho hok (fun W hW => by
            obtain ⟨a', ha', _, h2⟩ := HF2.out W (hW.below hb hb.size G.out) j hjl
            exact h2.2.2.2.2.2))
          have HOk := Kp.mk (ho.act (f2 j) hok)
          have HKA := Kp.mk (keeps_act hk ho hkp (f2 j))
          obtain ⟨c0, c1, c2, c3, c4, _⟩ := hat
          generalize doV D (f2 j) = r at HDo HOk HKA
          obtain ⟨⟨rs, re⟩, D2⟩ := r
          generalize f2 j = q at c0 c1 c2 c3 c4 HDo HKA
          obtain ⟨qw, qt, qn, qs, qo, ql, qc, qf⟩ := q
          simp only [ActV.v] at c0 c1 c2 c3 c4 HDo HOk HKA
          have i0 : (0 : Int) ≤ (j : Int) := by omega
          have i1 : (j : Int) < (len2 : Int) := by omega
          have i2 : (0 : Int) ≤ (k : Int) := by omega
          have i3 : (k : Int) < 32 := by omega
          clear hd ho hkp hb hok
          by_cases hsk : qt = k ∧ (qw = 2 ∨ qw = 3)
          · obtain ⟨rfl, hsk⟩ := hsk
            rcases hsk with rfl | rfl
            all_goals
              go_wp2
              go_roundw
              case rel => exact ⟨j + 1, D, by go_num, by omega, KK.out, OO.out, DD.out, ⟨BB.out.os, BB.out.tape, BB.out.output, BB.out.size, BB.out.block⟩⟩
              case measure => simp [intOf]; omega
          · have HK2 := Kp.mk (HKA.out hsk)
            have hcase : ((qt == (k : Int)) = false) ∨ ((qt == (k : Int)) = true ∧ ((qw : Int) == 2) = false ∧ ((qw : Int) == 3) = false) := by
              by_cases e : qt = k
              · refine .inr ⟨by rw [beq_iff_eq]; exact e, ?_, ?_⟩
                · rw [beq_eq_false_iff_ne]; intro h; exact hsk ⟨e, .inl (by omega)⟩
                · rw [beq_eq_false_iff_ne]; intro h; exact hsk ⟨e, .inr (by omega)⟩
              · exact .inl (by rw [beq_eq_false_iff_ne]; exact e)
            clear hsk HKA
            rcases hcase with z0 | ⟨z0, z1, z2⟩
            all_goals
              go_wp2_with fail
              refine HDo.out.mono ?_
              rintro e w4 ⟨rfl, d4, c4'⟩
              have D4 := Kp.mk d4
              have B4 := Kp.mk (c4'.below BB.out BB.out.size G.out)
              clear d4 c4' c0 c1 c2 c3 c4
              go_wp2_with fail
              refine (Tapes_any _ D2 _ D4.out HOk.out).mono ?_
              rintro e w5 ⟨lo, lc, rfl, hr, hn⟩
              have D5 := Kp.mk (D4.out.below hn.below)
              have B5 := Kp.mk (B4.out.trans (hn.below.mono B4.out.size))
              obtain ⟨gl, cl, hvl, hlc, hcm, _, _⟩ := hr.at_ (by decide)
              simp only [Value.slice.injEq, true_and] at hvl
              obtain ⟨rfl, rfl⟩ := hvl
              unfold maxLen at hcm
              obtain ⟨q1, q2⟩ := trow_get (tapesL D2 32) k (by rw [tapesL_len]; exact hk)
              have hgk : (tapesL D2 32)[k]'(by rw [tapesL_len]; exact hk) = told (D2.tp k) := by simp only [tapesL, List.getElem_map, List.getElem_range]
              rw [hgk] at q1 q2
              have x0 := hr.cell _ _ q1
              have hX1 : F.size ≤ (told (D2.tp k)).1.size := by
                have h1 := HK2.out.1
                have h2 := HOk.out.firm k hk
                show F.size ≤ ((D2.tp k).b.extract 0 (D2.tp k).firm).size
                rw [extract_size _ _ h2]
                exact h1
              have hX3 : (told (D2.tp k)).1.size ≤ 1048576 := by
                have h1 := HOk.out.most k hk
                have h2 := HOk.out.firm k hk
                show ((D2.tp k).b.extract 0 (D2.tp k).firm).size ≤ _
                rw [extract_size _ _ h2]
                omega
              have hX2 : Kp ((told (D2.tp k)).1.extract 0 F.size = F) := ⟨by
                show ((D2.tp k).b.extract 0 (D2.tp k).firm).extract 0 F.size = F
                rw [ba_pre _ _ _ HK2.out.1]
                exact HK2.out.2⟩
              clear hr hn q1 q2 hgk
              generalize (told (D2.tp k)).1 = X at x0 hX1 hX2 hX3
              have y1 : decide ((X.size : Int) < (F.size : Int)) = false := by rw [decide_eq_false_iff_not]; omega
              have y1' : decide (X.size < F.size) = false := by rw [decide_eq_false_iff_not]; omega
              have y2 : (0 : Int) ≤ (F.size : Int) := by omega
              have y3 : (F.size : Int) ≤ (X.size : Int) := by omega
              have y4 := hX2.out
              go_wp2
              clear y4
              go_roundw
              case rel => exact ⟨j + 1, D2, by go_num, by omega, HK2.out, HOk.out, D5.out, B5.out⟩
              case measure => simp [intOf]; omega
        · obtain rfl : j = len2 := by omega
          clear hd ho hkp hb
          go_wp2
          go_ret
          exact ⟨by trivial, BB.out⟩
    · have zs : ((syncV D t).1 == 0) = false := by rw [beq_eq_false_iff_ne]; exact hs
      generalize (syncV D t).1 = r at HSy zs
      clear hd ho hp hs
      go_wp2_with fail
      refine HSy.out.mono ?_
      rintro e w3 ⟨rfl, d3, c3⟩
      have B3 := Kp.mk (c3.below HB2.out HB2.out.size G.out)
      clear d3 c3
      go_wp2
      go_ret
      exact ⟨by trivial, B3.out⟩
theorem walkDiskFirm {H : Type} {enc : TypeId × Value → H} {X : Prop} {b0 b1 b2 : Nat} {d e e2 : DataW H} {ps qs qs2 : List MemPlace} (w : World) (c : Int) (hc : (Lit.int .i64 c).wf = true) (u : Value) (hu : Value.okWide Try.prog w .any b0 22 u) (hU : DataW.Trod enc Try.prog w 0 (fun _ => true) true 22 u d ps)
    (v : Value) (hv : Value.okWide Try.prog w .any b1 23 v) (hV : DataW.Trod enc Try.prog w 0 (fun _ => true) true 23 v e qs) (t : Int) (ht : (Lit.int .i64 t).wf = true) (v2 : Value) (hv2 : Value.okWide Try.prog w .any b2 23 v2) (hV2 : DataW.Trod enc Try.prog w 0 (fun _ => true) true 23 v2 e2 qs2) (_hweigh : X) :
    Calls Try.prog 5 #[.int .i64 c, u, v, .int .i64 t, v2] w fun e w' => e = .returned (.bool true) ∧ Below w.heap.size w w' := by
  obtain ⟨_, _, _, hu'⟩ := Go.WideShapes.okWide_slice Try.underlying22 hu
  obtain ⟨_, _, _, hv'⟩ := Go.WideShapes.okWide_slice Try.underlying23 hv
  obtain ⟨_, _, _, hv2'⟩ := Go.WideShapes.okWide_slice Try.underlying23 hv2
  obtain ⟨bo, lb, cb, g, rfl, hlb, hg⟩ := tapes_open (by rw [hu']; rfl) hU
  obtain ⟨ao, len, cap, f, rfl, hl, hf⟩ := acts_open (by rw [hv']; rfl) hV
  obtain ⟨ao2, len2, cap2, f2, rfl, hl2, hf2⟩ := acts_open (by rw [hv2']; rfl) hV2
  by_cases h0 : costA f len + costT g lb < 20000
  · by_cases h00 : costA f2 len2 + costT (fun _ => (⟨#[]⟩, ⟨#[]⟩)) 0 < 20000
    · by_cases h1 : len ≤ 200
      · by_cases h2 : len2 ≤ 200
        · exact diskFirm_core w c t bo lb cb g ao len cap f ao2 len2 cap2 f2 hlb h1 h2 hg hf hf2 h0 h00 (wf_i64 hc).2
        · exact diskFirm_big3 w c t bo lb cb g ao len cap f ao2 len2 cap2 f2 hlb hl hl2 hg hf hf2 h0 h00 h1 (by omega)
      · exact diskFirm_big2 w c t bo lb cb g ao len cap f ao2 len2 cap2 f2 hlb hl hl2 hg hf hf2 h0 h00 (by omega)
    · exact diskFirm_big1 w c t bo lb cb g ao len cap f ao2 len2 cap2 f2 hlb hl hl2 hg hf hf2 h0 h00
  · exact diskFirm_big0 w c t bo lb cb g ao len cap f ao2 len2 cap2 f2 hlb hl hl2 hg hf hf2 h0
end Go.Proofs.Ytinjagebogifpaa
