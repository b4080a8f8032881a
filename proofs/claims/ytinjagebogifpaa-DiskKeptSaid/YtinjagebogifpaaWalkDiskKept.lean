/- The walk of DiskKept: it returns true, and leaves what was there. -/
import Derived.Test.YtinjagebogifpaaDiskSame
import Derived.Test.YtinjagebogifpaaWalkDiskRoom
namespace Go.Proofs.Ytinjagebogifpaa
open Go.RowKit
set_option linter.unusedVariables false

/-! ### Plain law: a tape behind a Back -/
theorem told_all (x : TapeV) (h : x.firm ≤ x.b.size) : (told x).1 ++ (told x).2 = x.b := by
  unfold told
  simp only []
  rw [ByteArray.extract_append_extract, show min 0 x.firm = 0 from by omega, show max x.firm x.b.size = x.b.size from by omega, ByteArray.extract_zero_size]
theorem ba_empty (b : ByteArray) (h : b.size = 0) : b = ⟨#[]⟩ := by
  apply ByteArray.ext
  exact Array.eq_empty_of_size_eq_zero h
theorem back_told {D : DiskV} (ho : Ok D) (kl : Nat) (kf : Nat → Int) (t : Nat) (ht : t < 32) : ∃ n, (told (D.tp t)).1.size ≤ n ∧ n ≤ (D.tp t).b.size ∧ told ((backV D kl kf).tp t) = ((D.tp t).b.extract 0 n, ⟨#[]⟩) := by
  obtain ⟨n, h1, h2, h3⟩ := back_tape D ho.firm kl kf 32 t ht (Nat.le_refl _)
  have hf := ho.firm t ht
  refine ⟨n, ?_, h2, ?_⟩
  · show ((D.tp t).b.extract 0 (D.tp t).firm).size ≤ n
    rw [extract_size _ _ hf]; exact h1
  · show told ((backT kl kf D.tp 32).1 t) = _
    rw [h3]
    unfold told
    simp only []
    refine Prod.ext ?_ ?_
    · show ((D.tp t).b.extract 0 n).extract 0 n = _
      rw [ByteArray.extract_extract]
      congr 1
      omega
    · apply ba_empty
      rw [extract_size _ _ h2]
      simp only [ByteArray.size_extract]
      omega
theorem sync_back {D : DiskV} (hc : D.counts = false) (hd : D.down = false) : (syncV D 0).1 = 0 := by
  unfold syncV opV
  rw [if_neg (by rw [hd]; simp), if_neg (by omega), if_neg (by simp)]
  have hf : (failsV D).1 = false := by unfold failsV; rw [if_pos hc]
  rw [if_neg (by rw [hf]; simp)]
set_option maxRecDepth 100000 in
theorem diskKept_big0 (w : World) (c : Int) (bo : Option Addr) (lb cb : Nat) (g : Nat → ByteArray × ByteArray) (ao : Option Addr) (len cap : Nat) (f : Nat → ActV) (ko : Option Addr) (kl kc : Nat) (kf : Nat → Int) (hlb : lb ≤ maxLen) (hl : len ≤ maxLen) (hkl : kl ≤ maxLen) (hg : TapesAt w bo lb g) (hf : ActsIn w ao len f) (hc0 : ¬ costA f len + costT g lb < 20000) :
    Calls Try.prog 7 #[.int .i64 c, .slice bo lb cb, .slice ao len cap, .slice ko kl kc] w fun e w' => e = .returned (.bool true) ∧ Below w.heap.size w w' := by
  have HL0 := Kp.mk (long_any w ao len cap f bo lb cb g hl hf hlb hg)
  rw [show decide (20000 ≤ costA f len + costT g lb) = true from by rw [decide_eq_true_eq]; omega] at HL0
  unfold maxLen at *
  go_enter Try.func7, Try.ntmps7
  go_wp2_with fail
  refine (HL0.out).mono ?_
  rintro e w' ⟨rfl, md0, rfl⟩
  go_wp2_with fail
  refine (awake_any _).mono ?_
  rintro e w1 ⟨rfl, hb1⟩
  have HB1 : Kp (Below w.heap.size w w1) := ⟨⟨hb1.os, hb1.tape, hb1.output, hb1.size, hb1.block⟩⟩
  clear hb1
  go_wp2
  go_ret
  exact ⟨by trivial, HB1.out⟩
set_option maxRecDepth 100000 in
theorem diskKept_big1 (w : World) (c : Int) (bo : Option Addr) (lb cb : Nat) (g : Nat → ByteArray × ByteArray) (ao : Option Addr) (len cap : Nat) (f : Nat → ActV) (ko : Option Addr) (kl kc : Nat) (kf : Nat → Int) (hlb : lb ≤ maxLen) (hl : len ≤ maxLen) (hkl : kl ≤ maxLen) (hg : TapesAt w bo lb g) (hf : ActsIn w ao len f) (hc0 : costA f len + costT g lb < 20000) (hc1 : len > 200) :
    Calls Try.prog 7 #[.int .i64 c, .slice bo lb cb, .slice ao len cap, .slice ko kl kc] w fun e w' => e = .returned (.bool true) ∧ Below w.heap.size w w' := by
  have HL0 := Kp.mk (long_any w ao len cap f bo lb cb g hl hf hlb hg)
  rw [show decide (20000 ≤ costA f len + costT g lb) = false from by rw [decide_eq_false_iff_not]; omega] at HL0
  have t1 : decide ((200 : Int) < (len : Int)) = true := by rw [decide_eq_true_eq]; omega
  have t1' : decide (200 < len) = true := by rw [decide_eq_true_eq]; omega
  unfold maxLen at *
  go_enter Try.func7, Try.ntmps7
  go_wp2_with fail
  refine (HL0.out).mono ?_
  rintro e w' ⟨rfl, md0, rfl⟩
  go_wp2_with fail
  refine (awake_any _).mono ?_
  rintro e w1 ⟨rfl, hb1⟩
  have HB1 : Kp (Below w.heap.size w w1) := ⟨⟨hb1.os, hb1.tape, hb1.output, hb1.size, hb1.block⟩⟩
  clear hb1
  go_wp2
  go_ret
  exact ⟨by trivial, HB1.out⟩
set_option maxRecDepth 100000 in
theorem diskKept_big2 (w : World) (c : Int) (bo : Option Addr) (lb cb : Nat) (g : Nat → ByteArray × ByteArray) (ao : Option Addr) (len cap : Nat) (f : Nat → ActV) (ko : Option Addr) (kl kc : Nat) (kf : Nat → Int) (hlb : lb ≤ maxLen) (hl : len ≤ maxLen) (hkl : kl ≤ maxLen) (hg : TapesAt w bo lb g) (hf : ActsIn w ao len f) (hc0 : costA f len + costT g lb < 20000) (hc1 : len ≤ 200) (hc2 : kl > 200) :
    Calls Try.prog 7 #[.int .i64 c, .slice bo lb cb, .slice ao len cap, .slice ko kl kc] w fun e w' => e = .returned (.bool true) ∧ Below w.heap.size w w' := by
  have HL0 := Kp.mk (long_any w ao len cap f bo lb cb g hl hf hlb hg)
  rw [show decide (20000 ≤ costA f len + costT g lb) = false from by rw [decide_eq_false_iff_not]; omega] at HL0
  have t1 : decide ((200 : Int) < (len : Int)) = false := by rw [decide_eq_false_iff_not]; omega
  have t1' : decide (200 < len) = false := by rw [decide_eq_false_iff_not]; omega
  have t2 : decide ((200 : Int) < (kl : Int)) = true := by rw [decide_eq_true_eq]; omega
  have t2' : decide (200 < kl) = true := by rw [decide_eq_true_eq]; omega
  unfold maxLen at *
  go_enter Try.func7, Try.ntmps7
  go_wp2_with fail
  refine (HL0.out).mono ?_
  rintro e w' ⟨rfl, md0, rfl⟩
  go_wp2_with fail
  refine (awake_any _).mono ?_
  rintro e w1 ⟨rfl, hb1⟩
  have HB1 : Kp (Below w.heap.size w w1) := ⟨⟨hb1.os, hb1.tape, hb1.output, hb1.size, hb1.block⟩⟩
  clear hb1
  go_wp2
  go_ret
  exact ⟨by trivial, HB1.out⟩
set_option maxRecDepth 100000 in
set_option maxHeartbeats 8000000 in
theorem diskKept_core (w : World) (c : Int) (bo : Option Addr) (lb cb : Nat) (g : Nat → ByteArray × ByteArray) (ao : Option Addr) (len cap : Nat) (f : Nat → ActV) (ko : Option Addr) (kl kc : Nat) (kf : Nat → Int) (hlb : lb ≤ maxLen) (hl : len ≤ 200) (hkl : kl ≤ 200) (hg : TapesAt w bo lb g) (hf : ActsIn w ao len f) (hk : ∀ W, Below w.heap.size w W → KeepAt W ko kl kf)
    (hc : costA f len + costT g lb < 20000) (hc2 : c ≤ 9223372036854775807) :
    Calls Try.prog 7 #[.int .i64 c, .slice bo lb cb, .slice ao len cap, .slice ko kl kc] w fun e w' => e = .returned (.bool true) ∧ Below w.heap.size w w' := by
  have HL0 := Kp.mk (long_any w ao len cap f bo lb cb g (by unfold maxLen; omega) hf hlb hg)
  rw [show decide (20000 ≤ costA f len + costT g lb) = false from by rw [decide_eq_false_iff_not]; omega] at HL0
  have t1 : decide ((200 : Int) < (len : Int)) = false := by rw [decide_eq_false_iff_not]; omega
  have t1' : decide (200 < len) = false := by rw [decide_eq_false_iff_not]; omega
  have t2 : decide ((200 : Int) < (kl : Int)) = false := by rw [decide_eq_false_iff_not]; omega
  have t2' : decide (200 < kl) = false := by rw [decide_eq_false_iff_not]; omega
  have HF := Kp.mk hf
  have HK := Kp.mk hk
  have HTI := Kp.mk (hg.small (by omega))
  have HLB := Kp.mk hlb
  clear hg hf hc hlb hk
  go_enter Try.func7, Try.ntmps7
  go_wp2_with fail
  refine HL0.out.mono ?_
  rintro e w' ⟨rfl, md, rfl⟩
  go_wp2_with fail
  refine (awake_any _).mono ?_
  rintro e w1 ⟨rfl, hb1⟩
  have HB1 : Kp (Below w.heap.size w w1) := ⟨⟨hb1.os, hb1.tape, hb1.output, hb1.size, hb1.block⟩⟩
  clear hb1 HL0 t1 t1' t2 t2'
  have HT1 : Kp (TapesIn w1 bo lb g) := ⟨fun W hW => HTI.out W (HB1.out.trans (hW.mono HB1.out.size))⟩
  have HF1 : Kp (ActsIn w1 ao len f) := ⟨fun W hW => HF.out W (HB1.out.trans (hW.mono HB1.out.size))⟩
  go_wp2_with fail
  refine (made_any c bo lb cb g ao len cap f _ HLB.out hl hc2 HT1.out HF1.out).mono ?_
  rintro e w2 ⟨hv, hb2⟩
  have HB2 := Kp.mk (HB1.out.trans (hb2.mono HB1.out.size))
  clear hb2
  rcases hv with rfl | ⟨p, D, rfl, hp, hd, ho, hcp⟩
  · go_wp2
    go_ret
    exact ⟨by trivial, HB2.out⟩
  · have G : Kp (w.heap.size ≤ p) := ⟨Nat.le_trans HB1.out.size hp⟩
    have D2 := Kp.mk hd
    have O2 := Kp.mk ho
    have O3 := Kp.mk (ho.back kl kf)
    have HT := Kp.mk (fun t ht => back_told ho kl kf t ht)
    have hpl := hd.lt
    clear hd ho hp HT1 HF1 HTI HF HLB hcp
    go_wp2_with fail
    refine (Tapes_any p D _ D2.out O2.out).mono ?_
    rintro e w3 ⟨lo, lc, rfl, hr, hn⟩
    have D3 := Kp.mk (D2.out.below hn.below)
    have B3 := Kp.mk (HB2.out.trans (hn.below.mono HB2.out.size))
    obtain ⟨gl, cl, hvl, hlc, hcm, _, hbl⟩ := hr.at_ (by decide)
    have hglp : gl ≠ p := by have := hn.new _ hbl; omega
    simp only [Value.slice.injEq, true_and] at hvl
    obtain ⟨rfl, rfl⟩ := hvl
    unfold maxLen at hcm
    have R3 := Kp.mk hr
    have HBL : Kp (∀ k, blk (.slice (some ⟨gl, 0, none⟩) 32 lc) = some k → k ≠ p) := ⟨fun k hk e => by rw [hbl] at hk; cases hk; exact hglp e⟩
    have HBk := Kp.mk (Back_any p D ko kl kc kf w3 D3.out O2.out (by unfold maxLen; omega) (fun W hW => HK.out W (hW.below B3.out B3.out.size G.out)))
    clear hr hn hbl hglp hpl D2 HB2
    have hdn : (backV D kl kf).down = false := rfl
    have hcn : (backV D kl kf).counts = false := rfl
    generalize backV D kl kf = E at O3 HT HBk hdn hcn
    have HUp := Kp.mk (fun wx hx => Up_any p E wx hx)
    rw [hdn] at HUp
    have HSy := Kp.mk (fun wx hx => Sync_any p E 0 wx hx O3.out)
    rw [sync_back hcn hdn] at HSy
    have OS := Kp.mk (O3.out.sync 0)
    clear hdn hcn
    go_wp2_with fail
    refine HBk.out.mono ?_
    rintro e w4 ⟨rfl, d4, c4⟩
    have D4 := Kp.mk d4
    have R4 := Kp.mk (R3.out.chg c4 HBL.out)
    have B4 := Kp.mk (c4.below B3.out B3.out.size G.out)
    clear d4 c4 HBk D3 R3 B3
    go_wp2_with fail
    refine (HUp.out _ D4.out).mono ?_
    rintro e w' ⟨rfl, rfl⟩
    go_wp2_with fail
    refine (Tapes_any p E _ D4.out O3.out).mono ?_
    rintro e w5 ⟨mo, mc, rfl, hr5, hn5⟩
    have D5 := Kp.mk (D4.out.below hn5.below)
    have R5 := Kp.mk (R4.out.below hn5.below)
    have B5 := Kp.mk (B4.out.trans (hn5.below.mono B4.out.size))
    obtain ⟨gm, cm, hvm, _, hcm5, _, _⟩ := hr5.at_ (by decide)
    simp only [Value.slice.injEq, true_and] at hvm
    obtain ⟨rfl, rfl⟩ := hvm
    unfold maxLen at hcm5
    have M5 := Kp.mk hr5
    clear hr5 hn5 D4 R4 B4
    go_wp2
    obtain ⟨wo, hwo⟩ : ∃ wo : World, wo = w5 := ⟨_, rfl⟩
    go_loopw [12] (fun i wr => ∃ j m : Nat, i = .int .i64 j ∧ j ≤ 32 ∧ wr = w5.drewN m) (fun i _ => 32 - (intOf i).toNat)
    case atStart => exact ⟨0, 0, rfl, by omega, rfl⟩
    case round =>
      obtain ⟨j, m, rfl, hj, rfl⟩ := hrel
      by_cases hj2 : j < 32
      · obtain ⟨x0, x1⟩ := tape_cells R5.out j hj2
        obtain ⟨v0, v1⟩ := tape_cells M5.out j hj2
        obtain ⟨n, hn1, hn2, hto⟩ := HT.out j hj2
        rw [hto] at v0 v1
        simp only [] at v0 v1
        have hall := told_all _ (O2.out.firm j hj2)
        have hsum := told_sizes _ (O2.out.firm j hj2)
        have hmx := O2.out.most j hj2
        have HAll := Kp.mk hall
        clear hto hall
        generalize (told (D.tp j)).1 = F at x0 hn1 hsum HAll
        generalize (told (D.tp j)).2 = L at x1 hsum HAll
        generalize (D.tp j).b = b at hn2 v0 hsum hmx HAll
        have hX : (b.extract 0 n).size = n := extract_size b n hn2
        have HX2 : Kp ((F ++ L).extract 0 n = b.extract 0 n) := ⟨by rw [HAll.out]⟩
        have hS : (F ++ L).size = b.size := by rw [HAll.out]
        generalize b.extract 0 n = X at v0 hX HX2
        have i0 : (0 : Int) ≤ (j : Int) := by omega
        have i1 : (j : Int) < 32 := by omega
        have hcat : ¬ 9223372036854775807 < F.size + L.size := by omega
        have z1 : decide ((X.size : Int) < (F.size : Int)) = false := by rw [decide_eq_false_iff_not]; omega
        have z1' : decide (X.size < F.size) = false := by rw [decide_eq_false_iff_not]; omega
        generalize hAe : F ++ L = A at hS HX2
        have HAe := Kp.mk hAe
        have z2 : decide ((A.size : Int) < (X.size : Int)) = false := by rw [decide_eq_false_iff_not]; omega
        have z2' : decide (A.size < X.size) = false := by rw [decide_eq_false_iff_not]; omega
        have y1 : (0 : Int) ≤ (X.size : Int) := by omega
        have y2 : (X.size : Int) ≤ (A.size : Int) := by omega
        have HX3 : Kp (A.extract 0 X.size = X) := ⟨by rw [hX]; exact HX2.out⟩
        clear hX hS
        have y3 := HX3.out
        go_wp2_with fail
        go_quiet (fail)
        go_wp2_with fail
        go_quiet (fail)
        clear y3 hAe
        go_wp2
        go_roundw
        case rel => exact ⟨j + 1, _, by go_num, by omega, rfl⟩
        case measure => simp [intOf]; omega
      · obtain rfl : j = 32 := by omega
        have D6 : Kp (DiskAt (w5.drewN m) p E) := ⟨D5.out⟩
        have B6 : Kp (Below w.heap.size w (w5.drewN m)) := ⟨⟨B5.out.os, B5.out.tape, B5.out.output, B5.out.size, B5.out.block⟩⟩
        clear D5 B5 R5 M5 hwo
        generalize w5.drewN m = w6 at D6 B6 ⊢
        go_wp2_with fail
        refine (Copy_any p E _ D6.out).mono ?_
        rintro e w7 ⟨rfl, d7, b7⟩
        have C7 := Kp.mk d7
        have D7 := Kp.mk (D6.out.below b7)
        have B7 := Kp.mk (B6.out.trans (b7.mono B6.out.size))
        clear d7 b7
        have HSa := Kp.mk (Same_any p w6.heap.size E E _ D7.out C7.out)
        rw [diskB_refl] at HSa
        go_wp2_with fail
        refine HSa.out.mono ?_
        rintro e w8 ⟨rfl, b8⟩
        have D8 := Kp.mk (D7.out.below b8)
        have B8 := Kp.mk (B7.out.trans (b8.mono B7.out.size))
        clear b8
        go_wp2_with fail
        refine (HSy.out _ D8.out).mono ?_
        rintro e w9 ⟨rfl, d9, c9⟩
        have D9 := Kp.mk d9
        have B9 := Kp.mk (c9.below B8.out B8.out.size G.out)
        clear d9 c9
        go_wp2_with fail
        refine (Back_any p _ ko kl kc kf _ D9.out OS.out (by unfold maxLen; omega) (fun W hW => HK.out W (hW.below B9.out B9.out.size G.out))).mono ?_
        rintro e wa ⟨rfl, da, ca⟩
        have BA := Kp.mk (ca.below B9.out B9.out.size G.out)
        clear da ca
        go_wp2
        go_ret
        exact ⟨by trivial, BA.out⟩
theorem walkDiskKept {H : Type} {enc : TypeId × Value → H} {X : Prop} {b0 b1 b2 : Nat} {d e e2 : DataW H} {ps qs qs2 : List MemPlace} (w : World) (c : Int) (hc : (Lit.int .i64 c).wf = true) (u : Value) (hu : Value.okWide Try.prog w .any b0 22 u) (hU : DataW.Trod enc Try.prog w 0 (fun _ => true) true 22 u d ps)
    (v : Value) (hv : Value.okWide Try.prog w .any b1 23 v) (hV : DataW.Trod enc Try.prog w 0 (fun _ => true) true 23 v e qs) (k : Value) (hk : Value.okWide Try.prog w .any b2 31 k) (hK : DataW.Trod enc Try.prog w 0 (fun _ => true) true 31 k e2 qs2) (_hweigh : X) :
    Calls Try.prog 7 #[.int .i64 c, u, v, k] w fun e w' => e = .returned (.bool true) ∧ Below w.heap.size w w' := by
  obtain ⟨_, _, _, hu'⟩ := Go.WideShapes.okWide_slice Try.underlying22 hu
  obtain ⟨_, _, _, hv'⟩ := Go.WideShapes.okWide_slice Try.underlying23 hv
  obtain ⟨_, _, _, hk'⟩ := Go.WideShapes.okWide_slice Try.underlying31 hk
  obtain ⟨bo, lb, cb, g, rfl, hlb, hg⟩ := tapes_open (by rw [hu']; rfl) hU
  obtain ⟨ao, len, cap, f, rfl, hl, hf⟩ := acts_open (by rw [hv']; rfl) hV
  obtain ⟨fuel, hK⟩ := hK
  rw [show k.cells.toList = [k] from by rw [hk']; rfl] at hK
  obtain ⟨ko, kl, kc, kf, rfl, hkl, hka⟩ := keep_open hK
  by_cases h0 : costA f len + costT g lb < 20000
  · by_cases h1 : len ≤ 200
    · by_cases h2 : kl ≤ 200
      · exact diskKept_core w c bo lb cb g ao len cap f ko kl kc kf hlb h1 h2 hg hf (fun W hW => hka.below hW) h0 (wf_i64 hc).2
      · exact diskKept_big2 w c bo lb cb g ao len cap f ko kl kc kf hlb hl hkl hg hf h0 h1 (by omega)
    · exact diskKept_big1 w c bo lb cb g ao len cap f ko kl kc kf hlb hl hkl hg hf h0 (by omega)
  · exact diskKept_big0 w c bo lb cb g ao len cap f ko kl kc kf hlb hl hkl hg hf h0
end Go.Proofs.Ytinjagebogifpaa
