/- The walk of DiskCounted: it returns true, and leaves what was there. -/
import Derived.Test.YtinjagebogifpaaDiskEx
namespace Go.Proofs.Ytinjagebogifpaa
open Go.RowKit
set_option linter.unusedVariables false

/-- Behind Fail(n), d things done. -/
def Cnt (n d : Int) (D : DiskV) : Prop := D.counts = true ∧ 0 ≤ d ∧ ((D.down = false ∧ D.left = n - d ∧ d ≤ n) ∨ (D.down = true ∧ d = n))
theorem op_down (D : DiskV) (t may : Int) (dov torn : TapeV → TapeV) (h : D.down = true) : opV D t may dov torn = (45, D) := by unfold opV; rw [if_pos h]
/-- What one act more is, and answers. -/
def CStep (n d : Int) (D : DiskV) (what : Nat) (e : Int) (D' : DiskV) : Prop :=
  (D.down = true ∧ e = 45 ∧ D'.down = true ∧ d = n ∧ Cnt n d D') ∨ (D.down = false ∧ e = 45 ∧ D'.down = true ∧ d = n ∧ Cnt n d D') ∨
  (D.down = false ∧ e ≠ 45 ∧ (e ≠ 0 ∨ what = 4) ∧ D'.down = false ∧ Cnt n d D') ∨ (D.down = false ∧ e = 0 ∧ what ≠ 4 ∧ D'.down = false ∧ Cnt n (d + 1) D')
theorem cnt_down {n d : Int} {D : DiskV} (h : Cnt n d D) (hd : D.down = true) : d = n := by
  obtain ⟨_, _, hx⟩ := h
  rcases hx with ⟨a, _⟩ | ⟨_, b⟩
  · rw [hd] at a; cases a
  · exact b
theorem op_step {n d : Int} {D : DiskV} (h : Cnt n d D) (t may : Int) (dov torn : TapeV → TapeV) (hm : may ≠ 45) (what : Nat) (hw : what ≠ 4) : CStep n d D what (opV D t may dov torn).1 (opV D t may dov torn).2 := by
  by_cases hd : D.down = true
  · rw [op_down D t may dov torn hd]
    exact .inl ⟨hd, rfl, hd, cnt_down h hd, h⟩
  · have hd' : D.down = false := by simpa using hd
    have hc := h.1
    have h0 := h.2.1
    have hx : D.left = n - d ∧ d ≤ n := by
      rcases h.2.2 with ⟨_, a, b⟩ | ⟨a, _⟩
      · exact ⟨a, b⟩
      · exact absurd a hd
    unfold opV
    rw [if_neg hd]
    split
    · exact .inr (.inr (.inl ⟨hd', (by decide : (1 : Int) ≠ 45), .inl (by decide : (1 : Int) ≠ 0), hd', h⟩))
    · split
      · rename_i hm2
        exact .inr (.inr (.inl ⟨hd', hm, .inl hm2, hd', h⟩))
      · have hf : failsV D = (decide (D.left - 1 < 0), { D with left := D.left - 1, down := decide (D.left - 1 < 0) }) := by unfold failsV; rw [if_neg (by rw [hc]; simp)]
        rw [hf]
        by_cases hz : D.left - 1 < 0
        · have hz' : decide (D.left - 1 < 0) = true := by rw [decide_eq_true_eq]; exact hz
          have hdn : d = n := by omega
          rw [if_pos hz']
          exact .inr (.inl ⟨hd', rfl, hz', hdn, hc, h0, .inr ⟨hz', hdn⟩⟩)
        · have hz' : decide (D.left - 1 < 0) = false := by rw [decide_eq_false_iff_not]; exact hz
          rw [if_neg (by rw [hz']; simp)]
          exact .inr (.inr (.inr ⟨hd', rfl, hw, hz', hc, by omega, .inl ⟨hz', by show D.left - 1 = _; omega, by omega⟩⟩))
theorem writeMay_ne (D : DiskV) (b s : ByteArray) : writeMay D b s ≠ 45 := by
  unfold writeMay
  split
  · decide
  · split
    · decide
    · decide
theorem trimMay_ne (b : ByteArray) (n : Int) : trimMay b n ≠ 45 := by unfold trimMay; split <;> decide
/-- One act more. -/
theorem cnt_step {n d : Int} {D : DiskV} (h : Cnt n d D) (a : ActV) (ha : a.what ≤ 4) : CStep n d D a.what (doV D a).1.2 (doV D a).2 := by
  obtain ⟨qw, qt, qn, qs, ko, kl, kc, kf⟩ := a
  simp only [] at ha
  match qw, ha with
  | 0, _ => exact op_step h _ _ _ _ (writeMay_ne _ _ _) 0 (by decide)
  | 1, _ => exact op_step h _ _ _ _ (by decide) 1 (by decide)
  | 2, _ => exact op_step h _ _ _ _ (trimMay_ne _ _) 2 (by decide)
  | 3, _ => exact op_step h _ _ _ _ (by decide) 3 (by decide)
  | 4, _ =>
    show CStep n d D 4 (readV D qt).2 D
    by_cases hd : D.down = true
    · exact .inl ⟨hd, by unfold readV; rw [if_pos hd], hd, cnt_down h hd, h⟩
    · have hd' : D.down = false := by simpa using hd
      refine .inr (.inr (.inl ⟨hd', ?_, .inr rfl, hd', h⟩))
      unfold readV
      rw [if_neg hd]
      split
      · exact (by decide : (1 : Int) ≠ 45)
      · exact (by decide : (0 : Int) ≠ 45)
  | k + 5, hk => omega
set_option maxRecDepth 100000 in
theorem diskCounted_big0 (w : World) (c n : Int) (bo : Option Addr) (lb cb : Nat) (g : Nat → ByteArray × ByteArray) (ao : Option Addr) (len cap : Nat) (f : Nat → ActV) (hlb : lb ≤ maxLen) (hl : len ≤ maxLen) (hg : TapesAt w bo lb g) (hf : ActsIn w ao len f) (hc0 : ¬ costA f len + costT g lb < 20000) :
    Calls Try.prog 3 #[.int .i64 c, .slice bo lb cb, .int .i64 n, .slice ao len cap] w fun e w' => e = .returned (.bool true) ∧ Below w.heap.size w w' := by
  have HL0 := Kp.mk (long_any w ao len cap f bo lb cb g hl hf hlb hg)
  rw [show decide (20000 ≤ costA f len + costT g lb) = true from by rw [decide_eq_true_eq]; omega] at HL0
  unfold maxLen at *
  go_enter Try.func3, Try.ntmps3
  go_wp2_with fail
  refine (HL0.out).mono ?_
  rintro e w' ⟨rfl, md0, rfl⟩
  go_wp2_with fail
  refine (awake_any _).mono ?_
  rintro e w1 ⟨rfl, hb1⟩
  have HB1 : Kp (Below w.heap.size w w1) := ⟨⟨hb1.os, hb1.tape, hb1.output, hb1.size, hb1.block⟩⟩
  clear hb1
  go_wp2
  go_ret
  exact ⟨by trivial, HB1.out⟩
set_option maxRecDepth 100000 in
theorem diskCounted_big1 (w : World) (c n : Int) (bo : Option Addr) (lb cb : Nat) (g : Nat → ByteArray × ByteArray) (ao : Option Addr) (len cap : Nat) (f : Nat → ActV) (hlb : lb ≤ maxLen) (hl : len ≤ maxLen) (hg : TapesAt w bo lb g) (hf : ActsIn w ao len f) (hc0 : costA f len + costT g lb < 20000) (hc1 : len > 200) :
    Calls Try.prog 3 #[.int .i64 c, .slice bo lb cb, .int .i64 n, .slice ao len cap] w fun e w' => e = .returned (.bool true) ∧ Below w.heap.size w w' := by
  have HL0 := Kp.mk (long_any w ao len cap f bo lb cb g hl hf hlb hg)
  rw [show decide (20000 ≤ costA f len + costT g lb) = false from by rw [decide_eq_false_iff_not]; omega] at HL0
  have t1 : decide ((200 : Int) < (len : Int)) = true := by rw [decide_eq_true_eq]; omega
  have t1' : decide (200 < len) = true := by rw [decide_eq_true_eq]; omega
  unfold maxLen at *
  go_enter Try.func3, Try.ntmps3
  go_wp2_with fail
  refine (HL0.out).mono ?_
  rintro e w' ⟨rfl, md0, rfl⟩
  go_wp2_with fail
  refine (awake_any _).mono ?_
  rintro e w1 ⟨rfl, hb1⟩
  have HB1 : Kp (Below w.heap.size w w1) := ⟨⟨hb1.os, hb1.tape, hb1.output, hb1.size, hb1.block⟩⟩
  clear hb1
  go_wp2
  go_ret
  exact ⟨by trivial, HB1.out⟩
set_option maxRecDepth 100000 in
set_option maxHeartbeats 2000000 in
theorem diskCounted_core (w : World) (c n : Int) (bo : Option Addr) (lb cb : Nat) (g : Nat → ByteArray × ByteArray) (ao : Option Addr) (len cap : Nat) (f : Nat → ActV) (hlb : lb ≤ maxLen) (hl : len ≤ 200) (hg : TapesAt w bo lb g) (hf : ActsIn w ao len f)
    (hc : costA f len + costT g lb < 20000) (hc2 : c ≤ 9223372036854775807) (hn2 : n ≤ 9223372036854775807) :
    Calls Try.prog 3 #[.int .i64 c, .slice bo lb cb, .int .i64 n, .slice ao len cap] w fun e w' => e = .returned (.bool true) ∧ Below w.heap.size w w' := by
  have HL := Kp.mk (long_any w ao len cap f bo lb cb g (by unfold maxLen; omega) hf hlb hg)
  rw [show decide (20000 ≤ costA f len + costT g lb) = false from by rw [decide_eq_false_iff_not]; omega] at HL
  have t1 : decide ((200 : Int) < (len : Int)) = false := by rw [decide_eq_false_iff_not]; omega
  have t1' : decide (200 < len) = false := by rw [decide_eq_false_iff_not]; omega
  have HF := Kp.mk hf
  have HTI := Kp.mk (hg.small (by omega))
  have HLB := Kp.mk hlb
  clear hg hf hc hlb
  go_enter Try.func3, Try.ntmps3
  go_wp2_with fail
  refine HL.out.mono ?_
  rintro e w' ⟨rfl, md, rfl⟩
  go_wp2_with fail
  refine (awake_any _).mono ?_
  rintro e w1 ⟨rfl, hb1⟩
  have HB1 : Kp (Below w.heap.size w w1) := ⟨⟨hb1.os, hb1.tape, hb1.output, hb1.size, hb1.block⟩⟩
  clear hb1 HL t1 t1'
  have HT1 : Kp (TapesIn w1 bo lb g) := ⟨fun W hW => HTI.out W (HB1.out.trans (hW.mono HB1.out.size))⟩
  go_wp2_with fail
  refine (Load_any c bo lb cb g _ HLB.out hc2 HT1.out).mono ?_
  rintro e w2 ⟨hv, hb2⟩
  have HB2 := Kp.mk (HB1.out.trans (hb2.mono HB1.out.size))
  clear hb2
  rcases hv with ⟨er, her, rfl⟩ | ⟨h0, rfl, hd, ho⟩
  · have z1 : (er == 0) = false := by rw [beq_eq_false_iff_ne]; omega
    clear her
    go_wp2
    go_ret
    exact ⟨by trivial, HB2.out⟩
  · have hG : w.heap.size ≤ w1.heap.size := HB1.out.size
    have HDn : Kp ((loadD g c lb).down = false) := ⟨rfl⟩
    generalize w1.heap.size = p at hd hG ⊢
    have G := Kp.mk hG
    generalize loadD g c lb = D at hd ho HDn
    have HD := Kp.mk hd
    have HO := Kp.mk ho
    clear hd ho hG HT1 HTI HLB
    have HFa := Kp.mk (fun wx hx => Fail_any p D n wx hx)
    by_cases hn0 : n < 0
    · have hV : failV D n = (1, D) := by unfold failV; rw [if_neg (by rw [HDn.out]; simp), if_pos hn0]
      rw [hV] at HFa
      have q1 : decide (n < 0) = true := by rw [decide_eq_true_eq]; exact hn0
      have HUp := Kp.mk (fun wx hx => Up_any p D wx hx)
      rw [HDn.out] at HUp
      clear hV
      go_wp2_with fail
      refine (HFa.out _ HD.out).mono ?_
      rintro e w3 ⟨rfl, d3, c3⟩
      have D3 := Kp.mk d3
      have B3 := Kp.mk (c3.below HB2.out HB2.out.size G.out)
      clear d3 c3
      go_wp2_with fail
      refine (HUp.out _ D3.out).mono ?_
      rintro e w' ⟨rfl, rfl⟩
      go_wp2
      go_ret
      exact ⟨by trivial, B3.out⟩
    · have hV : failV D n = (0, { D with counts := true, left := n }) := by unfold failV; rw [if_neg (by rw [HDn.out]; simp), if_neg hn0]
      have HO1 := Kp.mk (HO.out.failV n hn2)
      rw [hV] at HFa HO1
      have HC0 : Kp (Cnt n 0 { D with counts := true, left := n }) := ⟨⟨rfl, Int.le_refl _, .inl ⟨HDn.out, by show n = n - 0; omega, by omega⟩⟩⟩
      simp only [] at HFa HO1
      generalize ({ D with counts := true, left := n } : DiskV) = D1 at HFa HO1 HC0
      have q1 : decide (n < 0) = false := by rw [decide_eq_false_iff_not]; exact hn0
      clear hV HDn HO
      go_wp2_with fail
      refine (HFa.out _ HD.out).mono ?_
      rintro e w3 ⟨rfl, d3, c3⟩
      have D3 := Kp.mk d3
      have B3 := Kp.mk (c3.below HB2.out HB2.out.size G.out)
      clear d3 c3 HFa HD HB2
      go_wp2
      go_loopw [11, 12] (fun dn i wr => ∃ (j : Nat) (D : DiskV) (d : Int), i = .int .i64 j ∧ j ≤ len ∧ dn = .int .i64 d ∧ d ≤ j ∧ Cnt n d D ∧ Ok D ∧ DiskAt wr p D ∧ Below w.heap.size w wr) (fun _ i _ => len - (intOf i).toNat)
      case atStart => exact ⟨0, D1, 0, rfl, by omega, rfl, by omega, HC0.out, HO1.out, D3.out, B3.out⟩
      case round =>
        obtain ⟨j, D, d, rfl, hj, rfl, hdj, hcn, ho, hd, hb⟩ := hrel
        have DD := Kp.mk hd
        have OO := Kp.mk ho
        have CC := Kp.mk hcn
        have BB := Kp.mk hb
        have hd0 := hcn.2.1
        clear HC0 HO1 D3 B3
        by_cases hjl : j < len
        · obtain ⟨a, rfl, hok, hat⟩ := HF.out wr hb j hjl
          have HDo := Kp.mk (do_any p D (f j) wr hd ho hok (fun W hW => by
            obtain ⟨a', ha', _, h2⟩ := HF.out W (hW.below hb hb.size G.out) j hjl
            exact h2.2.2.2.2.2))
          have HAT : Kp (∀ W, Below w.heap.size w W → W.cell? (a.add (j * 5)) = some (.int .u8 (f j).what)) := ⟨fun W hW => by
            obtain ⟨a', ha', _, h2⟩ := HF.out W hW j hjl
            cases ha'
            exact h2.1⟩
          have HOk := Kp.mk (ho.act (f j) hok)
          have HUp := Kp.mk (Up_any p D wr hd)
          have HUp2 := Kp.mk (fun wx hx => Up_any p (doV D (f j)).2 wx hx)
          have HST := Kp.mk (fun ha => cnt_step hcn (f j) ha)
          have hw256 := hok.1
          obtain ⟨c0, c1, c2, c3, c4, _⟩ := hat
          generalize doV D (f j) = r at HDo HOk HUp2 HST
          obtain ⟨⟨rs, re⟩, D2⟩ := r
          generalize f j = q at c0 c1 c2 c3 c4 HDo HST HAT hw256
          obtain ⟨qw, qt, qn, qs, qo, ql, qc, qf⟩ := q
          simp only [ActV.v] at c0 c1 c2 c3 c4 HDo HOk HUp2 HST HAT hw256
          have i0 : (0 : Int) ≤ (j : Int) := by omega
          have i1 : (j : Int) < (len : Int) := by omega
          clear hd ho hcn hb hok
          by_cases h4 : 4 < qw
          · have y1 : decide ((4 : Int) < (qw : Int)) = true := by rw [decide_eq_true_eq]; omega
            have y1' : decide (4 < qw) = true := by rw [decide_eq_true_eq]; omega
            go_wp2
            go_roundw
            case rel => exact ⟨j + 1, D, d, by go_num, by omega, rfl, by omega, CC.out, OO.out, DD.out, ⟨BB.out.os, BB.out.tape, BB.out.output, BB.out.size, BB.out.block⟩⟩
            case measure => simp [intOf]; omega
          · have y1 : decide ((4 : Int) < (qw : Int)) = false := by rw [decide_eq_false_iff_not]; omega
            have y1' : decide (4 < qw) = false := by rw [decide_eq_false_iff_not]; omega
            have hst := HST.out (by omega)
            unfold CStep at hst
            generalize hDd : D.down = b1 at HUp hst
            generalize hD2d : D2.down = b2 at HUp2 hst
            have HE1 := Kp.mk hDd
            have HE2 := Kp.mk hD2d
            clear hDd hD2d HST
            rcases hst with ⟨rfl, rfl, rfl, hdn, hcc⟩ | ⟨rfl, rfl, rfl, hdn, hcc⟩ | ⟨rfl, hne, h0, rfl, hcc⟩ | ⟨rfl, rfl, h0, rfl, hcc⟩
            · subst hdn
              have CC2 := Kp.mk hcc
              clear hcc
              go_wp2_with fail
              refine HUp.out.mono ?_
              rintro e w' ⟨rfl, rfl⟩
              go_wp2_with fail
              refine HDo.out.mono ?_
              rintro e w4 ⟨rfl, d4, c4'⟩
              have D4 := Kp.mk d4
              have B4 := Kp.mk (c4'.below BB.out BB.out.size G.out)
              have z0 := HAT.out _ B4.out
              clear d4 c4' c0 c1 c2 c3 c4
              go_wp2_with fail
              refine (HUp2.out _ D4.out).mono ?_
              rintro e w' ⟨rfl, rfl⟩
              go_wp2
              go_roundw
              case rel => exact ⟨j + 1, D2, d, by go_num, by omega, rfl, by omega, CC2.out, HOk.out, D4.out, B4.out⟩
              case measure => simp [intOf]; omega
            · subst hdn
              have CC2 := Kp.mk hcc
              clear hcc
              go_wp2_with fail
              refine HUp.out.mono ?_
              rintro e w' ⟨rfl, rfl⟩
              go_wp2_with fail
              refine HDo.out.mono ?_
              rintro e w4 ⟨rfl, d4, c4'⟩
              have D4 := Kp.mk d4
              have B4 := Kp.mk (c4'.below BB.out BB.out.size G.out)
              have z0 := HAT.out _ B4.out
              clear d4 c4' c0 c1 c2 c3 c4
              go_wp2_with fail
              refine (HUp2.out _ D4.out).mono ?_
              rintro e w' ⟨rfl, rfl⟩
              go_wp2_with fail
              refine (HUp2.out _ D4.out).mono ?_
              rintro e w' ⟨rfl, rfl⟩
              go_wp2
              go_roundw
              case rel => exact ⟨j + 1, D2, d, by go_num, by omega, rfl, by omega, CC2.out, HOk.out, D4.out, B4.out⟩
              case measure => simp [intOf]; omega
            · have CC2 := Kp.mk hcc
              have zn : (re == 45) = false := by rw [beq_eq_false_iff_ne]; exact hne
              clear hcc hne
              have hx : ((re == 0) = false) ∨ ((re == 0) = true ∧ qw = 4) := by
                rcases h0 with h0 | h0
                · exact .inl (by rw [beq_eq_false_iff_ne]; exact h0)
                · by_cases h : re = 0
                  · exact .inr ⟨by rw [h]; rfl, h0⟩
                  · exact .inl (by rw [beq_eq_false_iff_ne]; exact h)
              clear h0
              rcases hx with zr | ⟨zr, rfl⟩
              all_goals
                go_wp2_with fail
                refine HUp.out.mono ?_
                rintro e w' ⟨rfl, rfl⟩
                go_wp2_with fail
                refine HDo.out.mono ?_
                rintro e w4 ⟨rfl, d4, c4'⟩
                have D4 := Kp.mk d4
                have B4 := Kp.mk (c4'.below BB.out BB.out.size G.out)
                have z0 := HAT.out _ B4.out
                clear d4 c4' c0 c1 c2 c3 c4
                go_wp2_with fail
                refine (HUp2.out _ D4.out).mono ?_
                rintro e w' ⟨rfl, rfl⟩
                go_wp2_with fail
                refine (HUp2.out _ D4.out).mono ?_
                rintro e w' ⟨rfl, rfl⟩
                go_wp2
                go_roundw
                case rel => exact ⟨j + 1, D2, d, by go_num, by omega, rfl, by omega, CC2.out, HOk.out, D4.out, B4.out⟩
                case measure => simp [intOf]; omega
            · have CC2 := Kp.mk hcc
              have z4 : ((qw : Int) == 4) = false := by rw [beq_eq_false_iff_ne]; omega
              clear hcc
              go_wp2_with fail
              refine HUp.out.mono ?_
              rintro e w' ⟨rfl, rfl⟩
              go_wp2_with fail
              refine HDo.out.mono ?_
              rintro e w4 ⟨rfl, d4, c4'⟩
              have D4 := Kp.mk d4
              have B4 := Kp.mk (c4'.below BB.out BB.out.size G.out)
              have z0 := HAT.out _ B4.out
              clear d4 c4' c0 c1 c2 c3 c4
              go_wp2_with fail
              refine (HUp2.out _ D4.out).mono ?_
              rintro e w' ⟨rfl, rfl⟩
              go_wp2_with fail
              refine (HUp2.out _ D4.out).mono ?_
              rintro e w' ⟨rfl, rfl⟩
              go_wp2
              go_roundw
              case rel => exact ⟨j + 1, D2, d + 1, by go_num, by omega, by go_num, by omega, CC2.out, HOk.out, D4.out, B4.out⟩
              case measure => simp [intOf]; omega
        · obtain rfl : j = len := by omega
          have HUp := Kp.mk (Up_any p D wr hd)
          have hx := hcn.2.2
          clear hd ho hcn hb
          generalize D.down = b1 at HUp hx
          rcases hx with ⟨rfl, _, hle⟩ | ⟨rfl, rfl⟩
          · have z1 : decide (d ≤ n) = true := by rw [decide_eq_true_eq]; exact hle
            go_wp2_with fail
            refine HUp.out.mono ?_
            rintro e w' ⟨rfl, rfl⟩
            go_wp2
            go_ret
            exact ⟨by trivial, BB.out⟩
          · go_wp2_with fail
            refine HUp.out.mono ?_
            rintro e w' ⟨rfl, rfl⟩
            go_wp2
            go_ret
            exact ⟨by trivial, BB.out⟩
theorem walkDiskCounted {H : Type} {enc : TypeId × Value → H} {X : Prop} {b0 b1 : Nat} {d e : DataW H} {ps qs : List MemPlace} (w : World) (c : Int) (hc : (Lit.int .i64 c).wf = true) (u : Value) (hu : Value.okWide Try.prog w .any b0 22 u) (hU : DataW.Trod enc Try.prog w 0 (fun _ => true) true 22 u d ps)
    (n : Int) (hn : (Lit.int .i64 n).wf = true) (v : Value) (hv : Value.okWide Try.prog w .any b1 23 v) (hV : DataW.Trod enc Try.prog w 0 (fun _ => true) true 23 v e qs) (_hweigh : X) :
    Calls Try.prog 3 #[.int .i64 c, u, .int .i64 n, v] w fun e w' => e = .returned (.bool true) ∧ Below w.heap.size w w' := by
  obtain ⟨_, _, _, hu'⟩ := Go.WideShapes.okWide_slice Try.underlying22 hu
  obtain ⟨_, _, _, hv'⟩ := Go.WideShapes.okWide_slice Try.underlying23 hv
  obtain ⟨bo, lb, cb, g, rfl, hlb, hg⟩ := tapes_open (by rw [hu']; rfl) hU
  obtain ⟨ao, len, cap, f, rfl, hl, hf⟩ := acts_open (by rw [hv']; rfl) hV
  by_cases h0 : costA f len + costT g lb < 20000
  · by_cases h1 : len ≤ 200
    · exact diskCounted_core w c n bo lb cb g ao len cap f hlb h1 hg hf h0 (wf_i64 hc).2 (wf_i64 hn).2
    · exact diskCounted_big1 w c n bo lb cb g ao len cap f hlb hl hg hf h0 (by omega)
  · exact diskCounted_big0 w c n bo lb cb g ao len cap f hlb hl hg hf h0
end Go.Proofs.Ytinjagebogifpaa
