/- The walk of DiskRoom: it returns true, and leaves what was there. -/
import Derived.Test.YtinjagebogifpaaDiskEx
namespace Go.Proofs.Ytinjagebogifpaa
open Go.RowKit
set_option linter.unusedVariables false

/-! ### Plain law: what a Write is -/
theorem ba_pre' (b s : ByteArray) (m : Nat) (h : m ≤ b.size) : (b ++ s).extract 0 m = b.extract 0 m := by
  rw [ByteArray.extract_append, show 0 - b.size = 0 from by omega, show m - b.size = 0 from by omega]
  apply ByteArray.ext
  rw [ByteArray.data_append, ByteArray.data_extract (a := s)]
  simp
theorem ba_post (b s : ByteArray) (m : Nat) (h : m ≤ b.size) : (b ++ s).extract m (b ++ s).size = b.extract m b.size ++ s := by
  rw [ByteArray.extract_append, ByteArray.size_append, show m - b.size = 0 from by omega, show b.size + s.size - b.size = s.size from by omega, ByteArray.extract_zero_size]
  congr 1
  apply ByteArray.ext
  rw [ByteArray.data_extract, ByteArray.data_extract]
  have hd : b.data.size = b.size := rfl
  apply Array.ext_getElem?
  intro i
  rw [Array.getElem?_extract, Array.getElem?_extract, show min (b.size + s.size) b.data.size = min b.size b.data.size from by omega]
theorem DiskAt.drewN {w : World} {g : Nat} {D : DiskV} (h : DiskAt w g D) (n : Nat) : DiskAt (w.drewN n) g D := h
theorem told_sizes (x : TapeV) (h : x.firm ≤ x.b.size) : (told x).1.size + (told x).2.size = x.b.size := by
  unfold told
  simp only [ByteArray.size_extract]
  omega
theorem room_cases {D : DiskV} (ho : Ok D) (t : Int) (s : ByteArray) :
    (D.down = true ∧ writeV D t s = (45, D)) ∨ (D.down = false ∧ (t < 0 ∨ 32 ≤ t) ∧ writeV D t s = (1, D)) ∨
    (D.down = false ∧ ∃ k : Nat, t = k ∧ k < 32 ∧ (D.cap - used D.tp 32 < s.size ∨ 1048576 < (D.tp k).b.size + s.size) ∧ ∃ er, (er = 40 ∨ er = 44) ∧ writeV D t s = (er, D)) ∨
    (D.down = false ∧ ∃ k : Nat, t = k ∧ k < 32 ∧ ¬ D.cap - used D.tp 32 < s.size ∧ ¬ 1048576 < (D.tp k).b.size + s.size ∧ ∃ er D2, writeV D t s = (er, D2) ∧ ((er = 0 ∧ D2.down = false) ∨ (er = 45 ∧ D2.down = true)) ∧ used D2.tp 32 = used D.tp 32 + s.size ∧ D2.tp k = ⟨(D.tp k).b ++ s, (D.tp k).firm⟩) := by
  by_cases hd : D.down = true
  · exact .inl ⟨hd, by unfold writeV opV; rw [if_pos hd]⟩
  · have hd' : D.down = false := by simpa using hd
    by_cases ht : t < 0 ∨ 32 ≤ t
    · exact .inr (.inl ⟨hd', ht, by unfold writeV opV; rw [if_neg hd, if_pos ht]⟩)
    · obtain ⟨k, rfl, hk⟩ : ∃ k : Nat, t = k ∧ k < 32 := ⟨t.toNat, by omega, by omega⟩
      by_cases hc : D.cap - used D.tp 32 < s.size ∨ 1048576 < (D.tp k).b.size + s.size
      · refine .inr (.inr (.inl ⟨hd', k, rfl, hk, hc, writeMay D (D.tp k).b s, ?_, ?_⟩))
        · unfold writeMay
          split
          · exact .inl rfl
          · split
            · exact .inr rfl
            · omega
        · have hm : writeMay D (D.tp k).b s ≠ 0 := by
            unfold writeMay
            split
            · decide
            · split
              · decide
              · omega
          unfold writeV opV
          rw [if_neg hd, if_neg ht, Int.toNat_natCast, if_pos hm]
      · have hm : writeMay D (D.tp k).b s = 0 := by
          unfold writeMay
          rw [if_neg (by omega), if_neg (by omega)]
        have hu := used_setT (failsV D).2 k ⟨(D.tp k).b ++ s, (D.tp k).firm⟩ hk
        rw [fails_tp] at hu
        have hsz : ((D.tp k).b ++ s).size = (D.tp k).b.size + s.size := ByteArray.size_append
        simp only [hsz] at hu
        have hu' : used (setT (failsV D).2 k ⟨(D.tp k).b ++ s, (D.tp k).firm⟩).tp 32 = used D.tp 32 + s.size := by omega
        refine .inr (.inr (.inr ⟨hd', k, rfl, hk, by omega, by omega, ?_⟩))
        have hfd : (failsV D).2.down = (failsV D).1 := by
          unfold failsV
          split
          · exact hd'
          · rfl
        unfold writeV opV
        rw [if_neg hd, if_neg ht, Int.toNat_natCast, if_neg (by rw [hm]; simp)]
        by_cases hf : (failsV D).1 = true
        · rw [if_pos hf]
          exact ⟨_, _, rfl, .inr ⟨rfl, by rw [← hf, ← hfd]; rfl⟩, hu', setT_same _ _ _⟩
        · rw [if_neg hf]
          have hf' : (failsV D).1 = false := by simpa using hf
          exact ⟨_, _, rfl, .inl ⟨rfl, by rw [← hf', ← hfd]; rfl⟩, hu', setT_same _ _ _⟩
/-- A row that was there is kept where another block alone is written. -/
theorem RK.chg {z n p : Nat} {w w' : World} {v : Value} {cs : List Value} (h : RK z w v n cs) (hc : Chg w w' p) (hp : ∀ k, blk v = some k → k ≠ p) : RK z w' v n cs :=
  h.same hc.size fun k hk => hc.block k (h.lt k hk) (fun e => hp k hk (Option.some.inj e))
theorem tape_cells {w : World} {gl cl : Nat} {D : DiskV} (h : RK 2 w (.slice (some ⟨gl, 0, none⟩) 32 cl) 32 (trow (tapesL D 32))) (k : Nat) (hk : k < 32) : w.cell? ⟨gl, k * 2, none⟩ = some (.string (told (D.tp k)).1) ∧ w.cell? ⟨gl, k * 2 + 1, none⟩ = some (.string (told (D.tp k)).2) := by
  obtain ⟨q1, q2⟩ := trow_get (tapesL D 32) k (by rw [tapesL_len]; exact hk)
  have hgk : (tapesL D 32)[k]'(by rw [tapesL_len]; exact hk) = told (D.tp k) := by simp only [tapesL, List.getElem_map, List.getElem_range]
  rw [hgk] at q1 q2
  exact ⟨h.cell _ _ q1, h.cell _ _ q2⟩
set_option maxRecDepth 100000 in
theorem diskRoom_big0 (w : World) (c t : Int) (s : ByteArray) (bo : Option Addr) (lb cb : Nat) (g : Nat → ByteArray × ByteArray) (ao : Option Addr) (len cap : Nat) (f : Nat → ActV) (hlb : lb ≤ maxLen) (hl : len ≤ maxLen) (hsz : s.size ≤ maxLen) (hg : TapesAt w bo lb g) (hf : ActsIn w ao len f) (hc0 : ¬ costA f len + costT g lb < 20000) :
    Calls Try.prog 6 #[.int .i64 c, .slice bo lb cb, .slice ao len cap, .int .i64 t, .string s] w fun e w' => e = .returned (.bool true) ∧ Below w.heap.size w w' := by
  have HL0 := Kp.mk (long_any w ao len cap f bo lb cb g hl hf hlb hg)
  rw [show decide (20000 ≤ costA f len + costT g lb) = true from by rw [decide_eq_true_eq]; omega] at HL0
  unfold maxLen at *
  go_enter Try.func6, Try.ntmps6
  go_wp2_with fail
  refine (HL0.out).mono ?_
  rintro e w' ⟨rfl, md0, rfl⟩
  go_wp2_with fail
  refine (awake_any _).mono ?_
  rintro e w1 ⟨rfl, hb1⟩
  have HB1 : Kp (Below w.heap.size w w1) := ⟨⟨hb1.os, hb1.tape, hb1.output, hb1.size, hb1.block⟩⟩
  clear hb1
  go_wp2
  go_ret
  exact ⟨by trivial, HB1.out⟩
set_option maxRecDepth 100000 in
theorem diskRoom_big1 (w : World) (c t : Int) (s : ByteArray) (bo : Option Addr) (lb cb : Nat) (g : Nat → ByteArray × ByteArray) (ao : Option Addr) (len cap : Nat) (f : Nat → ActV) (hlb : lb ≤ maxLen) (hl : len ≤ maxLen) (hsz : s.size ≤ maxLen) (hg : TapesAt w bo lb g) (hf : ActsIn w ao len f) (hc0 : costA f len + costT g lb < 20000) (hc1 : len > 200) :
    Calls Try.prog 6 #[.int .i64 c, .slice bo lb cb, .slice ao len cap, .int .i64 t, .string s] w fun e w' => e = .returned (.bool true) ∧ Below w.heap.size w w' := by
  have HL0 := Kp.mk (long_any w ao len cap f bo lb cb g hl hf hlb hg)
  rw [show decide (20000 ≤ costA f len + costT g lb) = false from by rw [decide_eq_false_iff_not]; omega] at HL0
  have t1 : decide ((200 : Int) < (len : Int)) = true := by rw [decide_eq_true_eq]; omega
  have t1' : decide (200 < len) = true := by rw [decide_eq_true_eq]; omega
  unfold maxLen at *
  go_enter Try.func6, Try.ntmps6
  go_wp2_with fail
  refine (HL0.out).mono ?_
  rintro e w' ⟨rfl, md0, rfl⟩
  go_wp2_with fail
  refine (awake_any _).mono ?_
  rintro e w1 ⟨rfl, hb1⟩
  have HB1 : Kp (Below w.heap.size w w1) := ⟨⟨hb1.os, hb1.tape, hb1.output, hb1.size, hb1.block⟩⟩
  clear hb1
  go_wp2
  go_ret
  exact ⟨by trivial, HB1.out⟩
set_option maxRecDepth 100000 in
theorem diskRoom_big2 (w : World) (c t : Int) (s : ByteArray) (bo : Option Addr) (lb cb : Nat) (g : Nat → ByteArray × ByteArray) (ao : Option Addr) (len cap : Nat) (f : Nat → ActV) (hlb : lb ≤ maxLen) (hl : len ≤ maxLen) (hsz : s.size ≤ maxLen) (hg : TapesAt w bo lb g) (hf : ActsIn w ao len f) (hc0 : costA f len + costT g lb < 20000) (hc1 : len ≤ 200) (hc2 : s.size > 20000) :
    Calls Try.prog 6 #[.int .i64 c, .slice bo lb cb, .slice ao len cap, .int .i64 t, .string s] w fun e w' => e = .returned (.bool true) ∧ Below w.heap.size w w' := by
  have HL0 := Kp.mk (long_any w ao len cap f bo lb cb g hl hf hlb hg)
  rw [show decide (20000 ≤ costA f len + costT g lb) = false from by rw [decide_eq_false_iff_not]; omega] at HL0
  have t1 : decide ((200 : Int) < (len : Int)) = false := by rw [decide_eq_false_iff_not]; omega
  have t1' : decide (200 < len) = false := by rw [decide_eq_false_iff_not]; omega
  have t2 : decide ((20000 : Int) < (s.size : Int)) = true := by rw [decide_eq_true_eq]; omega
  have t2' : decide (20000 < s.size) = true := by rw [decide_eq_true_eq]; omega
  unfold maxLen at *
  go_enter Try.func6, Try.ntmps6
  go_wp2_with fail
  refine (HL0.out).mono ?_
  rintro e w' ⟨rfl, md0, rfl⟩
  go_wp2_with fail
  refine (awake_any _).mono ?_
  rintro e w1 ⟨rfl, hb1⟩
  have HB1 : Kp (Below w.heap.size w w1) := ⟨⟨hb1.os, hb1.tape, hb1.output, hb1.size, hb1.block⟩⟩
  clear hb1
  go_wp2
  go_ret
  exact ⟨by trivial, HB1.out⟩
set_option maxRecDepth 100000 in
set_option maxHeartbeats 8000000 in
theorem diskRoom_core (w : World) (c t : Int) (s : ByteArray) (bo : Option Addr) (lb cb : Nat) (g : Nat → ByteArray × ByteArray) (ao : Option Addr) (len cap : Nat) (f : Nat → ActV) (hlb : lb ≤ maxLen) (hl : len ≤ 200) (hsz : s.size ≤ 20000) (hg : TapesAt w bo lb g) (hf : ActsIn w ao len f)
    (hc : costA f len + costT g lb < 20000) (hc2 : c ≤ 9223372036854775807) :
    Calls Try.prog 6 #[.int .i64 c, .slice bo lb cb, .slice ao len cap, .int .i64 t, .string s] w fun e w' => e = .returned (.bool true) ∧ Below w.heap.size w w' := by
  have HL0 := Kp.mk (long_any w ao len cap f bo lb cb g (by unfold maxLen; omega) hf hlb hg)
  rw [show decide (20000 ≤ costA f len + costT g lb) = false from by rw [decide_eq_false_iff_not]; omega] at HL0
  have t1 : decide ((200 : Int) < (len : Int)) = false := by rw [decide_eq_false_iff_not]; omega
  have t1' : decide (200 < len) = false := by rw [decide_eq_false_iff_not]; omega
  have t2 : decide ((20000 : Int) < (s.size : Int)) = false := by rw [decide_eq_false_iff_not]; omega
  have t2' : decide (20000 < s.size) = false := by rw [decide_eq_false_iff_not]; omega
  have HF := Kp.mk hf
  have HTI := Kp.mk (hg.small (by omega))
  have HLB := Kp.mk hlb
  clear hg hf hc hlb
  go_enter Try.func6, Try.ntmps6
  go_wp2_with fail
  refine HL0.out.mono ?_
  rintro e w' ⟨rfl, md, rfl⟩
  go_wp2_with fail
  refine (awake_any _).mono ?_
  rintro e w1 ⟨rfl, hb1⟩
  have HB1 : Kp (Below w.heap.size w w1) := ⟨⟨hb1.os, hb1.tape, hb1.output, hb1.size, hb1.block⟩⟩
  clear hb1 HL0 t1 t1' t2 t2'
  have HT1 : Kp (TapesIn w1 bo lb g) := ⟨fun W hW => HTI.out W (HB1.out.trans (hW.mono HB1.out.size))⟩
  have HF1 : Kp (ActsIn w1 ao len f) := ⟨fun W hW => HF.out W (HB1.out.trans (hW.mono HB1.out.size))⟩
  go_wp2_with fail
  refine (made_any c bo lb cb g ao len cap f _ HLB.out hl hc2 HT1.out HF1.out).mono ?_
  rintro e w2 ⟨hv, hb2⟩
  have HB2 := Kp.mk (HB1.out.trans (hb2.mono HB1.out.size))
  clear hb2
  rcases hv with rfl | ⟨p, D, rfl, hp, hd, ho, hcp⟩
  · go_wp2
    go_ret
    exact ⟨by trivial, HB2.out⟩
  · have G : Kp (w.heap.size ≤ p) := ⟨Nat.le_trans HB1.out.size hp⟩
    subst hcp
    have D2 := Kp.mk hd
    have O2 := Kp.mk ho
    have hpl := hd.lt
    clear hd ho hp HT1 HF1 HTI HF HLB
    go_wp2_with fail
    refine (Tapes_any p D _ D2.out O2.out).mono ?_
    rintro e w3 ⟨lo, lc, rfl, hr, hn⟩
    have D3 := Kp.mk (D2.out.below hn.below)
    have B3 := Kp.mk (HB2.out.trans (hn.below.mono HB2.out.size))
    obtain ⟨gl, cl, hvl, hlc, hcm, _, hbl⟩ := hr.at_ (by decide)
    have hglp : gl ≠ p := by have := hn.new _ hbl; omega
    simp only [Value.slice.injEq, true_and] at hvl
    obtain ⟨rfl, rfl⟩ := hvl
    unfold maxLen at hcm
    have R3 := Kp.mk hr
    have HBL : Kp (∀ k, blk (.slice (some ⟨gl, 0, none⟩) 32 lc) = some k → k ≠ p) := ⟨fun k hk e => by rw [hbl] at hk; cases hk; exact hglp e⟩
    clear hr hn hbl hglp hpl D2 HB2
    go_wp2
    obtain ⟨wo, hwo⟩ : ∃ wo : World, wo = w3 := ⟨_, rfl⟩
    go_loopw [12, 14] (fun a i wr => ∃ j m : Nat, i = .int .i64 j ∧ j ≤ 32 ∧ a = .int .i64 (used D.tp j) ∧ wr = w3.drewN m) (fun _ i _ => 32 - (intOf i).toNat)
    case atStart => exact ⟨0, 0, rfl, by omega, rfl, rfl⟩
    case round =>
      obtain ⟨j, m, rfl, hj, rfl, rfl⟩ := hrel
      by_cases hj2 : j < 32
      · obtain ⟨x0, x1⟩ := tape_cells R3.out j hj2
        have h1 := told_sizes _ (O2.out.firm j hj2)
        have h2 := O2.out.most j hj2
        have h3 := used_le O2.out.most j hj
        have HU : Kp (used D.tp (j + 1) = used D.tp j + (D.tp j).b.size) := ⟨rfl⟩
        generalize (told (D.tp j)).1 = F at x0 h1
        generalize (told (D.tp j)).2 = L at x1 h1
        generalize (D.tp j).b = b at h1 h2 HU
        generalize used D.tp j = U at h3 HU ⊢
        have i0 : (0 : Int) ≤ (j : Int) := by omega
        have i1 : (j : Int) < 32 := by omega
        have n1 : IntKind.i64.wrap ((U : Int) + (F.size : Int)) = ((U + F.size : Nat) : Int) := by rw [IntKind.wrap_i64]; omega
        have n2 : IntKind.i64.wrap (((U + F.size : Nat) : Int) + (L.size : Int)) = ((U + F.size + L.size : Nat) : Int) := by rw [IntKind.wrap_i64]; omega
        go_wp2_with fail
        go_quiet (fail)
        clear n1 n2
        go_wp2
        go_roundw
        case rel => exact ⟨j + 1, _, by go_num, by omega, by rw [HU.out, ← h1]; show Value.int .i64 _ = Value.int .i64 _; congr 1; omega, rfl⟩
        case measure => simp [intOf]; omega
      · obtain rfl : j = 32 := by omega
        have D4 : Kp (DiskAt (w3.drewN m) p D) := ⟨D3.out⟩
        have B4 : Kp (Below w.heap.size w (w3.drewN m)) := ⟨⟨B3.out.os, B3.out.tape, B3.out.output, B3.out.size, B3.out.block⟩⟩
        have R4 : Kp (RK 2 (w3.drewN m) (.slice (some ⟨gl, 0, none⟩) 32 lc) 32 (trow (tapesL D 32))) := ⟨R3.out⟩
        clear D3 B3 R3 hwo
        generalize w3.drewN m = w4 at D4 B4 R4 ⊢
        have HU1 := Kp.mk (Used_any p D w4 D4.out O2.out.most)
        have HCa := Kp.mk (fun wx hx => Capacity_any p D wx hx)
        have HUp := Kp.mk (fun wx hx => Up_any p D wx hx)
        have HWr := Kp.mk (fun wx hx => Write_any p D t s wx hx O2.out (by unfold maxLen; omega))
        have HOW := Kp.mk (O2.out.write t s)
        have hroom := O2.out.room
        have hmx := used_le O2.out.most 32 (Nat.le_refl _)
        have y0 : decide (D.cap < (used D.tp 32 : Int)) = false := by rw [decide_eq_false_iff_not]; omega
        have hcap := O2.out.cap
        have hcase := room_cases O2.out t s
        have HOD := O2
        clear O2
        go_wp2_with fail
        refine HU1.out.mono ?_
        rintro e w5 ⟨rfl, hb5⟩
        have D5 := Kp.mk (D4.out.below hb5)
        have R5 := Kp.mk (R4.out.below hb5)
        have B5 := Kp.mk (B4.out.trans (hb5.mono B4.out.size))
        clear hb5 D4 R4 B4 HU1
        go_wp2_with fail
        refine (HCa.out _ D5.out).mono ?_
        rintro e w' ⟨rfl, rfl⟩
        clear y0
        rcases hcase with ⟨hdn, hV⟩ | ⟨hdn, hbad, hV⟩ | ⟨hdn, k, rfl, hk, hcd, er, her, hV⟩ | ⟨hdn, k, rfl, hk, hn1, hn2, er, E, hV, hfl, hus, htp⟩
        · rw [hV] at HWr HOW
          have HTp := Kp.mk (fun wx hx => Tapes_any p D wx hx HOD.out)
          have HUs := Kp.mk (fun wx hx => Used_any p D wx hx HOD.out.most)
          rw [hdn] at HUp
          clear hV hdn hroom hmx
          generalize used D.tp 32 = U at *
          go_wp2_with fail
          refine (HUp.out _ D5.out).mono ?_
          rintro e w' ⟨rfl, rfl⟩
          go_wp2_with fail
          refine (HWr.out _ D5.out).mono ?_
          rintro e w6 ⟨rfl, d6, c6⟩
          have D6 := Kp.mk d6
          have R6 := Kp.mk (R5.out.chg c6 HBL.out)
          have B6 := Kp.mk (c6.below B5.out B5.out.size G.out)
          clear d6 c6
          go_wp2_with fail
          refine (HTp.out _ D6.out).mono ?_
          rintro e w7 ⟨no, nc, rfl, hr7, hn7⟩
          have D7 := Kp.mk (D6.out.below hn7.below)
          have R7 := Kp.mk (R6.out.below hn7.below)
          have B7 := Kp.mk (B6.out.trans (hn7.below.mono B6.out.size))
          obtain ⟨gm, cm, hvm, _, hcm7, _, _⟩ := hr7.at_ (by decide)
          simp only [Value.slice.injEq, true_and] at hvm
          obtain ⟨rfl, rfl⟩ := hvm
          unfold maxLen at hcm7
          have M7 := Kp.mk hr7
          clear hr7 hn7 D6 R6 B6
          go_wp2_with fail
          refine (HUs.out _ D7.out).mono ?_
          rintro e w8 ⟨rfl, hb8⟩
          have B8 := Kp.mk (B7.out.trans (hb8.mono B7.out.size))
          clear hb8
          go_wp2
          go_ret
          exact ⟨by trivial, B8.out⟩
        · rw [hV] at HWr HOW
          have HTp := Kp.mk (fun wx hx => Tapes_any p D wx hx HOD.out)
          have HUs := Kp.mk (fun wx hx => Used_any p D wx hx HOD.out.most)
          rw [hdn] at HUp
          clear hV hdn hroom hmx
          generalize used D.tp 32 = U at *
          by_cases h0 : t < 0
          · have z1 : decide (t < 0) = true := by rw [decide_eq_true_eq]; exact h0
            clear hbad
            go_wp2_with fail
            refine (HUp.out _ D5.out).mono ?_
            rintro e w' ⟨rfl, rfl⟩
            go_wp2_with fail
            refine (HWr.out _ D5.out).mono ?_
            rintro e w6 ⟨rfl, d6, c6⟩
            have D6 := Kp.mk d6
            have R6 := Kp.mk (R5.out.chg c6 HBL.out)
            have B6 := Kp.mk (c6.below B5.out B5.out.size G.out)
            clear d6 c6
            go_wp2_with fail
            refine (HTp.out _ D6.out).mono ?_
            rintro e w7 ⟨no, nc, rfl, hr7, hn7⟩
            have D7 := Kp.mk (D6.out.below hn7.below)
            have R7 := Kp.mk (R6.out.below hn7.below)
            have B7 := Kp.mk (B6.out.trans (hn7.below.mono B6.out.size))
            obtain ⟨gm, cm, hvm, _, hcm7, _, _⟩ := hr7.at_ (by decide)
            simp only [Value.slice.injEq, true_and] at hvm
            obtain ⟨rfl, rfl⟩ := hvm
            unfold maxLen at hcm7
            have M7 := Kp.mk hr7
            clear hr7 hn7 D6 R6 B6
            go_wp2_with fail
            refine (HUs.out _ D7.out).mono ?_
            rintro e w8 ⟨rfl, hb8⟩
            have B8 := Kp.mk (B7.out.trans (hb8.mono B7.out.size))
            clear hb8
            go_wp2
            go_ret
            exact ⟨by trivial, B8.out⟩
          · have z1 : decide (t < 0) = false := by rw [decide_eq_false_iff_not]; exact h0
            have z2 : decide ((32 : Int) ≤ t) = true := by rw [decide_eq_true_eq]; omega
            clear hbad
            go_wp2_with fail
            refine (HUp.out _ D5.out).mono ?_
            rintro e w' ⟨rfl, rfl⟩
            go_wp2_with fail
            refine (HWr.out _ D5.out).mono ?_
            rintro e w6 ⟨rfl, d6, c6⟩
            have D6 := Kp.mk d6
            have R6 := Kp.mk (R5.out.chg c6 HBL.out)
            have B6 := Kp.mk (c6.below B5.out B5.out.size G.out)
            clear d6 c6
            go_wp2_with fail
            refine (HTp.out _ D6.out).mono ?_
            rintro e w7 ⟨no, nc, rfl, hr7, hn7⟩
            have D7 := Kp.mk (D6.out.below hn7.below)
            have R7 := Kp.mk (R6.out.below hn7.below)
            have B7 := Kp.mk (B6.out.trans (hn7.below.mono B6.out.size))
            obtain ⟨gm, cm, hvm, _, hcm7, _, _⟩ := hr7.at_ (by decide)
            simp only [Value.slice.injEq, true_and] at hvm
            obtain ⟨rfl, rfl⟩ := hvm
            unfold maxLen at hcm7
            have M7 := Kp.mk hr7
            clear hr7 hn7 D6 R6 B6
            go_wp2_with fail
            refine (HUs.out _ D7.out).mono ?_
            rintro e w8 ⟨rfl, hb8⟩
            have B8 := Kp.mk (B7.out.trans (hb8.mono B7.out.size))
            clear hb8
            go_wp2
            go_ret
            exact ⟨by trivial, B8.out⟩
        · rw [hV] at HWr HOW
          have HTp := Kp.mk (fun wx hx => Tapes_any p D wx hx HOD.out)
          have HUs := Kp.mk (fun wx hx => Used_any p D wx hx HOD.out.most)
          rw [hdn] at HUp
          have z1 : decide ((k : Int) < 0) = false := by rw [decide_eq_false_iff_not]; omega
          have z2 : decide ((32 : Int) ≤ (k : Int)) = false := by rw [decide_eq_false_iff_not]; omega
          have z2' : decide (32 ≤ k) = false := by rw [decide_eq_false_iff_not]; omega
          have hsum := told_sizes _ (HOD.out.firm k hk)
          have hmk := HOD.out.most k hk
          clear hV hdn
          by_cases hq : D.cap - used D.tp 32 < s.size
          · have z3 : decide (D.cap - (used D.tp 32 : Int) < (s.size : Int)) = true := by rw [decide_eq_true_eq]; exact hq
            clear hroom
            generalize used D.tp 32 = U at *
            rcases her with rfl | rfl
            all_goals
              go_wp2_with fail
              refine (HUp.out _ D5.out).mono ?_
              rintro e w' ⟨rfl, rfl⟩
              go_wp2_with fail
              refine (HWr.out _ D5.out).mono ?_
              rintro e w6 ⟨rfl, d6, c6⟩
              have D6 := Kp.mk d6
              have R6 := Kp.mk (R5.out.chg c6 HBL.out)
              have B6 := Kp.mk (c6.below B5.out B5.out.size G.out)
              clear d6 c6
              go_wp2_with fail
              refine (HTp.out _ D6.out).mono ?_
              rintro e w7 ⟨no, nc, rfl, hr7, hn7⟩
              have D7 := Kp.mk (D6.out.below hn7.below)
              have R7 := Kp.mk (R6.out.below hn7.below)
              have B7 := Kp.mk (B6.out.trans (hn7.below.mono B6.out.size))
              obtain ⟨gm, cm, hvm, _, hcm7, _, _⟩ := hr7.at_ (by decide)
              simp only [Value.slice.injEq, true_and] at hvm
              obtain ⟨rfl, rfl⟩ := hvm
              unfold maxLen at hcm7
              have M7 := Kp.mk hr7
              clear hr7 hn7 D6 R6 B6
              go_wp2_with fail
              go_quiet (fail)
              go_wp2_with fail
              refine (HUs.out _ (D7.out.drewN _)).mono ?_
              rintro e w8 ⟨rfl, hb8⟩
              have D8 := Kp.mk (D7.out.below ⟨hb8.os, hb8.tape, hb8.output, hb8.size, hb8.block⟩)
              have B8 := Kp.mk (B7.out.trans (Below.mono ⟨hb8.os, hb8.tape, hb8.output, hb8.size, hb8.block⟩ B7.out.size))
              clear hb8
              go_wp2_with fail
              refine (HUp.out _ D8.out).mono ?_
              rintro e w' ⟨rfl, rfl⟩
              go_wp2
              go_ret
              exact ⟨by trivial, B8.out⟩
          · have z3 : decide (D.cap - (used D.tp 32 : Int) < (s.size : Int)) = false := by rw [decide_eq_false_iff_not]; exact hq
            have hq2 : 1048576 < (D.tp k).b.size + s.size := by omega
            generalize used D.tp 32 = U at *
            rcases her with rfl | rfl
            all_goals
              go_wp2_with fail
              refine (HUp.out _ D5.out).mono ?_
              rintro e w' ⟨rfl, rfl⟩
              go_wp2_with fail
              refine (HWr.out _ D5.out).mono ?_
              rintro e w6 ⟨rfl, d6, c6⟩
              have D6 := Kp.mk d6
              have R6 := Kp.mk (R5.out.chg c6 HBL.out)
              have B6 := Kp.mk (c6.below B5.out B5.out.size G.out)
              clear d6 c6
              go_wp2_with fail
              refine (HTp.out _ D6.out).mono ?_
              rintro e w7 ⟨no, nc, rfl, hr7, hn7⟩
              have D7 := Kp.mk (D6.out.below hn7.below)
              have R7 := Kp.mk (R6.out.below hn7.below)
              have B7 := Kp.mk (B6.out.trans (hn7.below.mono B6.out.size))
              obtain ⟨gm, cm, hvm, _, hcm7, _, _⟩ := hr7.at_ (by decide)
              simp only [Value.slice.injEq, true_and] at hvm
              obtain ⟨rfl, rfl⟩ := hvm
              unfold maxLen at hcm7
              have M7 := Kp.mk hr7
              clear hr7 hn7 D6 R6 B6
              obtain ⟨x0, x1⟩ := tape_cells R7.out k hk
              generalize (told (D.tp k)).1 = F at x0 hsum
              generalize (told (D.tp k)).2 = L at x1 hsum
              generalize (D.tp k).b = b at hsum hmk hq2
              have z4 : decide ((1048576 : Int) < (F.size : Int) + (L.size : Int) + (s.size : Int)) = true := by rw [decide_eq_true_eq]; omega
              have i0 : (0 : Int) ≤ (k : Int) := by omega
              have i1 : (k : Int) < 32 := by omega
              go_wp2_with fail
              go_quiet (fail)
              go_wp2_with fail
              refine (HUs.out _ (D7.out.drewN _)).mono ?_
              rintro e w8 ⟨rfl, hb8⟩
              have D8 := Kp.mk (D7.out.below ⟨hb8.os, hb8.tape, hb8.output, hb8.size, hb8.block⟩)
              have B8 := Kp.mk (B7.out.trans (Below.mono ⟨hb8.os, hb8.tape, hb8.output, hb8.size, hb8.block⟩ B7.out.size))
              clear hb8
              go_wp2_with fail
              refine (HUp.out _ D8.out).mono ?_
              rintro e w' ⟨rfl, rfl⟩
              go_wp2
              go_ret
              exact ⟨by trivial, B8.out⟩
        · rw [hV] at HWr HOW
          simp only [] at HWr HOW
          have HTp := Kp.mk (fun wx hx => Tapes_any p E wx hx HOW.out)
          have HUs := Kp.mk (fun wx hx => Used_any p E wx hx HOW.out.most)
          have HUp2 := Kp.mk (fun wx hx => Up_any p E wx hx)
          rw [hus] at HUs
          rw [hdn] at HUp
          have z1 : decide ((k : Int) < 0) = false := by rw [decide_eq_false_iff_not]; omega
          have z2 : decide ((32 : Int) ≤ (k : Int)) = false := by rw [decide_eq_false_iff_not]; omega
          have z2' : decide (32 ≤ k) = false := by rw [decide_eq_false_iff_not]; omega
          have hsum := told_sizes _ (HOD.out.firm k hk)
          have hmk := HOD.out.most k hk
          have hfk := HOD.out.firm k hk
          have hto : told (E.tp k) = ((told (D.tp k)).1, (told (D.tp k)).2 ++ s) := by
            rw [htp]
            unfold told
            simp only []
            rw [ba_pre' _ _ _ hfk, ba_post _ _ _ hfk]
          have z3 : decide (D.cap - (used D.tp 32 : Int) < (s.size : Int)) = false := by rw [decide_eq_false_iff_not]; omega
          have HTO := Kp.mk hto
          clear hV hdn hus htp hto hfk
          generalize used D.tp 32 = U at *
          generalize E.down = ed at HUp2 hfl
          rcases hfl with ⟨rfl, rfl⟩ | ⟨rfl, rfl⟩
          all_goals
            go_wp2_with fail
            refine (HUp.out _ D5.out).mono ?_
            rintro e w' ⟨rfl, rfl⟩
            go_wp2_with fail
            refine (HWr.out _ D5.out).mono ?_
            rintro e w6 ⟨rfl, d6, c6⟩
            have D6 := Kp.mk d6
            have R6 := Kp.mk (R5.out.chg c6 HBL.out)
            have B6 := Kp.mk (c6.below B5.out B5.out.size G.out)
            clear d6 c6
            go_wp2_with fail
            refine (HTp.out _ D6.out).mono ?_
            rintro e w7 ⟨no, nc, rfl, hr7, hn7⟩
            have D7 := Kp.mk (D6.out.below hn7.below)
            have R7 := Kp.mk (R6.out.below hn7.below)
            have B7 := Kp.mk (B6.out.trans (hn7.below.mono B6.out.size))
            obtain ⟨gm, cm, hvm, _, hcm7, _, _⟩ := hr7.at_ (by decide)
            simp only [Value.slice.injEq, true_and] at hvm
            obtain ⟨rfl, rfl⟩ := hvm
            unfold maxLen at hcm7
            have M7 := Kp.mk hr7
            clear hr7 hn7 D6 R6 B6
            obtain ⟨x0, x1⟩ := tape_cells R7.out k hk
            obtain ⟨v0, v1⟩ := tape_cells M7.out k hk
            rw [HTO.out] at v0 v1
            simp only [] at v0 v1
            have HR8 : Kp (∀ W, Below w7.heap.size w7 W → W.cell? ⟨gl, k * 2, none⟩ = some (.string (told (D.tp k)).1) ∧ W.cell? ⟨gl, k * 2 + 1, none⟩ = some (.string (told (D.tp k)).2) ∧ W.cell? ⟨gm, k * 2, none⟩ = some (.string (told (D.tp k)).1) ∧ W.cell? ⟨gm, k * 2 + 1, none⟩ = some (.string ((told (D.tp k)).2 ++ s))) := ⟨fun W hW => ⟨cell_below x0 hW, cell_below x1 hW, cell_below v0 hW, cell_below v1 hW⟩⟩
            generalize (told (D.tp k)).1 = F at x0 v0 hsum HR8
            generalize (told (D.tp k)).2 = L at x1 v1 hsum HR8
            generalize (D.tp k).b = b at hsum hmk hn2
            have z4 : decide ((1048576 : Int) < (F.size : Int) + (L.size : Int) + (s.size : Int)) = false := by rw [decide_eq_false_iff_not]; omega
            have i0 : (0 : Int) ≤ (k : Int) := by omega
            have i1 : (k : Int) < 32 := by omega
            have hcat : ¬ 9223372036854775807 < L.size + s.size := by omega
            go_wp2_with fail
            go_quiet (fail)
            go_wp2_with fail
            have n3 : IntKind.i64.wrap ((U : Int) + (s.size : Int)) = (U : Int) + (s.size : Int) := by rw [IntKind.wrap_i64]; omega
            have n4 : ((U + s.size : Nat) : Int) = (U : Int) + (s.size : Int) := by omega
            rw [n4] at HUs
            go_region_held3 (fun w' => w'.cell? ⟨gl, k * 2, none⟩ = some (.string F) ∧ w'.cell? ⟨gl, k * 2 + 1, none⟩ = some (.string L) ∧ w'.cell? ⟨gm, k * 2, none⟩ = some (.string F) ∧ w'.cell? ⟨gm, k * 2 + 1, none⟩ = some (.string (L ++ s))) (go_keep)
              (first
                | (go_at_call 14; refine (HUp2.out _ (D7.out.drewN _)).mono ?_; rintro e w' ⟨rfl, rfl⟩)
                | (go_at_call 20; refine (HUs.out _ (D7.out.drewN _)).mono ?_; rintro e w8 ⟨rfl, hb8⟩; have b8 : Below w7.heap.size w7 w8 := ⟨hb8.os, hb8.tape, hb8.output, hb8.size, hb8.block⟩; obtain ⟨u0, u1, u2, u3⟩ := HR8.out _ b8; have B8 := Kp.mk (B7.out.trans (b8.mono B7.out.size)); clear hb8 b8))
            go_wp2
            go_ret
            exact ⟨by trivial, B8.out⟩
theorem walkDiskRoom {H : Type} {enc : TypeId × Value → H} {X : Prop} {b0 b1 : Nat} {d e : DataW H} {ps qs : List MemPlace} (w : World) (c : Int) (hc : (Lit.int .i64 c).wf = true) (u : Value) (hu : Value.okWide Try.prog w .any b0 22 u) (hU : DataW.Trod enc Try.prog w 0 (fun _ => true) true 22 u d ps)
    (v : Value) (hv : Value.okWide Try.prog w .any b1 23 v) (hV : DataW.Trod enc Try.prog w 0 (fun _ => true) true 23 v e qs) (t : Int) (ht : (Lit.int .i64 t).wf = true) (s : ByteArray) (hs : s.size ≤ maxLen) (_hweigh : X) :
    Calls Try.prog 6 #[.int .i64 c, u, v, .int .i64 t, .string s] w fun e w' => e = .returned (.bool true) ∧ Below w.heap.size w w' := by
  obtain ⟨_, _, _, hu'⟩ := Go.WideShapes.okWide_slice Try.underlying22 hu
  obtain ⟨_, _, _, hv'⟩ := Go.WideShapes.okWide_slice Try.underlying23 hv
  obtain ⟨bo, lb, cb, g, rfl, hlb, hg⟩ := tapes_open (by rw [hu']; rfl) hU
  obtain ⟨ao, len, cap, f, rfl, hl, hf⟩ := acts_open (by rw [hv']; rfl) hV
  by_cases h0 : costA f len + costT g lb < 20000
  · by_cases h1 : len ≤ 200
    · by_cases h2 : s.size ≤ 20000
      · exact diskRoom_core w c t s bo lb cb g ao len cap f hlb h1 h2 hg hf h0 (wf_i64 hc).2
      · exact diskRoom_big2 w c t s bo lb cb g ao len cap f hlb hl hs hg hf h0 h1 (by omega)
    · exact diskRoom_big1 w c t s bo lb cb g ao len cap f hlb hl hs hg hf h0 (by omega)
  · exact diskRoom_big0 w c t s bo lb cb g ao len cap f hlb hl hs hg hf h0
end Go.Proofs.Ytinjagebogifpaa
