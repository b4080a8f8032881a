/- Decode: the walk. -/
import Derived.Test.YtpfoekfbcpinlaaGreatDoorHeadDec
import Derived.Deep.RegionLaw
import Derived.Deep.DrawnRows
namespace Go.Proofs.YtpfoekfbcpinlaaGreatDoor
open Go.RowKit
set_option linter.unusedVariables false
attribute [local go_sem ↓] Go.wp_at_zero Go.wp_at_succ

theorem VA {s : ByteArray} {p e most : Nat} {x y z : Nat} (hp : p ≤ s.size) (hs : s.size ≤ 140737488351232) (hm : most < 18446744073709551616) (hv : Var.rVarint s.data.toList p e most = (x, y, z)) :
    ∀ (W : World) (g : Nat), Rd W g s p e → Calls Tryz.prog 135 #[.pointer (some ⟨g, 0, none⟩), .int .u64 (most : Nat)] W fun r w' => r = .returned (.int .u64 (x : Nat)) ∧ Rd w' g s y z ∧ W.grownBy w' (some g) := fun W g hr => by
  have := Varint_any g s p e most W hr hp hs hm
  rw [hv] at this
  exact this
set_option maxRecDepth 20000 in
set_option maxHeartbeats 4000000 in
theorem Decode_any (s : ByteArray) (w : World) (hs : s.size ≤ 140737488351232) :
    Calls Tryz.prog 124 #[.string s] w fun e w' => ∃ q : HdV, e = .returned (.tuple #[q.v, .int .i64 ((Hd.decV s.data.toList).2 : Nat)]) ∧ q.hv = (Hd.decV s.data.toList).1 ∧ HdOwn w.heap.size w' q ∧ Below w.heap.size w w' := by
  have hlen : s.data.toList.length = s.size := data_len s
  obtain ⟨a1, a2, a3, hA⟩ : ∃ a1 a2 a3, Hd.decA s.data.toList = (a1, a2, a3) := ⟨_, _, _, rfl⟩
  obtain ⟨b1, b2, b3, hB⟩ : ∃ b1 b2 b3, Hd.decB s.data.toList = (b1, b2, b3) := ⟨_, _, _, rfl⟩
  obtain ⟨c1, c2, c3, hC⟩ : ∃ c1 c2 c3, Hd.decC s.data.toList = (c1, c2, c3) := ⟨_, _, _, rfl⟩
  obtain ⟨d1, d2, d3, hD⟩ : ∃ d1 d2 d3, Hd.decD s.data.toList = (d1, d2, d3) := ⟨_, _, _, rfl⟩
  have hA' : Var.rVarint s.data.toList 0 0 1099511627776 = (a1, a2, a3) := hA
  have fA := rV_facts s.data.toList 0 0 1099511627776 (Nat.zero_le _) (by decide)
  rw [hA'] at fA
  obtain ⟨fA1, fA2, fA3⟩ := fA
  have hB' : Var.rVarint s.data.toList a2 a3 1099511627776 = (b1, b2, b3) := by rw [← hB, Hd.decB, hA]
  have fB := rV_facts s.data.toList a2 a3 1099511627776 fA2 fA3
  rw [hB'] at fB
  obtain ⟨fB1, fB2, fB3⟩ := fB
  have hC' : Var.rVarint s.data.toList b2 b3 31 = (c1, c2, c3) := by rw [← hC, Hd.decC, hB]
  have fC := rV_facts s.data.toList b2 b3 31 fB2 fB3
  rw [hC'] at fC
  obtain ⟨fC1, fC2, fC3⟩ := fC
  have hD' : Var.rVarint s.data.toList c2 c3 31 = (d1, d2, d3) := by rw [← hD, Hd.decD, hC]
  have fD := rV_facts s.data.toList c2 c3 31 fC2 fC3
  rw [hD'] at fD
  obtain ⟨fD1, fD2, fD3⟩ := fD
  simp only [hlen] at fA1 fA2 fA3 fB1 fB2 fB3 fC1 fC2 fC3 fD1 fD2 fD3
  have HA := Kp.mk (VA (Nat.zero_le _) hs (by decide) hA')
  have HB := Kp.mk (VA fA2 hs (by decide) hB')
  have HC := Kp.mk (VA fB2 hs (by decide) hC')
  have HD := Kp.mk (VA fC2 hs (by decide) hD')
  have HLen := Kp.mk hlen
  have HS := Kp.mk hs
  have HF := Kp.mk (And.intro fD2 fD3)
  have HE : Kp (Hd.decE s.data.toList = if (Hd.readN s.data.toList d1 d2 d3).2.2 = 0 ∧ (Hd.readN s.data.toList d1 d2 d3).2.1 < s.size then 4 else (Hd.readN s.data.toList d1 d2 d3).2.2) := ⟨by unfold Hd.decE Hd.decQ; rw [hD, hlen]⟩
  have HH : Kp (Hd.decH s.data.toList = ⟨a1, b1, c1, (Hd.readN s.data.toList d1 d2 d3).1⟩) := ⟨by unfold Hd.decH Hd.decQ; rw [hA, hB, hC, hD]⟩
  have HV : Kp (Hd.decV s.data.toList = if Hd.decE s.data.toList = 0 then (if (Hd.decH s.data.toList).may = true then (Hd.decH s.data.toList, 0) else (Hd.HV.zero, 4)) else (Hd.HV.zero, Hd.decE s.data.toList)) := ⟨rfl⟩
  clear hA hB hC hD hA' hB' hC' hD' fA2 fA3 fB2 fB3 fC2 fC3 fD2 fD3 hlen hs
  obtain ⟨V, hV⟩ : ∃ V, Hd.decV s.data.toList = V := ⟨_, rfl⟩
  rw [hV] at HV ⊢
  clear hV
  obtain ⟨i0, hi0, hi1, hi2, hi3⟩ := info_parts infoInt
  have HI := Kp.mk (And.intro hi0 (And.intro hi1 (And.intro hi2 hi3)))
  clear hi0 hi1 hi2 hi3
  have hz1 : (w.alloc (.cells #[.int .i64 0, .int .i64 0, .int .i64 0, .slice none 0 0] 38)).heap.size = w.heap.size + 1 := by simp
  have hx1 := heap_alloc_new w (.cells #[.int .i64 0, .int .i64 0, .int .i64 0, .slice none 0 0] 38)
  have hb1 : Below w.heap.size w (w.alloc (.cells #[.int .i64 0, .int .i64 0, .int .i64 0, .slice none 0 0] 38)) := (Below.refl _ _).alloc (Nat.le_refl _) _
  go_enter Tryz.func124, Tryz.ntmps124
  go_wp2_with fail
  refine (New_any s _).mono ?_
  rintro e w2 ⟨rfl, r2, b2'⟩
  generalize w.alloc (.cells #[.int .i64 0, .int .i64 0, .int .i64 0, .slice none 0 0] 38) = w1 at *
  have HZ1 := Kp.mk hz1
  have HX1 := Kp.mk hx1
  have HB1 := Kp.mk hb1
  clear hz1 hx1 hb1
  go_wp2_with fail
  refine (HA.out _ _ r2).mono ?_
  rintro e w3 ⟨rfl, r3, g3⟩
  have D3 : Kp (DecS w1 (w3.alloc (.cells #[.int .i64 a1, .int .i64 0, .int .i64 0, .slice none 0 0] 38)) w1.heap.size w3.heap.size s a2 a3 a1 0 0 none 0 0 []) := ⟨by
    have hb3 : Below w1.heap.size w1 w3 := b2'.grown g3 b2'.size (fun k e => by cases e; exact Nat.le_refl _)
    exact ⟨(Below.heap_alloc w3 _ _ r3.lt).trans r3, heap_alloc_new w3 _, RK.nil 1 _, fun k hk => by simp [blk] at hk, hb3.alloc hb3.size _, Nat.le_refl _, r3.lt⟩⟩
  clear r2 b2' r3 g3
  go_wp2_with fail
  generalize w3.alloc (.cells #[.int .i64 a1, .int .i64 0, .int .i64 0, .slice none 0 0] 38) = w3' at D3 ⊢
  generalize w3.heap.size = b5 at D3 ⊢
  refine (HB.out _ _ D3.out.rd).mono ?_
  rintro e w4 ⟨rfl, r4, g4⟩
  have d4 := D3.out.read r4 g4
  have D4 := Kp.mk (d4.set1 b1)
  obtain ⟨-, y1, -, -⟩ := cells4 d4.box
  have y1f := d4.free 1
  clear r4 g4 d4 D3
  go_wp2_with fail
  refine (HC.out _ _ D4.out.rd).mono ?_
  rintro e w5 ⟨rfl, r5, g5⟩
  have d5 := D4.out.read r5 g5
  have D5 := Kp.mk (d5.set2 c1)
  obtain ⟨-, -, y2, -⟩ := cells4 d5.box
  have y2f := d5.free 2
  clear r5 g5 d5 D4 y1 y1f
  go_wp2_with fail
  refine (HD.out _ _ D5.out.rd).mono ?_
  rintro e w6 ⟨rfl, r6, g6⟩
  have D6 := Kp.mk (D5.out.read r6 g6)
  clear r6 g6 D5 y2 y2f
  go_wp2
  clear HA HB HC HD
  go_loopw [23] (fun i wr => ∃ (k : Nat) (ao : Option Addr) (cap : Nat), k ≤ d1 ∧ i = .int .u64 k ∧ DecS w1 wr w1.heap.size b5 s (Hd.readN s.data.toList k d2 d3).2.1 (Hd.readN s.data.toList k d2 d3).2.2 a1 b1 c1 ao k cap (Hd.readN s.data.toList k d2 d3).1) (fun i _ => d1 - (intOf i).toNat)
  case atStart => exact ⟨0, none, 0, Nat.zero_le _, rfl, D6.out⟩
  case round =>
    clear D6
    obtain ⟨k, ao, cap, hk, rfl, hd⟩ := hrel
    have hrl := Hd.readN_len s.data.toList k d2 d3
    have hsn := readN_snoc s.data.toList k d2 d3
    have hrf := readN_facts s.data.toList k d2 d3 (by rw [HLen.out]; exact HF.out.1) HF.out.2
    by_cases hkl : k < d1
    · have HSn := Kp.mk hsn
      clear hsn
      generalize Hd.readN s.data.toList k d2 d3 = rk at hd HSn hrf hrl
      obtain ⟨l, p, e⟩ := rk
      simp only [] at hd HSn hrf hrl
      obtain ⟨f1, f2, f3⟩ := hrf
      rw [HLen.out] at f1
      obtain ⟨x, p', e', hx⟩ : ∃ x p' e', Var.rVarint s.data.toList p e 31 = (x, p', e') := ⟨_, _, _, rfl⟩
      have fx := rV_facts s.data.toList p e 31 (by rw [HLen.out]; exact f1) f2
      rw [hx] at fx HSn
      simp only [] at fx HSn
      obtain ⟨fx1, _, _⟩ := fx
      have HX := Kp.mk (VA f1 HS.out (by decide) hx)
      have D := Kp.mk hd
      have DD := Kp.mk hd.drew
      obtain ⟨-, -, -, y3⟩ := cells4 hd.drew.box
      have HLM : Kp (k + 1 ≤ maxLen ∧ (k + 1) * 8 ≤ 140737488355328) := ⟨by unfold maxLen; omega⟩
      have hwx : IntKind.i64.wrap (x : Int) = (x : Int) := by rw [IntKind.wrap_i64]; omega
      have HNc : Kp (numC l ++ [.int .i64 (x : Int)] = numC (l ++ [(x : Int)])) := ⟨by simp [numC]⟩
      clear hx hd hrl f1 f2 f3 hk
      go_wp2_with fail
      go_region_law (first
        | (refine step_append_src rfl (.tmp 26) (.tmp 30) 36 (by rfl) (D5.out.alloc _).row (ks := [.int .i64 (x : Int)]) (src_one (heap_alloc_new w5 _) rfl) 3 i0 _ 8 Tryz.underlying36 HI.out.1 HI.out.2.1 HI.out.2.2.1 HI.out.2.2.2 rfl (by decide) (by rfl) (by rfl) (by simp [Value.oneCell']) HLM.out.1 HLM.out.2 (k + 1) (numC (l ++ [(x : Int)])) rfl HNc.out ?_; intro a2 c2 w6 r1 g1 f1; obtain ⟨hbx, hd6⟩ := (D5.out.alloc _).grown r1 g1 f1; obtain ⟨-, -, -, y6⟩ := cells4 hbx; have y6f : w6.frozen? ⟨b5, 3, none⟩ = false := (by simp [World.frozen?, hbx]); have D6 := Kp.mk hd6; clear r1 g1 f1 hbx hd6)
        | (go_simp; go_at_call 135; refine (HX.out _ _ DD.out.rd).mono ?_; rintro e w5 ⟨rfl, r5, g5⟩; have d5 := DD.out.read r5 g5; obtain ⟨-, -, -, y5⟩ := cells4 d5.box; have y5a : ∀ o, (w5.alloc o).cell? ⟨b5, 3, none⟩ = some (.slice ao k cap) := (fun o => (cells4 (d5.alloc o).box).2.2.2); have D5 := Kp.mk d5; clear r5 g5 d5))
      all_goals go_wp2
      all_goals go_roundw
      case rel => exact ⟨k + 1, a2, c2, by omega, by go_num, by rw [HSn.out]; exact D6.out⟩
      case measure => simp [intOf]; omega
      case rel => exact ⟨k + 1, a2, c2, by omega, by go_num, by rw [HSn.out]; exact D6.out⟩
      case measure => simp [intOf]; omega
      case rel => exact ⟨k + 1, a2, c2, by omega, by go_num, by rw [HSn.out]; exact D6.out⟩
      case measure => simp [intOf]; omega
    · obtain rfl : k = d1 := by omega
      clear hsn hkl
      generalize Hd.readN s.data.toList k d2 d3 = rk at hd hrf hrl HE HH
      obtain ⟨l, p, e⟩ := rk
      simp only [] at hd hrf hrl HE HH
      obtain ⟨f1, f2, f3⟩ := hrf
      rw [HLen.out] at f1
      have HEnd := Kp.mk (fun W (h : DecS w1 W w1.heap.size b5 s p e a1 b1 c1 ao k cap l) => End_any w1.heap.size s p e W h.rd f1 HS.out)
      rw [← HE.out] at HEnd
      generalize Hd.decE s.data.toList = E at HEnd HE HV
      generalize Hd.decH s.data.toList = H at HH HV
      have D := Kp.mk hd
      clear hd HE HLen HS HF f1 f2
      go_wp2_with fail
      refine (HEnd.out _ D.out).mono ?_
      rintro r w7 ⟨rfl, hw7⟩
      have D7 : Kp (DecS w1 w7 w1.heap.size b5 s p e a1 b1 c1 ao k cap l) := ⟨by rcases hw7 with rfl | rfl; exact D.out; exact D.out.drew⟩
      have HX7 : Kp (w7.heap[w.heap.size]? = some (.cells #[.int .i64 0, .int .i64 0, .int .i64 0, .slice none 0 0] 38 (0, 0))) := ⟨(D7.out.below.block _ (by rw [HZ1.out]; omega)).trans HX1.out⟩
      have HB7 : Kp (Below w.heap.size w w7) := ⟨HB1.out.trans (D7.out.below.mono (by rw [HZ1.out]; omega))⟩
      clear hw7 D HEnd HX1
      by_cases h0 : E = 0
      · subst h0
        rw [if_pos rfl] at HV
        obtain ⟨g', hg'⟩ := exists_row l k hrl
        have HQ : Kp ((HdV.mk a1 b1 c1 ao k cap g').hv = H) := ⟨by rw [HH.out]; unfold HdV.hv; rw [hg']⟩
        have HOw : Kp (HdOwn w.heap.size w7 ⟨a1, b1, c1, ao, k, cap, g'⟩) := ⟨⟨by rw [numC_numL hg']; exact D7.out.row, fun j hj => by have := D7.out.new j hj; have := D7.out.gb; have := HZ1.out; omega, by show k ≤ 31; omega⟩⟩
        have HMay := Kp.mk (May_at HOw.out.at')
        rw [HQ.out] at HMay
        unfold HdV.v at HMay
        simp only [] at HMay
        obtain ⟨y0, y1, y2, y3⟩ := cells4 D7.out.box
        clear hg' f3 hrl HH
        cases hm : H.may
        · have HVn : Kp (V = (Hd.HV.zero, 4)) := ⟨by rw [HV.out, hm]; rfl⟩
          rw [hm] at HMay
          clear hm
          go_wp2_with fail
          refine HMay.out.mono ?_
          rintro e w8 ⟨rfl, b8⟩
          have HX8 : Kp (w8.heap[w.heap.size]? = some (.cells #[.int .i64 0, .int .i64 0, .int .i64 0, .slice none 0 0] 38 (0, 0))) := ⟨(b8.block _ (lt_of_block' HX7.out)).trans HX7.out⟩
          have HB8 : Kp (Below w.heap.size w w8) := ⟨HB7.out.trans (b8.mono HB7.out.size)⟩
          obtain ⟨m0, m1, m2, m3⟩ := cells4 HX8.out
          have mf : ∀ j, w8.frozen? ⟨w.heap.size, j, none⟩ = false := fun j => by simp [World.frozen?, HX8.out]
          have m4 := mf 0
          have m5 := mf 1
          have m6 := mf 2
          have m7 := mf 3
          clear mf b8 y0 y1 y2 y3
          go_wp2
          refine bodyPost_ret (v := .tuple #[.agg #[.int .i64 0, .int .i64 0, .int .i64 0, .slice none 0 0], .int .i64 4]) (by simp [results, Tryz.results124, go_sem, m0, m1, m2, m3]) rfl ?_
          refine ⟨HdV.zero, ?_, ?_, HdOwn.zero _ _, ?_⟩
          · rw [HVn.out]; rfl
          · rw [HVn.out]; rfl
          · exact (((HB8.out.setCell (p := ⟨w.heap.size, 0, none⟩) (Nat.le_refl _) _).setCell (p := ⟨w.heap.size, 1, none⟩) (Nat.le_refl _) _).setCell (p := ⟨w.heap.size, 2, none⟩) (Nat.le_refl _) _).setCell (p := ⟨w.heap.size, 3, none⟩) (Nat.le_refl _) _
        · have HVn : Kp (V = (H, 0)) := ⟨by rw [HV.out, hm]; rfl⟩
          rw [hm] at HMay
          clear hm
          go_wp2_with fail
          refine HMay.out.mono ?_
          rintro e w8 ⟨rfl, b8⟩
          have HX8 : Kp (w8.heap[w.heap.size]? = some (.cells #[.int .i64 0, .int .i64 0, .int .i64 0, .slice none 0 0] 38 (0, 0))) := ⟨(b8.block _ (lt_of_block' HX7.out)).trans HX7.out⟩
          have HB8 : Kp (Below w.heap.size w w8) := ⟨HB7.out.trans (b8.mono HB7.out.size)⟩
          have HO8 := Kp.mk (HOw.out.below b8)
          have HL5 : Kp (w.heap.size < b5) := ⟨by have := D7.out.gb; have := HZ1.out; omega⟩
          have HN5 : Kp (∀ j, blk (.slice ao k cap) = some j → w.heap.size < j) := ⟨fun j hj => by have := D7.out.new j hj; have := HL5.out; omega⟩
          obtain ⟨y0, y1, y2, y3⟩ := cells4 ((b8.block _ D7.out.blt).trans D7.out.box)
          obtain ⟨m0, m1, m2, m3⟩ := cells4 HX8.out
          have mf : ∀ j, w8.frozen? ⟨w.heap.size, j, none⟩ = false := fun j => by simp [World.frozen?, HX8.out]
          have m4 := mf 0
          have m5 := mf 1
          have m6 := mf 2
          have m7 := mf 3
          clear mf b8
          go_wp2
          refine bodyPost_ret (v := .tuple #[.agg #[.int .i64 a1, .int .i64 b1, .int .i64 c1, .slice ao k cap], .int .i64 0]) (by simp [results, Tryz.results124, go_sem, m0, m1, m2, m3]) rfl ?_
          refine ⟨⟨a1, b1, c1, ao, k, cap, g'⟩, ?_, ?_, ?_, ?_⟩
          · rw [HVn.out]; rfl
          · rw [HVn.out]; exact HQ.out
          · have ha : ∀ (W : World) (i : Nat) (u : Value), HdOwn w.heap.size W ⟨a1, b1, c1, ao, k, cap, g'⟩ → HdOwn w.heap.size (W.setCell ⟨w.heap.size, i, none⟩ u) ⟨a1, b1, c1, ao, k, cap, g'⟩ := fun W i u h => ⟨h.row.set _ _ (fun j hj => by have := HN5.out j hj; show j ≠ w.heap.size; omega), h.new, h.few⟩
            exact ha _ _ _ (ha _ _ _ (ha _ _ _ (ha _ _ _ HO8.out)))
          · exact (((HB8.out.setCell (p := ⟨w.heap.size, 0, none⟩) (Nat.le_refl _) _).setCell (p := ⟨w.heap.size, 1, none⟩) (Nat.le_refl _) _).setCell (p := ⟨w.heap.size, 2, none⟩) (Nat.le_refl _) _).setCell (p := ⟨w.heap.size, 3, none⟩) (Nat.le_refl _) _
      · have HVn : Kp (V = (Hd.HV.zero, E)) := ⟨by rw [HV.out, if_neg h0]⟩
        have t1 : ((E : Int) != 0) = true := by rw [bne_iff_ne]; omega
        obtain ⟨m0, m1, m2, m3⟩ := cells4 HX7.out
        have mf : ∀ j, w7.frozen? ⟨w.heap.size, j, none⟩ = false := fun j => by simp [World.frozen?, HX7.out]
        have m4 := mf 0
        have m5 := mf 1
        have m6 := mf 2
        have m7 := mf 3
        clear mf
        go_wp2
        refine bodyPost_ret (v := .tuple #[.agg #[.int .i64 0, .int .i64 0, .int .i64 0, .slice none 0 0], .int .i64 E]) (by simp [results, Tryz.results124, go_sem, m0, m1, m2, m3]) rfl ?_
        refine ⟨HdV.zero, ?_, ?_, HdOwn.zero _ _, ?_⟩
        · rw [HVn.out]; rfl
        · rw [HVn.out]; rfl
        · exact (((HB7.out.setCell (p := ⟨w.heap.size, 0, none⟩) (Nat.le_refl _) _).setCell (p := ⟨w.heap.size, 1, none⟩) (Nat.le_refl _) _).setCell (p := ⟨w.heap.size, 2, none⟩) (Nat.le_refl _) _).setCell (p := ⟨w.heap.size, 3, none⟩) (Nat.le_refl _) _
end Go.Proofs.YtpfoekfbcpinlaaGreatDoor
/- The head of a tape: the walk of Of. -/
namespace Go.Proofs.YtpfoekfbcpinlaaGreatDoor
open Go.RowKit
set_option linter.unusedVariables false

namespace Hd
/-- The head of a tape's bytes. -/
def ofV (l : List UInt8) : HV × Bool := if (Fr.readL l).1 = 0 ∧ (Fr.readL l).2.1 = 3 then ((decV (Fr.readL l).2.2).1, decide ((decV (Fr.readL l).2.2).2 = 0)) else (HV.zero, false)
end Hd
theorem set4 {B b : Nat} {w0 w : World} (h : Below B w0 w) (hb : B ≤ b) (v0 v1 v2 v3 : Value) : Below B w0 ((((w.setCell ⟨b, 0, none⟩ v0).setCell ⟨b, 1, none⟩ v1).setCell ⟨b, 2, none⟩ v2).setCell ⟨b, 3, none⟩ v3) :=
  (((h.setCell (p := ⟨b, 0, none⟩) hb _).setCell (p := ⟨b, 1, none⟩) hb _).setCell (p := ⟨b, 2, none⟩) hb _).setCell (p := ⟨b, 3, none⟩) hb _
theorem free4 {W : World} {b : Nat} {cs : Array Value} {T : TypeId} (h : W.heap[b]? = some (.cells cs T (0, 0))) : W.frozen? ⟨b, 0, none⟩ = false ∧ W.frozen? ⟨b, 1, none⟩ = false ∧ W.frozen? ⟨b, 2, none⟩ = false ∧ W.frozen? ⟨b, 3, none⟩ = false := by
  refine ⟨?_, ?_, ?_, ?_⟩ <;> simp [World.frozen?, h]
theorem box4 {w : World} {b : Nat} {c0 c1 c2 c3 : Value} {T : TypeId} (h : w.heap[b]? = some (.cells #[c0, c1, c2, c3] T (0, 0))) (v0 v1 v2 v3 : Value) : ((((w.setCell ⟨b, 0, none⟩ v0).setCell ⟨b, 1, none⟩ v1).setCell ⟨b, 2, none⟩ v2).setCell ⟨b, 3, none⟩ v3).heap[b]? = some (.cells #[v0, v1, v2, v3] T (0, 0)) :=
  heap_setCell_same _ b 3 _ _ _ (heap_setCell_same _ b 2 _ _ _ (heap_setCell_same _ b 1 _ _ _ (heap_setCell_same _ b 0 _ _ _ h)))
theorem Of_no (s : ByteArray) (w : World) (hs : s.size ≤ 140737488351000) (ht : Tab w) (h : ¬ ((Fr.readL s.data.toList).1 = 0 ∧ (Fr.readL s.data.toList).2.1 = 3)) :
    Calls Tryz.prog 113 #[.string s] w fun e w' => e = .returned (.tuple #[HdV.zero.v, .bool false]) ∧ Below w.heap.size w w' := by
  have hx1 := heap_alloc_new w (.cells #[.int .i64 0, .int .i64 0, .int .i64 0, .slice none 0 0] 38)
  have hb1 : Below w.heap.size w (w.alloc (.cells #[.int .i64 0, .int .i64 0, .int .i64 0, .slice none 0 0] 38)) := (Below.refl _ _).alloc (Nat.le_refl _) _
  have hz1 : (w.alloc (.cells #[.int .i64 0, .int .i64 0, .int .i64 0, .slice none 0 0] 38)).heap.size = w.heap.size + 1 := by simp
  have HR := Kp.mk (fun W (hW : Below w.heap.size w W) => Read_any s 0 W hs (by decide) (by decide) (ht.below hW))
  have hrv : Fr.readV s 0 = Fr.readL s.data.toList := by unfold Fr.readV; rw [if_neg (by omega)]; rfl
  have hbad := Fr.readL_bad (l := s.data.toList)
  generalize Fr.readL s.data.toList = r at hrv h hbad
  obtain ⟨e0, k, p⟩ := r
  simp only [] at h hbad
  by_cases he : e0 = 0
  · subst he
    rw [Fr.readE_ok hrv] at HR
    have hk : ((k : Int) != 3) = true := by rw [bne_iff_ne]; intro e; exact h ⟨rfl, by omega⟩
    clear hrv h hbad
    unfold HdV.zero HdV.v
    have HX1 := Kp.mk hx1
    have HB1 := Kp.mk hb1
    have HZ1 := Kp.mk hz1
    clear hx1 hb1 hz1
    go_enter Tryz.func113, Tryz.ntmps113
    go_wp2_with fail
    refine (HR.out _ HB1.out).mono ?_
    rintro e w2 ⟨rfl, b2⟩
    have HX2 : Kp (∀ o, (w2.alloc o).heap[w.heap.size]? = some (.cells #[.int .i64 0, .int .i64 0, .int .i64 0, .slice none 0 0] 38 (0, 0))) := ⟨fun o => (((Below.refl w2.heap.size w2).alloc (Nat.le_refl _) o).block _ (by have := b2.size; have := HZ1.out; omega)).trans ((b2.block _ (by have := HZ1.out; omega)).trans HX1.out)⟩
    have HB2 : Kp (Below w.heap.size w w2) := ⟨HB1.out.trans (b2.mono HB1.out.size)⟩
    have hsz := HB2.out.size
    have m0 : ∀ o, (w2.alloc o).cell? ⟨w.heap.size, 0, none⟩ = some (.int .i64 0) := fun o => (cells4 (HX2.out o)).1
    have m1 : ∀ o, (w2.alloc o).cell? ⟨w.heap.size, 1, none⟩ = some (.int .i64 0) := fun o => (cells4 (HX2.out o)).2.1
    have m2 : ∀ o, (w2.alloc o).cell? ⟨w.heap.size, 2, none⟩ = some (.int .i64 0) := fun o => (cells4 (HX2.out o)).2.2.1
    have m3 : ∀ o, (w2.alloc o).cell? ⟨w.heap.size, 3, none⟩ = some (.slice none 0 0) := fun o => (cells4 (HX2.out o)).2.2.2
    have n0 : ∀ o, (w2.alloc o).frozen? ⟨w.heap.size, 0, none⟩ = false := fun o => (free4 (HX2.out o)).1
    have n1 : ∀ o, (w2.alloc o).frozen? ⟨w.heap.size, 1, none⟩ = false := fun o => (free4 (HX2.out o)).2.1
    have n2 : ∀ o, (w2.alloc o).frozen? ⟨w.heap.size, 2, none⟩ = false := fun o => (free4 (HX2.out o)).2.2.1
    have n3 : ∀ o, (w2.alloc o).frozen? ⟨w.heap.size, 3, none⟩ = false := fun o => (free4 (HX2.out o)).2.2.2
    clear b2
    go_wp2
    refine bodyPost_ret (v := .tuple #[.agg #[.int .i64 0, .int .i64 0, .int .i64 0, .slice none 0 0], .bool false]) (by simp [results, Tryz.results113, go_sem, m0, m1, m2, m3]) rfl ?_
    exact ⟨rfl, set4 (HB2.out.alloc hsz _) (Nat.le_refl _) _ _ _ _⟩
  · rw [Fr.readE_bad he (by rw [hrv]; exact Prod.ext rfl (hbad he))] at HR
    unfold Fr.badE at HR
    have he' : ((e0 : Int) != 0) = true := by rw [bne_iff_ne]; omega
    clear hrv h hbad
    unfold HdV.zero HdV.v
    have HX1 := Kp.mk hx1
    have HB1 := Kp.mk hb1
    have HZ1 := Kp.mk hz1
    clear hx1 hb1 hz1
    go_enter Tryz.func113, Tryz.ntmps113
    go_wp2_with fail
    refine (HR.out _ HB1.out).mono ?_
    rintro e w2 ⟨rfl, b2⟩
    have HX2 : Kp (∀ o, (w2.alloc o).heap[w.heap.size]? = some (.cells #[.int .i64 0, .int .i64 0, .int .i64 0, .slice none 0 0] 38 (0, 0))) := ⟨fun o => (((Below.refl w2.heap.size w2).alloc (Nat.le_refl _) o).block _ (by have := b2.size; have := HZ1.out; omega)).trans ((b2.block _ (by have := HZ1.out; omega)).trans HX1.out)⟩
    have HB2 : Kp (Below w.heap.size w w2) := ⟨HB1.out.trans (b2.mono HB1.out.size)⟩
    have hsz := HB2.out.size
    have m0 : ∀ o, (w2.alloc o).cell? ⟨w.heap.size, 0, none⟩ = some (.int .i64 0) := fun o => (cells4 (HX2.out o)).1
    have m1 : ∀ o, (w2.alloc o).cell? ⟨w.heap.size, 1, none⟩ = some (.int .i64 0) := fun o => (cells4 (HX2.out o)).2.1
    have m2 : ∀ o, (w2.alloc o).cell? ⟨w.heap.size, 2, none⟩ = some (.int .i64 0) := fun o => (cells4 (HX2.out o)).2.2.1
    have m3 : ∀ o, (w2.alloc o).cell? ⟨w.heap.size, 3, none⟩ = some (.slice none 0 0) := fun o => (cells4 (HX2.out o)).2.2.2
    have n0 : ∀ o, (w2.alloc o).frozen? ⟨w.heap.size, 0, none⟩ = false := fun o => (free4 (HX2.out o)).1
    have n1 : ∀ o, (w2.alloc o).frozen? ⟨w.heap.size, 1, none⟩ = false := fun o => (free4 (HX2.out o)).2.1
    have n2 : ∀ o, (w2.alloc o).frozen? ⟨w.heap.size, 2, none⟩ = false := fun o => (free4 (HX2.out o)).2.2.1
    have n3 : ∀ o, (w2.alloc o).frozen? ⟨w.heap.size, 3, none⟩ = false := fun o => (free4 (HX2.out o)).2.2.2
    clear b2
    go_wp2
    refine bodyPost_ret (v := .tuple #[.agg #[.int .i64 0, .int .i64 0, .int .i64 0, .slice none 0 0], .bool false]) (by simp [results, Tryz.results113, go_sem, m0, m1, m2, m3]) rfl ?_
    exact ⟨rfl, set4 (HB2.out.alloc hsz _) (Nat.le_refl _) _ _ _ _⟩
set_option maxHeartbeats 1000000 in
theorem Of_yes (s : ByteArray) (w : World) (hs : s.size ≤ 140737488351000) (ht : Tab w) (h : (Fr.readL s.data.toList).1 = 0 ∧ (Fr.readL s.data.toList).2.1 = 3) :
    Calls Tryz.prog 113 #[.string s] w fun e w' => ∃ q : HdV, e = .returned (.tuple #[q.v, .bool (decide ((Hd.decV (Fr.readL s.data.toList).2.2).2 = 0))]) ∧ q.hv = (Hd.decV (Fr.readL s.data.toList).2.2).1 ∧ HdOwn w.heap.size w' q ∧ Below w.heap.size w w' := by
  have hx1 := heap_alloc_new w (.cells #[.int .i64 0, .int .i64 0, .int .i64 0, .slice none 0 0] 38)
  have hb1 : Below w.heap.size w (w.alloc (.cells #[.int .i64 0, .int .i64 0, .int .i64 0, .slice none 0 0] 38)) := (Below.refl _ _).alloc (Nat.le_refl _) _
  have hz1 : (w.alloc (.cells #[.int .i64 0, .int .i64 0, .int .i64 0, .slice none 0 0] 38)).heap.size = w.heap.size + 1 := by simp
  have HR := Kp.mk (fun W (hW : Below w.heap.size w W) => Read_any s 0 W hs (by decide) (by decide) (ht.below hW))
  have hrv : Fr.readV s 0 = Fr.readL s.data.toList := by unfold Fr.readV; rw [if_neg (by omega)]; rfl
  have hln := Fr.readL_len h.1
  rw [data_len] at hln
  generalize Fr.readL s.data.toList = r at hrv h hln ⊢
  obtain ⟨e0, k, p⟩ := r
  simp only [] at h hln ⊢
  obtain ⟨rfl, rfl⟩ := h
  rw [Fr.readE_ok hrv] at HR
  have HD := Kp.mk (fun W => Decode_any (B p) W (by rw [B_size]; omega))
  rw [B_list] at HD
  generalize Hd.decV p = V at HD ⊢
  obtain ⟨h0, e0⟩ := V
  simp only [] at HD ⊢
  clear hrv hs ht
  have HX1 := Kp.mk hx1
  have HB1 := Kp.mk hb1
  have HZ1 := Kp.mk hz1
  clear hx1 hb1 hz1
  go_enter Tryz.func113, Tryz.ntmps113
  go_wp2_with fail
  refine (HR.out _ HB1.out).mono ?_
  rintro e w2 ⟨rfl, b2⟩
  have HX2 : Kp (∀ o, (w2.alloc o).heap[w.heap.size]? = some (.cells #[.int .i64 0, .int .i64 0, .int .i64 0, .slice none 0 0] 38 (0, 0))) := ⟨fun o => (((Below.refl w2.heap.size w2).alloc (Nat.le_refl _) o).block _ (by have := b2.size; have := HZ1.out; omega)).trans ((b2.block _ (by have := HZ1.out; omega)).trans HX1.out)⟩
  have HB2 : Kp (Below w.heap.size w w2) := ⟨HB1.out.trans (b2.mono HB1.out.size)⟩
  have hsz : w.heap.size < w2.heap.size := by have := b2.size; have := HZ1.out; omega
  clear b2
  go_wp2_with fail
  refine (HD.out _).mono ?_
  rintro e w3 ⟨q, rfl, hq, ho, b3⟩
  have HX3 : Kp (w3.heap[w.heap.size]? = some (.cells #[.int .i64 0, .int .i64 0, .int .i64 0, .slice none 0 0] 38 (0, 0))) := ⟨(b3.block _ (by simp; omega)).trans (HX2.out _)⟩
  have HB3 : Kp (Below w.heap.size w w3) := ⟨(HB2.out.alloc HB2.out.size _).trans (b3.mono (by simp; omega))⟩
  have HO3 : Kp (HdOwn (w.heap.size + 1) w3 q) := ⟨ho.mono (by simp; omega)⟩
  have HQ := Kp.mk hq
  have hsz3 : w.heap.size < w3.heap.size := by have := b3.size; simp at this; omega
  clear ho b3 hq
  obtain ⟨m0, m1, m2, m3⟩ := cells4 HX3.out
  obtain ⟨n0, n1, n2, n3⟩ := free4 HX3.out
  obtain ⟨gen, base, snap, lo, ll, lc, lf⟩ := q
  unfold HdV.v
  simp only []
  have HEB : Kp (((e0 : Int) == 0) = decide (e0 = 0)) := ⟨by rw [Bool.eq_iff_iff]; simp⟩
  have hbx := (Below.heap_alloc _ (.cells #[.int .i64 gen, .int .i64 base, .int .i64 snap, .slice lo ll lc] 38) w.heap.size (by simp; omega)).trans (box4 HX3.out (.int .i64 gen) (.int .i64 base) (.int .i64 snap) (.slice lo ll lc))
  have HZ := Kp.mk (cells4 hbx)
  clear hbx
  go_wp2
  obtain ⟨z0, z1, z2, z3⟩ := HZ.out
  refine bodyPost_ret (v := .tuple #[.agg #[.int .i64 gen, .int .i64 base, .int .i64 snap, .slice lo ll lc], .bool ((e0 : Int) == 0)]) (by simp [results, Tryz.results113, go_sem, z0, z1, z2, z3]) rfl ?_
  rw [HEB.out]
  refine ⟨⟨gen, base, snap, lo, ll, lc, lf⟩, rfl, HQ.out, ?_, (set4 HB3.out (Nat.le_refl _) _ _ _ _).alloc (by simp; omega) _⟩
  have ha : ∀ (W : World) (i : Nat) (u : Value), HdOwn (w.heap.size + 1) W ⟨gen, base, snap, lo, ll, lc, lf⟩ → HdOwn (w.heap.size + 1) (W.setCell ⟨w.heap.size, i, none⟩ u) ⟨gen, base, snap, lo, ll, lc, lf⟩ := fun W i u h => h.set _ _ (by show w.heap.size < w.heap.size + 1; omega)
  exact ((ha _ _ _ (ha _ _ _ (ha _ _ _ (ha _ _ _ HO3.out)))).mono (by omega)).below ((Below.refl _ _).alloc (Nat.le_refl _) _)
theorem Of_any (s : ByteArray) (w : World) (hs : s.size ≤ 140737488351000) (ht : Tab w) :
    Calls Tryz.prog 113 #[.string s] w fun e w' => ∃ q : HdV, e = .returned (.tuple #[q.v, .bool (Hd.ofV s.data.toList).2]) ∧ q.hv = (Hd.ofV s.data.toList).1 ∧ HdOwn w.heap.size w' q ∧ Below w.heap.size w w' := by
  unfold Hd.ofV
  by_cases h : (Fr.readL s.data.toList).1 = 0 ∧ (Fr.readL s.data.toList).2.1 = 3
  · rw [if_pos h]
    simp only []
    exact Of_yes s w hs ht h
  · rw [if_neg h]
    exact (Of_no s w hs ht h).mono fun e w' ⟨he, hb⟩ => ⟨HdV.zero, he, rfl, HdOwn.zero _ _, hb⟩
end Go.Proofs.YtpfoekfbcpinlaaGreatDoor
/- Used, fails. -/
namespace Go.Proofs.YtpfoekfbcpinlaaGreatDoor
open Go.RowKit
set_option linter.unusedVariables false

theorem infoTape : (Tryz.prog.info? 87).map (fun i => (i.zero, i.size, i.bytes)) = some (some (.agg #[.string ⟨#[]⟩, .int .i64 0]), 2, 24) := by kernel_rfl
theorem infoTapes : (Tryz.prog.info? 88).map (·.size) = some 64 := by kernel_rfl
theorem tape_index {cs : Array Value} {D : DiskV} (h : Lay D cs) (t : Nat) (ht : t < 32) (w : World) :
    (Instr.index 88 (.agg (cs.extract 0 64)) (.int .i64 t)).run Tryz.prog w = .ok (.agg #[.string (D.tp t).b, .int .i64 (D.tp t).firm]) w := by
  obtain ⟨i, hi, _, hs, _⟩ := info_parts infoTape
  exact run_index_tape Tryz.underlying88 (by rw [Tryz.underlying87]) hi hs h t ht w
set_option maxRecDepth 20000 in
theorem Used_any (g : Nat) (D : DiskV) (w : World) (h : DiskAt w g D) (hm : ∀ t, t < 32 → (D.tp t).b.size ≤ 1048576) :
    Calls Tryz.prog 35 #[.pointer (some ⟨g, 0, none⟩)] w fun e w' => e = .returned (.int .i64 (used D.tp 32)) ∧ Below w.heap.size w w' := by
  obtain ⟨cs, hcs, hlay⟩ := h
  have HR : Kp (w.rangeAt g 0 (cs.extract 0 64).toList) := ⟨by have := World.rangeAt_of_block hcs 0 64; simpa using this⟩
  have HI := Kp.mk (fun t ht wx => tape_index hlay t ht wx)
  have HS : Kp ((Tryz.prog.info? 88).map (·.size) = some (cs.extract 0 64).toList.length) := ⟨by rw [infoTapes]; simp [hlay.1]⟩
  obtain ⟨L, hL⟩ : ∃ L, (cs.extract 0 64).toList = L := ⟨_, rfl⟩
  rw [show cs.extract 0 64 = L.toArray from by rw [← hL]] at HI
  rw [hL] at HR HS
  have HM := Kp.mk hm
  have HU := Kp.mk (used_le hm)
  clear hcs hlay hm hL
  go_enter Tryz.func35, Tryz.ntmps35
  go_wp2_with (refine wpList_load_mid rfl 88 (.tmp 10) rfl g 0 rfl _ _ HR.out Tryz.underlying88 rfl HS.out ?_)
  clear HR HS
  go_loopw [3, 12] (fun n i wr => ∃ k : Nat, i = .int .i64 k ∧ k ≤ 32 ∧ n = .int .i64 (used D.tp k) ∧ Below w.heap.size w wr) (fun _ i _ => 32 - (intOf i).toNat)
  case atStart => exact ⟨0, rfl, by omega, rfl, Below.refl _ _⟩
  case round =>
    obtain ⟨k, rfl, hk, rfl, hb⟩ := hrel
    have B := Kp.mk hb
    clear hb
    by_cases hk2 : k < 32
    · have hidx := HI.out k hk2
      have h1 := HU.out k hk
      have h2 := HM.out k hk2
      have h3 : Kp (used D.tp (k + 1) = used D.tp k + (D.tp k).b.size) := ⟨rfl⟩
      generalize (D.tp k).b = s at hidx h2 h3
      generalize (D.tp k).firm = f at hidx
      go_wp2
      go_roundw
      case rel => exact ⟨k + 1, by go_num, by omega, by rw [h3.out]; go_num, B.out.alloc B.out.size _⟩
      case measure => simp [intOf]; omega
    · obtain rfl : k = 32 := by omega
      go_wp2
      go_ret
      exact ⟨rfl, B.out⟩
/-- What fails answers, and leaves. -/
def failsV (D : DiskV) : Bool × DiskV :=
  if D.counts = false then (false, D) else (decide (D.left - 1 < 0), { D with left := D.left - 1, down := decide (D.left - 1 < 0) })
set_option maxRecDepth 20000 in
theorem fails_any (g : Nat) (D : DiskV) (w : World) (h : DiskAt w g D) (ho : Ok D) :
    Calls Tryz.prog 92 #[.pointer (some ⟨g, 0, none⟩)] w fun e w' => e = .returned (.bool (failsV D).1) ∧ DiskAt w' g (failsV D).2 ∧ Chg w w' g := by
  have k65 := h.c65
  by_cases hc : D.counts = false
  · have hV : Kp (failsV D = (false, D)) := ⟨by unfold failsV; rw [if_pos hc]⟩
    rw [hc] at k65
    have H := Kp.mk h
    clear h hc
    go_enter Tryz.func92, Tryz.ntmps92
    go_wp2
    go_ret
    exact ⟨by rw [hV.out]; rfl, by rw [hV.out]; exact H.out, Chg.refl _ _⟩
  · have hV : Kp (failsV D = (decide (D.left - 1 < 0), { D with left := D.left - 1, down := decide (D.left - 1 < 0) })) := ⟨by unfold failsV; rw [if_neg hc]⟩
    have hc' : D.counts = true := by simpa using hc
    rw [hc'] at k65
    have k66 := h.c66
    have f66 := h.free 66
    have h1 := h.set_l (D.left - 1)
    have e66 := h1.c66
    have e67 := h1.c67
    have g67 := h1.free 67
    simp only [] at e66 e67
    have H := Kp.mk (h1.set_d (decide (D.left - 1 < 0)))
    have e67' := H.out.c67
    simp only [] at e67'
    have l1 := ho.left
    have l2 := ho.left2
    clear h h1 hc hc'
    generalize D.left = l at *
    generalize D.down = dn at *
    go_enter Tryz.func92, Tryz.ntmps92
    go_wp2
    go_ret
    exact ⟨by rw [hV.out]; rfl, by rw [hV.out]; exact H.out, (Chg.set _ _ _ _).trans (Chg.set _ _ _ _)⟩
end Go.Proofs.YtpfoekfbcpinlaaGreatDoor
/- What is handed to act; act. -/
namespace Go.Proofs.YtpfoekfbcpinlaaGreatDoor
open Go.RowKit
set_option linter.unusedVariables false

theorem always_any (b : ByteArray) (f : Int) (w : World) : Calls Tryz.prog 54 #[.agg #[.string b, .int .i64 f]] w fun e w' => e = .returned (.int .i64 0) ∧ Below w.heap.size w w' := by
  go_enter Tryz.func54, Tryz.ntmps54
  go_wp2
  go_ret
  exact ⟨rfl, (Below.refl _ _).alloc (Nat.le_refl _) _⟩
theorem nothing_any (p : Addr) (w : World) : Calls Tryz.prog 56 #[.pointer (some p)] w fun e w' => e = .returned (.tuple #[]) ∧ w = w' := by
  go_enter Tryz.func56, Tryz.ntmps56
  go_wp2
  go_end0
  exact ⟨rfl, rfl⟩
theorem sync_any (g t : Nat) (D : DiskV) (w : World) (h : DiskAt w g D) (ht : t < 32) (hm : (D.tp t).b.size ≤ 1048576) :
    Calls Tryz.prog 55 #[.pointer (some ⟨g, t * 2, none⟩)] w fun e w' => e = .returned (.tuple #[]) ∧ DiskAt w' g (setT D t ⟨(D.tp t).b, (D.tp t).b.size⟩) ∧ Chg w w' g := by
  have kb := h.tb t ht
  have kf := h.tf t ht
  have ff := h.free (t * 2 + 1)
  have H := Kp.mk (h.set_f t ht (D.tp t).b.size)
  clear h
  generalize (D.tp t).b = b at *
  generalize (D.tp t).firm = f at *
  go_enter Tryz.func55, Tryz.ntmps55
  go_wp2
  go_end0
  exact ⟨rfl, H.out, Chg.set _ _ _ _⟩
theorem wipe_do (g t : Nat) (D : DiskV) (w : World) (h : DiskAt w g D) (ht : t < 32) :
    Calls Tryz.prog 102 #[.pointer (some ⟨g, t * 2, none⟩)] w fun e w' => e = .returned (.tuple #[]) ∧ DiskAt w' g (setT D t ⟨⟨#[]⟩, 0⟩) ∧ Chg w w' g := by
  have kb := h.tb t ht
  have kf := h.tf t ht
  have fb := h.free (t * 2)
  have ff := h.free (t * 2 + 1)
  have H := Kp.mk (h.set_t t ht ⟨#[]⟩ 0)
  clear h
  generalize (D.tp t).b = b at *
  generalize (D.tp t).firm = f at *
  go_enter Tryz.func102, Tryz.ntmps102
  go_wp2
  go_end0
  exact ⟨rfl, H.out, (Chg.set _ _ _ _).trans (Chg.set _ _ _ _)⟩
/-- What Trim asks. -/
def trimMay (b : ByteArray) (n : Int) : Int := if n < 0 ∨ (b.size : Int) < n then 1 else 0
theorem trim_may (b : ByteArray) (f n : Int) (B : Nat) (w : World) (hc : w.cell? ⟨B, 0, none⟩ = some (.int .i64 n)) (hb : b.size ≤ 1048576) :
    Calls Tryz.prog 131 #[.agg #[.string b, .int .i64 f], .pointer (some ⟨B, 0, none⟩)] w fun e w' => e = .returned (.int .i64 (trimMay b n)) ∧ Below w.heap.size w w' := by
  have hc' : ∀ o, (w.alloc o).cell? ⟨B, 0, none⟩ = some (.int .i64 n) := fun o => by rw [World.cell?_alloc_lt _ _ _ (World.block_lt_of_cell? _ _ hc)]; exact hc
  clear hc
  by_cases h0 : n < 0
  · have hV : Kp (trimMay b n = 1) := ⟨by unfold trimMay; rw [if_pos (.inl h0)]⟩
    have t1 : decide (n < 0) = true := by rw [decide_eq_true_eq]; exact h0
    go_enter Tryz.func131, Tryz.ntmps131
    go_wp2
    go_ret
    exact ⟨by rw [hV.out] <;> rfl, (Below.refl _ _).alloc (Nat.le_refl _) _⟩
  · have t1 : decide (n < 0) = false := by rw [decide_eq_false_iff_not]; exact h0
    by_cases h1 : (b.size : Int) < n
    · have hV : Kp (trimMay b n = 1) := ⟨by unfold trimMay; rw [if_pos (.inr h1)]⟩
      have t2 : decide ((b.size : Int) < n) = true := by rw [decide_eq_true_eq]; exact h1
      go_enter Tryz.func131, Tryz.ntmps131
      go_wp2
      go_ret
      exact ⟨by rw [hV.out] <;> rfl, (Below.refl _ _).alloc (Nat.le_refl _) _⟩
    · have hV : Kp (trimMay b n = 0) := ⟨by unfold trimMay; rw [if_neg (by omega)]⟩
      have t2 : decide ((b.size : Int) < n) = false := by rw [decide_eq_false_iff_not]; exact h1
      go_enter Tryz.func131, Tryz.ntmps131
      go_wp2
      go_ret
      exact ⟨by rw [hV.out] <;> rfl, (Below.refl _ _).alloc (Nat.le_refl _) _⟩
theorem trim_do (g t B : Nat) (D : DiskV) (n : Nat) (w : World) (h : DiskAt w g D) (ht : t < 32) (hc : w.cell? ⟨B, 0, none⟩ = some (.int .i64 n)) (hn : n ≤ (D.tp t).b.size) (hm : (D.tp t).b.size ≤ 1048576) :
    Calls Tryz.prog 132 #[.pointer (some ⟨g, t * 2, none⟩), .pointer (some ⟨B, 0, none⟩)] w fun e w' => e = .returned (.tuple #[]) ∧ DiskAt w' g (setT D t ⟨(D.tp t).b.extract 0 n, n⟩) ∧ Chg w w' g := by
  have kb := h.tb t ht
  have kf := h.tf t ht
  have fb := h.free (t * 2)
  have ff := h.free (t * 2 + 1)
  have H := Kp.mk (h.set_t t ht ((D.tp t).b.extract 0 n) n)
  clear h
  generalize (D.tp t).b = b at *
  generalize (D.tp t).firm = f at *
  have i1 : (0 : Int) ≤ (n : Int) := by omega
  have i2 : (n : Int) ≤ (b.size : Int) := by omega
  go_enter Tryz.func132, Tryz.ntmps132
  go_wp2
  go_region
  all_goals go_wp2
  all_goals go_end0
  all_goals exact ⟨rfl, H.out, ((Chg.of_below ((Below.refl _ _).drew) _).trans (Chg.set _ _ _ _)).trans (Chg.set _ _ _ _)⟩
theorem write_do (g t B : Nat) (D : DiskV) (s : ByteArray) (w : World) (h : DiskAt w g D) (ht : t < 32) (hc : w.cell? ⟨B, 0, none⟩ = some (.string s)) (hs : s.size ≤ 1048576) (hm : (D.tp t).b.size ≤ 1048576) :
    Calls Tryz.prog 51 #[.pointer (some ⟨g, t * 2, none⟩), .pointer (some ⟨B, 0, none⟩)] w fun e w' => e = .returned (.tuple #[]) ∧ DiskAt w' g (setT D t ⟨(D.tp t).b ++ s, (D.tp t).firm⟩) ∧ Chg w w' g := by
  have kb := h.tb t ht
  have fb := h.free (t * 2)
  have H := Kp.mk (h.set_b t ht ((D.tp t).b ++ s))
  clear h
  generalize (D.tp t).b = b at *
  generalize (D.tp t).firm = f at *
  go_enter Tryz.func51, Tryz.ntmps51
  go_wp2
  go_region
  all_goals go_wp2
  all_goals go_end0
  all_goals exact ⟨rfl, H.out, (Chg.of_below ((Below.refl _ _).drew) _).trans (Chg.set _ _ _ _)⟩
/-- What Write asks. -/
def writeMay (D : DiskV) (b s : ByteArray) : Int := if (1048576 : Int) - b.size < s.size then 40 else if D.cap - used D.tp 32 < s.size then 44 else 0
theorem write_may (g : Nat) (D : DiskV) (b s : ByteArray) (f : Int) (B C : Nat) (w : World) (h : DiskAt w g D) (ho : Ok D) (hc : w.cell? ⟨B, 0, none⟩ = some (.string s)) (hd : w.cell? ⟨C, 0, none⟩ = some (.pointer (some ⟨g, 0, none⟩))) (hs : s.size ≤ maxLen) (hb : b.size ≤ 1048576) :
    Calls Tryz.prog 53 #[.agg #[.string b, .int .i64 f], .pointer (some ⟨B, 0, none⟩), .pointer (some ⟨C, 0, none⟩)] w fun e w' => e = .returned (.int .i64 (writeMay D b s)) ∧ Below w.heap.size w w' := by
  have hc' : ∀ o, (w.alloc o).cell? ⟨B, 0, none⟩ = some (.string s) := fun o => by rw [World.cell?_alloc_lt _ _ _ (World.block_lt_of_cell? _ _ hc)]; exact hc
  have hd' : ∀ o, (w.alloc o).cell? ⟨C, 0, none⟩ = some (.pointer (some ⟨g, 0, none⟩)) := fun o => by rw [World.cell?_alloc_lt _ _ _ (World.block_lt_of_cell? _ _ hd)]; exact hd
  unfold maxLen at hs
  have hu0 := used_le ho.most 32 (Nat.le_refl _)
  have hcap := ho.cap
  have hcap2 := ho.cap2
  by_cases h1 : (1048576 : Int) - b.size < s.size
  · have hV : Kp (writeMay D b s = 40) := ⟨by unfold writeMay; rw [if_pos h1]⟩
    have t1 : decide ((1048576 : Int) - (b.size : Int) < (s.size : Int)) = true := by rw [decide_eq_true_eq]; exact h1
    clear h ho hc hd
    go_enter Tryz.func53, Tryz.ntmps53
    go_wp2
    go_ret
    exact ⟨by rw [hV.out] <;> rfl, (Below.refl _ _).alloc (Nat.le_refl _) _⟩
  · have t1 : decide ((1048576 : Int) - (b.size : Int) < (s.size : Int)) = false := by rw [decide_eq_false_iff_not]; exact h1
    have HU := Kp.mk (fun W hW => Used_any g D W hW ho.most)
    have HD : Kp (∀ o, DiskAt (w.alloc o).drew g D) := ⟨fun o => h.alloc o⟩
    have k64 : ∀ o, (w.alloc o).cell? ⟨g, 64, none⟩ = some (.int .i64 D.cap) := fun o => (h.alloc o).c64
    have HK : Kp (∀ w', Below w.heap.size w w' → w'.cell? ⟨B, 0, none⟩ = some (.string s) ∧ w'.cell? ⟨C, 0, none⟩ = some (.pointer (some ⟨g, 0, none⟩)) ∧ w'.cell? ⟨g, 64, none⟩ = some (.int .i64 D.cap)) := ⟨fun w' hb =>
      ⟨(hb.cell (p := ⟨B, 0, none⟩) (World.block_lt_of_cell? _ _ hc)).trans hc, (hb.cell (p := ⟨C, 0, none⟩) (World.block_lt_of_cell? _ _ hd)).trans hd, (hb.cell (p := ⟨g, 64, none⟩) h.lt).trans h.c64⟩⟩
    have HV : Kp (writeMay D b s = if D.cap - used D.tp 32 < s.size then 44 else 0) := ⟨by unfold writeMay; rw [if_neg h1]⟩
    generalize D.cap = cap at *
    generalize used D.tp 32 = U at hu0 HU HV
    obtain ⟨z, hz⟩ : ∃ z, decide (cap - (U : Int) < (s.size : Int)) = z := ⟨_, rfl⟩
    have HV2 : Kp (writeMay D b s = if z = true then 44 else 0) := ⟨by rw [HV.out, ← hz]; simp only [decide_eq_true_eq]⟩
    have n1 : IntKind.i64.wrap (cap - (U : Int)) = cap - (U : Int) := by rw [IntKind.wrap_i64]; omega
    clear h ho hc hd h1 HV
    go_enter Tryz.func53, Tryz.ntmps53
    go_wp2
    go_region_held3 (fun w' => w'.cell? ⟨B, 0, none⟩ = some (.string s) ∧ w'.cell? ⟨C, 0, none⟩ = some (.pointer (some ⟨g, 0, none⟩)) ∧ w'.cell? ⟨g, 64, none⟩ = some (.int .i64 cap)) (go_keep)
      (first
        | (go_at_call 35; refine (HU.out _ (HD.out _)).mono ?_; rintro e w1 ⟨rfl, hb1⟩; have B1 := Kp.mk ((((Below.refl w.heap.size w).alloc (Nat.le_refl _) (.cells #[.string b, .int .i64 f] 87)).drew).trans (hb1.mono (by simp))); obtain ⟨q1, q2, q3⟩ := HK.out _ B1.out; clear hb1))
    cases z
    all_goals go_wp2
    all_goals go_ret
    all_goals exact ⟨by rw [HV2.out] <;> rfl, B1.out⟩
end Go.Proofs.YtpfoekfbcpinlaaGreatDoor
/- act. -/
namespace Go.Proofs.YtpfoekfbcpinlaaGreatDoor
open Go.RowKit
set_option linter.unusedVariables false

/-- What act answers, and leaves. -/
def opV (D : DiskV) (t may : Int) (dov torn : TapeV → TapeV) : Int × DiskV :=
  if D.down = true then (45, D) else if t < 0 ∨ 32 ≤ t then (1, D) else if may ≠ 0 then (may, D) else
    if (failsV D).1 = true then (45, setT (failsV D).2 t.toNat (torn (D.tp t.toNat))) else (0, setT (failsV D).2 t.toNat (dov (D.tp t.toNat)))
theorem fails_tp (D : DiskV) : (failsV D).2.tp = D.tp := by unfold failsV; split <;> rfl
set_option maxRecDepth 20000 in
set_option maxHeartbeats 1000000 in
theorem act_sync (g : Nat) (D : DiskV) (t may : Int) (dov torn : TapeV → TapeV) (w : World) (h : DiskAt w g D) (ho : Ok D)
    (hmay : ∀ k : Nat, t = k → k < 32 → Calls Tryz.prog 54 #[.agg #[.string (D.tp k).b, .int .i64 (D.tp k).firm]] w fun e w' => e = .returned (.int .i64 may) ∧ Below w.heap.size w w')
    (hdo : ∀ k : Nat, t = k → k < 32 → may = 0 → ∀ W D', Chg w W g → DiskAt W g D' → D'.tp = D.tp → Calls Tryz.prog 55 #[.pointer (some ⟨g, k * 2, none⟩)] W fun e W' => e = .returned (.tuple #[]) ∧ DiskAt W' g (setT D' k (dov (D.tp k))) ∧ Chg W W' g)
    (htorn : ∀ k : Nat, t = k → k < 32 → may = 0 → ∀ W D', Chg w W g → DiskAt W g D' → D'.tp = D.tp → Calls Tryz.prog 56 #[.pointer (some ⟨g, k * 2, none⟩)] W fun e W' => e = .returned (.tuple #[]) ∧ DiskAt W' g (setT D' k (torn (D.tp k))) ∧ Chg W W' g) :
    Calls Tryz.prog 52 #[.pointer (some ⟨g, 0, none⟩), .int .i64 t, .func (.func 54) #[] #[], .func (.func 55) #[] #[], .func (.func 56) #[] #[]] w fun e w' => e = .returned (.int .i64 (opV D t may dov torn).1) ∧ DiskAt w' g (opV D t may dov torn).2 ∧ Chg w w' g := by
  have k67 := h.c67
  by_cases hd : D.down = true
  · have hV : Kp (opV D t may dov torn = (45, D)) := ⟨by unfold opV; rw [if_pos hd]⟩
    rw [hd] at k67
    have H := Kp.mk h
    clear h hd hmay hdo htorn ho
    go_enter Tryz.func52, Tryz.ntmps52
    go_wp2
    go_ret
    exact ⟨by rw [hV.out] <;> rfl, by rw [hV.out]; exact H.out, Chg.refl _ _⟩
  · have hd' : D.down = false := by simpa using hd
    rw [hd'] at k67
    by_cases ht : t < 0 ∨ 32 ≤ t
    · have hV : Kp (opV D t may dov torn = (1, D)) := ⟨by unfold opV; rw [if_neg hd, if_pos ht]⟩
      have H := Kp.mk h
      clear h hd hd' hmay hdo htorn ho
      by_cases h0 : t < 0
      · have p1 : decide (t < 0) = true := by rw [decide_eq_true_eq]; exact h0
        clear ht
        go_enter Tryz.func52, Tryz.ntmps52
        go_wp2
        go_ret
        exact ⟨by rw [hV.out] <;> rfl, by rw [hV.out]; exact H.out, Chg.refl _ _⟩
      · have p1 : decide (t < 0) = false := by rw [decide_eq_false_iff_not]; exact h0
        have p2 : decide ((32 : Int) ≤ t) = true := by rw [decide_eq_true_eq]; omega
        clear ht
        go_enter Tryz.func52, Tryz.ntmps52
        go_wp2
        go_ret
        exact ⟨by rw [hV.out] <;> rfl, by rw [hV.out]; exact H.out, Chg.refl _ _⟩
    · obtain ⟨k, rfl, hk⟩ : ∃ k : Nat, t = k ∧ k < 32 := ⟨t.toNat, by omega, by omega⟩
      have p1 : decide ((k : Int) < 0) = false := by rw [decide_eq_false_iff_not]; omega
      have p2 : decide ((32 : Int) ≤ (k : Int)) = false := by rw [decide_eq_false_iff_not]; omega
      have p2' : decide (32 ≤ k) = false := by rw [decide_eq_false_iff_not]; omega
      have kb := h.tb k hk
      have kf := h.tf k hk
      have i1 : (0 : Int) ≤ (k : Int) := by omega
      have i2 : (k : Int) < 32 := by omega
      have HM := Kp.mk (hmay k rfl hk)
      have H := Kp.mk h
      clear hmay
      by_cases hm : may = 0
      · have HDo := Kp.mk (hdo k rfl hk hm)
        have HTo := Kp.mk (htorn k rfl hk hm)
        have HF := Kp.mk (fun W hW => fails_any g D W hW ho)
        have HTP := Kp.mk (fails_tp D)
        have hV : Kp (opV D k may dov torn = if (failsV D).1 = true then (45, setT (failsV D).2 k (torn (D.tp k))) else (0, setT (failsV D).2 k (dov (D.tp k)))) := ⟨by unfold opV; rw [if_neg hd, if_neg ht, if_neg (by omega), Int.toNat_natCast]⟩
        generalize failsV D = r at HF HTP hV
        obtain ⟨fl, D1⟩ := r
        simp only [] at HF HTP hV
        clear h hd hd' hdo htorn ho ht
        subst hm
        cases fl
        · rw [if_neg (by simp)] at hV
          go_enter Tryz.func52, Tryz.ntmps52
          go_wp2_with fail
          refine HM.out.mono ?_
          rintro e w1 ⟨rfl, b1⟩
          have H1 := Kp.mk (H.out.below b1)
          have C1 := Kp.mk (Chg.of_below b1 g)
          clear b1 kb kf k67
          go_wp2_with fail
          refine (HF.out _ H1.out).mono ?_
          rintro e w2 ⟨rfl, d2, c2'⟩
          have H2 := Kp.mk d2
          have C2 := Kp.mk (C1.out.trans c2')
          clear d2 c2'
          go_wp2_with fail
          refine (HDo.out _ _ C2.out H2.out HTP.out).mono ?_
          rintro e w3 ⟨rfl, d3, c3'⟩
          have H3 := Kp.mk d3
          have C3 := Kp.mk (C2.out.trans c3')
          clear d3 c3'
          go_wp2
          go_ret
          exact ⟨by rw [hV.out] <;> rfl, by rw [hV.out]; exact H3.out, C3.out⟩
        · rw [if_pos rfl] at hV
          go_enter Tryz.func52, Tryz.ntmps52
          go_wp2_with fail
          refine HM.out.mono ?_
          rintro e w1 ⟨rfl, b1⟩
          have H1 := Kp.mk (H.out.below b1)
          have C1 := Kp.mk (Chg.of_below b1 g)
          clear b1 kb kf k67
          go_wp2_with fail
          refine (HF.out _ H1.out).mono ?_
          rintro e w2 ⟨rfl, d2, c2'⟩
          have H2 := Kp.mk d2
          have C2 := Kp.mk (C1.out.trans c2')
          clear d2 c2'
          go_wp2_with fail
          refine (HTo.out _ _ C2.out H2.out HTP.out).mono ?_
          rintro e w3 ⟨rfl, d3, c3'⟩
          have H3 := Kp.mk d3
          have C3 := Kp.mk (C2.out.trans c3')
          clear d3 c3'
          go_wp2
          go_ret
          exact ⟨by rw [hV.out] <;> rfl, by rw [hV.out]; exact H3.out, C3.out⟩
      · have hV : Kp (opV D k may dov torn = (may, D)) := ⟨by unfold opV; rw [if_neg hd, if_neg ht, if_pos hm]⟩
        have hm' : (may == 0) = false := by rw [beq_eq_false_iff_ne]; exact hm
        clear h hd hd' hdo htorn ho ht
        go_enter Tryz.func52, Tryz.ntmps52
        go_wp2_with fail
        refine HM.out.mono ?_
        rintro e w1 ⟨rfl, b1⟩
        have H1 := Kp.mk (H.out.below b1)
        have C1 := Kp.mk (Chg.of_below b1 g)
        clear b1 kb kf k67
        go_wp2
        go_ret
        exact ⟨by rw [hV.out] <;> rfl, by rw [hV.out]; exact H1.out, C1.out⟩
set_option maxRecDepth 20000 in
set_option maxHeartbeats 1000000 in
theorem act_wipe (g : Nat) (D : DiskV) (t may : Int) (dov torn : TapeV → TapeV) (w : World) (h : DiskAt w g D) (ho : Ok D)
    (hmay : ∀ k : Nat, t = k → k < 32 → Calls Tryz.prog 54 #[.agg #[.string (D.tp k).b, .int .i64 (D.tp k).firm]] w fun e w' => e = .returned (.int .i64 may) ∧ Below w.heap.size w w')
    (hdo : ∀ k : Nat, t = k → k < 32 → may = 0 → ∀ W D', Chg w W g → DiskAt W g D' → D'.tp = D.tp → Calls Tryz.prog 102 #[.pointer (some ⟨g, k * 2, none⟩)] W fun e W' => e = .returned (.tuple #[]) ∧ DiskAt W' g (setT D' k (dov (D.tp k))) ∧ Chg W W' g)
    (htorn : ∀ k : Nat, t = k → k < 32 → may = 0 → ∀ W D', Chg w W g → DiskAt W g D' → D'.tp = D.tp → Calls Tryz.prog 56 #[.pointer (some ⟨g, k * 2, none⟩)] W fun e W' => e = .returned (.tuple #[]) ∧ DiskAt W' g (setT D' k (torn (D.tp k))) ∧ Chg W W' g) :
    Calls Tryz.prog 52 #[.pointer (some ⟨g, 0, none⟩), .int .i64 t, .func (.func 54) #[] #[], .func (.func 102) #[] #[], .func (.func 56) #[] #[]] w fun e w' => e = .returned (.int .i64 (opV D t may dov torn).1) ∧ DiskAt w' g (opV D t may dov torn).2 ∧ Chg w w' g := by
  have k67 := h.c67
  by_cases hd : D.down = true
  · have hV : Kp (opV D t may dov torn = (45, D)) := ⟨by unfold opV; rw [if_pos hd]⟩
    rw [hd] at k67
    have H := Kp.mk h
    clear h hd hmay hdo htorn ho
    go_enter Tryz.func52, Tryz.ntmps52
    go_wp2
    go_ret
    exact ⟨by rw [hV.out] <;> rfl, by rw [hV.out]; exact H.out, Chg.refl _ _⟩
  · have hd' : D.down = false := by simpa using hd
    rw [hd'] at k67
    by_cases ht : t < 0 ∨ 32 ≤ t
    · have hV : Kp (opV D t may dov torn = (1, D)) := ⟨by unfold opV; rw [if_neg hd, if_pos ht]⟩
      have H := Kp.mk h
      clear h hd hd' hmay hdo htorn ho
      by_cases h0 : t < 0
      · have p1 : decide (t < 0) = true := by rw [decide_eq_true_eq]; exact h0
        clear ht
        go_enter Tryz.func52, Tryz.ntmps52
        go_wp2
        go_ret
        exact ⟨by rw [hV.out] <;> rfl, by rw [hV.out]; exact H.out, Chg.refl _ _⟩
      · have p1 : decide (t < 0) = false := by rw [decide_eq_false_iff_not]; exact h0
        have p2 : decide ((32 : Int) ≤ t) = true := by rw [decide_eq_true_eq]; omega
        clear ht
        go_enter Tryz.func52, Tryz.ntmps52
        go_wp2
        go_ret
        exact ⟨by rw [hV.out] <;> rfl, by rw [hV.out]; exact H.out, Chg.refl _ _⟩
    · obtain ⟨k, rfl, hk⟩ : ∃ k : Nat, t = k ∧ k < 32 := ⟨t.toNat, by omega, by omega⟩
      have p1 : decide ((k : Int) < 0) = false := by rw [decide_eq_false_iff_not]; omega
      have p2 : decide ((32 : Int) ≤ (k : Int)) = false := by rw [decide_eq_false_iff_not]; omega
      have p2' : decide (32 ≤ k) = false := by rw [decide_eq_false_iff_not]; omega
      have kb := h.tb k hk
      have kf := h.tf k hk
      have i1 : (0 : Int) ≤ (k : Int) := by omega
      have i2 : (k : Int) < 32 := by omega
      have HM := Kp.mk (hmay k rfl hk)
      have H := Kp.mk h
      clear hmay
      by_cases hm : may = 0
      · have HDo := Kp.mk (hdo k rfl hk hm)
        have HTo := Kp.mk (htorn k rfl hk hm)
        have HF := Kp.mk (fun W hW => fails_any g D W hW ho)
        have HTP := Kp.mk (fails_tp D)
        have hV : Kp (opV D k may dov torn = if (failsV D).1 = true then (45, setT (failsV D).2 k (torn (D.tp k))) else (0, setT (failsV D).2 k (dov (D.tp k)))) := ⟨by unfold opV; rw [if_neg hd, if_neg ht, if_neg (by omega), Int.toNat_natCast]⟩
        generalize failsV D = r at HF HTP hV
        obtain ⟨fl, D1⟩ := r
        simp only [] at HF HTP hV
        clear h hd hd' hdo htorn ho ht
        subst hm
        cases fl
        · rw [if_neg (by simp)] at hV
          go_enter Tryz.func52, Tryz.ntmps52
          go_wp2_with fail
          refine HM.out.mono ?_
          rintro e w1 ⟨rfl, b1⟩
          have H1 := Kp.mk (H.out.below b1)
          have C1 := Kp.mk (Chg.of_below b1 g)
          clear b1 kb kf k67
          go_wp2_with fail
          refine (HF.out _ H1.out).mono ?_
          rintro e w2 ⟨rfl, d2, c2'⟩
          have H2 := Kp.mk d2
          have C2 := Kp.mk (C1.out.trans c2')
          clear d2 c2'
          go_wp2_with fail
          refine (HDo.out _ _ C2.out H2.out HTP.out).mono ?_
          rintro e w3 ⟨rfl, d3, c3'⟩
          have H3 := Kp.mk d3
          have C3 := Kp.mk (C2.out.trans c3')
          clear d3 c3'
          go_wp2
          go_ret
          exact ⟨by rw [hV.out] <;> rfl, by rw [hV.out]; exact H3.out, C3.out⟩
        · rw [if_pos rfl] at hV
          go_enter Tryz.func52, Tryz.ntmps52
          go_wp2_with fail
          refine HM.out.mono ?_
          rintro e w1 ⟨rfl, b1⟩
          have H1 := Kp.mk (H.out.below b1)
          have C1 := Kp.mk (Chg.of_below b1 g)
          clear b1 kb kf k67
          go_wp2_with fail
          refine (HF.out _ H1.out).mono ?_
          rintro e w2 ⟨rfl, d2, c2'⟩
          have H2 := Kp.mk d2
          have C2 := Kp.mk (C1.out.trans c2')
          clear d2 c2'
          go_wp2_with fail
          refine (HTo.out _ _ C2.out H2.out HTP.out).mono ?_
          rintro e w3 ⟨rfl, d3, c3'⟩
          have H3 := Kp.mk d3
          have C3 := Kp.mk (C2.out.trans c3')
          clear d3 c3'
          go_wp2
          go_ret
          exact ⟨by rw [hV.out] <;> rfl, by rw [hV.out]; exact H3.out, C3.out⟩
      · have hV : Kp (opV D k may dov torn = (may, D)) := ⟨by unfold opV; rw [if_neg hd, if_neg ht, if_pos hm]⟩
        have hm' : (may == 0) = false := by rw [beq_eq_false_iff_ne]; exact hm
        clear h hd hd' hdo htorn ho ht
        go_enter Tryz.func52, Tryz.ntmps52
        go_wp2_with fail
        refine HM.out.mono ?_
        rintro e w1 ⟨rfl, b1⟩
        have H1 := Kp.mk (H.out.below b1)
        have C1 := Kp.mk (Chg.of_below b1 g)
        clear b1 kb kf k67
        go_wp2
        go_ret
        exact ⟨by rw [hV.out] <;> rfl, by rw [hV.out]; exact H1.out, C1.out⟩
set_option maxRecDepth 20000 in
set_option maxHeartbeats 1000000 in
theorem act_trim (g : Nat) (D : DiskV) (t may : Int) (B : Nat) (dov torn : TapeV → TapeV) (w : World) (h : DiskAt w g D) (ho : Ok D)
    (hmay : ∀ k : Nat, t = k → k < 32 → Calls Tryz.prog 131 #[.agg #[.string (D.tp k).b, .int .i64 (D.tp k).firm], .pointer (some ⟨B, 0, none⟩)] w fun e w' => e = .returned (.int .i64 may) ∧ Below w.heap.size w w')
    (hdo : ∀ k : Nat, t = k → k < 32 → may = 0 → ∀ W D', Chg w W g → DiskAt W g D' → D'.tp = D.tp → Calls Tryz.prog 132 #[.pointer (some ⟨g, k * 2, none⟩), .pointer (some ⟨B, 0, none⟩)] W fun e W' => e = .returned (.tuple #[]) ∧ DiskAt W' g (setT D' k (dov (D.tp k))) ∧ Chg W W' g)
    (htorn : ∀ k : Nat, t = k → k < 32 → may = 0 → ∀ W D', Chg w W g → DiskAt W g D' → D'.tp = D.tp → Calls Tryz.prog 56 #[.pointer (some ⟨g, k * 2, none⟩)] W fun e W' => e = .returned (.tuple #[]) ∧ DiskAt W' g (setT D' k (torn (D.tp k))) ∧ Chg W W' g) :
    Calls Tryz.prog 52 #[.pointer (some ⟨g, 0, none⟩), .int .i64 t, .func (.func 131) #[] #[.pointer (some ⟨B, 0, none⟩)], .func (.func 132) #[] #[.pointer (some ⟨B, 0, none⟩)], .func (.func 56) #[] #[]] w fun e w' => e = .returned (.int .i64 (opV D t may dov torn).1) ∧ DiskAt w' g (opV D t may dov torn).2 ∧ Chg w w' g := by
  have k67 := h.c67
  by_cases hd : D.down = true
  · have hV : Kp (opV D t may dov torn = (45, D)) := ⟨by unfold opV; rw [if_pos hd]⟩
    rw [hd] at k67
    have H := Kp.mk h
    clear h hd hmay hdo htorn ho
    go_enter Tryz.func52, Tryz.ntmps52
    go_wp2
    go_ret
    exact ⟨by rw [hV.out] <;> rfl, by rw [hV.out]; exact H.out, Chg.refl _ _⟩
  · have hd' : D.down = false := by simpa using hd
    rw [hd'] at k67
    by_cases ht : t < 0 ∨ 32 ≤ t
    · have hV : Kp (opV D t may dov torn = (1, D)) := ⟨by unfold opV; rw [if_neg hd, if_pos ht]⟩
      have H := Kp.mk h
      clear h hd hd' hmay hdo htorn ho
      by_cases h0 : t < 0
      · have p1 : decide (t < 0) = true := by rw [decide_eq_true_eq]; exact h0
        clear ht
        go_enter Tryz.func52, Tryz.ntmps52
        go_wp2
        go_ret
        exact ⟨by rw [hV.out] <;> rfl, by rw [hV.out]; exact H.out, Chg.refl _ _⟩
      · have p1 : decide (t < 0) = false := by rw [decide_eq_false_iff_not]; exact h0
        have p2 : decide ((32 : Int) ≤ t) = true := by rw [decide_eq_true_eq]; omega
        clear ht
        go_enter Tryz.func52, Tryz.ntmps52
        go_wp2
        go_ret
        exact ⟨by rw [hV.out] <;> rfl, by rw [hV.out]; exact H.out, Chg.refl _ _⟩
    · obtain ⟨k, rfl, hk⟩ : ∃ k : Nat, t = k ∧ k < 32 := ⟨t.toNat, by omega, by omega⟩
      have p1 : decide ((k : Int) < 0) = false := by rw [decide_eq_false_iff_not]; omega
      have p2 : decide ((32 : Int) ≤ (k : Int)) = false := by rw [decide_eq_false_iff_not]; omega
      have p2' : decide (32 ≤ k) = false := by rw [decide_eq_false_iff_not]; omega
      have kb := h.tb k hk
      have kf := h.tf k hk
      have i1 : (0 : Int) ≤ (k : Int) := by omega
      have i2 : (k : Int) < 32 := by omega
      have HM := Kp.mk (hmay k rfl hk)
      have H := Kp.mk h
      clear hmay
      by_cases hm : may = 0
      · have HDo := Kp.mk (hdo k rfl hk hm)
        have HTo := Kp.mk (htorn k rfl hk hm)
        have HF := Kp.mk (fun W hW => fails_any g D W hW ho)
        have HTP := Kp.mk (fails_tp D)
        have hV : Kp (opV D k may dov torn = if (failsV D).1 = true then (45, setT (failsV D).2 k (torn (D.tp k))) else (0, setT (failsV D).2 k (dov (D.tp k)))) := ⟨by unfold opV; rw [if_neg hd, if_neg ht, if_neg (by omega), Int.toNat_natCast]⟩
        generalize failsV D = r at HF HTP hV
        obtain ⟨fl, D1⟩ := r
        simp only [] at HF HTP hV
        clear h hd hd' hdo htorn ho ht
        subst hm
        cases fl
        · rw [if_neg (by simp)] at hV
          go_enter Tryz.func52, Tryz.ntmps52
          go_wp2_with fail
          refine HM.out.mono ?_
          rintro e w1 ⟨rfl, b1⟩
          have H1 := Kp.mk (H.out.below b1)
          have C1 := Kp.mk (Chg.of_below b1 g)
          clear b1 kb kf k67
          go_wp2_with fail
          refine (HF.out _ H1.out).mono ?_
          rintro e w2 ⟨rfl, d2, c2'⟩
          have H2 := Kp.mk d2
          have C2 := Kp.mk (C1.out.trans c2')
          clear d2 c2'
          go_wp2_with fail
          refine (HDo.out _ _ C2.out H2.out HTP.out).mono ?_
          rintro e w3 ⟨rfl, d3, c3'⟩
          have H3 := Kp.mk d3
          have C3 := Kp.mk (C2.out.trans c3')
          clear d3 c3'
          go_wp2
          go_ret
          exact ⟨by rw [hV.out] <;> rfl, by rw [hV.out]; exact H3.out, C3.out⟩
        · rw [if_pos rfl] at hV
          go_enter Tryz.func52, Tryz.ntmps52
          go_wp2_with fail
          refine HM.out.mono ?_
          rintro e w1 ⟨rfl, b1⟩
          have H1 := Kp.mk (H.out.below b1)
          have C1 := Kp.mk (Chg.of_below b1 g)
          clear b1 kb kf k67
          go_wp2_with fail
          refine (HF.out _ H1.out).mono ?_
          rintro e w2 ⟨rfl, d2, c2'⟩
          have H2 := Kp.mk d2
          have C2 := Kp.mk (C1.out.trans c2')
          clear d2 c2'
          go_wp2_with fail
          refine (HTo.out _ _ C2.out H2.out HTP.out).mono ?_
          rintro e w3 ⟨rfl, d3, c3'⟩
          have H3 := Kp.mk d3
          have C3 := Kp.mk (C2.out.trans c3')
          clear d3 c3'
          go_wp2
          go_ret
          exact ⟨by rw [hV.out] <;> rfl, by rw [hV.out]; exact H3.out, C3.out⟩
      · have hV : Kp (opV D k may dov torn = (may, D)) := ⟨by unfold opV; rw [if_neg hd, if_neg ht, if_pos hm]⟩
        have hm' : (may == 0) = false := by rw [beq_eq_false_iff_ne]; exact hm
        clear h hd hd' hdo htorn ho ht
        go_enter Tryz.func52, Tryz.ntmps52
        go_wp2_with fail
        refine HM.out.mono ?_
        rintro e w1 ⟨rfl, b1⟩
        have H1 := Kp.mk (H.out.below b1)
        have C1 := Kp.mk (Chg.of_below b1 g)
        clear b1 kb kf k67
        go_wp2
        go_ret
        exact ⟨by rw [hV.out] <;> rfl, by rw [hV.out]; exact H1.out, C1.out⟩
set_option maxRecDepth 20000 in
set_option maxHeartbeats 1000000 in
theorem act_write (g : Nat) (D : DiskV) (t may : Int) (B C : Nat) (dov torn : TapeV → TapeV) (w : World) (h : DiskAt w g D) (ho : Ok D)
    (hmay : ∀ k : Nat, t = k → k < 32 → Calls Tryz.prog 53 #[.agg #[.string (D.tp k).b, .int .i64 (D.tp k).firm], .pointer (some ⟨B, 0, none⟩), .pointer (some ⟨C, 0, none⟩)] w fun e w' => e = .returned (.int .i64 may) ∧ Below w.heap.size w w')
    (hdo : ∀ k : Nat, t = k → k < 32 → may = 0 → ∀ W D', Chg w W g → DiskAt W g D' → D'.tp = D.tp → Calls Tryz.prog 51 #[.pointer (some ⟨g, k * 2, none⟩), .pointer (some ⟨B, 0, none⟩)] W fun e W' => e = .returned (.tuple #[]) ∧ DiskAt W' g (setT D' k (dov (D.tp k))) ∧ Chg W W' g)
    (htorn : ∀ k : Nat, t = k → k < 32 → may = 0 → ∀ W D', Chg w W g → DiskAt W g D' → D'.tp = D.tp → Calls Tryz.prog 51 #[.pointer (some ⟨g, k * 2, none⟩), .pointer (some ⟨B, 0, none⟩)] W fun e W' => e = .returned (.tuple #[]) ∧ DiskAt W' g (setT D' k (torn (D.tp k))) ∧ Chg W W' g) :
    Calls Tryz.prog 52 #[.pointer (some ⟨g, 0, none⟩), .int .i64 t, .func (.func 53) #[] #[.pointer (some ⟨B, 0, none⟩), .pointer (some ⟨C, 0, none⟩)], .func (.func 51) #[] #[.pointer (some ⟨B, 0, none⟩)], .func (.func 51) #[] #[.pointer (some ⟨B, 0, none⟩)]] w fun e w' => e = .returned (.int .i64 (opV D t may dov torn).1) ∧ DiskAt w' g (opV D t may dov torn).2 ∧ Chg w w' g := by
  have k67 := h.c67
  by_cases hd : D.down = true
  · have hV : Kp (opV D t may dov torn = (45, D)) := ⟨by unfold opV; rw [if_pos hd]⟩
    rw [hd] at k67
    have H := Kp.mk h
    clear h hd hmay hdo htorn ho
    go_enter Tryz.func52, Tryz.ntmps52
    go_wp2
    go_ret
    exact ⟨by rw [hV.out] <;> rfl, by rw [hV.out]; exact H.out, Chg.refl _ _⟩
  · have hd' : D.down = false := by simpa using hd
    rw [hd'] at k67
    by_cases ht : t < 0 ∨ 32 ≤ t
    · have hV : Kp (opV D t may dov torn = (1, D)) := ⟨by unfold opV; rw [if_neg hd, if_pos ht]⟩
      have H := Kp.mk h
      clear h hd hd' hmay hdo htorn ho
      by_cases h0 : t < 0
      · have p1 : decide (t < 0) = true := by rw [decide_eq_true_eq]; exact h0
        clear ht
        go_enter Tryz.func52, Tryz.ntmps52
        go_wp2
        go_ret
        exact ⟨by rw [hV.out] <;> rfl, by rw [hV.out]; exact H.out, Chg.refl _ _⟩
      · have p1 : decide (t < 0) = false := by rw [decide_eq_false_iff_not]; exact h0
        have p2 : decide ((32 : Int) ≤ t) = true := by rw [decide_eq_true_eq]; omega
        clear ht
        go_enter Tryz.func52, Tryz.ntmps52
        go_wp2
        go_ret
        exact ⟨by rw [hV.out] <;> rfl, by rw [hV.out]; exact H.out, Chg.refl _ _⟩
    · obtain ⟨k, rfl, hk⟩ : ∃ k : Nat, t = k ∧ k < 32 := ⟨t.toNat, by omega, by omega⟩
      have p1 : decide ((k : Int) < 0) = false := by rw [decide_eq_false_iff_not]; omega
      have p2 : decide ((32 : Int) ≤ (k : Int)) = false := by rw [decide_eq_false_iff_not]; omega
      have p2' : decide (32 ≤ k) = false := by rw [decide_eq_false_iff_not]; omega
      have kb := h.tb k hk
      have kf := h.tf k hk
      have i1 : (0 : Int) ≤ (k : Int) := by omega
      have i2 : (k : Int) < 32 := by omega
      have HM := Kp.mk (hmay k rfl hk)
      have H := Kp.mk h
      clear hmay
      by_cases hm : may = 0
      · have HDo := Kp.mk (hdo k rfl hk hm)
        have HTo := Kp.mk (htorn k rfl hk hm)
        have HF := Kp.mk (fun W hW => fails_any g D W hW ho)
        have HTP := Kp.mk (fails_tp D)
        have hV : Kp (opV D k may dov torn = if (failsV D).1 = true then (45, setT (failsV D).2 k (torn (D.tp k))) else (0, setT (failsV D).2 k (dov (D.tp k)))) := ⟨by unfold opV; rw [if_neg hd, if_neg ht, if_neg (by omega), Int.toNat_natCast]⟩
        generalize failsV D = r at HF HTP hV
        obtain ⟨fl, D1⟩ := r
        simp only [] at HF HTP hV
        clear h hd hd' hdo htorn ho ht
        subst hm
        cases fl
        · rw [if_neg (by simp)] at hV
          go_enter Tryz.func52, Tryz.ntmps52
          go_wp2_with fail
          refine HM.out.mono ?_
          rintro e w1 ⟨rfl, b1⟩
          have H1 := Kp.mk (H.out.below b1)
          have C1 := Kp.mk (Chg.of_below b1 g)
          clear b1 kb kf k67
          go_wp2_with fail
          refine (HF.out _ H1.out).mono ?_
          rintro e w2 ⟨rfl, d2, c2'⟩
          have H2 := Kp.mk d2
          have C2 := Kp.mk (C1.out.trans c2')
          clear d2 c2'
          go_wp2_with fail
          refine (HDo.out _ _ C2.out H2.out HTP.out).mono ?_
          rintro e w3 ⟨rfl, d3, c3'⟩
          have H3 := Kp.mk d3
          have C3 := Kp.mk (C2.out.trans c3')
          clear d3 c3'
          go_wp2
          go_ret
          exact ⟨by rw [hV.out] <;> rfl, by rw [hV.out]; exact H3.out, C3.out⟩
        · rw [if_pos rfl] at hV
          go_enter Tryz.func52, Tryz.ntmps52
          go_wp2_with fail
          refine HM.out.mono ?_
          rintro e w1 ⟨rfl, b1⟩
          have H1 := Kp.mk (H.out.below b1)
          have C1 := Kp.mk (Chg.of_below b1 g)
          clear b1 kb kf k67
          go_wp2_with fail
          refine (HF.out _ H1.out).mono ?_
          rintro e w2 ⟨rfl, d2, c2'⟩
          have H2 := Kp.mk d2
          have C2 := Kp.mk (C1.out.trans c2')
          clear d2 c2'
          go_wp2_with fail
          refine (HTo.out _ _ C2.out H2.out HTP.out).mono ?_
          rintro e w3 ⟨rfl, d3, c3'⟩
          have H3 := Kp.mk d3
          have C3 := Kp.mk (C2.out.trans c3')
          clear d3 c3'
          go_wp2
          go_ret
          exact ⟨by rw [hV.out] <;> rfl, by rw [hV.out]; exact H3.out, C3.out⟩
      · have hV : Kp (opV D k may dov torn = (may, D)) := ⟨by unfold opV; rw [if_neg hd, if_neg ht, if_pos hm]⟩
        have hm' : (may == 0) = false := by rw [beq_eq_false_iff_ne]; exact hm
        clear h hd hd' hdo htorn ho ht
        go_enter Tryz.func52, Tryz.ntmps52
        go_wp2_with fail
        refine HM.out.mono ?_
        rintro e w1 ⟨rfl, b1⟩
        have H1 := Kp.mk (H.out.below b1)
        have C1 := Kp.mk (Chg.of_below b1 g)
        clear b1 kb kf k67
        go_wp2
        go_ret
        exact ⟨by rw [hV.out] <;> rfl, by rw [hV.out]; exact H1.out, C1.out⟩
end Go.Proofs.YtpfoekfbcpinlaaGreatDoor
/- Write, Sync, Trim, Wipe, Read, Fail, Up, Capacity, Copy. -/
namespace Go.Proofs.YtpfoekfbcpinlaaGreatDoor
open Go.RowKit
set_option linter.unusedVariables false

theorem setT_id (D : DiskV) (t : Nat) : setT D t (D.tp t) = D := by
  unfold setT
  cases D
  simp only [DiskV.mk.injEq, and_true]
  funext k
  split
  · rename_i e; rw [e]
  · rfl
theorem nothing_torn (g : Nat) (D : DiskV) (k : Nat) (W : World) (D' : DiskV) (h : DiskAt W g D') (ht : D'.tp = D.tp) :
    Calls Tryz.prog 56 #[.pointer (some ⟨g, k * 2, none⟩)] W fun e W' => e = .returned (.tuple #[]) ∧ DiskAt W' g (setT D' k (id (D.tp k))) ∧ Chg W W' g :=
  (nothing_any _ W).mono fun e W' ⟨he, hw⟩ => by
    subst hw
    refine ⟨he, ?_, Chg.refl _ _⟩
    rw [← ht]
    show DiskAt W g (setT D' k (D'.tp k))
    rw [setT_id]
    exact h
def syncV (D : DiskV) (t : Int) : Int × DiskV := opV D t 0 (fun x => ⟨x.b, x.b.size⟩) id
def wipeV (D : DiskV) (t : Int) : Int × DiskV := opV D t 0 (fun _ => ⟨⟨#[]⟩, 0⟩) id
def trimV (D : DiskV) (t n : Int) : Int × DiskV := opV D t (trimMay (D.tp t.toNat).b n) (fun x => ⟨x.b.extract 0 n.toNat, n.toNat⟩) id
def writeV (D : DiskV) (t : Int) (s : ByteArray) : Int × DiskV := opV D t (writeMay D (D.tp t.toNat).b s) (fun x => ⟨x.b ++ s, x.firm⟩) (fun x => ⟨x.b ++ s, x.firm⟩)
theorem Sync_any (g : Nat) (D : DiskV) (t : Int) (w : World) (h : DiskAt w g D) (ho : Ok D) :
    Calls Tryz.prog 16 #[.pointer (some ⟨g, 0, none⟩), .int .i64 t] w fun e w' => e = .returned (.int .i64 (syncV D t).1) ∧ DiskAt w' g (syncV D t).2 ∧ Chg w w' g := by
  have HA := Kp.mk (act_sync g D t 0 (fun x => ⟨x.b, x.b.size⟩) id w h ho (fun k _ hk => always_any _ _ _)
    (fun k _ hk _ W D' _ hD' htp => by have := sync_any g k D' W hD' hk (by rw [htp]; exact ho.most k hk); rw [htp] at this; exact this)
    (fun k _ hk _ W D' _ hD' htp => nothing_torn g D k W D' hD' htp))
  clear h ho
  go_enter Tryz.func16, Tryz.ntmps16
  go_wp2_with fail
  refine HA.out.mono ?_
  rintro e w1 ⟨rfl, h1, c1⟩
  have H := Kp.mk (And.intro h1 c1)
  clear h1 c1
  go_wp2
  go_ret
  exact ⟨rfl, H.out.1, H.out.2⟩
theorem Wipe_any (g : Nat) (D : DiskV) (t : Int) (w : World) (h : DiskAt w g D) (ho : Ok D) :
    Calls Tryz.prog 73 #[.pointer (some ⟨g, 0, none⟩), .int .i64 t] w fun e w' => e = .returned (.int .i64 (wipeV D t).1) ∧ DiskAt w' g (wipeV D t).2 ∧ Chg w w' g := by
  have HA := Kp.mk (act_wipe g D t 0 (fun _ => ⟨⟨#[]⟩, 0⟩) id w h ho (fun k _ hk => always_any _ _ _)
    (fun k _ hk _ W D' _ hD' htp => wipe_do g k D' W hD' hk)
    (fun k _ hk _ W D' _ hD' htp => nothing_torn g D k W D' hD' htp))
  clear h ho
  go_enter Tryz.func73, Tryz.ntmps73
  go_wp2_with fail
  refine HA.out.mono ?_
  rintro e w1 ⟨rfl, h1, c1⟩
  have H := Kp.mk (And.intro h1 c1)
  clear h1 c1
  go_wp2
  go_ret
  exact ⟨rfl, H.out.1, H.out.2⟩
theorem chg_cell {w W : World} {g B : Nat} {v : Value} (h : Chg w W g) (hc : w.cell? ⟨B, 0, none⟩ = some v) (hne : B ≠ g) : W.cell? ⟨B, 0, none⟩ = some v :=
  (World.cell?_of_block (a := ⟨B, 0, none⟩) (h.block B (World.block_lt_of_cell? _ _ hc) (fun e => hne (Option.some.inj e)))).trans hc
theorem Trim_any (g : Nat) (D : DiskV) (t n : Int) (w : World) (h : DiskAt w g D) (ho : Ok D) :
    Calls Tryz.prog 119 #[.pointer (some ⟨g, 0, none⟩), .int .i64 t, .int .i64 n] w fun e w' => e = .returned (.int .i64 (trimV D t n).1) ∧ DiskAt w' g (trimV D t n).2 ∧ Chg w w' g := by
  have hg := h.lt
  have hc0 : (w.alloc (.cells #[.int .i64 n] 3)).cell? ⟨w.heap.size, 0, none⟩ = some (.int .i64 n) := by rw [cell_of_row _ _ _ _ _ _ (heap_alloc_new w _)]; rfl
  have HA := Kp.mk (act_trim g D t (trimMay (D.tp t.toNat).b n) w.heap.size (fun x => ⟨x.b.extract 0 n.toNat, n.toNat⟩) id (w.alloc (.cells #[.int .i64 n] 3)) (h.alloc _) ho
    (fun k hk1 hk => by subst hk1; rw [Int.toNat_natCast]; exact trim_may _ _ n _ _ hc0 (ho.most k hk))
    (fun k hk1 hk hm W D' hch hD' htp => by
      subst hk1
      rw [Int.toNat_natCast] at hm
      have hn : 0 ≤ n ∧ n ≤ ((D.tp k).b.size : Int) := by unfold trimMay at hm; split at hm <;> omega
      have hcw := chg_cell hch hc0 (by omega)
      have hnn : n = (n.toNat : Int) := by omega
      rw [hnn] at hcw
      have := trim_do g k w.heap.size D' n.toNat W hD' hk hcw (by rw [htp]; omega) (by rw [htp]; exact ho.most k hk)
      rw [htp] at this
      exact this)
    (fun k _ hk _ W D' _ hD' htp => nothing_torn g D k W D' hD' htp))
  clear h ho hc0
  go_enter Tryz.func119, Tryz.ntmps119
  go_wp2_with fail
  refine HA.out.mono ?_
  rintro e w1 ⟨rfl, h1, c1⟩
  have H := Kp.mk (And.intro h1 ((Chg.alloc w _ g).trans c1))
  clear h1 c1
  go_wp2
  go_ret
  exact ⟨rfl, H.out.1, H.out.2⟩
theorem Write_any (g : Nat) (D : DiskV) (t : Int) (s : ByteArray) (w : World) (h : DiskAt w g D) (ho : Ok D) (hs : s.size ≤ maxLen) :
    Calls Tryz.prog 15 #[.pointer (some ⟨g, 0, none⟩), .int .i64 t, .string s] w fun e w' => e = .returned (.int .i64 (writeV D t s).1) ∧ DiskAt w' g (writeV D t s).2 ∧ Chg w w' g := by
  have hg := h.lt
  have hb1 : ((w.alloc (.cells #[.pointer (some ⟨g, 0, none⟩)] 29)).alloc (.cells #[.string s] 9)).cell? ⟨w.heap.size + 1, 0, none⟩ = some (.string s) := by
    rw [cell_of_row _ _ _ _ _ _ (heap_alloc2_new w _ _)]; rfl
  have hb0 : ((w.alloc (.cells #[.pointer (some ⟨g, 0, none⟩)] 29)).alloc (.cells #[.string s] 9)).cell? ⟨w.heap.size, 0, none⟩ = some (.pointer (some ⟨g, 0, none⟩)) := by
    rw [cell_of_row _ _ _ _ _ _ (heap_alloc2_old w _ _)]; rfl
  have HA := Kp.mk (act_write g D t (writeMay D (D.tp t.toNat).b s) (w.heap.size + 1) w.heap.size (fun x => ⟨x.b ++ s, x.firm⟩) (fun x => ⟨x.b ++ s, x.firm⟩) _ ((h.alloc (.cells #[.pointer (some ⟨g, 0, none⟩)] 29)).alloc (.cells #[.string s] 9)) ho
    (fun k hk1 hk => by subst hk1; rw [Int.toNat_natCast]; exact write_may g D _ s _ _ _ _ ((h.alloc _).alloc _) ho hb1 hb0 hs (ho.most k hk))
    (fun k hk1 hk hm W D' hch hD' htp => by
      subst hk1
      rw [Int.toNat_natCast] at hm
      have hn : s.size ≤ 1048576 := by unfold writeMay at hm; split at hm <;> omega
      have := write_do g k (w.heap.size + 1) D' s W hD' hk (chg_cell hch hb1 (by omega)) hn (by rw [htp]; exact ho.most k hk)
      rw [htp] at this
      exact this)
    (fun k hk1 hk hm W D' hch hD' htp => by
      subst hk1
      rw [Int.toNat_natCast] at hm
      have hn : s.size ≤ 1048576 := by unfold writeMay at hm; split at hm <;> omega
      have := write_do g k (w.heap.size + 1) D' s W hD' hk (chg_cell hch hb1 (by omega)) hn (by rw [htp]; exact ho.most k hk)
      rw [htp] at this
      exact this))
  have hl : ∀ o1 o2, ((w.alloc o1).alloc o2).cell? ⟨w.heap.size, 0, none⟩ = (w.alloc o1).cell? ⟨w.heap.size, 0, none⟩ := fun o1 o2 => by
    rw [World.cell?_alloc_lt _ _ _ (by simp)]
  clear h ho hb1
  go_enter Tryz.func15, Tryz.ntmps15
  go_wp2_with fail
  refine HA.out.mono ?_
  rintro e w1 ⟨rfl, h1, c1⟩
  have H := Kp.mk (And.intro h1 (((Chg.alloc w _ g).trans (Chg.alloc _ _ g)).trans c1))
  clear h1 c1
  go_wp2
  go_ret
  exact ⟨rfl, H.out.1, H.out.2⟩
/-- What Read answers. -/
def readV (D : DiskV) (t : Int) : ByteArray × Int := if D.down = true then (⟨#[]⟩, 45) else if t < 0 ∨ 32 ≤ t then (⟨#[]⟩, 1) else ((D.tp t.toNat).b, 0)
set_option maxRecDepth 20000 in
theorem dRead_any (g : Nat) (D : DiskV) (t : Int) (w : World) (h : DiskAt w g D) :
    Calls Tryz.prog 97 #[.pointer (some ⟨g, 0, none⟩), .int .i64 t] w fun e w' => e = .returned (.tuple #[.string (readV D t).1, .int .i64 (readV D t).2]) ∧ w = w' := by
  have k67 := h.c67
  by_cases hd : D.down = true
  · have hV : Kp (readV D t = (⟨#[]⟩, 45)) := ⟨by unfold readV; rw [if_pos hd]⟩
    rw [hd] at k67
    clear h hd
    go_enter Tryz.func97, Tryz.ntmps97
    go_wp2
    go_ret2
    exact ⟨by rw [hV.out] <;> rfl, rfl⟩
  · have hd' : D.down = false := by simpa using hd
    rw [hd'] at k67
    by_cases ht : t < 0 ∨ 32 ≤ t
    · have hV : Kp (readV D t = (⟨#[]⟩, 1)) := ⟨by unfold readV; rw [if_neg hd, if_pos ht]⟩
      clear h hd hd'
      by_cases h0 : t < 0
      · have p1 : decide (t < 0) = true := by rw [decide_eq_true_eq]; exact h0
        clear ht
        go_enter Tryz.func97, Tryz.ntmps97
        go_wp2
        go_ret2
        exact ⟨by rw [hV.out] <;> rfl, rfl⟩
      · have p1 : decide (t < 0) = false := by rw [decide_eq_false_iff_not]; exact h0
        have p2 : decide ((32 : Int) ≤ t) = true := by rw [decide_eq_true_eq]; omega
        clear ht
        go_enter Tryz.func97, Tryz.ntmps97
        go_wp2
        go_ret2
        exact ⟨by rw [hV.out] <;> rfl, rfl⟩
    · obtain ⟨k, rfl, hk⟩ : ∃ k : Nat, t = k ∧ k < 32 := ⟨t.toNat, by omega, by omega⟩
      have hV : Kp (readV D k = ((D.tp k).b, 0)) := ⟨by unfold readV; rw [if_neg hd, if_neg ht, Int.toNat_natCast]⟩
      have p1 : decide ((k : Int) < 0) = false := by rw [decide_eq_false_iff_not]; omega
      have p2 : decide ((32 : Int) ≤ (k : Int)) = false := by rw [decide_eq_false_iff_not]; omega
      have p2' : decide (32 ≤ k) = false := by rw [decide_eq_false_iff_not]; omega
      have kb := h.tb k hk
      have i1 : (0 : Int) ≤ (k : Int) := by omega
      have i2 : (k : Int) < 32 := by omega
      clear h hd hd' ht
      go_enter Tryz.func97, Tryz.ntmps97
      go_wp2
      go_ret2
      exact ⟨by rw [hV.out] <;> rfl, rfl⟩
/-- What Fail answers, and leaves. -/
def failV (D : DiskV) (n : Int) : Int × DiskV := if D.down = true then (45, D) else if n < 0 then (1, D) else (0, { D with counts := true, left := n })
theorem Fail_any (g : Nat) (D : DiskV) (n : Int) (w : World) (h : DiskAt w g D) :
    Calls Tryz.prog 81 #[.pointer (some ⟨g, 0, none⟩), .int .i64 n] w fun e w' => e = .returned (.int .i64 (failV D n).1) ∧ DiskAt w' g (failV D n).2 ∧ Chg w w' g := by
  have k67 := h.c67
  by_cases hd : D.down = true
  · have hV : Kp (failV D n = (45, D)) := ⟨by unfold failV; rw [if_pos hd]⟩
    rw [hd] at k67
    have H := Kp.mk h
    clear h hd
    go_enter Tryz.func81, Tryz.ntmps81
    go_wp2
    go_ret
    exact ⟨by rw [hV.out] <;> rfl, by rw [hV.out]; exact H.out, Chg.refl _ _⟩
  · have hd' : D.down = false := by simpa using hd
    rw [hd'] at k67
    by_cases h0 : n < 0
    · have hV : Kp (failV D n = (1, D)) := ⟨by unfold failV; rw [if_neg hd, if_pos h0]⟩
      have p1 : decide (n < 0) = true := by rw [decide_eq_true_eq]; exact h0
      have H := Kp.mk h
      clear h hd hd'
      go_enter Tryz.func81, Tryz.ntmps81
      go_wp2
      go_ret
      exact ⟨by rw [hV.out] <;> rfl, by rw [hV.out]; exact H.out, Chg.refl _ _⟩
    · have hV : Kp (failV D n = (0, { D with counts := true, left := n })) := ⟨by unfold failV; rw [if_neg hd, if_neg h0]⟩
      have p1 : decide (n < 0) = false := by rw [decide_eq_false_iff_not]; exact h0
      have k65 := h.c65
      have f65 := h.free 65
      have h1 := h.set_c true
      have k66 := h1.c66
      have f66 := h1.free 66
      have H := Kp.mk (h1.set_l n)
      clear h hd hd' h1
      go_enter Tryz.func81, Tryz.ntmps81
      go_wp2
      go_ret
      exact ⟨by rw [hV.out] <;> rfl, by rw [hV.out]; exact H.out, (Chg.set _ _ _ _).trans (Chg.set _ _ _ _)⟩
theorem Up_any (g : Nat) (D : DiskV) (w : World) (h : DiskAt w g D) :
    Calls Tryz.prog 40 #[.pointer (some ⟨g, 0, none⟩)] w fun e w' => e = .returned (.bool (!D.down)) ∧ w = w' := by
  have k67 := h.c67
  clear h
  generalize D.down = b at *
  go_enter Tryz.func40, Tryz.ntmps40
  go_wp2
  go_ret
  exact ⟨rfl, rfl⟩
theorem Capacity_any (g : Nat) (D : DiskV) (w : World) (h : DiskAt w g D) :
    Calls Tryz.prog 36 #[.pointer (some ⟨g, 0, none⟩)] w fun e w' => e = .returned (.int .i64 D.cap) ∧ w = w' := by
  have k64 := h.c64
  clear h
  go_enter Tryz.func36, Tryz.ntmps36
  go_wp2
  go_ret
  exact ⟨rfl, rfl⟩
end Go.Proofs.YtpfoekfbcpinlaaGreatDoor
/- Tapes. -/
namespace Go.Proofs.YtpfoekfbcpinlaaGreatDoor
open Go.RowKit
set_option linter.unusedVariables false

/-- A tape as it is told: what is firm, and what is loose. -/
def trow (l : List (ByteArray × ByteArray)) : List Value := l.flatMap fun p => [.string p.1, .string p.2]
theorem trow_len (l : List (ByteArray × ByteArray)) : (trow l).length = l.length * 2 := by
  unfold trow
  induction l with
  | nil => rfl
  | cons m r ih => rw [List.flatMap_cons, List.length_append, ih, List.length_cons]; simp; omega
theorem trow_append (l k : List (ByteArray × ByteArray)) : trow (l ++ k) = trow l ++ trow k := by simp [trow]
theorem trow_one (l : List (ByteArray × ByteArray)) : ∀ u ∈ trow l, u.oneCell' = true := by
  intro u hu
  simp only [trow, List.mem_flatMap] at hu
  obtain ⟨m, _, hm⟩ := hu
  simp only [List.mem_cons, List.not_mem_nil, or_false] at hm
  rcases hm with rfl | rfl <;> rfl
theorem trow_get (l : List (ByteArray × ByteArray)) (i : Nat) (h : i < l.length) : (trow l)[i * 2]? = some (.string l[i].1) ∧ (trow l)[i * 2 + 1]? = some (.string l[i].2) := by
  induction l generalizing i with
  | nil => simp at h
  | cons m r ih =>
    have e : trow (m :: r) = .string m.1 :: .string m.2 :: trow r := by simp [trow]
    cases i with
    | zero => rw [e]; exact ⟨rfl, rfl⟩
    | succ i =>
      have h' : i < r.length := by simpa using h
      obtain ⟨a, b⟩ := ih i h'
      rw [e, show (i + 1) * 2 = i * 2 + 1 + 1 from by omega, show i * 2 + 1 + 1 + 1 = (i * 2 + 1) + 1 + 1 from rfl]
      simp only [List.getElem?_cons_succ, List.getElem_cons_succ]
      exact ⟨a, b⟩
def told (x : TapeV) : ByteArray × ByteArray := (x.b.extract 0 x.firm, x.b.extract x.firm x.b.size)
def tapesL (D : DiskV) (n : Nat) : List (ByteArray × ByteArray) := (List.range n).map fun t => told (D.tp t)
theorem tapesL_succ (D : DiskV) (n : Nat) : tapesL D (n + 1) = tapesL D n ++ [told (D.tp n)] := by simp [tapesL, List.range_succ]
theorem tapesL_len (D : DiskV) (n : Nat) : (tapesL D n).length = n := by simp [tapesL]
theorem infoATape : (Tryz.prog.info? 97).map (fun i => (i.zero, i.size, i.bytes)) = some (some (.agg #[.string ⟨#[]⟩, .string ⟨#[]⟩]), 2, 32) := by kernel_rfl
set_option maxRecDepth 20000 in
set_option maxHeartbeats 1000000 in
theorem Tapes_any (g : Nat) (D : DiskV) (w : World) (h : DiskAt w g D) (ho : Ok D) :
    Calls Tryz.prog 19 #[.pointer (some ⟨g, 0, none⟩)] w fun e w' => ∃ ao cap, e = .returned (.slice ao 32 cap) ∧ RK 2 w' (.slice ao 32 cap) 32 (trow (tapesL D 32)) ∧ New w.heap.size w w' (.slice ao 32 cap) := by
  obtain ⟨i0, hi0, hi1, hi2, hi3⟩ := info_parts infoATape
  have HI0 := Kp.mk (And.intro hi0 (And.intro hi1 (And.intro hi2 hi3)))
  clear hi0 hi1 hi2 hi3
  obtain ⟨cs, hcs, hlay⟩ := h
  have HR : Kp (w.rangeAt g 0 (cs.extract 0 64).toList) := ⟨by have := World.rangeAt_of_block hcs 0 64; simpa using this⟩
  have HI := Kp.mk (fun t ht wx => tape_index hlay t ht wx)
  have HS : Kp ((Tryz.prog.info? 88).map (·.size) = some (cs.extract 0 64).toList.length) := ⟨by rw [infoTapes]; simp [hlay.1]⟩
  obtain ⟨L, hL⟩ : ∃ L, (cs.extract 0 64).toList = L := ⟨_, rfl⟩
  rw [show cs.extract 0 64 = L.toArray from by rw [← hL]] at HI
  rw [hL] at HR HS
  have HO := Kp.mk ho
  clear hcs hlay hL ho
  go_enter Tryz.func19, Tryz.ntmps19
  go_wp2_with (refine wpList_load_mid rfl 88 (.tmp 10) rfl g 0 rfl _ _ HR.out Tryz.underlying88 rfl HS.out ?_)
  clear HR HS
  go_loopw [3, 12] (fun v i wr => ∃ (k : Nat) (ao : Option Addr) (cap : Nat), i = .int .i64 k ∧ k ≤ 32 ∧ v = .slice ao k cap ∧ RK 2 wr (.slice ao k cap) k (trow (tapesL D k)) ∧ New w.heap.size w wr (.slice ao k cap)) (fun _ i _ => 32 - (intOf i).toNat)
  case atStart => exact ⟨0, none, 0, rfl, by omega, rfl, RK.nil 2 _, ⟨Below.refl _ _, fun k hk => by simp [blk] at hk⟩⟩
  case round =>
    obtain ⟨k, ao, cap, rfl, hk, rfl, hr, hn⟩ := hrel
    have R := Kp.mk hr
    have N := Kp.mk hn
    by_cases hk2 : k < 32
    · have hidx := HI.out k hk2
      have h1 := HO.out.firm k hk2
      have h2 := HO.out.most k hk2
      have hT : Kp (tapesL D (k + 1) = tapesL D k ++ [((D.tp k).b.extract 0 (D.tp k).firm, (D.tp k).b.extract (D.tp k).firm (D.tp k).b.size)]) := ⟨tapesL_succ D k⟩
      generalize (D.tp k).b = b at hidx h1 h2 hT
      generalize (D.tp k).firm = f at hidx h1 hT
      have HL := Kp.mk (heap_alloc_new wr (.cells #[.string b, .int .i64 f] 87))
      have HR1 : Kp (∀ W, Below wr.heap.size wr W → RK 2 W (.slice ao k cap) k (trow (tapesL D k))) := ⟨fun W hW => hr.below hW⟩
      have HV : Kp (∀ j, blk (.slice ao k cap) = some j → j < wr.heap.size) := ⟨hr.lt⟩
      have B2 : Kp (∀ o1 o2, Below wr.heap.size wr ((wr.alloc o1).alloc o2).drew) := ⟨fun o1 o2 => (((Below.refl _ _).alloc (Nat.le_refl _) _).alloc (by simp) _).drew⟩
      have B3 : Kp (∀ o1 o2, Below w.heap.size w ((wr.alloc o1).alloc o2).drew) := ⟨fun o1 o2 => hn.below.trans ((B2.out o1 o2).mono hn.below.size)⟩
      have q1 : ∀ o o2, ((wr.alloc o).alloc o2).cell? ⟨wr.heap.size, 0, none⟩ = (wr.alloc o).cell? ⟨wr.heap.size, 0, none⟩ := fun o o2 => by rw [World.cell?_alloc_lt _ _ _ (by simp)]
      have q2 : ∀ o o2, ((wr.alloc o).alloc o2).cell? ⟨wr.heap.size, 1, none⟩ = (wr.alloc o).cell? ⟨wr.heap.size, 1, none⟩ := fun o o2 => by rw [World.cell?_alloc_lt _ _ _ (by simp)]
      have i1 : (0 : Int) ≤ (f : Int) := by omega
      have i2 : (f : Int) ≤ (b.size : Int) := by omega
      have HK32 := Kp.mk hk2
      clear hr hn
      go_wp2_with fail
      go_region_held3 (fun w' => w'.cell? ⟨wr.heap.size, 0, none⟩ = some (.string b) ∧ w'.cell? ⟨wr.heap.size, 1, none⟩ = some (.int .i64 f)) (go_keep)
        ((refine step_append_src rfl (.tmp 15) (.tmp 27) 44 (by rfl) (HR1.out _ (B2.out _ _)) (ks := trow [(b.extract 0 f, b.extract f b.size)]) (src_one (heap_second wr _ _) rfl) 97 i0 _ 32 Tryz.underlying44 HI0.out.1 HI0.out.2.1 HI0.out.2.2.1 HI0.out.2.2.2 rfl (by decide) (by rfl) (by rfl) (trow_one _) (by have := HK32.out; unfold maxLen; omega) (by have := HK32.out; omega) (k + 1) (trow (tapesL D (k + 1))) rfl (by rw [hT.out, trow_append]) ?_; intro a2 c2 w2 r1 g1 f1; have N2 := Kp.mk (New.of (w := w) (B := w.heap.size) (B3.out _ _) (B3.out _ _).size g1 f1 N.out.new); have hbx := (g1.block wr.heap.size (by simp; omega) (fun e => by have := HV.out _ e.symm; omega)).trans (heap_first wr _ _); have s1 : w2.cell? ⟨wr.heap.size, 0, none⟩ = some (.string b) := (cell_of_row _ _ _ _ _ _ hbx); have s2 : w2.cell? ⟨wr.heap.size, 1, none⟩ = some (.int .i64 f) := (cell_of_row _ _ _ _ _ _ hbx); have R1 := Kp.mk r1; clear g1 f1 r1 hbx))
      go_wp2
      go_roundw
      case rel => exact ⟨k + 1, a2, c2, by go_num, by omega, by go_num, R1.out, N2.out⟩
      case measure => simp [intOf]; omega
    · obtain rfl : k = 32 := by omega
      clear hr hn
      go_wp2
      go_ret
      exact ⟨ao, cap, rfl, R.out, N.out⟩
end Go.Proofs.YtpfoekfbcpinlaaGreatDoor
