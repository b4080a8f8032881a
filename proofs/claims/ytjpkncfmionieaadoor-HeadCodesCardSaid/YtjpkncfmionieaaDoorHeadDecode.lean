/- Decode: the walk. -/
import Derived.Test.YtjpkncfmionieaaDoorHeadDec
import Derived.Deep.RegionLaw
import Derived.Deep.DrawnRows
namespace Go.Proofs.YtjpkncfmionieaaDoor
open Go.RowKit
set_option linter.unusedVariables false
attribute [local go_sem ↓] Go.wp_at_zero Go.wp_at_succ

theorem VA {s : ByteArray} {p e most : Nat} {x y z : Nat} (hp : p ≤ s.size) (hs : s.size ≤ 140737488351232) (hm : most < 18446744073709551616) (hv : Var.rVarint s.data.toList p e most = (x, y, z)) :
    ∀ (W : World) (g : Nat), Rd W g s p e → Calls Tryd.prog 42 #[.pointer (some ⟨g, 0, none⟩), .int .u64 (most : Nat)] W fun r w' => r = .returned (.int .u64 (x : Nat)) ∧ Rd w' g s y z ∧ W.grownBy w' (some g) := fun W g hr => by
  have := Varint_any g s p e most W hr hp hs hm
  rw [hv] at this
  exact this
set_option maxRecDepth 20000 in
set_option maxHeartbeats 4000000 in
theorem Decode_any (s : ByteArray) (w : World) (hs : s.size ≤ 140737488351232) :
    Calls Tryd.prog 12 #[.string s] w fun e w' => ∃ q : HdV, e = .returned (.tuple #[q.v, .int .i64 ((Hd.decV s.data.toList).2 : Nat)]) ∧ q.hv = (Hd.decV s.data.toList).1 ∧ HdOwn w.heap.size w' q ∧ Below w.heap.size w w' := by
  have hlen : s.data.toList.length = s.size := data_len s
  obtain ⟨a1, a2, a3, hA⟩ : ∃ a1 a2 a3, Hd.decA s.data.toList = (a1, a2, a3) := ⟨_, _, _, rfl⟩
  obtain ⟨b1, b2, b3, hB⟩ : ∃ b1 b2 b3, Hd.decB s.data.toList = (b1, b2, b3) := ⟨_, _, _, rfl⟩
  obtain ⟨c1, c2, c3, hC⟩ : ∃ c1 c2 c3, Hd.decC s.data.toList = (c1, c2, c3) := ⟨_, _, _, rfl⟩
  obtain ⟨d1, d2, d3, hD⟩ : ∃ d1 d2 d3, Hd.decD s.data.toList = (d1, d2, d3) := ⟨_, _, _, rfl⟩
  have hA' : Var.rVarint s.data.toList 0 0 1099511627776 = (a1, a2, a3) := hA
  have fA := rV_facts s.data.toList 0 0 1099511627776 (Nat.zero_le _) (by decide)
  rw [hA'] at fA
  obtain ⟨fA1, fA2, fA3⟩ := fA
  have hB' : Var.rVarint s.data.toList a2 a3 1099511627776 = (b1, b2, b3) := by rw [← hB, Hd.decB, hA]
  have fB := rV_facts s.data.toList a2 a3 1099511627776 fA2 fA3
  rw [hB'] at fB
  obtain ⟨fB1, fB2, fB3⟩ := fB
  have hC' : Var.rVarint s.data.toList b2 b3 31 = (c1, c2, c3) := by rw [← hC, Hd.decC, hB]
  have fC := rV_facts s.data.toList b2 b3 31 fB2 fB3
  rw [hC'] at fC
  obtain ⟨fC1, fC2, fC3⟩ := fC
  have hD' : Var.rVarint s.data.toList c2 c3 31 = (d1, d2, d3) := by rw [← hD, Hd.decD, hC]
  have fD := rV_facts s.data.toList c2 c3 31 fC2 fC3
  rw [hD'] at fD
  obtain ⟨fD1, fD2, fD3⟩ := fD
  simp only [hlen] at fA1 fA2 fA3 fB1 fB2 fB3 fC1 fC2 fC3 fD1 fD2 fD3
  have HA := Kp.mk (VA (Nat.zero_le _) hs (by decide) hA')
  have HB := Kp.mk (VA fA2 hs (by decide) hB')
  have HC := Kp.mk (VA fB2 hs (by decide) hC')
  have HD := Kp.mk (VA fC2 hs (by decide) hD')
  have HLen := Kp.mk hlen
  have HS := Kp.mk hs
  have HF := Kp.mk (And.intro fD2 fD3)
  have HE : Kp (Hd.decE s.data.toList = if (Hd.readN s.data.toList d1 d2 d3).2.2 = 0 ∧ (Hd.readN s.data.toList d1 d2 d3).2.1 < s.size then 4 else (Hd.readN s.data.toList d1 d2 d3).2.2) := ⟨by unfold Hd.decE Hd.decQ; rw [hD, hlen]⟩
  have HH : Kp (Hd.decH s.data.toList = ⟨a1, b1, c1, (Hd.readN s.data.toList d1 d2 d3).1⟩) := ⟨by unfold Hd.decH Hd.decQ; rw [hA, hB, hC, hD]⟩
  have HV : Kp (Hd.decV s.data.toList = if Hd.decE s.data.toList = 0 then (if (Hd.decH s.data.toList).may = true then (Hd.decH s.data.toList, 0) else (Hd.HV.zero, 4)) else (Hd.HV.zero, Hd.decE s.data.toList)) := ⟨rfl⟩
  clear hA hB hC hD hA' hB' hC' hD' fA2 fA3 fB2 fB3 fC2 fC3 fD2 fD3 hlen hs
  obtain ⟨V, hV⟩ : ∃ V, Hd.decV s.data.toList = V := ⟨_, rfl⟩
  rw [hV] at HV ⊢
  clear hV
  obtain ⟨i0, hi0, hi1, hi2, hi3⟩ := info_parts infoInt
  have HI := Kp.mk (And.intro hi0 (And.intro hi1 (And.intro hi2 hi3)))
  clear hi0 hi1 hi2 hi3
  have hz1 : (w.alloc (.cells #[.int .i64 0, .int .i64 0, .int .i64 0, .slice none 0 0] 24)).heap.size = w.heap.size + 1 := by simp
  have hx1 := heap_alloc_new w (.cells #[.int .i64 0, .int .i64 0, .int .i64 0, .slice none 0 0] 24)
  have hb1 : Below w.heap.size w (w.alloc (.cells #[.int .i64 0, .int .i64 0, .int .i64 0, .slice none 0 0] 24)) := (Below.refl _ _).alloc (Nat.le_refl _) _
  go_enter Tryd.func12, Tryd.ntmps12
  go_wp2_with fail
  refine (New_any s _).mono ?_
  rintro e w2 ⟨rfl, r2, b2'⟩
  generalize w.alloc (.cells #[.int .i64 0, .int .i64 0, .int .i64 0, .slice none 0 0] 24) = w1 at *
  have HZ1 := Kp.mk hz1
  have HX1 := Kp.mk hx1
  have HB1 := Kp.mk hb1
  clear hz1 hx1 hb1
  go_wp2_with fail
  refine (HA.out _ _ r2).mono ?_
  rintro e w3 ⟨rfl, r3, g3⟩
  have D3 : Kp (DecS w1 (w3.alloc (.cells #[.int .i64 a1, .int .i64 0, .int .i64 0, .slice none 0 0] 24)) w1.heap.size w3.heap.size s a2 a3 a1 0 0 none 0 0 []) := ⟨by
    have hb3 : Below w1.heap.size w1 w3 := b2'.grown g3 b2'.size (fun k e => by cases e; exact Nat.le_refl _)
    exact ⟨(Below.heap_alloc w3 _ _ r3.lt).trans r3, heap_alloc_new w3 _, RK.nil 1 _, fun k hk => by simp [blk] at hk, hb3.alloc hb3.size _, Nat.le_refl _, r3.lt⟩⟩
  clear r2 b2' r3 g3
  go_wp2_with fail
  generalize w3.alloc (.cells #[.int .i64 a1, .int .i64 0, .int .i64 0, .slice none 0 0] 24) = w3' at D3 ⊢
  generalize w3.heap.size = b5 at D3 ⊢
  refine (HB.out _ _ D3.out.rd).mono ?_
  rintro e w4 ⟨rfl, r4, g4⟩
  have d4 := D3.out.read r4 g4
  have D4 := Kp.mk (d4.set1 b1)
  obtain ⟨-, y1, -, -⟩ := cells4 d4.box
  have y1f := d4.free 1
  clear r4 g4 d4 D3
  go_wp2_with fail
  refine (HC.out _ _ D4.out.rd).mono ?_
  rintro e w5 ⟨rfl, r5, g5⟩
  have d5 := D4.out.read r5 g5
  have D5 := Kp.mk (d5.set2 c1)
  obtain ⟨-, -, y2, -⟩ := cells4 d5.box
  have y2f := d5.free 2
  clear r5 g5 d5 D4 y1 y1f
  go_wp2_with fail
  refine (HD.out _ _ D5.out.rd).mono ?_
  rintro e w6 ⟨rfl, r6, g6⟩
  have D6 := Kp.mk (D5.out.read r6 g6)
  clear r6 g6 D5 y2 y2f
  go_wp2
  clear HA HB HC HD
  go_loopw [23] (fun i wr => ∃ (k : Nat) (ao : Option Addr) (cap : Nat), k ≤ d1 ∧ i = .int .u64 k ∧ DecS w1 wr w1.heap.size b5 s (Hd.readN s.data.toList k d2 d3).2.1 (Hd.readN s.data.toList k d2 d3).2.2 a1 b1 c1 ao k cap (Hd.readN s.data.toList k d2 d3).1) (fun i _ => d1 - (intOf i).toNat)
  case atStart => exact ⟨0, none, 0, Nat.zero_le _, rfl, D6.out⟩
  case round =>
    clear D6
    obtain ⟨k, ao, cap, hk, rfl, hd⟩ := hrel
    have hrl := Hd.readN_len s.data.toList k d2 d3
    have hsn := readN_snoc s.data.toList k d2 d3
    have hrf := readN_facts s.data.toList k d2 d3 (by rw [HLen.out]; exact HF.out.1) HF.out.2
    by_cases hkl : k < d1
    · have HSn := Kp.mk hsn
      clear hsn
      generalize Hd.readN s.data.toList k d2 d3 = rk at hd HSn hrf hrl
      obtain ⟨l, p, e⟩ := rk
      simp only [] at hd HSn hrf hrl
      obtain ⟨f1, f2, f3⟩ := hrf
      rw [HLen.out] at f1
      obtain ⟨x, p', e', hx⟩ : ∃ x p' e', Var.rVarint s.data.toList p e 31 = (x, p', e') := ⟨_, _, _, rfl⟩
      have fx := rV_facts s.data.toList p e 31 (by rw [HLen.out]; exact f1) f2
      rw [hx] at fx HSn
      simp only [] at fx HSn
      obtain ⟨fx1, _, _⟩ := fx
      have HX := Kp.mk (VA f1 HS.out (by decide) hx)
      have D := Kp.mk hd
      have DD := Kp.mk hd.drew
      obtain ⟨-, -, -, y3⟩ := cells4 hd.drew.box
      have HLM : Kp (k + 1 ≤ maxLen ∧ (k + 1) * 8 ≤ 140737488355328) := ⟨by unfold maxLen; omega⟩
      have hwx : IntKind.i64.wrap (x : Int) = (x : Int) := by rw [IntKind.wrap_i64]; omega
      have HNc : Kp (numC l ++ [.int .i64 (x : Int)] = numC (l ++ [(x : Int)])) := ⟨by simp [numC]⟩
      clear hx hd hrl f1 f2 f3 hk
      go_wp2_with fail
      go_region_law (first
        | (refine step_append_src rfl (.tmp 26) (.tmp 30) 22 (by rfl) (D5.out.alloc _).row (ks := [.int .i64 (x : Int)]) (src_one (heap_alloc_new w5 _) rfl) 3 i0 _ 8 Tryd.underlying22 HI.out.1 HI.out.2.1 HI.out.2.2.1 HI.out.2.2.2 rfl (by decide) (by rfl) (by rfl) (by simp [Value.oneCell']) HLM.out.1 HLM.out.2 (k + 1) (numC (l ++ [(x : Int)])) rfl HNc.out ?_; intro a2 c2 w6 r1 g1 f1; obtain ⟨hbx, hd6⟩ := (D5.out.alloc _).grown r1 g1 f1; obtain ⟨-, -, -, y6⟩ := cells4 hbx; have y6f : w6.frozen? ⟨b5, 3, none⟩ = false := (by simp [World.frozen?, hbx]); have D6 := Kp.mk hd6; clear r1 g1 f1 hbx hd6)
        | (go_simp; go_at_call 42; refine (HX.out _ _ DD.out.rd).mono ?_; rintro e w5 ⟨rfl, r5, g5⟩; have d5 := DD.out.read r5 g5; obtain ⟨-, -, -, y5⟩ := cells4 d5.box; have y5a : ∀ o, (w5.alloc o).cell? ⟨b5, 3, none⟩ = some (.slice ao k cap) := (fun o => (cells4 (d5.alloc o).box).2.2.2); have D5 := Kp.mk d5; clear r5 g5 d5))
      all_goals go_wp2
      all_goals go_roundw
      case rel => exact ⟨k + 1, a2, c2, by omega, by go_num, by rw [HSn.out]; exact D6.out⟩
      case measure => simp [intOf]; omega
      case rel => exact ⟨k + 1, a2, c2, by omega, by go_num, by rw [HSn.out]; exact D6.out⟩
      case measure => simp [intOf]; omega
      case rel => exact ⟨k + 1, a2, c2, by omega, by go_num, by rw [HSn.out]; exact D6.out⟩
      case measure => simp [intOf]; omega
    · obtain rfl : k = d1 := by omega
      clear hsn hkl
      generalize Hd.readN s.data.toList k d2 d3 = rk at hd hrf hrl HE HH
      obtain ⟨l, p, e⟩ := rk
      simp only [] at hd hrf hrl HE HH
      obtain ⟨f1, f2, f3⟩ := hrf
      rw [HLen.out] at f1
      have HEnd := Kp.mk (fun W (h : DecS w1 W w1.heap.size b5 s p e a1 b1 c1 ao k cap l) => End_any w1.heap.size s p e W h.rd f1 HS.out)
      rw [← HE.out] at HEnd
      generalize Hd.decE s.data.toList = E at HEnd HE HV
      generalize Hd.decH s.data.toList = H at HH HV
      have D := Kp.mk hd
      clear hd HE HLen HS HF f1 f2
      go_wp2_with fail
      refine (HEnd.out _ D.out).mono ?_
      rintro r w7 ⟨rfl, hw7⟩
      have D7 : Kp (DecS w1 w7 w1.heap.size b5 s p e a1 b1 c1 ao k cap l) := ⟨by rcases hw7 with rfl | rfl; exact D.out; exact D.out.drew⟩
      have HX7 : Kp (w7.heap[w.heap.size]? = some (.cells #[.int .i64 0, .int .i64 0, .int .i64 0, .slice none 0 0] 24 (0, 0))) := ⟨(D7.out.below.block _ (by rw [HZ1.out]; omega)).trans HX1.out⟩
      have HB7 : Kp (Below w.heap.size w w7) := ⟨HB1.out.trans (D7.out.below.mono (by rw [HZ1.out]; omega))⟩
      clear hw7 D HEnd HX1
      by_cases h0 : E = 0
      · subst h0
        rw [if_pos rfl] at HV
        obtain ⟨g', hg'⟩ := exists_row l k hrl
        have HQ : Kp ((HdV.mk a1 b1 c1 ao k cap g').hv = H) := ⟨by rw [HH.out]; unfold HdV.hv; rw [hg']⟩
        have HOw : Kp (HdOwn w.heap.size w7 ⟨a1, b1, c1, ao, k, cap, g'⟩) := ⟨⟨by rw [numC_numL hg']; exact D7.out.row, fun j hj => by have := D7.out.new j hj; have := D7.out.gb; have := HZ1.out; omega, by show k ≤ 31; omega⟩⟩
        have HMay := Kp.mk (May_at HOw.out.at')
        rw [HQ.out] at HMay
        unfold HdV.v at HMay
        simp only [] at HMay
        obtain ⟨y0, y1, y2, y3⟩ := cells4 D7.out.box
        clear hg' f3 hrl HH
        cases hm : H.may
        · have HVn : Kp (V = (Hd.HV.zero, 4)) := ⟨by rw [HV.out, hm]; rfl⟩
          rw [hm] at HMay
          clear hm
          go_wp2_with fail
          refine HMay.out.mono ?_
          rintro e w8 ⟨rfl, b8⟩
          have HX8 : Kp (w8.heap[w.heap.size]? = some (.cells #[.int .i64 0, .int .i64 0, .int .i64 0, .slice none 0 0] 24 (0, 0))) := ⟨(b8.block _ (lt_of_block' HX7.out)).trans HX7.out⟩
          have HB8 : Kp (Below w.heap.size w w8) := ⟨HB7.out.trans (b8.mono HB7.out.size)⟩
          obtain ⟨m0, m1, m2, m3⟩ := cells4 HX8.out
          have mf : ∀ j, w8.frozen? ⟨w.heap.size, j, none⟩ = false := fun j => by simp [World.frozen?, HX8.out]
          have m4 := mf 0
          have m5 := mf 1
          have m6 := mf 2
          have m7 := mf 3
          clear mf b8 y0 y1 y2 y3
          go_wp2
          refine bodyPost_ret (v := .tuple #[.agg #[.int .i64 0, .int .i64 0, .int .i64 0, .slice none 0 0], .int .i64 4]) (by simp [results, Tryd.results12, go_sem, m0, m1, m2, m3]) rfl ?_
          refine ⟨HdV.zero, ?_, ?_, HdOwn.zero _ _, ?_⟩
          · rw [HVn.out]; rfl
          · rw [HVn.out]; rfl
          · exact (((HB8.out.setCell (p := ⟨w.heap.size, 0, none⟩) (Nat.le_refl _) _).setCell (p := ⟨w.heap.size, 1, none⟩) (Nat.le_refl _) _).setCell (p := ⟨w.heap.size, 2, none⟩) (Nat.le_refl _) _).setCell (p := ⟨w.heap.size, 3, none⟩) (Nat.le_refl _) _
        · have HVn : Kp (V = (H, 0)) := ⟨by rw [HV.out, hm]; rfl⟩
          rw [hm] at HMay
          clear hm
          go_wp2_with fail
          refine HMay.out.mono ?_
          rintro e w8 ⟨rfl, b8⟩
          have HX8 : Kp (w8.heap[w.heap.size]? = some (.cells #[.int .i64 0, .int .i64 0, .int .i64 0, .slice none 0 0] 24 (0, 0))) := ⟨(b8.block _ (lt_of_block' HX7.out)).trans HX7.out⟩
          have HB8 : Kp (Below w.heap.size w w8) := ⟨HB7.out.trans (b8.mono HB7.out.size)⟩
          have HO8 := Kp.mk (HOw.out.below b8)
          have HL5 : Kp (w.heap.size < b5) := ⟨by have := D7.out.gb; have := HZ1.out; omega⟩
          have HN5 : Kp (∀ j, blk (.slice ao k cap) = some j → w.heap.size < j) := ⟨fun j hj => by have := D7.out.new j hj; have := HL5.out; omega⟩
          obtain ⟨y0, y1, y2, y3⟩ := cells4 ((b8.block _ D7.out.blt).trans D7.out.box)
          obtain ⟨m0, m1, m2, m3⟩ := cells4 HX8.out
          have mf : ∀ j, w8.frozen? ⟨w.heap.size, j, none⟩ = false := fun j => by simp [World.frozen?, HX8.out]
          have m4 := mf 0
          have m5 := mf 1
          have m6 := mf 2
          have m7 := mf 3
          clear mf b8
          go_wp2
          refine bodyPost_ret (v := .tuple #[.agg #[.int .i64 a1, .int .i64 b1, .int .i64 c1, .slice ao k cap], .int .i64 0]) (by simp [results, Tryd.results12, go_sem, m0, m1, m2, m3]) rfl ?_
          refine ⟨⟨a1, b1, c1, ao, k, cap, g'⟩, ?_, ?_, ?_, ?_⟩
          · rw [HVn.out]; rfl
          · rw [HVn.out]; exact HQ.out
          · have ha : ∀ (W : World) (i : Nat) (u : Value), HdOwn w.heap.size W ⟨a1, b1, c1, ao, k, cap, g'⟩ → HdOwn w.heap.size (W.setCell ⟨w.heap.size, i, none⟩ u) ⟨a1, b1, c1, ao, k, cap, g'⟩ := fun W i u h => ⟨h.row.set _ _ (fun j hj => by have := HN5.out j hj; show j ≠ w.heap.size; omega), h.new, h.few⟩
            exact ha _ _ _ (ha _ _ _ (ha _ _ _ (ha _ _ _ HO8.out)))
          · exact (((HB8.out.setCell (p := ⟨w.heap.size, 0, none⟩) (Nat.le_refl _) _).setCell (p := ⟨w.heap.size, 1, none⟩) (Nat.le_refl _) _).setCell (p := ⟨w.heap.size, 2, none⟩) (Nat.le_refl _) _).setCell (p := ⟨w.heap.size, 3, none⟩) (Nat.le_refl _) _
      · have HVn : Kp (V = (Hd.HV.zero, E)) := ⟨by rw [HV.out, if_neg h0]⟩
        have t1 : ((E : Int) != 0) = true := by rw [bne_iff_ne]; omega
        obtain ⟨m0, m1, m2, m3⟩ := cells4 HX7.out
        have mf : ∀ j, w7.frozen? ⟨w.heap.size, j, none⟩ = false := fun j => by simp [World.frozen?, HX7.out]
        have m4 := mf 0
        have m5 := mf 1
        have m6 := mf 2
        have m7 := mf 3
        clear mf
        go_wp2
        refine bodyPost_ret (v := .tuple #[.agg #[.int .i64 0, .int .i64 0, .int .i64 0, .slice none 0 0], .int .i64 E]) (by simp [results, Tryd.results12, go_sem, m0, m1, m2, m3]) rfl ?_
        refine ⟨HdV.zero, ?_, ?_, HdOwn.zero _ _, ?_⟩
        · rw [HVn.out]; rfl
        · rw [HVn.out]; rfl
        · exact (((HB7.out.setCell (p := ⟨w.heap.size, 0, none⟩) (Nat.le_refl _) _).setCell (p := ⟨w.heap.size, 1, none⟩) (Nat.le_refl _) _).setCell (p := ⟨w.heap.size, 2, none⟩) (Nat.le_refl _) _).setCell (p := ⟨w.heap.size, 3, none⟩) (Nat.le_refl _) _
end Go.Proofs.YtjpkncfmionieaaDoor
