/- The walk of the reference's Decode: its state and the walk. -/
import Derived.Test.YtjpkncfmionieaaDoorHRefEnc
import Derived.Test.YtjpkncfmionieaaDoorHeadDecode
import Derived.Test.YtjpkncfmionieaaDoorRefReader
import Derived.Deep.RegionLaw
import Derived.Deep.DrawnRows
namespace Go.Proofs.YtjpkncfmionieaaDoor
open Go.RowKit
set_option linter.unusedVariables false
attribute [local go_sem ↓] Go.wp_at_zero Go.wp_at_succ
structure DecX (w1 wr : World) (g b5 : Nat) (s : ByteArray) (p e : Nat) (gen base snap : Int) (ao : Option Addr) (n cap : Nat) (l : List Int) : Prop where
  rd : Rx wr g s p e
  box : wr.heap[b5]? = some (.cells #[.int .i64 gen, .int .i64 base, .int .i64 snap, .slice ao n cap] 24 (0, 0))
  row : RK 1 wr (.slice ao n cap) n (numC l)
  new : ∀ k, blk (.slice ao n cap) = some k → b5 < k
  below : Below w1.heap.size w1 wr
  hg : w1.heap.size ≤ g
  gb : g < b5
section
variable {w1 wr : World} {g b5 : Nat} {s : ByteArray} {p e : Nat} {gen base snap : Int} {ao : Option Addr} {n cap : Nat} {l : List Int}
theorem DecX.drew (h : DecX w1 wr g b5 s p e gen base snap ao n cap l) : DecX w1 wr.drew g b5 s p e gen base snap ao n cap l :=
  ⟨h.rd, h.box, h.row, h.new, ⟨h.below.os, h.below.tape, h.below.output, h.below.size, h.below.block⟩, h.hg, h.gb⟩
theorem DecX.blt (h : DecX w1 wr g b5 s p e gen base snap ao n cap l) : b5 < wr.heap.size := lt_of_block' h.box
theorem DecX.free (h : DecX w1 wr g b5 s p e gen base snap ao n cap l) (j : Nat) : wr.frozen? ⟨b5, j, none⟩ = false := by simp [World.frozen?, h.box]
theorem DecX.read (h : DecX w1 wr g b5 s p e gen base snap ao n cap l) {w5 : World} {p' e' : Nat} (hr : Rx w5 g s p' e') (hg : wr.grownBy w5 (some g)) : DecX w1 w5 g b5 s p' e' gen base snap ao n cap l := by
  have hgb := h.gb
  have hgg := h.hg
  refine ⟨hr, (hg.block b5 h.blt (fun e => by cases e; omega)).trans h.box, h.row.kept hg (fun k hk e => ?_), h.new, h.below.grown hg h.below.size (fun k e => by cases e; exact h.hg), h.hg, h.gb⟩
  cases e
  have := h.new _ hk
  omega
theorem DecX.alloc (h : DecX w1 wr g b5 s p e gen base snap ao n cap l) (o : Obj) : DecX w1 (wr.alloc o) g b5 s p e gen base snap ao n cap l := by
  have hb : Below wr.heap.size wr (wr.alloc o) := (Below.refl _ _).alloc (Nat.le_refl _) _
  exact ⟨(hb.block g h.rd.lt).trans h.rd, (hb.block b5 h.blt).trans h.box, h.row.below hb, h.new, h.below.trans (hb.mono h.below.size), h.hg, h.gb⟩
theorem DecX.grown (h : DecX w1 wr g b5 s p e gen base snap ao n cap l) {w6 : World} {a2 : Option Addr} {m c2 : Nat} {l' : List Int} (r1 : RK 1 w6 (.slice a2 m c2) m (numC l')) (g1 : wr.grownBy w6 (blk (.slice ao n cap))) (f1 : Fresh wr (.slice ao n cap) (.slice a2 m c2)) :
    w6.heap[b5]? = some (.cells #[.int .i64 gen, .int .i64 base, .int .i64 snap, .slice ao n cap] 24 (0, 0)) ∧ DecX w1 (w6.setCell ⟨b5, 3, none⟩ (.slice a2 m c2)) g b5 s p e gen base snap a2 m c2 l' := by
  have hgb := h.gb
  have hgg := h.hg
  have hbl := h.blt
  have hbox := (g1.block b5 h.blt (fun e => by have := h.new b5 e.symm; omega)).trans h.box
  have hrd : Rx w6 g s p e := (g1.block g h.rd.lt (fun e => by have := h.new g e.symm; omega)).trans h.rd
  have hnew : ∀ k, blk (.slice a2 m c2) = some k → b5 < k := fun k hk => (f1 k hk).elim (h.new k) (fun h => by omega)
  have hb6 : Below w1.heap.size w1 w6 := h.below.grown g1 h.below.size (fun k e => by have := h.new k e; omega)
  refine ⟨hbox, ?_, ?_, r1.set _ _ (fun k hk e => ?_), hnew, hb6.setCell (p := ⟨b5, 3, none⟩) (by show w1.heap.size ≤ b5; omega) _, h.hg, h.gb⟩
  · exact (Below.heap_setCell w6 ⟨b5, 3, none⟩ _ g (by show g ≠ b5; omega)).trans hrd
  · exact heap_setCell_same w6 b5 3 _ _ _ hbox
  · have := hnew k hk
    simp only [] at e
    omega
theorem DecX.set1 (h : DecX w1 wr g b5 s p e gen base snap ao n cap l) (x : Int) : DecX w1 (wr.setCell ⟨b5, 1, none⟩ (.int .i64 x)) g b5 s p e gen x snap ao n cap l := by
  have hgb := h.gb
  have hgg := h.hg
  refine ⟨(Below.heap_setCell wr ⟨b5, 1, none⟩ _ g (by show g ≠ b5; omega)).trans h.rd, heap_setCell_same wr b5 1 _ _ _ h.box, h.row.set _ _ (fun k hk e => ?_), h.new, h.below.setCell (p := ⟨b5, 1, none⟩) (by show w1.heap.size ≤ b5; omega) _, h.hg, h.gb⟩
  have := h.new k hk
  simp only [] at e
  omega
theorem DecX.set2 (h : DecX w1 wr g b5 s p e gen base snap ao n cap l) (x : Int) : DecX w1 (wr.setCell ⟨b5, 2, none⟩ (.int .i64 x)) g b5 s p e gen base x ao n cap l := by
  have hgb := h.gb
  have hgg := h.hg
  refine ⟨(Below.heap_setCell wr ⟨b5, 2, none⟩ _ g (by show g ≠ b5; omega)).trans h.rd, heap_setCell_same wr b5 2 _ _ _ h.box, h.row.set _ _ (fun k hk e => ?_), h.new, h.below.setCell (p := ⟨b5, 2, none⟩) (by show w1.heap.size ≤ b5; omega) _, h.hg, h.gb⟩
  have := h.new k hk
  simp only [] at e
  omega
end

theorem VX {s : ByteArray} {p e most : Nat} {x y z : Nat} (hp : p ≤ s.size) (hs : s.size ≤ 140737488351232) (hm : most < 18446744073709551616) (hv : Var.rVarint s.data.toList p e most = (x, y, z)) :
    ∀ (W : World) (g : Nat), Rx W g s p e → Calls Tryd.prog 58 #[.pointer (some ⟨g, 0, none⟩), .int .u64 (most : Nat)] W fun r w' => r = .returned (.int .u64 (x : Nat)) ∧ Rx w' g s y z ∧ W.grownBy w' (some g) := fun W g hr => by
  have := xVarint_any g s p e most W hr hp hs hm
  rw [hv] at this
  exact this
set_option maxRecDepth 20000 in
set_option maxHeartbeats 4000000 in
theorem rDecode_any (s : ByteArray) (w : World) (hs : s.size ≤ 140737488351232) :
    Calls Tryd.prog 34 #[.string s] w fun e w' => ∃ q : HdV, e = .returned (.tuple #[q.v, .int .i64 ((Hd.decV s.data.toList).2 : Nat)]) ∧ q.hv = (Hd.decV s.data.toList).1 ∧ HdOwn w.heap.size w' q ∧ Below w.heap.size w w' := by
  have hlen : s.data.toList.length = s.size := data_len s
  obtain ⟨a1, a2, a3, hA⟩ : ∃ a1 a2 a3, Hd.decA s.data.toList = (a1, a2, a3) := ⟨_, _, _, rfl⟩
  obtain ⟨b1, b2, b3, hB⟩ : ∃ b1 b2 b3, Hd.decB s.data.toList = (b1, b2, b3) := ⟨_, _, _, rfl⟩
  obtain ⟨c1, c2, c3, hC⟩ : ∃ c1 c2 c3, Hd.decC s.data.toList = (c1, c2, c3) := ⟨_, _, _, rfl⟩
  obtain ⟨d1, d2, d3, hD⟩ : ∃ d1 d2 d3, Hd.decD s.data.toList = (d1, d2, d3) := ⟨_, _, _, rfl⟩
  have hA' : Var.rVarint s.data.toList 0 0 1099511627776 = (a1, a2, a3) := hA
  have fA := rV_facts s.data.toList 0 0 1099511627776 (Nat.zero_le _) (by decide)
  rw [hA'] at fA
  obtain ⟨fA1, fA2, fA3⟩ := fA
  have hB' : Var.rVarint s.data.toList a2 a3 1099511627776 = (b1, b2, b3) := by rw [← hB, Hd.decB, hA]
  have fB := rV_facts s.data.toList a2 a3 1099511627776 fA2 fA3
  rw [hB'] at fB
  obtain ⟨fB1, fB2, fB3⟩ := fB
  have hC' : Var.rVarint s.data.toList b2 b3 31 = (c1, c2, c3) := by rw [← hC, Hd.decC, hB]
  have fC := rV_facts s.data.toList b2 b3 31 fB2 fB3
  rw [hC'] at fC
  obtain ⟨fC1, fC2, fC3⟩ := fC
  have hD' : Var.rVarint s.data.toList c2 c3 31 = (d1, d2, d3) := by rw [← hD, Hd.decD, hC]
  have fD := rV_facts s.data.toList c2 c3 31 fC2 fC3
  rw [hD'] at fD
  obtain ⟨fD1, fD2, fD3⟩ := fD
  simp only [hlen] at fA1 fA2 fA3 fB1 fB2 fB3 fC1 fC2 fC3 fD1 fD2 fD3
  have HA := Kp.mk (VX (Nat.zero_le _) hs (by decide) hA')
  have HB := Kp.mk (VX fA2 hs (by decide) hB')
  have HC := Kp.mk (VX fB2 hs (by decide) hC')
  have HD := Kp.mk (VX fC2 hs (by decide) hD')
  have HLen := Kp.mk hlen
  have HS := Kp.mk hs
  have HF := Kp.mk (And.intro fD2 fD3)
  have HE : Kp (Hd.decE s.data.toList = if (Hd.readN s.data.toList d1 d2 d3).2.2 = 0 ∧ (Hd.readN s.data.toList d1 d2 d3).2.1 < s.size then 4 else (Hd.readN s.data.toList d1 d2 d3).2.2) := ⟨by unfold Hd.decE Hd.decQ; rw [hD, hlen]⟩
  have HH : Kp (Hd.decH s.data.toList = ⟨a1, b1, c1, (Hd.readN s.data.toList d1 d2 d3).1⟩) := ⟨by unfold Hd.decH Hd.decQ; rw [hA, hB, hC, hD]⟩
  have HV : Kp (Hd.decV s.data.toList = if Hd.decE s.data.toList = 0 then (if (Hd.decH s.data.toList).may = true then (Hd.decH s.data.toList, 0) else (Hd.HV.zero, 4)) else (Hd.HV.zero, Hd.decE s.data.toList)) := ⟨rfl⟩
  clear hA hB hC hD hA' hB' hC' hD' fA2 fA3 fB2 fB3 fC2 fC3 fD2 fD3 hlen hs
  obtain ⟨V, hV⟩ : ∃ V, Hd.decV s.data.toList = V := ⟨_, rfl⟩
  rw [hV] at HV ⊢
  clear hV
  obtain ⟨i0, hi0, hi1, hi2, hi3⟩ := info_parts infoInt
  have HI := Kp.mk (And.intro hi0 (And.intro hi1 (And.intro hi2 hi3)))
  clear hi0 hi1 hi2 hi3
  have hz1 : (w.alloc (.cells #[.int .i64 0, .int .i64 0, .int .i64 0, .slice none 0 0] 24)).heap.size = w.heap.size + 1 := by simp
  have hx1 := heap_alloc_new w (.cells #[.int .i64 0, .int .i64 0, .int .i64 0, .slice none 0 0] 24)
  have hb1 : Below w.heap.size w (w.alloc (.cells #[.int .i64 0, .int .i64 0, .int .i64 0, .slice none 0 0] 24)) := (Below.refl _ _).alloc (Nat.le_refl _) _
  have r2 : Rx ((w.alloc (.cells #[.int .i64 0, .int .i64 0, .int .i64 0, .slice none 0 0] 24)).alloc (.cells #[.string s, .int .i64 0, .int .i64 0] 95)) (w.heap.size + 1) s 0 0 := by
    have := heap_alloc_new (w.alloc (.cells #[.int .i64 0, .int .i64 0, .int .i64 0, .slice none 0 0] 24)) (.cells #[.string s, .int .i64 0, .int .i64 0] 95)
    rw [hz1] at this
    exact this
  have b2' : Below (w.alloc (.cells #[.int .i64 0, .int .i64 0, .int .i64 0, .slice none 0 0] 24)).heap.size (w.alloc (.cells #[.int .i64 0, .int .i64 0, .int .i64 0, .slice none 0 0] 24)) ((w.alloc (.cells #[.int .i64 0, .int .i64 0, .int .i64 0, .slice none 0 0] 24)).alloc (.cells #[.string s, .int .i64 0, .int .i64 0] 95)) := (Below.refl _ _).alloc (Nat.le_refl _) _
  go_enter Tryd.func34, Tryd.ntmps34
  go_wp2_with fail
  generalize w.alloc (.cells #[.int .i64 0, .int .i64 0, .int .i64 0, .slice none 0 0] 24) = w1 at *
  have HZ1 := Kp.mk hz1
  have HX1 := Kp.mk hx1
  have HB1 := Kp.mk hb1
  generalize hg : w.heap.size + 1 = g at *
  have HG : Kp (w1.heap.size = g ∧ w.heap.size < g) := ⟨hz1, by omega⟩
  refine (HA.out _ _ r2).mono ?_
  rintro e w3 ⟨rfl, r3, g3⟩
  have R3 := Kp.mk r3
  have b3 := b2'.grown g3 b2'.size (fun k e => by cases e; exact Nat.le_of_eq hz1)
  have B3 := Kp.mk b3
  clear r2 b2' r3 g3 b3 hz1 hx1 hb1 hg
  go_wp2_with fail
  refine (HB.out _ _ R3.out).mono ?_
  rintro e w4 ⟨rfl, r4, g4⟩
  have R4 := Kp.mk r4
  have B4 := Kp.mk (B3.out.grown g4 B3.out.size (fun k e => by cases e; exact Nat.le_of_eq HG.out.1))
  clear r4 g4 R3 B3
  go_wp2_with fail
  refine (HC.out _ _ R4.out).mono ?_
  rintro e w5 ⟨rfl, r5, g5⟩
  have R5 := Kp.mk r5
  have B5 := Kp.mk (B4.out.grown g5 B4.out.size (fun k e => by cases e; exact Nat.le_of_eq HG.out.1))
  clear r5 g5 R4 B4
  go_wp2_with fail
  refine (HD.out _ _ R5.out).mono ?_
  rintro e w6 ⟨rfl, r6, g6⟩
  have B6 := B5.out.grown g6 B5.out.size (fun k e => by cases e; exact Nat.le_of_eq HG.out.1)
  have D6 : Kp (DecX w1 (w6.alloc (.cells #[.int .i64 a1, .int .i64 b1, .int .i64 c1, .slice none 0 0] 24)) g w6.heap.size s d2 d3 a1 b1 c1 none 0 0 []) := ⟨⟨r6.alloc _, heap_alloc_new w6 _, RK.nil 1 _, fun k hk => by simp [blk] at hk, B6.alloc B6.size _, Nat.le_of_eq HG.out.1, r6.lt⟩⟩
  clear r6 g6 B6 R5 B5
  have n1 : IntKind.i64.wrap (a1 : Int) = (a1 : Int) := by rw [IntKind.wrap_i64]; omega
  have n2 : IntKind.i64.wrap (b1 : Int) = (b1 : Int) := by rw [IntKind.wrap_i64]; omega
  have n3 : IntKind.i64.wrap (c1 : Int) = (c1 : Int) := by rw [IntKind.wrap_i64]; omega
  go_wp2
  generalize w6.alloc (.cells #[.int .i64 a1, .int .i64 b1, .int .i64 c1, .slice none 0 0] 24) = w6' at D6 ⊢
  generalize w6.heap.size = b5 at D6 ⊢
  clear HA HB HC HD n1 n2 n3
  go_loopw [10] (fun i wr => ∃ (k : Nat) (ao : Option Addr) (cap : Nat), k ≤ d1 ∧ i = .int .u64 k ∧ DecX w1 wr g b5 s (Hd.readN s.data.toList k d2 d3).2.1 (Hd.readN s.data.toList k d2 d3).2.2 a1 b1 c1 ao k cap (Hd.readN s.data.toList k d2 d3).1) (fun i _ => d1 - (intOf i).toNat)
  case atStart => exact ⟨0, none, 0, Nat.zero_le _, rfl, D6.out⟩
  case round =>
    clear D6
    obtain ⟨k, ao, cap, hk, rfl, hd⟩ := hrel
    have hrl := Hd.readN_len s.data.toList k d2 d3
    have hsn := readN_snoc s.data.toList k d2 d3
    have hrf := readN_facts s.data.toList k d2 d3 (by rw [HLen.out]; exact HF.out.1) HF.out.2
    by_cases hkl : k < d1
    · have HSn := Kp.mk hsn
      clear hsn
      generalize Hd.readN s.data.toList k d2 d3 = rk at hd HSn hrf hrl
      obtain ⟨l, p, e⟩ := rk
      simp only [] at hd HSn hrf hrl
      obtain ⟨f1, f2, f3⟩ := hrf
      rw [HLen.out] at f1
      obtain ⟨x, p', e', hx⟩ : ∃ x p' e', Var.rVarint s.data.toList p e 31 = (x, p', e') := ⟨_, _, _, rfl⟩
      have fx := rV_facts s.data.toList p e 31 (by rw [HLen.out]; exact f1) f2
      rw [hx] at fx HSn
      simp only [] at fx HSn
      obtain ⟨fx1, _, _⟩ := fx
      have HX := Kp.mk (VX f1 HS.out (by decide) hx)
      have D := Kp.mk hd
      have DD := Kp.mk hd.drew
      obtain ⟨-, -, -, y3⟩ := cells4 hd.drew.box
      have HLM : Kp (k + 1 ≤ maxLen ∧ (k + 1) * 8 ≤ 140737488355328) := ⟨by unfold maxLen; omega⟩
      have hwx : IntKind.i64.wrap (x : Int) = (x : Int) := by rw [IntKind.wrap_i64]; omega
      have HNc : Kp (numC l ++ [.int .i64 (x : Int)] = numC (l ++ [(x : Int)])) := ⟨by simp [numC]⟩
      clear hx hd hrl f1 f2 f3 hk
      go_wp2_with fail
      go_region_law (first
        | (refine step_append_src rfl (.tmp 35) (.tmp 39) 22 (by rfl) (D5.out.alloc _).row (ks := [.int .i64 (x : Int)]) (src_one (heap_alloc_new w5 _) rfl) 3 i0 _ 8 Tryd.underlying22 HI.out.1 HI.out.2.1 HI.out.2.2.1 HI.out.2.2.2 rfl (by decide) (by rfl) (by rfl) (by simp [Value.oneCell']) HLM.out.1 HLM.out.2 (k + 1) (numC (l ++ [(x : Int)])) rfl HNc.out ?_; intro a2 c2 w6 r1 g1 f1; obtain ⟨hbx, hd6⟩ := (D5.out.alloc _).grown r1 g1 f1; obtain ⟨-, -, -, y6⟩ := cells4 hbx; have y6f : w6.frozen? ⟨b5, 3, none⟩ = false := (by simp [World.frozen?, hbx]); have D6 := Kp.mk hd6; clear r1 g1 f1 hbx hd6)
        | (go_simp; go_at_call 58; refine (HX.out _ _ DD.out.rd).mono ?_; rintro e w5 ⟨rfl, r5, g5⟩; have d5 := DD.out.read r5 g5; obtain ⟨-, -, -, y5⟩ := cells4 d5.box; have y5a : ∀ o, (w5.alloc o).cell? ⟨b5, 3, none⟩ = some (.slice ao k cap) := (fun o => (cells4 (d5.alloc o).box).2.2.2); have D5 := Kp.mk d5; clear r5 g5 d5))
      all_goals go_wp2
      all_goals go_roundw
      case rel => exact ⟨k + 1, a2, c2, by omega, by go_num, by rw [HSn.out]; exact D6.out⟩
      case measure => simp [intOf]; omega
      case rel => exact ⟨k + 1, a2, c2, by omega, by go_num, by rw [HSn.out]; exact D6.out⟩
      case measure => simp [intOf]; omega
      case rel => exact ⟨k + 1, a2, c2, by omega, by go_num, by rw [HSn.out]; exact D6.out⟩
      case measure => simp [intOf]; omega
    · obtain rfl : k = d1 := by omega
      clear hsn hkl
      generalize Hd.readN s.data.toList k d2 d3 = rk at hd hrf hrl HE HH
      obtain ⟨l, p, e⟩ := rk
      simp only [] at hd hrf hrl HE HH
      obtain ⟨f1, f2, f3⟩ := hrf
      rw [HLen.out] at f1
      have D := Kp.mk hd
      have HX7 : Kp (wr.heap[w.heap.size]? = some (.cells #[.int .i64 0, .int .i64 0, .int .i64 0, .slice none 0 0] 24 (0, 0))) := ⟨(D.out.below.block _ (by rw [HG.out.1]; exact HG.out.2)).trans HX1.out⟩
      have HB7 : Kp (Below w.heap.size w wr) := ⟨HB1.out.trans (D.out.below.mono (by rw [HG.out.1]; exact Nat.le_of_lt HG.out.2))⟩
      have HNe : Kp (∀ W : World, ∀ (i j : Nat) (u : Value), (W.setCell ⟨w.heap.size, i, none⟩ u).cell? ⟨g, j, none⟩ = W.cell? ⟨g, j, none⟩) := ⟨fun W i j u => World.cell?_setCell_far _ _ _ _ (by have := HG.out.2; show w.heap.size ≠ g; omega)⟩
      clear hd HLen HS HF f1 f2 HX1
      by_cases he0 : e = 0
      · subst he0
        simp only [true_and] at HE
        by_cases hps : p < s.size
        · rw [if_pos hps] at HE
          have HVn : Kp (V = (Hd.HV.zero, 4)) := ⟨by rw [HV.out, if_neg (by rw [HE.out]; decide), HE.out]⟩
          have i0 : decide ((p : Int) < (s.size : Int)) = true := by rw [decide_eq_true_eq]; omega
          have y1 := D.out.rd.c1
          have y2 := D.out.rd.c2
          obtain ⟨m0, m1, m2, m3⟩ := cells4 HX7.out
          have mf : ∀ j, wr.frozen? ⟨w.heap.size, j, none⟩ = false := fun j => by simp [World.frozen?, HX7.out]
          have m4 := mf 0
          have m5 := mf 1
          have m6 := mf 2
          have m7 := mf 3
          clear mf
          go_wp2
          refine bodyPost_ret (v := .tuple #[.agg #[.int .i64 0, .int .i64 0, .int .i64 0, .slice none 0 0], .int .i64 4]) (by simp [results, Tryd.results34, go_sem, m0, m1, m2, m3]) rfl ?_
          refine ⟨HdV.zero, ?_, ?_, HdOwn.zero _ _, ?_⟩
          · rw [HVn.out]; rfl
          · rw [HVn.out]; rfl
          · exact (((HB7.out.setCell (p := ⟨w.heap.size, 0, none⟩) (Nat.le_refl _) _).setCell (p := ⟨w.heap.size, 1, none⟩) (Nat.le_refl _) _).setCell (p := ⟨w.heap.size, 2, none⟩) (Nat.le_refl _) _).setCell (p := ⟨w.heap.size, 3, none⟩) (Nat.le_refl _) _
        · rw [if_neg hps] at HE
          rw [HE.out, if_pos rfl] at HV
          obtain ⟨g', hg'⟩ := exists_row l k hrl
          have HQ : Kp ((HdV.mk a1 b1 c1 ao k cap g').hv = Hd.decH s.data.toList) := ⟨by rw [HH.out]; unfold HdV.hv; rw [hg']⟩
          generalize Hd.decH s.data.toList = H at HH HV HQ
          have HOw : Kp (HdOwn w.heap.size wr ⟨a1, b1, c1, ao, k, cap, g'⟩) := ⟨⟨by rw [numC_numL hg']; exact D.out.row, fun j hj => by have := D.out.new j hj; have := D.out.gb; have := HG.out.2; omega, by show k ≤ 31; omega⟩⟩
          have HMay := Kp.mk (rMay_any _ _ HOw.out.at')
          rw [HQ.out] at HMay
          unfold HdV.v at HMay
          simp only [] at HMay
          obtain ⟨y3, y4, y5, y6⟩ := cells4 D.out.box
          have y1 := D.out.rd.c1
          have y2 := D.out.rd.c2
          have i0 : decide ((p : Int) < (s.size : Int)) = false := by rw [decide_eq_false_iff_not]; omega
          clear hg' f3 hrl HH
          cases hm : H.may
          · have HVn : Kp (V = (Hd.HV.zero, 4)) := ⟨by rw [HV.out, hm]; rfl⟩
            rw [hm] at HMay
            clear hm
            go_wp2_with fail
            refine HMay.out.mono ?_
            rintro e w8 ⟨rfl, b8⟩
            have HX8 : Kp (w8.heap[w.heap.size]? = some (.cells #[.int .i64 0, .int .i64 0, .int .i64 0, .slice none 0 0] 24 (0, 0))) := ⟨(b8.block _ (lt_of_block' HX7.out)).trans HX7.out⟩
            have HB8 : Kp (Below w.heap.size w w8) := ⟨HB7.out.trans (b8.mono HB7.out.size)⟩
            obtain ⟨m0, m1, m2, m3⟩ := cells4 HX8.out
            have mf : ∀ j, w8.frozen? ⟨w.heap.size, j, none⟩ = false := fun j => by simp [World.frozen?, HX8.out]
            have m4 := mf 0
            have m5 := mf 1
            have m6 := mf 2
            have m7 := mf 3
            clear mf b8 y1 y2 y3 y4 y5 y6
            go_wp2
            refine bodyPost_ret (v := .tuple #[.agg #[.int .i64 0, .int .i64 0, .int .i64 0, .slice none 0 0], .int .i64 4]) (by simp [results, Tryd.results34, go_sem, m0, m1, m2, m3]) rfl ?_
            refine ⟨HdV.zero, ?_, ?_, HdOwn.zero _ _, ?_⟩
            · rw [HVn.out]; rfl
            · rw [HVn.out]; rfl
            · exact (((HB8.out.setCell (p := ⟨w.heap.size, 0, none⟩) (Nat.le_refl _) _).setCell (p := ⟨w.heap.size, 1, none⟩) (Nat.le_refl _) _).setCell (p := ⟨w.heap.size, 2, none⟩) (Nat.le_refl _) _).setCell (p := ⟨w.heap.size, 3, none⟩) (Nat.le_refl _) _
          · have HVn : Kp (V = (H, 0)) := ⟨by rw [HV.out, hm]; rfl⟩
            rw [hm] at HMay
            clear hm
            go_wp2_with fail
            refine HMay.out.mono ?_
            rintro e w8 ⟨rfl, b8⟩
            have HX8 : Kp (w8.heap[w.heap.size]? = some (.cells #[.int .i64 0, .int .i64 0, .int .i64 0, .slice none 0 0] 24 (0, 0))) := ⟨(b8.block _ (lt_of_block' HX7.out)).trans HX7.out⟩
            have HB8 : Kp (Below w.heap.size w w8) := ⟨HB7.out.trans (b8.mono HB7.out.size)⟩
            have HO8 := Kp.mk (HOw.out.below b8)
            have HL5 : Kp (w.heap.size < b5) := ⟨by have := D.out.gb; have := HG.out.2; omega⟩
            have HN5 : Kp (∀ j, blk (.slice ao k cap) = some j → w.heap.size < j) := ⟨fun j hj => by have := D.out.new j hj; have := HL5.out; omega⟩
            obtain ⟨y0, y1, y2, y3⟩ := cells4 ((b8.block _ D.out.blt).trans D.out.box)
            obtain ⟨m0, m1, m2, m3⟩ := cells4 HX8.out
            have mf : ∀ j, w8.frozen? ⟨w.heap.size, j, none⟩ = false := fun j => by simp [World.frozen?, HX8.out]
            have m4 := mf 0
            have m5 := mf 1
            have m6 := mf 2
            have m7 := mf 3
            clear mf b8
            go_wp2
            refine bodyPost_ret (v := .tuple #[.agg #[.int .i64 a1, .int .i64 b1, .int .i64 c1, .slice ao k cap], .int .i64 0]) (by simp [results, Tryd.results34, go_sem, m0, m1, m2, m3]) rfl ?_
            refine ⟨⟨a1, b1, c1, ao, k, cap, g'⟩, ?_, ?_, ?_, ?_⟩
            · rw [HVn.out]; rfl
            · rw [HVn.out]; exact HQ.out
            · have ha : ∀ (W : World) (i : Nat) (u : Value), HdOwn w.heap.size W ⟨a1, b1, c1, ao, k, cap, g'⟩ → HdOwn w.heap.size (W.setCell ⟨w.heap.size, i, none⟩ u) ⟨a1, b1, c1, ao, k, cap, g'⟩ := fun W i u h => ⟨h.row.set _ _ (fun j hj => by have := HN5.out j hj; show j ≠ w.heap.size; omega), h.new, h.few⟩
              exact ha _ _ _ (ha _ _ _ (ha _ _ _ (ha _ _ _ HO8.out)))
            · exact (((HB8.out.setCell (p := ⟨w.heap.size, 0, none⟩) (Nat.le_refl _) _).setCell (p := ⟨w.heap.size, 1, none⟩) (Nat.le_refl _) _).setCell (p := ⟨w.heap.size, 2, none⟩) (Nat.le_refl _) _).setCell (p := ⟨w.heap.size, 3, none⟩) (Nat.le_refl _) _
      · rw [if_neg (fun h => he0 h.1)] at HE
        have HVn : Kp (V = (Hd.HV.zero, e)) := ⟨by rw [HV.out, HE.out, if_neg he0]⟩
        have t1 : ((e : Int) != 0) = true := by rw [bne_iff_ne]; omega
        have y2 := D.out.rd.c2
        have y3 := HNe.out
        obtain ⟨m0, m1, m2, m3⟩ := cells4 HX7.out
        have mf : ∀ j, wr.frozen? ⟨w.heap.size, j, none⟩ = false := fun j => by simp [World.frozen?, HX7.out]
        have m4 := mf 0
        have m5 := mf 1
        have m6 := mf 2
        have m7 := mf 3
        clear mf
        go_wp2_with fail
        go_region
        all_goals go_wp2
        all_goals refine bodyPost_ret (v := .tuple #[.agg #[.int .i64 0, .int .i64 0, .int .i64 0, .slice none 0 0], .int .i64 e]) (by simp [results, Tryd.results34, go_sem, m0, m1, m2, m3]) rfl ?_
        all_goals refine ⟨HdV.zero, ?_, ?_, HdOwn.zero _ _, ?_⟩
        all_goals first
          | (rw [HVn.out]; rfl)
          | exact (((HB7.out.setCell (p := ⟨w.heap.size, 0, none⟩) (Nat.le_refl _) _).setCell (p := ⟨w.heap.size, 1, none⟩) (Nat.le_refl _) _).setCell (p := ⟨w.heap.size, 2, none⟩) (Nat.le_refl _) _).setCell (p := ⟨w.heap.size, 3, none⟩) (Nat.le_refl _) _
          | exact (((HB7.out.drew.setCell (p := ⟨w.heap.size, 0, none⟩) (Nat.le_refl _) _).setCell (p := ⟨w.heap.size, 1, none⟩) (Nat.le_refl _) _).setCell (p := ⟨w.heap.size, 2, none⟩) (Nat.le_refl _) _).setCell (p := ⟨w.heap.size, 3, none⟩) (Nat.le_refl _) _
end Go.Proofs.YtjpkncfmionieaaDoor
