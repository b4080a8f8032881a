/- The reference's Twice. -/
import Derived.Test.YtdhpnhdokkhnlaaRefTake
namespace Go.Proofs.Ytdhpnhdokkhnlaa
open Go.RowKit
set_option linter.unusedVariables false

set_option maxRecDepth 20000 in
theorem RefTwice_no (g : Nat) (v : Value) (N : NetV) (i : Int) (w : World) (h : RefAt w g v N) (hi : i < 0 ∨ (N.l.length : Int) ≤ i) :
    Calls Try.prog 32 #[.pointer (some ⟨g, 0, none⟩), .int .i64 i] w fun e w' => e = .returned (.tuple #[.int .i64 0, .int .i64 5]) ∧ w' = w := by
  obtain ⟨ao, cp, hv, _, hcm⟩ := h.2.1.len
  unfold maxLen at hcm
  subst hv
  have c1 := h.c1
  clear h
  by_cases h0 : i < 0
  · have t1 : decide (i < 0) = true := by rw [decide_eq_true_eq]; exact h0
    clear hi
    go_enter Try.func32, Try.ntmps32
    go_wp2
    go_ret2
    exact ⟨rfl, rfl⟩
  · have t1 : decide (i < 0) = false := by rw [decide_eq_false_iff_not]; exact h0
    have t2 : decide ((N.l.length : Int) ≤ i) = true := by rw [decide_eq_true_eq]; omega
    clear hi
    go_enter Try.func32, Try.ntmps32
    go_wp2
    go_ret2
    exact ⟨rfl, rfl⟩
set_option maxRecDepth 20000 in
theorem RefTwice_full (g : Nat) (v : Value) (N : NetV) (i : Nat) (w : World) (h : RefAt w g v N) (hi : i < N.l.length) (h256 : N.l.length = 256) :
    Calls Try.prog 32 #[.pointer (some ⟨g, 0, none⟩), .int .i64 i] w fun e w' => e = .returned (.tuple #[.int .i64 0, .int .i64 44]) ∧ w' = w := by
  obtain ⟨ao, cp, hv, _, hcm⟩ := h.2.1.len
  unfold maxLen at hcm
  subst hv
  have c1 := h.c1
  rw [h256] at c1
  have t1 : decide ((i : Int) < 0) = false := by rw [decide_eq_false_iff_not]; omega
  have t2 : decide ((256 : Int) ≤ (i : Int)) = false := by rw [decide_eq_false_iff_not]; omega
  have t3 : decide (256 ≤ i) = false := by rw [decide_eq_false_iff_not]; omega
  clear h hi h256
  go_enter Try.func32, Try.ntmps32
  go_wp2
  go_ret2
  exact ⟨rfl, rfl⟩
set_option maxRecDepth 20000 in
set_option maxHeartbeats 1000000 in
theorem RefTwice_go (g : Nat) (v : Value) (N : NetV) (i : Nat) (w : World) (h : RefAt w g v N) (hs : Sm N 1000000000000) (hi : i < N.l.length) (hl : N.l.length < 256) :
    Calls Try.prog 32 #[.pointer (some ⟨g, 0, none⟩), .int .i64 i] w fun e w' => e = .returned (.tuple #[.int .i64 (N.last + 1), .int .i64 0]) ∧ ∃ v', RefAt w' g v' { N with doubled := N.doubled + 1, last := N.last + 1, l := N.l ++ [⟨N.last + 1, N.l[i].frm, N.l[i].to, N.l[i].data⟩] } ∧ Upd w w' g v v' := by
  obtain ⟨i0, hi0, hi1, hi2, hi3⟩ := info_parts infoRefMail
  have HI := Kp.mk (And.intro hi0 (And.intro hi1 (And.intro hi2 hi3)))
  clear hi0 hi1 hi2 hi3
  obtain ⟨g', cap, hv, b1, b2, b3, b4⟩ := h.2.1.at_ (Nat.lt_of_le_of_lt (Nat.zero_le _) hi)
  unfold maxLen at b2
  subst hv
  have t1 : decide ((i : Int) < 0) = false := by rw [decide_eq_false_iff_not]; omega
  have t2 : decide ((N.l.length : Int) ≤ (i : Int)) = false := by rw [decide_eq_false_iff_not]; omega
  have t3 : decide (N.l.length ≤ i) = false := by rw [decide_eq_false_iff_not]; omega
  have p7 : ((N.l.length : Int) == 256) = false := by rw [beq_eq_false_iff_ne]; omega
  have p8 : (N.l.length == 256) = false := by rw [beq_eq_false_iff_ne]; omega
  have k1 := h.c1
  have k4 := h.c4
  have f4 := h.free 4
  have h4 := h.set4 (N.doubled + 1)
  have e2 := h4.c2
  have f2 := h4.free 2
  have h2 := h4.set2 (N.last + 1)
  have x1 := h2.c1
  have x2 := h2.c2
  have x2' : ∀ o, (((w.setCell ⟨g, 4, none⟩ (.int .i64 (N.doubled + 1))).setCell ⟨g, 2, none⟩ (.int .i64 (N.last + 1))).alloc o).cell? ⟨g, 2, none⟩ = some (.int .i64 (N.last + 1)) := fun o => (h2.alloc o).c2
  obtain ⟨r0, r1, r2, r3⟩ := rows_get N.l i hi
  have d0 := h2.2.1.cell _ _ r0
  have d1 := h2.2.1.cell _ _ r1
  have d2 := h2.2.1.cell _ _ r2
  have d3 := h2.2.1.cell _ _ r3
  have hz : ((w.setCell ⟨g, 4, none⟩ (.int .i64 (N.doubled + 1))).setCell ⟨g, 2, none⟩ (.int .i64 (N.last + 1))).heap.size = w.heap.size := by simp
  have i1 : (0 : Int) ≤ (i : Int) := by omega
  have i2 : (i : Int) < (N.l.length : Int) := by omega
  have hgz := h.lt
  obtain ⟨_, ⟨s1, s2⟩, _, _, ⟨s5, s6⟩, _⟩ := hs
  have H2 := Kp.mk h2
  have HU : Kp (Upd w ((w.setCell ⟨g, 4, none⟩ (.int .i64 (N.doubled + 1))).setCell ⟨g, 2, none⟩ (.int .i64 (N.last + 1))) g (.slice (some ⟨g', 0, none⟩) N.l.length cap) (.slice (some ⟨g', 0, none⟩) N.l.length cap)) := ⟨(Upd.set w g 4 _ _).trans (Upd.set _ g 2 _ _)⟩
  clear h h4 h2 r0 r1 r2 r3
  generalize N.l[i] = m at d0 d1 d2 d3 ⊢
  obtain ⟨mi, mf, mt, md⟩ := m
  simp only [] at d0 d1 d2 d3
  go_enter Try.func32, Try.ntmps32
  go_wp2
  have H1 := Kp.mk (H2.out.alloc (.cells #[.int .i64 (N.last + 1), .int .i64 mf, .int .i64 mt, .string md] 70))
  have HB : Kp ((((w.setCell ⟨g, 4, none⟩ (.int .i64 (N.doubled + 1))).setCell ⟨g, 2, none⟩ (.int .i64 (N.last + 1))).alloc (.cells #[.int .i64 (N.last + 1), .int .i64 mf, .int .i64 mt, .string md] 70)).heap[w.heap.size]? = some (.cells #[.int .i64 (N.last + 1), .int .i64 mf, .int .i64 mt, .string md] 70 (0, 0))) := ⟨by have := heap_alloc_new ((w.setCell ⟨g, 4, none⟩ (.int .i64 (N.doubled + 1))).setCell ⟨g, 2, none⟩ (.int .i64 (N.last + 1))) (.cells #[.int .i64 (N.last + 1), .int .i64 mf, .int .i64 mt, .string md] 70); rw [hz] at this; exact this⟩
  have HU1 := Kp.mk (HU.out.trans (Upd.of_below ((Below.refl ((w.setCell ⟨g, 4, none⟩ (.int .i64 (N.doubled + 1))).setCell ⟨g, 2, none⟩ (.int .i64 (N.last + 1))).heap.size _).alloc (Nat.le_refl _) (.cells #[.int .i64 (N.last + 1), .int .i64 mf, .int .i64 mt, .string md] 70)) g _))
  clear H2 HU x1 x2 x2' d0 d1 d2 d3 e2 f2 hz k1 k4 f4
  generalize ((w.setCell ⟨g, 4, none⟩ (.int .i64 (N.doubled + 1))).setCell ⟨g, 2, none⟩ (.int .i64 (N.last + 1))).alloc (.cells #[.int .i64 (N.last + 1), .int .i64 mf, .int .i64 mt, .string md] 70) = w1 at H1 HB HU1 ⊢
  have hbl := lt_of_block' HB.out
  have k1 : w1.cell? ⟨g, 1, none⟩ = some (.slice (some ⟨g', 0, none⟩) N.l.length cap) := H1.out.c1
  have q1 : ∀ o, (w1.alloc o).cell? ⟨g, 1, none⟩ = some (.slice (some ⟨g', 0, none⟩) N.l.length cap) := fun o => (H1.out.alloc o).c1
  have q1b : ∀ o1 o2, ((w1.alloc o1).alloc o2).cell? ⟨g, 1, none⟩ = some (.slice (some ⟨g', 0, none⟩) N.l.length cap) := fun o1 o2 => ((H1.out.alloc o1).alloc o2).c1
  obtain ⟨⟨n0, n1, n2, n3⟩, n4⟩ := cells4 HB.out
  have m0 : ∀ o, (w1.alloc o).cell? ⟨w.heap.size, 0, none⟩ = some (.int .i64 (N.last + 1)) := fun o => (cells4 ((Below.heap_alloc _ o _ hbl).trans HB.out)).1.1
  have m1 : ∀ o, (w1.alloc o).cell? ⟨w.heap.size, 1, none⟩ = some (.int .i64 mf) := fun o => (cells4 ((Below.heap_alloc _ o _ hbl).trans HB.out)).1.2.1
  have m2 : ∀ o, (w1.alloc o).cell? ⟨w.heap.size, 2, none⟩ = some (.int .i64 mt) := fun o => (cells4 ((Below.heap_alloc _ o _ hbl).trans HB.out)).1.2.2.1
  have m3 : ∀ o, (w1.alloc o).cell? ⟨w.heap.size, 3, none⟩ = some (.string md) := fun o => (cells4 ((Below.heap_alloc _ o _ hbl).trans HB.out)).1.2.2.2
  have HZ : Kp (∀ W q, RK 4 W (.slice (some ⟨q, 0, none⟩) 0 0) 0 []) := ⟨fun W q => RK.empty 4 W q⟩
  have HR : Kp (∀ W, Below w1.heap.size w1 W → Src 4 W (.slice (some ⟨g', 0, none⟩) N.l.length cap) N.l.length (rows N.l)) := ⟨fun W hW => (H1.out.2.1.below hW).src⟩
  have B1 : Kp (∀ o1, Below w1.heap.size w1 (w1.alloc o1).drew) := ⟨fun o1 => ((Below.refl _ _).alloc (Nat.le_refl _) _).drew⟩
  have B2 : Kp (∀ o1 o2, Below w1.heap.size w1 ((w1.alloc o1).alloc o2).drew) := ⟨fun o1 o2 => (((Below.refl _ _).alloc (Nat.le_refl _) _).alloc (by simp) _).drew⟩
  have HL := Kp.mk hl
  go_region_law (first
      | (refine step_append_src rfl (.tmp 51) (.tmp 55) 56 (by rfl) (HZ.out _ _) (HR.out _ (by first | exact B1.out _ | exact B2.out _ _)) 70 i0 _ 40 Try.underlying56 HI.out.1 HI.out.2.1 HI.out.2.2.1 HI.out.2.2.2 rfl (by decide) (by rfl) (by rfl) (rows_one _) (by have := HL.out; unfold maxLen; omega) (by have := HL.out; omega) N.l.length (rows N.l) (by simp) (by simp) ?_; intro a2 c2 w2 r1 g1 f1; have N2 := Kp.mk (New.of (w := w1) (B := w1.heap.size) (by first | exact B1.out _ | exact B2.out _ _) (by first | exact (B1.out _).size | exact (B2.out _ _).size) g1 f1 (blk_none _ _)); have HK := Kp.mk (fun q o h => kept_over (q := q) (o := o) g1 h); obtain ⟨⟨l0, l1, l2, l3⟩, l4⟩ := cells4 ((N2.out.below.block _ hbl).trans HB.out); have R1 := Kp.mk r1; clear g1 f1 r1)
      | (refine step_append_src rfl (.tmp 56) (.tmp 58) 56 (by rfl) (by first | exact R1.out | exact R1.out.alloc _) (ks := rows [⟨N.last + 1, mf, mt, md⟩]) (by first | exact src_one (heap_alloc_new _ _) rfl | exact src_one (HK.out _ _ (heap_second w1 _ _)) rfl | exact src_one (HK.out _ _ (heap_first w1 _ _)) rfl) 70 i0 _ 40 Try.underlying56 HI.out.1 HI.out.2.1 HI.out.2.2.1 HI.out.2.2.2 rfl (by decide) (by rfl) (by rfl) (rows_one _) (by have := HL.out; unfold maxLen; omega) (by have := HL.out; omega) (N.l.length + 1) (rows (N.l ++ [⟨N.last + 1, mf, mt, md⟩])) rfl (rows_append _ _).symm ?_; intro a3 c3 w3 r2 g2 f2; have N3 := Kp.mk (New.of (w := w1) (B := w1.heap.size) (by first | exact N2.out.below | exact N2.out.below.alloc N2.out.below.size _) (by have := N2.out.below.size; first | exact this | (simp; omega)) g2 f2 N2.out.new); have q7 : w3.cell? ⟨g, 1, none⟩ = some (.slice (some ⟨g', 0, none⟩) N.l.length cap) := (H1.out.below N3.out.below).c1; have q8 : w3.cell? ⟨g, 2, none⟩ = some (.int .i64 (N.last + 1)) := (H1.out.below N3.out.below).c2; have q9 : w3.frozen? ⟨g, 1, none⟩ = false := ((H1.out.below N3.out.below).free 1); have HP := Kp.mk (H1.out.push (l := N.l ++ [⟨N.last + 1, mf, mt, md⟩]) N3.out.below (by rw [List.length_append]; exact r2) N3.out.new); clear r2 g2 f2))
  all_goals go_wp2
  all_goals go_ret2
  all_goals exact ⟨rfl, _, HP.out.1, HU1.out.trans HP.out.2⟩
theorem RefTwice_any (g : Nat) (v : Value) (N : NetV) (i : Int) (w : World) (h : RefAt w g v N) (hs : Sm N 1000000000000) :
    Calls Try.prog 32 #[.pointer (some ⟨g, 0, none⟩), .int .i64 i] w fun e w' => e = .returned (.tuple #[.int .i64 (twiceV N i).1.1, .int .i64 (twiceV N i).1.2]) ∧ ∃ v', RefAt w' g v' (twiceV N i).2 ∧ Upd w w' g v v' := by
  rcases place N i with hi | ⟨k, rfl, hk⟩
  · refine (RefTwice_no g v N i w h hi).mono fun e w' ⟨he, hw⟩ => ?_
    subst hw
    unfold twiceV
    rw [if_pos hi]
    exact ⟨he, v, h, Upd.refl _ _ _⟩
  · by_cases hl : N.l.length < 256
    · refine (RefTwice_go g v N k w h hs hk hl).mono fun e w' ⟨he, hv⟩ => ?_
      unfold twiceV
      rw [if_neg (by omega), if_neg (by omega)]
      simp only [Int.toNat_natCast, List.getD_eq_getElem?_getD, List.getElem?_eq_getElem hk, Option.getD_some]
      exact ⟨he, hv⟩
    · have h256 : N.l.length = 256 := by have := hs.2.2.2.2.2; omega
      refine (RefTwice_full g v N k w h hk h256).mono fun e w' ⟨he, hw⟩ => ?_
      subst hw
      unfold twiceV
      rw [if_neg (by omega), if_pos (by omega)]
      exact ⟨he, v, h, Upd.refl _ _ _⟩
end Go.Proofs.Ytdhpnhdokkhnlaa
