/- The reference's Send: what is sent. -/
import Derived.Test.YtdhpnhdokkhnlaaRefCopy
import Derived.Test.YtdhpnhdokkhnlaaRefSend
import Derived.Test.YtdhpnhdokkhnlaaSrc
namespace Go.Proofs.Ytdhpnhdokkhnlaa
open Go.RowKit
set_option linter.unusedVariables false

/-- Behind the row's new slice: what the store asks, and what is there behind it. -/
theorem RefAt.push {w w3 : World} {g : Nat} {v a : Value} {N : NetV} {l : List MailV} (h : RefAt w g v N) (hb : Below w.heap.size w w3) (hr : RK 4 w3 a l.length (rows l)) (hn : ∀ k, blk a = some k → w.heap.size ≤ k) :
    RefAt (w3.setCell ⟨g, 1, none⟩ a) g a { N with l := l } ∧ Upd w (w3.setCell ⟨g, 1, none⟩ a) g v a := by
  refine ⟨(h.below hb).put hr (fun e => by have := hn g e; have := h.lt; omega), ?_⟩
  have := (Upd.of_below hb g v).trans (Upd.set w3 g 1 a v)
  exact ⟨this.1, this.2.1, this.2.2.1, this.2.2.2.1, this.2.2.2.2.1, fun k hk => .inr (hn k hk)⟩
set_option maxRecDepth 20000 in
set_option maxHeartbeats 1000000 in
theorem RefSend_go (g : Nat) (v : Value) (N : NetV) (f t : Int) (d : ByteArray) (w : World) (h : RefAt w g v N) (hs : Sm N 1000000000000) (hok : 0 ≤ f ∧ f < N.nodes ∧ 0 ≤ t ∧ t < N.nodes ∧ f ≠ t) (hb : d.size ≤ 262144) (hl : N.l.length < 256) :
    Calls Try.prog 29 #[.pointer (some ⟨g, 0, none⟩), .int .i64 f, .int .i64 t, .string d] w fun e w' => e = .returned (.tuple #[.int .i64 (N.last + 1), .int .i64 0]) ∧ ∃ v', RefAt w' g v' { N with sent := N.sent + 1, last := N.last + 1, l := N.l ++ [⟨N.last + 1, f, t, d⟩] } ∧ Upd w w' g v v' := by
  obtain ⟨i0, hi0, hi1, hi2, hi3⟩ := info_parts infoRefMail
  have HI := Kp.mk (And.intro hi0 (And.intro hi1 (And.intro hi2 hi3)))
  clear hi0 hi1 hi2 hi3
  obtain ⟨o1, o2, o3, o4, o5⟩ := hok
  have p1 : decide (f < 0) = false := by rw [decide_eq_false_iff_not]; omega
  have p2 : decide (N.nodes ≤ f) = false := by rw [decide_eq_false_iff_not]; omega
  have p3 : decide (t < 0) = false := by rw [decide_eq_false_iff_not]; omega
  have p4 : decide (N.nodes ≤ t) = false := by rw [decide_eq_false_iff_not]; omega
  have p5 : (f == t) = false := by rw [beq_eq_false_iff_ne]; exact o5
  have p6 : decide ((262144 : Int) < (d.size : Int)) = false := by rw [decide_eq_false_iff_not]; omega
  have p7 : ((N.l.length : Int) == 256) = false := by rw [beq_eq_false_iff_ne]; omega
  have p8 : (N.l.length == 256) = false := by rw [beq_eq_false_iff_ne]; omega
  obtain ⟨ao, cp, hv, _, _⟩ := h.2.1.len
  subst hv
  have k0 := h.c0
  have k3 := h.c3
  have f3 := h.free 3
  have h3 := h.set3 (N.sent + 1)
  have e1 := h3.c1
  have e2 := h3.c2
  have f2 := h3.free 2
  obtain ⟨⟨s1, s2⟩, _, _, ⟨s3, s4⟩, ⟨s5, s6⟩, _⟩ := hs
  have H3 := Kp.mk h3
  clear h h3
  go_enter Try.func29, Try.ntmps29
  go_wp2
  have H1 := Kp.mk (H3.out.set2 (N.last + 1))
  have HU1 : Kp (Upd w ((w.setCell ⟨g, 3, none⟩ (.int .i64 (N.sent + 1))).setCell ⟨g, 2, none⟩ (.int .i64 (N.last + 1))) g (.slice ao N.l.length cp) (.slice ao N.l.length cp)) := ⟨(Upd.set w g 3 (.int .i64 (N.sent + 1)) (.slice ao N.l.length cp)).trans (Upd.set _ g 2 _ _)⟩
  clear e1 e2 f2 k0 k3 f3 H3
  generalize (w.setCell ⟨g, 3, none⟩ (.int .i64 (N.sent + 1))).setCell ⟨g, 2, none⟩ (.int .i64 (N.last + 1)) = w1 at H1 HU1 ⊢
  have k1 := H1.out.c1
  have k2 := H1.out.c2
  simp only [] at k1 k2
  have q1 : ∀ o, (w1.alloc o).cell? ⟨g, 1, none⟩ = some (.slice ao N.l.length cp) := fun o => (H1.out.alloc o).c1
  have q2 : ∀ o, (w1.alloc o).cell? ⟨g, 2, none⟩ = some (.int .i64 (N.last + 1)) := fun o => (H1.out.alloc o).c2
  have q1b : ∀ o1 o2, ((w1.alloc o1).alloc o2).cell? ⟨g, 1, none⟩ = some (.slice ao N.l.length cp) := fun o1 o2 => ((H1.out.alloc o1).alloc o2).c1
  have q2b : ∀ o1 o2, ((w1.alloc o1).alloc o2).cell? ⟨g, 2, none⟩ = some (.int .i64 (N.last + 1)) := fun o1 o2 => ((H1.out.alloc o1).alloc o2).c2
  have HZ : Kp (∀ W q, RK 4 W (.slice (some ⟨q, 0, none⟩) 0 0) 0 []) := ⟨fun W q => RK.empty 4 W q⟩
  have HR : Kp (∀ W, Below w1.heap.size w1 W → Src 4 W (.slice ao N.l.length cp) N.l.length (rows N.l)) := ⟨fun W hW => (H1.out.2.1.below hW).src⟩
  have B1 : Kp (∀ o1, Below w1.heap.size w1 (w1.alloc o1).drew) := ⟨fun o1 => ((Below.refl _ _).alloc (Nat.le_refl _) _).drew⟩
  have B2 : Kp (∀ o1 o2, Below w1.heap.size w1 ((w1.alloc o1).alloc o2).drew) := ⟨fun o1 o2 => (((Below.refl _ _).alloc (Nat.le_refl _) _).alloc (by simp) _).drew⟩
  have HL := Kp.mk hl
  go_region_law (first
      | (refine step_append_src rfl (.tmp 68) (.tmp 72) 56 (by rfl) (HZ.out _ _) (HR.out _ (by first | exact B1.out _ | exact B2.out _ _)) 70 i0 _ 40 Try.underlying56 HI.out.1 HI.out.2.1 HI.out.2.2.1 HI.out.2.2.2 rfl (by decide) (by rfl) (by rfl) (rows_one _) (by have := HL.out; unfold maxLen; omega) (by have := HL.out; omega) N.l.length (rows N.l) (by simp) (by simp) ?_; intro a2 c2 w2 r1 g1 f1; have N2 := Kp.mk (New.of (w := w1) (B := w1.heap.size) (by first | exact B1.out _ | exact B2.out _ _) (by first | exact (B1.out _).size | exact (B2.out _ _).size) g1 f1 (blk_none _ _)); have HK := Kp.mk (fun q o h => kept_over (q := q) (o := o) g1 h); have q3 : w2.cell? ⟨g, 1, none⟩ = some (.slice ao N.l.length cp) := (H1.out.below N2.out.below).c1; have q4 : w2.cell? ⟨g, 2, none⟩ = some (.int .i64 (N.last + 1)) := (H1.out.below N2.out.below).c2; have q5 : ∀ o, (w2.alloc o).cell? ⟨g, 1, none⟩ = some (.slice ao N.l.length cp) := (fun o => ((H1.out.below N2.out.below).alloc o).c1); have q6 : ∀ o, (w2.alloc o).cell? ⟨g, 2, none⟩ = some (.int .i64 (N.last + 1)) := (fun o => ((H1.out.below N2.out.below).alloc o).c2); have R1 := Kp.mk r1; clear g1 f1 r1)
      | (refine step_append_src rfl (.tmp 73) (.tmp 82) 56 (by rfl) (by first | exact R1.out | exact R1.out.alloc _) (ks := rows [⟨N.last + 1, f, t, d⟩]) (by first | exact src_one (heap_alloc_new _ _) rfl | exact src_one (HK.out _ _ (heap_second w1 _ _)) rfl | exact src_one (HK.out _ _ (heap_first w1 _ _)) rfl) 70 i0 _ 40 Try.underlying56 HI.out.1 HI.out.2.1 HI.out.2.2.1 HI.out.2.2.2 rfl (by decide) (by rfl) (by rfl) (rows_one _) (by have := HL.out; unfold maxLen; omega) (by have := HL.out; omega) (N.l.length + 1) (rows (N.l ++ [⟨N.last + 1, f, t, d⟩])) rfl (rows_append _ _).symm ?_; intro a3 c3 w3 r2 g2 f2; have N3 := Kp.mk (New.of (w := w1) (B := w1.heap.size) (by first | exact N2.out.below | exact N2.out.below.alloc N2.out.below.size _) (by have := N2.out.below.size; first | exact this | (simp; omega)) g2 f2 N2.out.new); have q7 : w3.cell? ⟨g, 1, none⟩ = some (.slice ao N.l.length cp) := (H1.out.below N3.out.below).c1; have q8 : w3.cell? ⟨g, 2, none⟩ = some (.int .i64 (N.last + 1)) := (H1.out.below N3.out.below).c2; have q9 : w3.frozen? ⟨g, 1, none⟩ = false := ((H1.out.below N3.out.below).free 1); have HP := Kp.mk (H1.out.push (l := N.l ++ [⟨N.last + 1, f, t, d⟩]) N3.out.below (by rw [List.length_append]; exact r2) N3.out.new); clear r2 g2 f2))
  all_goals go_wp2
  all_goals go_ret2
  all_goals exact ⟨rfl, _, HP.out.1, HU1.out.trans HP.out.2⟩
end Go.Proofs.Ytdhpnhdokkhnlaa
