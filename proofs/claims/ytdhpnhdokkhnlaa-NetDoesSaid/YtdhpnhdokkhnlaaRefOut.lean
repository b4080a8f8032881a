/- The reference's out. -/
import Derived.Test.YtdhpnhdokkhnlaaRefSendGo
namespace Go.Proofs.Ytdhpnhdokkhnlaa
open Go.RowKit
set_option linter.unusedVariables false

set_option maxRecDepth 20000 in
set_option maxHeartbeats 1000000 in
theorem RefOut_any (g : Nat) (v : Value) (N : NetV) (i : Nat) (w : World) (h : RefAt w g v N) (hi : i < N.l.length) (hs : N.l.length ≤ 256) :
    Calls Try.prog 33 #[.pointer (some ⟨g, 0, none⟩), .int .i64 i] w fun e w' => e = .returned (.tuple #[]) ∧ ∃ v', RefAt w' g v' { N with l := outL N.l i } ∧ Upd w w' g v v' := by
  obtain ⟨i0, hi0, hi1, hi2, hi3⟩ := info_parts infoRefMail
  have HI := Kp.mk (And.intro hi0 (And.intro hi1 (And.intro hi2 hi3)))
  clear hi0 hi1 hi2 hi3
  obtain ⟨g', cap, hv, c1, c2, c3, c4⟩ := h.2.1.at_ (Nat.lt_of_le_of_lt (Nat.zero_le _) hi)
  subst hv
  unfold maxLen at c2
  have k1 := h.c1
  have q1 : ∀ o, (w.alloc o).cell? ⟨g, 1, none⟩ = some (.slice (some ⟨g', 0, none⟩) N.l.length cap) := fun o => (h.alloc o).c1
  have HZ : Kp (∀ W q, RK 4 W (.slice (some ⟨q, 0, none⟩) 0 0) 0 []) := ⟨fun W q => RK.empty 4 W q⟩
  have HT : Kp (∀ W, Below w.heap.size w W → Src 4 W (.slice (some ⟨g', 0, none⟩) i cap) i (rows (N.l.take i))) := ⟨fun W hW => by
    have := RK.src_take (h.2.1.below hW) i (Nat.le_of_lt hi)
    rw [rows_take] at this
    exact this⟩
  obtain ⟨A, hA, hD⟩ : ∃ A : Addr, (if cap = i + 1 then some (⟨g', 0, none⟩ : Addr) else some ⟨g', (i + 1) * 4, none⟩) = some A ∧ ∀ W, Below w.heap.size w W → Src 4 W (.slice (some A) (N.l.length - (i + 1)) (cap - (i + 1))) (N.l.length - (i + 1)) (rows (N.l.drop (i + 1))) := by
    by_cases hc : cap = i + 1
    · refine ⟨_, by rw [if_pos hc], fun W hW => ?_⟩
      have := RK.src_drop (h.2.1.below hW) (i + 1) hi c1
      rw [if_pos hc, rows_drop] at this
      exact this
    · refine ⟨_, by rw [if_neg hc], fun W hW => ?_⟩
      have := RK.src_drop (h.2.1.below hW) (i + 1) hi c1
      rw [if_neg hc, rows_drop] at this
      exact this
  have HD := Kp.mk hD
  have B0 : Kp (Below w.heap.size w w.drew) := ⟨(Below.refl _ _).drew⟩
  have B1 : Kp (∀ o1, Below w.heap.size w (w.alloc o1).drew) := ⟨fun o1 => ((Below.refl _ _).alloc (Nat.le_refl _) _).drew⟩
  have HL : Kp (i + (N.l.length - (i + 1)) = N.l.length - 1) := ⟨by omega⟩
  have HL2 : Kp ((outL N.l i).length = N.l.length - 1) := ⟨by have := outL_len N.l i hi; omega⟩
  have H := Kp.mk h
  have i1 : (0 : Int) ≤ (i : Int) := by omega
  have i2 : (i : Int) < (N.l.length : Int) := by omega
  have i3 : IntKind.i64.wrap ((i : Int) + 1) = (i : Int) + 1 := by rw [IntKind.wrap_i64]; omega
  have i4 : ((i : Int) + 1).toNat = i + 1 := by omega
  have i5 : (0 : Int) ≤ (i : Int) + 1 := by omega
  have i6 : (i : Int) + 1 ≤ (N.l.length : Int) := by omega
  have i7 : (i : Int) ≤ (cap : Int) := by omega
  have i8 : (i : Int) + 1 ≤ (cap : Int) := by omega
  clear h hD
  go_enter Try.func33, Try.ntmps33
  go_wp2
  go_region_law (first
      | (refine step_append_src rfl (.tmp 5) (.tmp 11) 56 (by rfl) (HZ.out _ _) (HT.out _ (B1.out _)) 70 i0 _ 40 Try.underlying56 HI.out.1 HI.out.2.1 HI.out.2.2.1 HI.out.2.2.2 rfl (by decide) (by rfl) (by rfl) (rows_one _) (by unfold maxLen; omega) (by omega) i (rows (N.l.take i)) (by simp) (by simp) ?_; intro a2 c2 w2 r1 g1 f1; have N2 := Kp.mk (New.of (w := w) (B := w.heap.size) (B1.out _) (B1.out _).size g1 f1 (blk_none _ _)); have q3 : w2.cell? ⟨g, 1, none⟩ = some (.slice (some ⟨g', 0, none⟩) N.l.length cap) := (H.out.below N2.out.below).c1; have R1 := Kp.mk r1; clear g1 f1 r1)
      | (refine step_append_src rfl (.tmp 12) (.tmp 19) 56 (by rfl) R1.out (HD.out _ N2.out.below) 70 i0 _ 40 Try.underlying56 HI.out.1 HI.out.2.1 HI.out.2.2.1 HI.out.2.2.2 rfl (by decide) (by rfl) (by rfl) (rows_one _) (by unfold maxLen; omega) (by omega) (N.l.length - 1) (rows (outL N.l i)) HL.out (rows_append _ _).symm ?_; intro a3 c3 w3 r2 g2 f2; have N3 := Kp.mk (New.of (w := w) (B := w.heap.size) N2.out.below N2.out.below.size g2 f2 N2.out.new); have q7 : w3.cell? ⟨g, 1, none⟩ = some (.slice (some ⟨g', 0, none⟩) N.l.length cap) := (H.out.below N3.out.below).c1; have q9 : w3.frozen? ⟨g, 1, none⟩ = false := ((H.out.below N3.out.below).free 1); have HP := Kp.mk (H.out.push (l := outL N.l i) N3.out.below (by rw [HL2.out]; exact r2) N3.out.new); clear r2 g2 f2))
  all_goals go_wp2
  all_goals go_end0
  all_goals exact ⟨rfl, _, HP.out.1, HP.out.2⟩
end Go.Proofs.Ytdhpnhdokkhnlaa
