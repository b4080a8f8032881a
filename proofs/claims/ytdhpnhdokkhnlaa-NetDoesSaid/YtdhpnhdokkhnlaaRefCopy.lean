/- The reference's Copy. -/
import Derived.Test.YtdhpnhdokkhnlaaRefNet
import Derived.Test.YtdhpnhdokkhnlaaRowRow
namespace Go.Proofs.Ytdhpnhdokkhnlaa
open Go.RowKit
set_option linter.unusedVariables false

theorem infoRefMail : (Try.prog.info? 70).map (fun i => (i.zero, i.size, i.bytes)) = some (some (.agg #[.int .i64 0, .int .i64 0, .int .i64 0, .string ⟨#[]⟩]), 4, 40) := by kernel_rfl
set_option maxRecDepth 20000 in
theorem RefCopy_any (g : Nat) (v : Value) (N : NetV) (w : World) (h : RefAt w g v N) (hl : N.l.length ≤ 1000000) :
    Calls Try.prog 21 #[.pointer (some ⟨g, 0, none⟩)] w fun e w' => e = .returned (.pointer (some ⟨w.heap.size, 0, none⟩)) ∧ ∃ v', RefAt w' w.heap.size v' N ∧ Below w.heap.size w w' ∧ ∀ k, blk v' = some k → w.heap.size ≤ k := by
  obtain ⟨i0, hi0, hi1, hi2, hi3⟩ := info_parts infoRefMail
  have HI := Kp.mk (And.intro hi0 (And.intro hi1 (And.intro hi2 hi3)))
  clear hi0 hi1 hi2 hi3
  obtain ⟨ao, cp, hv, _, _⟩ := h.2.1.len
  subst hv
  have k0 := h.c0
  have k1 := h.c1
  have k2 := h.c2
  have k3 := h.c3
  have k4 := h.c4
  have k5 := h.c5
  have k6 := h.c6
  have k1' : ∀ o1 o2, ((w.alloc o1).alloc o2).cell? ⟨g, 1, none⟩ = some (.slice ao N.l.length cp) := fun o1 o2 => ((h.alloc o1).alloc o2).c1
  have hg := h.lt
  have HR := Kp.mk (fun o1 o2 => ((h.alloc o1).alloc o2).2.1)
  clear h
  go_enter Try.func21, Try.ntmps21
  have HZ : Kp (∀ o1 o2, RK 4 ((w.alloc o1).alloc o2) (.slice (some ⟨w.heap.size + 1, 0, none⟩) 0 0) 0 []) := ⟨fun o1 o2 => RK.empty 4 _ _⟩
  have HL := Kp.mk hl
  have HB0 : Kp (∀ o1 o2, Below w.heap.size w ((w.alloc o1).alloc o2)) := ⟨fun o1 o2 => ((Below.refl _ _).alloc (Nat.le_refl _) _).alloc (by simp) _⟩
  have HN : Kp (∀ o2, ((w.alloc (.cells #[.int .i64 N.nodes, .slice ao N.l.length cp, .int .i64 N.last, .int .i64 N.sent, .int .i64 N.doubled, .int .i64 N.taken, .int .i64 N.lost] 58)).alloc o2).heap[w.heap.size]? = some (.cells #[.int .i64 N.nodes, .slice ao N.l.length cp, .int .i64 N.last, .int .i64 N.sent, .int .i64 N.doubled, .int .i64 N.taken, .int .i64 N.lost] 58 (0, 0))) := ⟨fun o2 => (Below.heap_alloc _ o2 _ (by simp)).trans (heap_alloc_new w _)⟩
  go_wp2_with (at_builtin; go_loud (refine wpList_append_sl rfl _ _ 56 rfl (HZ.out _ _) (HR.out _ _) 70 i0 _ 40 Try.underlying56 HI.out.1 HI.out.2.1 HI.out.2.2.1 HI.out.2.2.2 rfl (by decide) (by rfl) (by rfl) (rows_one _) (by have := HL.out; unfold maxLen; omega) (by have := HL.out; omega) N.l.length (rows N.l) (by simp) (by simp) ?_; intro a2 c2 w1 r1 g1 f1; have hb := (g1.block w.heap.size (Nat.lt_of_lt_of_le (Nat.lt_succ_self _) (by simp)) (fun e => by simp [blk] at e)).trans (HN.out _); have c5 : w1.cell? ⟨w.heap.size, 1, none⟩ = some (.slice ao N.l.length cp) := (by simp [World.cell?, hb]); have x5 : w1.frozen? ⟨w.heap.size, 1, none⟩ = false := (by simp [World.frozen?, hb]); have HBK := Kp.mk hb; have hf : ∀ k, blk (.slice a2 N.l.length c2) = some k → w.heap.size + 1 ≤ k := fun k hk => (f1 k hk).elim (fun h1 => by simp [blk] at h1) (fun h1 => by first | (simp at h1; done) | (simp at h1; omega)); have R1 := Kp.mk (And.intro r1 (And.intro ((HB0.out _ _).grown g1 ((HB0.out _ _).size) (fun k hk => by simp [blk] at hk)) hf)); clear r1 g1 f1 hb hf))
  go_ret
  exact ⟨rfl, _, ⟨ref_cells HBK.out 1 _, R1.out.1.set _ _ (fun k hk e => by have := R1.out.2.2 k hk; simp at e; omega), fun e => by have := R1.out.2.2 _ e; omega⟩, R1.out.2.1.setCell (Nat.le_refl _) _, fun k hk => by have := R1.out.2.2 k hk; omega⟩
end Go.Proofs.Ytdhpnhdokkhnlaa
