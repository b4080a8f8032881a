/- net's Copy. -/
import Derived.Test.YtdhpnhdokkhnlaaNetCount
namespace Go.Proofs.Ytdhpnhdokkhnlaa
open Go.RowKit
set_option linter.unusedVariables false

set_option maxRecDepth 20000 in
theorem Copy_any (g : Nat) (v : Value) (N : NetV) (w : World) (h : NetAt w g v N) (hl : N.l.length ≤ 1000000) :
    Calls Try.prog 20 #[.pointer (some ⟨g, 0, none⟩)] w fun e w' => e = .returned (.pointer (some ⟨w.heap.size, 0, none⟩)) ∧ ∃ v', NetAt w' w.heap.size v' N ∧ Below w.heap.size w w' ∧ ∀ k, blk v' = some k → w.heap.size ≤ k := by
  obtain ⟨ao, cp, hv, _, _⟩ := h.2.1.len
  subst hv
  have k0 := h.c0
  have k1 := h.c1
  have k2 := h.c2
  have k3 := h.c3
  have k4 := h.c4
  have k5 := h.c5
  have k6 := h.c6
  have k5' : ∀ o, (w.alloc o).cell? ⟨g, 5, none⟩ = some (.slice ao N.l.length cp) := fun o => (h.alloc o).c5
  have hg := h.lt
  have HC := Kp.mk (fun o => Clone_any _ N.l (w.alloc o) (h.2.1.alloc o) hl)
  have HN := Kp.mk (heap_alloc_new w (.cells #[.int .i64 N.sent, .int .i64 N.doubled, .int .i64 N.taken, .int .i64 N.lost, .int .i64 N.nodes, .slice ao N.l.length cp, .int .i64 N.last] 65))
  clear h
  go_enter Try.func20, Try.ntmps20
  go_wp2_with fail
  refine (HC.out _).mono ?_
  rintro e w1 ⟨v', rfl, r1, b1, f1⟩
  obtain ⟨ao', cp', hv', _, _⟩ := r1.len
  subst hv'
  have hz : w.heap.size < (w.alloc (.cells #[.int .i64 N.sent, .int .i64 N.doubled, .int .i64 N.taken, .int .i64 N.lost, .int .i64 N.nodes, .slice ao N.l.length cp, .int .i64 N.last] 65)).heap.size := by simp
  have hb := (b1.block _ hz).trans HN.out
  have c5 : w1.cell? ⟨w.heap.size, 5, none⟩ = some (.slice ao N.l.length cp) := by simp [World.cell?, hb]
  have x5 : w1.frozen? ⟨w.heap.size, 5, none⟩ = false := by simp [World.frozen?, hb]
  have HB := Kp.mk hb
  have hf : ∀ k, blk (.slice ao' N.l.length cp') = some k → w.heap.size + 1 ≤ k := fun k hk => by have := f1 k hk; simpa using this
  have R1 := Kp.mk (And.intro r1 (And.intro b1 hf))
  clear r1 b1 f1 hb hf hz
  go_wp2
  go_ret
  refine ⟨rfl, _, ⟨set_cells HB.out 5 _, R1.out.1.set _ _ (fun k hk e => by have := R1.out.2.2 k hk; simp at e; omega), fun e => by have := R1.out.2.2 _ e; omega⟩, ?_, fun k hk => by have := R1.out.2.2 k hk; omega⟩
  exact (((Below.refl _ _).alloc (Nat.le_refl _) _).trans (R1.out.2.1.mono (by simp))).setCell (Nat.le_refl _) _
end Go.Proofs.Ytdhpnhdokkhnlaa
