/- The reference's disk: Copy. -/
import Derived.Test.YtimfchjjdifbiaaDRefOps
namespace Go.Proofs.Ytimfchjjdifbiaa
open Go.RowKit
set_option linter.unusedVariables false

set_option maxRecDepth 20000 in
set_option maxHeartbeats 1000000 in
theorem rCopy_any (g q cp : Nat) (R : RefV) (w : World) (h : RDAt w g q cp R) :
    Calls Try.prog 9 #[.pointer (some ⟨g, 0, none⟩)] w fun e w' => ∃ g' q' cp', e = .returned (.pointer (some ⟨g', 0, none⟩)) ∧ RDAt w' g' q' cp' R ∧ Below w.heap.size w w' ∧ w.heap.size ≤ g' ∧ w.heap.size ≤ q' := by
  obtain ⟨i0, hi0, hi1, hi2, hi3⟩ := info_parts infoRTape
  have HI := Kp.mk (And.intro hi0 (And.intro hi1 (And.intro hi2 hi3)))
  clear hi0 hi1 hi2 hi3
  have hg := h.lt
  have HR := Kp.mk (fun o => (h.alloc o).2.1)
  have k0 := fun o => (h.alloc o).c0
  have k0' := h.c0
  have k1 := h.c1
  have k2 := h.c2
  have k3 := h.c3
  have HK : Kp (∀ W, Below w.heap.size w W → W.cell? ⟨g, 0, none⟩ = some (.slice (some ⟨q, 0, none⟩) 32 cp) ∧ W.cell? ⟨g, 1, none⟩ = some (.int .i64 R.cap) ∧ W.cell? ⟨g, 2, none⟩ = some (.bool R.dark) ∧ W.cell? ⟨g, 3, none⟩ = some (.int .i64 R.left)) := ⟨fun W hW => ⟨(h.below hW).c0, (h.below hW).c1, (h.below hW).c2, (h.below hW).c3⟩⟩
  have HZ : Kp (∀ o, RK 2 ((w.alloc o).drew) (.slice (some ⟨w.heap.size, 0, none⟩) 0 0) 0 []) := ⟨fun o => RK.empty 2 _ _⟩
  have HB0 : Kp (∀ o, Below w.heap.size w ((w.alloc o).drew)) := ⟨fun o => ((Below.refl _ _).alloc (Nat.le_refl _) _).drew⟩
  clear h
  obtain ⟨rt, rc, rd, rl⟩ := R
  simp only [] at HR k1 k2 k3 HK
  go_enter Try.func9, Try.ntmps9
  go_wp2_with fail
  go_region_held3 (fun w' => w'.cell? ⟨g, 0, none⟩ = some (.slice (some ⟨q, 0, none⟩) 32 cp) ∧ w'.cell? ⟨g, 1, none⟩ = some (.int .i64 rc) ∧ w'.cell? ⟨g, 2, none⟩ = some (.bool rd) ∧ w'.cell? ⟨g, 3, none⟩ = some (.int .i64 rl)) (go_keep)
    ((refine step_append_src rfl (.tmp 3) (.tmp 7) 22 (by rfl) (HZ.out _) (HR.out _).src 50 i0 _ 32 Try.underlying22 HI.out.1 HI.out.2.1 HI.out.2.2.1 HI.out.2.2.2 rfl (by decide) (by rfl) (by rfl) (trow_one _) (by decide) (by decide) 32 (trF rt) rfl (List.nil_append _) ?_; intro a2 c2 w2 r1 g1 f1; have N2 := Kp.mk (New.of (w := w) (B := w.heap.size) (HB0.out _) (HB0.out _).size g1 f1 (blk_none _ _)); obtain ⟨s1, s2, s3, s4⟩ := HK.out _ N2.out.below; have R1 := Kp.mk r1; clear g1 f1 r1))
  go_wp2
  go_ret
  obtain ⟨q', cp', hv, _, _, hq, hbk⟩ := R1.out.at_ (by decide)
  simp only [Value.slice.injEq] at hv
  obtain ⟨rfl, _, rfl⟩ := hv
  have hnew := N2.out.new q' hbk
  refine ⟨_, _, _, rfl, ⟨heap_alloc_new w2 _, R1.out.alloc _, by omega⟩, N2.out.below.alloc N2.out.below.size _, N2.out.below.size, hnew⟩
end Go.Proofs.Ytimfchjjdifbiaa
