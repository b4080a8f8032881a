/- The tapes that are none of a head's, as a row of the call's own. -/
import Derived.Test.YtpfoekfbcpinlaaGreatDoorVaultLayJoin
namespace Go.Proofs.YtpfoekfbcpinlaaGreatDoor
open Go.RowKit
set_option linter.unusedVariables false

set_option maxRecDepth 20000 in
set_option maxHeartbeats 2000000 in
theorem Free_row (q : HdV) (w : World) (hl : q.ll ≤ maxLen) (hf : IntsAt w q.lo q.ll q.lf) :
    Calls Tryz.prog 69 #[q.v] w fun e w' => ∃ ao cap, e = .returned (.slice ao q.hv.free.length cap) ∧ RK 1 w' (.slice ao q.hv.free.length cap) q.hv.free.length (q.hv.free.map fun x => Value.int .i64 x) ∧ (∀ j, blk (.slice ao q.hv.free.length cap) = some j → w.heap.size ≤ j) ∧ Below w.heap.size w w' := by
  have HU := Kp.mk (fun W (hW : Below w.heap.size w W) (t : Int) => Uses_any q t W hl (hf.below hW))
  obtain ⟨gen, base, snap, lo, ll, lc, lf⟩ := q
  unfold Hd.HV.free
  generalize (HdV.hv ⟨gen, base, snap, lo, ll, lc, lf⟩).uses = U at HU ⊢
  have HFK : Kp (Hd.R.filter (fun t => !U t) = FK U 30) := ⟨rfl⟩
  rw [HFK.out]
  unfold HdV.v at HU ⊢
  clear hf hl HFK
  simp only [] at HU ⊢
  have hbx := heap_alloc_new w (.cells #[.int .i64 gen, .int .i64 base, .int .i64 snap, .slice lo ll lc] 38)
  have hb1 : Below w.heap.size w (w.alloc (.cells #[.int .i64 gen, .int .i64 base, .int .i64 snap, .slice lo ll lc] 38)) := (Below.refl _ _).alloc (Nat.le_refl _) _
  have hz1 : (w.alloc (.cells #[.int .i64 gen, .int .i64 base, .int .i64 snap, .slice lo ll lc] 38)).heap.size = w.heap.size + 1 := by simp
  obtain ⟨i0, hi0, hi1, hi2, hi3⟩ := info_parts infoInt
  have HI := Kp.mk (And.intro hi0 (And.intro hi1 (And.intro hi2 hi3)))
  clear hi0 hi1 hi2 hi3
  go_enter Tryz.func69, Tryz.ntmps69
  go_wp2
  obtain ⟨w1, hw1⟩ : ∃ w1, w.alloc (.cells #[.int .i64 gen, .int .i64 base, .int .i64 snap, .slice lo ll lc] 38) = w1 := ⟨_, rfl⟩
  rw [hw1] at hbx hb1 hz1 ⊢
  have B1 := Kp.mk hb1
  have HKeep : Kp (∀ W, Below w1.heap.size w1 W → W.cell? ⟨w.heap.size, 0, none⟩ = some (.int .i64 gen) ∧ W.cell? ⟨w.heap.size, 1, none⟩ = some (.int .i64 base) ∧ W.cell? ⟨w.heap.size, 2, none⟩ = some (.int .i64 snap) ∧ W.cell? ⟨w.heap.size, 3, none⟩ = some (.slice lo ll lc)) := ⟨fun W hW => cells4 ((hW.block _ (by omega)).trans hbx)⟩
  clear hbx hb1 hz1 hw1
  generalize hbb : w.heap.size = b at HKeep ⊢
  go_loopw [3, 4] (fun o i wr => ∃ k : Nat, k ≤ 30 ∧ i = .int .i64 ((k : Int) + 2) ∧ RK 1 wr o (FK U k).length ((FK U k).map fun x => Value.int .i64 x) ∧ (∀ j, blk o = some j → w1.heap.size ≤ j) ∧ Below w1.heap.size w1 wr) (fun _ i _ => 32 - (intOf i).toNat)
  case atStart => exact ⟨0, by omega, rfl, RK.nil 1 _, fun j h => by simp [blk] at h, Below.refl _ _⟩
  case round =>
    obtain ⟨k, hk, rfl, hr, hnew, hb⟩ := hrel
    obtain ⟨ao, cp, rfl, _, _⟩ := hr.len
    have HR := Kp.mk hr
    have HN := Kp.mk hnew
    have HB := Kp.mk hb
    clear hr hnew hb
    by_cases hk2 : k < 30
    · obtain ⟨k0, k1, k2, k3⟩ := HKeep.out _ HB.out
      have i1 : decide ((k : Int) + 2 < 32) = true := by rw [decide_eq_true_eq]; omega
      have n1 : IntKind.i64.wrap ((k : Int) + 2 + 1) = (k : Int) + 2 + 1 := by rw [IntKind.wrap_i64]; omega
      have HUk := Kp.mk (HU.out _ (B1.out.trans (HB.out.mono B1.out.size)) ((k : Int) + 2))
      have HFS := Kp.mk (FK_succ U k)
      have HFL := Kp.mk (FK_len U k)
      cases hu : U ((k : Int) + 2)
      · rw [hu] at HUk HFS
        clear hu
        go_wp2_with fail
        refine HUk.out.mono ?_
        rintro e w5 ⟨rfl, b5⟩
        have B5 := Kp.mk (HB.out.trans (b5.mono HB.out.size))
        have R5 := Kp.mk ((HR.out.below b5).alloc (.cells #[.int .i64 ((k : Int) + 2)] 3))
        clear b5 k0 k1 k2 k3
        have HIN := Kp.mk (src_one (heap_alloc_new w5 (.cells #[.int .i64 ((k : Int) + 2)] 3)) rfl)
        have HLM : Kp ((FK U k).length + 1 ≤ maxLen ∧ ((FK U k).length + 1) * 8 ≤ 140737488355328) := ⟨by have := HFL.out; unfold maxLen; omega⟩
        go_wp2_with (at_builtin; go_loud (refine wpList_append_src rfl _ _ 36 rfl R5.out HIN.out 3 i0 _ 8 Tryz.underlying36 HI.out.1 HI.out.2.1 HI.out.2.2.1 HI.out.2.2.2 rfl (by decide) rfl rfl (by simp [Value.oneCell']) HLM.out.1 HLM.out.2 _ _ rfl rfl ?_; intro ao2 cap2 w6 k1 k2 k3; have K1 := Kp.mk k1; have K2 := Kp.mk ((B5.out.alloc B5.out.size _).grown k2 (by simp; have := B5.out.size; omega) (fun j e => HN.out j e)); have K3 : Kp (∀ j, blk (.slice ao2 ((FK U k).length + 1) cap2) = some j → w1.heap.size ≤ j) := ⟨fun j e => (k3 j e).elim (fun h => HN.out j h) (fun h => by simp at h; have := B5.out.size; omega)⟩; clear k1 k2 k3))
        go_roundw
        case rel => exact ⟨k + 1, by omega, by go_num, by rw [HFS.out]; simpa using K1.out, K3.out, K2.out⟩
        case measure => simp [intOf]; omega
      · rw [hu] at HUk HFS
        clear hu
        go_wp2_with fail
        refine HUk.out.mono ?_
        rintro e w5 ⟨rfl, b5⟩
        have B5 := Kp.mk (HB.out.trans (b5.mono HB.out.size))
        have R5 := Kp.mk (HR.out.below b5)
        clear b5 k0 k1 k2 k3
        go_wp2
        go_roundw
        case rel => exact ⟨k + 1, by omega, by go_num, by rw [HFS.out]; simpa using R5.out, HN.out, B5.out⟩
        case measure => simp [intOf]; omega
    · obtain rfl : k = 30 := by omega
      go_wp2
      go_ret
      exact ⟨ao, cp, rfl, HR.out, fun j hj => Nat.le_trans B1.out.size (HN.out j hj), B1.out.trans (HB.out.mono B1.out.size)⟩
end Go.Proofs.YtpfoekfbcpinlaaGreatDoor
