/- Used, fails. -/
import Derived.Test.YtimfchjjdifbiaaDisk
namespace Go.Proofs.Ytimfchjjdifbiaa
open Go.RowKit
set_option linter.unusedVariables false

theorem infoTape : (Try.prog.info? 56).map (fun i => (i.zero, i.size, i.bytes)) = some (some (.agg #[.string ⟨#[]⟩, .int .i64 0]), 2, 24) := by kernel_rfl
theorem infoTapes : (Try.prog.info? 57).map (·.size) = some 64 := by kernel_rfl
theorem tape_index {cs : Array Value} {D : DiskV} (h : Lay D cs) (t : Nat) (ht : t < 32) (w : World) :
    (Instr.index 57 (.agg (cs.extract 0 64)) (.int .i64 t)).run Try.prog w = .ok (.agg #[.string (D.tp t).b, .int .i64 (D.tp t).firm]) w := by
  obtain ⟨i, hi, _, hs, _⟩ := info_parts infoTape
  exact run_index_tape Try.underlying57 (by rw [Try.underlying56]) hi hs h t ht w
set_option maxRecDepth 20000 in
theorem Used_any (g : Nat) (D : DiskV) (w : World) (h : DiskAt w g D) (hm : ∀ t, t < 32 → (D.tp t).b.size ≤ 1048576) :
    Calls Try.prog 13 #[.pointer (some ⟨g, 0, none⟩)] w fun e w' => e = .returned (.int .i64 (used D.tp 32)) ∧ Below w.heap.size w w' := by
  obtain ⟨cs, hcs, hlay⟩ := h
  have HR : Kp (w.rangeAt g 0 (cs.extract 0 64).toList) := ⟨by have := World.rangeAt_of_block hcs 0 64; simpa using this⟩
  have HI := Kp.mk (fun t ht wx => tape_index hlay t ht wx)
  have HS : Kp ((Try.prog.info? 57).map (·.size) = some (cs.extract 0 64).toList.length) := ⟨by rw [infoTapes]; simp [hlay.1]⟩
  obtain ⟨L, hL⟩ : ∃ L, (cs.extract 0 64).toList = L := ⟨_, rfl⟩
  rw [show cs.extract 0 64 = L.toArray from by rw [← hL]] at HI
  rw [hL] at HR HS
  have HM := Kp.mk hm
  have HU := Kp.mk (used_le hm)
  clear hcs hlay hm hL
  go_enter Try.func13, Try.ntmps13
  go_wp2_with (refine wpList_load_mid rfl 57 (.tmp 10) rfl g 0 rfl _ _ HR.out Try.underlying57 rfl HS.out ?_)
  clear HR HS
  go_loopw [3, 12] (fun n i wr => ∃ k : Nat, i = .int .i64 k ∧ k ≤ 32 ∧ n = .int .i64 (used D.tp k) ∧ Below w.heap.size w wr) (fun _ i _ => 32 - (intOf i).toNat)
  case atStart => exact ⟨0, rfl, by omega, rfl, Below.refl _ _⟩
  case round =>
    obtain ⟨k, rfl, hk, rfl, hb⟩ := hrel
    have B := Kp.mk hb
    clear hb
    by_cases hk2 : k < 32
    · have hidx := HI.out k hk2
      have h1 := HU.out k hk
      have h2 := HM.out k hk2
      have h3 : Kp (used D.tp (k + 1) = used D.tp k + (D.tp k).b.size) := ⟨rfl⟩
      generalize (D.tp k).b = s at hidx h2 h3
      generalize (D.tp k).firm = f at hidx
      go_wp2
      go_roundw
      case rel => exact ⟨k + 1, by go_num, by omega, by rw [h3.out]; go_num, B.out.alloc B.out.size _⟩
      case measure => simp [intOf]; omega
    · obtain rfl : k = 32 := by omega
      go_wp2
      go_ret
      exact ⟨rfl, B.out⟩
/-- What fails answers, and leaves. -/
def failsV (D : DiskV) : Bool × DiskV :=
  if D.counts = false then (false, D) else (decide (D.left - 1 < 0), { D with left := D.left - 1, down := decide (D.left - 1 < 0) })
set_option maxRecDepth 20000 in
theorem fails_any (g : Nat) (D : DiskV) (w : World) (h : DiskAt w g D) (ho : Ok D) :
    Calls Try.prog 49 #[.pointer (some ⟨g, 0, none⟩)] w fun e w' => e = .returned (.bool (failsV D).1) ∧ DiskAt w' g (failsV D).2 ∧ Chg w w' g := by
  have k65 := h.c65
  by_cases hc : D.counts = false
  · have hV : Kp (failsV D = (false, D)) := ⟨by unfold failsV; rw [if_pos hc]⟩
    rw [hc] at k65
    have H := Kp.mk h
    clear h hc
    go_enter Try.func49, Try.ntmps49
    go_wp2
    go_ret
    exact ⟨by rw [hV.out]; rfl, by rw [hV.out]; exact H.out, Chg.refl _ _⟩
  · have hV : Kp (failsV D = (decide (D.left - 1 < 0), { D with left := D.left - 1, down := decide (D.left - 1 < 0) })) := ⟨by unfold failsV; rw [if_neg hc]⟩
    have hc' : D.counts = true := by simpa using hc
    rw [hc'] at k65
    have k66 := h.c66
    have f66 := h.free 66
    have h1 := h.set_l (D.left - 1)
    have e66 := h1.c66
    have e67 := h1.c67
    have g67 := h1.free 67
    simp only [] at e66 e67
    have H := Kp.mk (h1.set_d (decide (D.left - 1 < 0)))
    have e67' := H.out.c67
    simp only [] at e67'
    have l1 := ho.left
    have l2 := ho.left2
    clear h h1 hc hc'
    generalize D.left = l at *
    generalize D.down = dn at *
    go_enter Try.func49, Try.ntmps49
    go_wp2
    go_ret
    exact ⟨by rw [hV.out]; rfl, by rw [hV.out]; exact H.out, (Chg.set _ _ _ _).trans (Chg.set _ _ _ _)⟩
end Go.Proofs.Ytimfchjjdifbiaa
