/- The walks of the reference's Same, Uses, Free. -/
import Derived.Test.YtjpkncfmionieaaDoorHeadOpen
namespace Go.Proofs.YtjpkncfmionieaaDoor
open Go.RowKit
set_option linter.unusedVariables false

set_option maxRecDepth 20000 in
theorem rUses_any (q : HdV) (t : Int) (w : World) (hl : q.ll ≤ maxLen) (hf : IntsAt w q.lo q.ll q.lf) :
    Calls Tryd.prog 33 #[q.v, .int .i64 t] w fun e w' => e = .returned (.bool (q.hv.uses t)) ∧ Below w.heap.size w w' := by
  unfold maxLen at hl
  obtain ⟨gen, base, snap, lo, ll, lc, lf⟩ := q
  have HU : Kp ((HdV.hv ⟨gen, base, snap, lo, ll, lc, lf⟩).uses t = ((decide (t ≠ 0) && decide (snap = t)) || decide (t ∈ rowI lf ll))) := ⟨by unfold Hd.HV.uses HdV.hv; simp only [List.contains_eq_mem]⟩
  rw [HU.out]
  have hbx := heap_alloc_new w (.cells #[.int .i64 gen, .int .i64 base, .int .i64 snap, .slice lo ll lc] 24)
  have HB := Kp.mk ((Below.refl w.heap.size w).alloc (Nat.le_refl _) (.cells #[.int .i64 gen, .int .i64 base, .int .i64 snap, .slice lo ll lc] 24))
  have HF := Kp.mk (hf _ HB.out)
  unfold HdV.v
  simp only [] at hl HF ⊢
  have HX := Kp.mk hbx
  clear HU hf hbx
  by_cases hA : t ≠ 0 ∧ snap = t
  · obtain ⟨hz, rfl⟩ := hA
    have t1 : (snap != 0) = true := by rw [bne_iff_ne]; exact hz
    have t2 : (snap == snap) = true := beq_self_eq_true _
    rw [show (decide (snap ≠ 0) && decide (snap = snap) || decide (snap ∈ rowI lf ll)) = true by simp [hz]]
    clear hz
    go_enter Tryd.func33, Tryd.ntmps33
    go_wp2
    go_ret
    exact ⟨by trivial, HB.out⟩
  · have hv : (decide (t ≠ 0) && decide (snap = t)) = false := by
      rw [Bool.and_eq_false_iff]
      by_cases h0 : t = 0
      · exact .inl (by simp [h0])
      · exact .inr (decide_eq_false (fun h => hA ⟨h0, h⟩))
    rw [hv, Bool.false_or]
    obtain ⟨R, hR⟩ : ∃ R, decide (t ∈ rowI lf ll) = R := ⟨_, rfl⟩
    rw [hR]
    have HR := Kp.mk hR
    have hcase : t = 0 ∨ ((t != 0) = true ∧ (snap == t) = false) := by
      by_cases h0 : t = 0
      · exact .inl h0
      · exact .inr ⟨by rw [bne_iff_ne]; exact h0, by rw [beq_eq_false_iff_ne]; exact fun h => hA ⟨h0, h⟩⟩
    clear hv hR hA
    rcases hcase with rfl | ⟨t1, t2⟩
    · go_enter Tryd.func33, Tryd.ntmps33
      go_wp2
      generalize w.alloc (.cells #[.int .i64 gen, .int .i64 base, .int .i64 snap, .slice lo ll lc] 24) = w1 at *
      obtain ⟨y0, y1, y2, y3⟩ := cells4 HX.out
      go_loopw [5] (fun i wr => ∃ k : Nat, k ≤ ll ∧ i = .int .i64 k ∧ (∀ j, j < k → lf j ≠ 0) ∧ wr = w1) (fun i _ => ll - (intOf i).toNat)
      case atStart => exact ⟨0, by omega, rfl, fun j hj => absurd hj (Nat.not_lt_zero j), rfl⟩
      case round =>
        obtain ⟨k, hk, rfl, hno, rfl⟩ := hrel
        have HNo := Kp.mk hno
        clear hno
        by_cases hkl : k < ll
        · obtain ⟨a, rfl, hc⟩ := HF.out k hkl
          have hk0 : (0 : Int) ≤ (k : Int) := by omega
          have hk1 : (k : Int) < (ll : Int) := by omega
          by_cases he : lf k = 0
          · have HV : Kp (R = true) := ⟨by rw [← HR.out]; exact decide_eq_true (rowI_mem.2 ⟨k, hkl, he⟩)⟩
            rw [he] at hc
            clear he
            go_wp2
            go_ret
            exact ⟨ret_bool HV.out.symm, HB.out⟩
          · have HE : Kp (∀ j, j < k + 1 → lf j ≠ 0) := ⟨fun j hj => by
              by_cases h : j < k
              · exact HNo.out j h
              · obtain rfl : j = k := by omega
                exact he⟩
            have he' : (lf k == 0) = false := by rw [beq_eq_false_iff_ne]; exact he
            clear he
            generalize lf k = u at hc he'
            go_wp2
            go_roundw
            case rel => exact ⟨k + 1, by omega, by go_num, HE.out, by trivial⟩
            case measure => simp [intOf]; omega
        · obtain rfl : k = ll := by omega
          have HV : Kp (R = false) := ⟨by rw [← HR.out]; exact decide_eq_false (fun h => by obtain ⟨j, hj, hx⟩ := rowI_mem.1 h; exact HNo.out j hj hx)⟩
          go_wp2
          go_ret
          exact ⟨ret_bool HV.out.symm, HB.out⟩
    · go_enter Tryd.func33, Tryd.ntmps33
      go_wp2
      generalize w.alloc (.cells #[.int .i64 gen, .int .i64 base, .int .i64 snap, .slice lo ll lc] 24) = w1 at *
      obtain ⟨y0, y1, y2, y3⟩ := cells4 HX.out
      go_loopw [5] (fun i wr => ∃ k : Nat, k ≤ ll ∧ i = .int .i64 k ∧ (∀ j, j < k → lf j ≠ t) ∧ wr = w1) (fun i _ => ll - (intOf i).toNat)
      case atStart => exact ⟨0, by omega, rfl, fun j hj => absurd hj (Nat.not_lt_zero j), rfl⟩
      case round =>
        obtain ⟨k, hk, rfl, hno, rfl⟩ := hrel
        have HNo := Kp.mk hno
        clear hno
        by_cases hkl : k < ll
        · obtain ⟨a, rfl, hc⟩ := HF.out k hkl
          have hk0 : (0 : Int) ≤ (k : Int) := by omega
          have hk1 : (k : Int) < (ll : Int) := by omega
          by_cases he : lf k = t
          · have HV : Kp (R = true) := ⟨by rw [← HR.out]; exact decide_eq_true (rowI_mem.2 ⟨k, hkl, he⟩)⟩
            rw [he] at hc
            clear he
            go_wp2
            go_ret
            exact ⟨ret_bool HV.out.symm, HB.out⟩
          · have HE : Kp (∀ j, j < k + 1 → lf j ≠ t) := ⟨fun j hj => by
              by_cases h : j < k
              · exact HNo.out j h
              · obtain rfl : j = k := by omega
                exact he⟩
            have he' : (lf k == t) = false := by rw [beq_eq_false_iff_ne]; exact he
            clear he
            generalize lf k = u at hc he'
            go_wp2
            go_roundw
            case rel => exact ⟨k + 1, by omega, by go_num, HE.out, by trivial⟩
            case measure => simp [intOf]; omega
        · obtain rfl : k = ll := by omega
          have HV : Kp (R = false) := ⟨by rw [← HR.out]; exact decide_eq_false (fun h => by obtain ⟨j, hj, hx⟩ := rowI_mem.1 h; exact HNo.out j hj hx)⟩
          go_wp2
          go_ret
          exact ⟨ret_bool HV.out.symm, HB.out⟩
set_option maxRecDepth 20000 in
set_option maxHeartbeats 2000000 in
theorem Free_own (q : HdV) (w : World) (hl : q.ll ≤ maxLen) (hf : IntsAt w q.lo q.ll q.lf) :
    Calls Tryd.prog 21 #[q.v] w fun e w' => ∃ ao n cap g, e = .returned (.slice ao n cap) ∧ rowI g n = q.hv.free ∧ RK 1 w' (.slice ao n cap) n (numL g n) ∧ (∀ j, blk (.slice ao n cap) = some j → w.heap.size ≤ j) ∧ Below w.heap.size w w' := by
  have HU := Kp.mk (fun W (hW : Below w.heap.size w W) (t : Int) => Uses_any q t W hl (hf.below hW))
  obtain ⟨gen, base, snap, lo, ll, lc, lf⟩ := q
  unfold Hd.HV.free
  generalize (HdV.hv ⟨gen, base, snap, lo, ll, lc, lf⟩).uses = U at HU ⊢
  have HFK : Kp (Hd.R.filter (fun t => !U t) = FK U 30) := ⟨rfl⟩
  rw [HFK.out]
  unfold HdV.v at HU ⊢
  clear hf hl HFK
  simp only [] at HU ⊢
  have hbx := heap_alloc_new w (.cells #[.int .i64 gen, .int .i64 base, .int .i64 snap, .slice lo ll lc] 24)
  have hb1 : Below w.heap.size w (w.alloc (.cells #[.int .i64 gen, .int .i64 base, .int .i64 snap, .slice lo ll lc] 24)) := (Below.refl _ _).alloc (Nat.le_refl _) _
  have hz1 : (w.alloc (.cells #[.int .i64 gen, .int .i64 base, .int .i64 snap, .slice lo ll lc] 24)).heap.size = w.heap.size + 1 := by simp
  obtain ⟨i0, hi0, hi1, hi2, hi3⟩ := info_parts infoInt
  have HI := Kp.mk (And.intro hi0 (And.intro hi1 (And.intro hi2 hi3)))
  clear hi0 hi1 hi2 hi3
  go_enter Tryd.func21, Tryd.ntmps21
  go_wp2
  obtain ⟨w1, hw1⟩ : ∃ w1, w.alloc (.cells #[.int .i64 gen, .int .i64 base, .int .i64 snap, .slice lo ll lc] 24) = w1 := ⟨_, rfl⟩
  rw [hw1] at hbx hb1 hz1 ⊢
  have B1 := Kp.mk hb1
  have HKeep : Kp (∀ W, Below w1.heap.size w1 W → W.cell? ⟨w.heap.size, 0, none⟩ = some (.int .i64 gen) ∧ W.cell? ⟨w.heap.size, 1, none⟩ = some (.int .i64 base) ∧ W.cell? ⟨w.heap.size, 2, none⟩ = some (.int .i64 snap) ∧ W.cell? ⟨w.heap.size, 3, none⟩ = some (.slice lo ll lc)) := ⟨fun W hW => cells4 ((hW.block _ (by omega)).trans hbx)⟩
  clear hbx hb1 hz1 hw1
  generalize hbb : w.heap.size = b at HKeep ⊢
  go_loopw [3, 4] (fun o i wr => ∃ k : Nat, k ≤ 30 ∧ i = .int .i64 ((k : Int) + 2) ∧ RK 1 wr o (FK U k).length ((FK U k).map fun x => Value.int .i64 x) ∧ (∀ j, blk o = some j → w1.heap.size ≤ j) ∧ Below w1.heap.size w1 wr) (fun _ i _ => 32 - (intOf i).toNat)
  case atStart => exact ⟨0, by omega, rfl, RK.nil 1 _, fun j h => by simp [blk] at h, Below.refl _ _⟩
  case round =>
    obtain ⟨k, hk, rfl, hr, hnew, hb⟩ := hrel
    obtain ⟨ao, cp, rfl, _, _⟩ := hr.len
    have HR := Kp.mk hr
    have HN := Kp.mk hnew
    have HB := Kp.mk hb
    clear hr hnew hb
    by_cases hk2 : k < 30
    · obtain ⟨k0, k1, k2, k3⟩ := HKeep.out _ HB.out
      have i1 : decide ((k : Int) + 2 < 32) = true := by rw [decide_eq_true_eq]; omega
      have n1 : IntKind.i64.wrap ((k : Int) + 2 + 1) = (k : Int) + 2 + 1 := by rw [IntKind.wrap_i64]; omega
      have HUk := Kp.mk (HU.out _ (B1.out.trans (HB.out.mono B1.out.size)) ((k : Int) + 2))
      have HFS := Kp.mk (FK_succ U k)
      have HFL := Kp.mk (FK_len U k)
      cases hu : U ((k : Int) + 2)
      · rw [hu] at HUk HFS
        clear hu
        go_wp2_with fail
        refine HUk.out.mono ?_
        rintro e w5 ⟨rfl, b5⟩
        have B5 := Kp.mk (HB.out.trans (b5.mono HB.out.size))
        have R5 := Kp.mk ((HR.out.below b5).alloc (.cells #[.int .i64 ((k : Int) + 2)] 3))
        clear b5 k0 k1 k2 k3
        have HIN := Kp.mk (src_one (heap_alloc_new w5 (.cells #[.int .i64 ((k : Int) + 2)] 3)) rfl)
        have HLM : Kp ((FK U k).length + 1 ≤ maxLen ∧ ((FK U k).length + 1) * 8 ≤ 140737488355328) := ⟨by have := HFL.out; unfold maxLen; omega⟩
        go_wp2_with (at_builtin; go_loud (refine wpList_append_src rfl _ _ 22 rfl R5.out HIN.out 3 i0 _ 8 Tryd.underlying22 HI.out.1 HI.out.2.1 HI.out.2.2.1 HI.out.2.2.2 rfl (by decide) rfl rfl (by simp [Value.oneCell']) HLM.out.1 HLM.out.2 _ _ rfl rfl ?_; intro ao2 cap2 w6 k1 k2 k3; have K1 := Kp.mk k1; have K2 := Kp.mk ((B5.out.alloc B5.out.size _).grown k2 (by simp; have := B5.out.size; omega) (fun j e => HN.out j e)); have K3 : Kp (∀ j, blk (.slice ao2 ((FK U k).length + 1) cap2) = some j → w1.heap.size ≤ j) := ⟨fun j e => (k3 j e).elim (fun h => HN.out j h) (fun h => by simp at h; have := B5.out.size; omega)⟩; clear k1 k2 k3))
        go_roundw
        case rel => exact ⟨k + 1, by omega, by go_num, by rw [HFS.out]; simpa using K1.out, K3.out, K2.out⟩
        case measure => simp [intOf]; omega
      · rw [hu] at HUk HFS
        clear hu
        go_wp2_with fail
        refine HUk.out.mono ?_
        rintro e w5 ⟨rfl, b5⟩
        have B5 := Kp.mk (HB.out.trans (b5.mono HB.out.size))
        have R5 := Kp.mk (HR.out.below b5)
        clear b5 k0 k1 k2 k3
        go_wp2
        go_roundw
        case rel => exact ⟨k + 1, by omega, by go_num, by rw [HFS.out]; simpa using R5.out, HN.out, B5.out⟩
        case measure => simp [intOf]; omega
    · obtain rfl : k = 30 := by omega
      obtain ⟨g, hg⟩ := exists_row (FK U 30) (FK U 30).length rfl
      have HG := Kp.mk hg
      have HIA : Kp (RK 1 wr (.slice ao (FK U 30).length cp) (FK U 30).length (numL g (FK U 30).length)) := ⟨by rw [numC_numL hg]; exact HR.out⟩
      have HNw : Kp (∀ j, blk (.slice ao (FK U 30).length cp) = some j → w.heap.size ≤ j) := ⟨fun j hj => by have := HN.out j hj; have := B1.out.size; omega⟩
      clear hg
      go_wp2
      go_ret
      exact ⟨ao, _, cp, g, by trivial, HG.out, HIA.out, HNw.out, B1.out.trans (HB.out.mono B1.out.size)⟩
set_option maxRecDepth 20000 in
set_option maxHeartbeats 2000000 in
theorem rFree_any (q : HdV) (w : World) (hl : q.ll ≤ maxLen) (hf : IntsAt w q.lo q.ll q.lf) :
    Calls Tryd.prog 36 #[q.v] w fun e w' => ∃ ao n cap g, e = .returned (.slice ao n cap) ∧ rowI g n = q.hv.free ∧ RK 1 w' (.slice ao n cap) n (numL g n) ∧ (∀ j, blk (.slice ao n cap) = some j → w.heap.size ≤ j) ∧ Below w.heap.size w w' := by
  have HU := Kp.mk (fun W (hW : Below w.heap.size w W) (t : Int) => rUses_any q t W hl (hf.below hW))
  obtain ⟨gen, base, snap, lo, ll, lc, lf⟩ := q
  unfold Hd.HV.free
  generalize (HdV.hv ⟨gen, base, snap, lo, ll, lc, lf⟩).uses = U at HU ⊢
  have HFK : Kp (Hd.R.filter (fun t => !U t) = FK U 30) := ⟨rfl⟩
  rw [HFK.out]
  unfold HdV.v at HU ⊢
  clear hf hl HFK
  simp only [] at HU ⊢
  have hbx := heap_alloc_new w (.cells #[.int .i64 gen, .int .i64 base, .int .i64 snap, .slice lo ll lc] 24)
  have hb1 : Below w.heap.size w (w.alloc (.cells #[.int .i64 gen, .int .i64 base, .int .i64 snap, .slice lo ll lc] 24)) := (Below.refl _ _).alloc (Nat.le_refl _) _
  have hz1 : (w.alloc (.cells #[.int .i64 gen, .int .i64 base, .int .i64 snap, .slice lo ll lc] 24)).heap.size = w.heap.size + 1 := by simp
  obtain ⟨i0, hi0, hi1, hi2, hi3⟩ := info_parts infoInt
  have HI := Kp.mk (And.intro hi0 (And.intro hi1 (And.intro hi2 hi3)))
  clear hi0 hi1 hi2 hi3
  go_enter Tryd.func36, Tryd.ntmps36
  go_wp2
  obtain ⟨w1, hw1⟩ : ∃ w1, w.alloc (.cells #[.int .i64 gen, .int .i64 base, .int .i64 snap, .slice lo ll lc] 24) = w1 := ⟨_, rfl⟩
  rw [hw1] at hbx hb1 hz1 ⊢
  have B1 := Kp.mk hb1
  have HKeep : Kp (∀ W, Below w1.heap.size w1 W → W.cell? ⟨w.heap.size, 0, none⟩ = some (.int .i64 gen) ∧ W.cell? ⟨w.heap.size, 1, none⟩ = some (.int .i64 base) ∧ W.cell? ⟨w.heap.size, 2, none⟩ = some (.int .i64 snap) ∧ W.cell? ⟨w.heap.size, 3, none⟩ = some (.slice lo ll lc)) := ⟨fun W hW => cells4 ((hW.block _ (by omega)).trans hbx)⟩
  clear hbx hb1 hz1 hw1
  generalize hbb : w.heap.size = b at HKeep ⊢
  go_loopw [3, 4] (fun o i wr => ∃ k : Nat, k ≤ 30 ∧ i = .int .i64 ((k : Int) + 2) ∧ RK 1 wr o (FK U k).length ((FK U k).map fun x => Value.int .i64 x) ∧ (∀ j, blk o = some j → w1.heap.size ≤ j) ∧ Below w1.heap.size w1 wr) (fun _ i _ => 32 - (intOf i).toNat)
  case atStart => exact ⟨0, by omega, rfl, RK.nil 1 _, fun j h => by simp [blk] at h, Below.refl _ _⟩
  case round =>
    obtain ⟨k, hk, rfl, hr, hnew, hb⟩ := hrel
    obtain ⟨ao, cp, rfl, _, _⟩ := hr.len
    have HR := Kp.mk hr
    have HN := Kp.mk hnew
    have HB := Kp.mk hb
    clear hr hnew hb
    by_cases hk2 : k < 30
    · obtain ⟨k0, k1, k2, k3⟩ := HKeep.out _ HB.out
      have i1 : decide ((k : Int) + 2 < 32) = true := by rw [decide_eq_true_eq]; omega
      have n1 : IntKind.i64.wrap ((k : Int) + 2 + 1) = (k : Int) + 2 + 1 := by rw [IntKind.wrap_i64]; omega
      have HUk := Kp.mk (HU.out _ (B1.out.trans (HB.out.mono B1.out.size)) ((k : Int) + 2))
      have HFS := Kp.mk (FK_succ U k)
      have HFL := Kp.mk (FK_len U k)
      cases hu : U ((k : Int) + 2)
      · rw [hu] at HUk HFS
        clear hu
        go_wp2_with fail
        refine HUk.out.mono ?_
        rintro e w5 ⟨rfl, b5⟩
        have B5 := Kp.mk (HB.out.trans (b5.mono HB.out.size))
        have R5 := Kp.mk ((HR.out.below b5).alloc (.cells #[.int .i64 ((k : Int) + 2)] 3))
        clear b5 k0 k1 k2 k3
        have HIN := Kp.mk (src_one (heap_alloc_new w5 (.cells #[.int .i64 ((k : Int) + 2)] 3)) rfl)
        have HLM : Kp ((FK U k).length + 1 ≤ maxLen ∧ ((FK U k).length + 1) * 8 ≤ 140737488355328) := ⟨by have := HFL.out; unfold maxLen; omega⟩
        go_wp2_with (at_builtin; go_loud (refine wpList_append_src rfl _ _ 22 rfl R5.out HIN.out 3 i0 _ 8 Tryd.underlying22 HI.out.1 HI.out.2.1 HI.out.2.2.1 HI.out.2.2.2 rfl (by decide) rfl rfl (by simp [Value.oneCell']) HLM.out.1 HLM.out.2 _ _ rfl rfl ?_; intro ao2 cap2 w6 k1 k2 k3; have K1 := Kp.mk k1; have K2 := Kp.mk ((B5.out.alloc B5.out.size _).grown k2 (by simp; have := B5.out.size; omega) (fun j e => HN.out j e)); have K3 : Kp (∀ j, blk (.slice ao2 ((FK U k).length + 1) cap2) = some j → w1.heap.size ≤ j) := ⟨fun j e => (k3 j e).elim (fun h => HN.out j h) (fun h => by simp at h; have := B5.out.size; omega)⟩; clear k1 k2 k3))
        go_roundw
        case rel => exact ⟨k + 1, by omega, by go_num, by rw [HFS.out]; simpa using K1.out, K3.out, K2.out⟩
        case measure => simp [intOf]; omega
      · rw [hu] at HUk HFS
        clear hu
        go_wp2_with fail
        refine HUk.out.mono ?_
        rintro e w5 ⟨rfl, b5⟩
        have B5 := Kp.mk (HB.out.trans (b5.mono HB.out.size))
        have R5 := Kp.mk (HR.out.below b5)
        clear b5 k0 k1 k2 k3
        go_wp2
        go_roundw
        case rel => exact ⟨k + 1, by omega, by go_num, by rw [HFS.out]; simpa using R5.out, HN.out, B5.out⟩
        case measure => simp [intOf]; omega
    · obtain rfl : k = 30 := by omega
      obtain ⟨g, hg⟩ := exists_row (FK U 30) (FK U 30).length rfl
      have HG := Kp.mk hg
      have HIA : Kp (RK 1 wr (.slice ao (FK U 30).length cp) (FK U 30).length (numL g (FK U 30).length)) := ⟨by rw [numC_numL hg]; exact HR.out⟩
      have HNw : Kp (∀ j, blk (.slice ao (FK U 30).length cp) = some j → w.heap.size ≤ j) := ⟨fun j hj => by have := HN.out j hj; have := B1.out.size; omega⟩
      clear hg
      go_wp2
      go_ret
      exact ⟨ao, _, cp, g, by trivial, HG.out, HIA.out, HNw.out, B1.out.trans (HB.out.mono B1.out.size)⟩
end Go.Proofs.YtjpkncfmionieaaDoor
