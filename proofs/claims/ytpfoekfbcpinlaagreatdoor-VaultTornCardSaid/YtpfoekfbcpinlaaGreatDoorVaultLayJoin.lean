/- vault: turn, whole. -/
import Derived.Test.YtpfoekfbcpinlaaGreatDoorVaultJoin
import Derived.Deep.CutRange
import Derived.Deep.DeepCutAuto
namespace Go.Proofs.YtpfoekfbcpinlaaGreatDoor
open Go.RowKit
set_option linter.unusedVariables false

set_option maxRecDepth 20000 in
set_option maxHeartbeats 4000000 in
theorem turn_any (g v : Nat) (D : DiskV) (q : HdV) (m : Int) (n : Nat) (size : Nat) (no : Option Addr) (nc : Nat) (w : World) (h : VS w g v D q m n) (hd : D.down = false) (hm : q.hv.may = true) (hr : RK 1 w (.slice no 32 nc) 32 (numL (sizeF D) 32)) (hsz : size ≤ 1000000) :
    Calls Tryz.prog 48 #[.pointer (some ⟨v, 0, none⟩), .int .i64 size, .slice no 32 nc] w fun e w' => e = .returned (.int .i64 (turnV D q.hv size).1) ∧ (∃ p' : HdV, p'.hv = (turnV D q.hv size).2.2 ∧ VS w' g v (turnV D q.hv size).2.1 p' m n ∧ ∀ k, blk (.slice p'.lo p'.ll p'.lc) = some k → blk (.slice q.lo q.ll q.lc) = some k ∨ w.heap.size ≤ k) ∧ Ch2 w w' g v := by
  have hbx := heap_alloc_new w (.cells #[.pointer (some ⟨v, 0, none⟩)] 30)
  have HX := Kp.mk hbx
  have B1 : Below w.heap.size w (w.alloc (.cells #[.pointer (some ⟨v, 0, none⟩)] 30)) := (Below.refl _ _).alloc (Nat.le_refl _) _
  have HB1 := Kp.mk B1
  have k0 := one_cell hbx
  have S1 := h.below B1
  have k1 := S1.vlt.c1
  have k2 := S1.vlt.c2
  have k3 := S1.vlt.c3
  have k4 := S1.vlt.c4
  have c0 := S1.vlt.c0
  have HS := Kp.mk h
  have HR := Kp.mk hr
  have hg1 := (Hd.may_first hm).1
  have hg2 := (Hd.may_first hm).2.1
  have hgen : q.hv.gen = q.gen := rfl
  have HF := Kp.mk (fun W (hW : Below w.heap.size w W) => Free_any q W (by have := h.vlt.few; unfold maxLen; omega) (h.below hW).vlt.at'.row)
  have hlv := h.vlt.lt
  have hlg := h.disk.lt
  have HM := Kp.mk hm
  by_cases hG : 1099511627776 ≤ q.gen
  · have hV : Kp (turnV D q.hv size = (40, D, q.hv)) := ⟨by unfold turnV; rw [if_pos (show 1099511627776 ≤ q.hv.gen from hG)]⟩
    have t1 : decide ((1099511627776 : Int) ≤ q.gen) = true := by rw [decide_eq_true_eq]; exact hG
    clear h hr hbx S1 hgen hg1 hg2 HF hG hm
    generalize q.gen = gen at *
    go_enter Tryz.func48, Tryz.ntmps48
    go_wp2
    go_ret
    exact ⟨by rw [hV.out] <;> rfl, ⟨q, by rw [hV.out], by rw [hV.out]; exact HS.out.below HB1.out, fun k hk => .inl hk⟩, Ch2.of_below HB1.out g v⟩
  · have t1 : decide ((1099511627776 : Int) ≤ q.gen) = false := by rw [decide_eq_false_iff_not]; exact hG
    have HGen : Kp (1 ≤ q.gen ∧ q.gen < 1099511627776) := ⟨by rw [hgen] at hg1; omega⟩
    clear h hr hbx S1 hgen hg1 hg2 hm
    by_cases hfr : q.hv.free = []
    · have hV : Kp (turnV D q.hv size = (44, D, q.hv)) := ⟨by unfold turnV; rw [if_neg (show ¬ 1099511627776 ≤ q.hv.gen from hG), if_pos hfr]⟩
      unfold HdV.v at HF
      clear hG
      go_enter Tryz.func48, Tryz.ntmps48
      go_wp2_with fail
      refine (HF.out _ HB1.out).mono ?_
      rintro e w2 ⟨fo, fn, fc, fg, rfl, hrow, hints, b2⟩
      have hfn : fn = 0 := by rw [hfr] at hrow; have := congrArg List.length hrow; rw [rowI_len] at this; simpa using this
      subst hfn
      have HB2 := Kp.mk (HB1.out.trans (b2.mono HB1.out.size))
      clear hrow hints b2 HF
      go_wp2
      go_ret
      exact ⟨by rw [hV.out] <;> rfl, ⟨q, by rw [hV.out], by rw [hV.out]; exact HS.out.below HB2.out, fun k hk => .inl hk⟩, Ch2.of_below HB2.out g v⟩
    · have hV : Kp (turnV D q.hv size = if D.cap < turnRoom D q.hv size then (44, D, q.hv) else turnG D q.hv) := ⟨by unfold turnV; rw [if_neg (show ¬ 1099511627776 ≤ q.hv.gen from hG), if_neg hfr]⟩
      obtain ⟨tk, htk, ht2, ht32⟩ := free_in hfr
      have HFr := Kp.mk hfr
      unfold HdV.v at HF
      clear hG hfr
      go_enter Tryz.func48, Tryz.ntmps48
      go_wp2_with fail
      refine (HF.out _ HB1.out).mono ?_
      rintro e w2 ⟨fo, fn, fc, fg, rfl, hrow, hints, b2⟩
      have HB2 := Kp.mk (HB1.out.trans (b2.mono HB1.out.size))
      have HX2 : Kp (w2.heap[w.heap.size]? = some (.cells #[.pointer (some ⟨v, 0, none⟩)] 30 (0, 0))) := ⟨(b2.block _ (by simp)).trans HX.out⟩
      have k02 := one_cell HX2.out
      have hfn : 0 < fn := by
        rcases Nat.eq_zero_or_pos fn with e | e
        · subst e; exact absurd (show q.hv.free = [] from by rw [← hrow]; rfl) HFr.out
        · exact e
      have hf0 : fg 0 = (tk : Int) := by
        rw [← htk]; unfold freeT; rw [← hrow]
        obtain ⟨k, rfl⟩ : ∃ k, fn = k + 1 := ⟨fn - 1, by omega⟩
        simp [rowI, List.range_succ_eq_map]
      have HI : Kp (∀ W, Below w2.heap.size w2 W → ∃ a, fo = some a ∧ W.cell? (a.add 0) = some (.int .i64 tk)) := ⟨fun W hW => by rw [← hf0]; exact hints W hW 0 hfn⟩
      obtain ⟨fa, rfl, hfc⟩ := HI.out w2 (Below.refl _ _)
      have hfl : fn ≤ 30 := by have := congrArg List.length hrow; rw [rowI_len] at this; have h2 := Hd.parted q.hv HM.out; omega
      rw [show fa.add 0 = fa from by obtain ⟨b, o, s⟩ := fa; unfold Addr.add; cases s <;> simp] at hfc
      have HFc : Kp (∀ W, Below w2.heap.size w2 W → W.cell? fa = some (.int .i64 tk)) := ⟨fun W hW => cell_below hfc hW⟩
      have HHd := Kp.mk (fun W (hW : Below w.heap.size w W) => vHead_any g v D q m n W (HS.out.below hW))
      have hfi : (fn == 0) = false := by rw [beq_eq_false_iff_ne]; omega
      have hfi2 : ((fn : Int) == 0) = false := by rw [beq_eq_false_iff_ne]; omega
      clear hrow hints b2 HF HI hf0 k1 k2 k3 k4 c0 k0
      go_upto_region 6 with fail
      go_cut [8, 9] from 24 to 28 (fun t8 t9 wx => ∃ (tb hb : Nat) (p : HdV), t8 = .pointer (some ⟨tb, 0, none⟩) ∧ t9 = .pointer (some ⟨hb, 0, none⟩) ∧ p.hv = q.hv ∧ p.ll = q.ll ∧ p.lf = q.lf ∧ TJ w2 wx tk p tb hb)
      case first =>
        have hl02 := lt_of_block' HX2.out
        have hab := World.block_lt_of_cell? _ _ hfc
        obtain ⟨ab, aof, asb⟩ := fa
        simp only [] at hab
        have d1 : ¬ ab = w2.heap.size := by omega
        have d2 : ¬ ab = w2.heap.size + 1 := by omega
        have d1' : ¬ w2.heap.size = ab := by omega
        have d2' : ¬ w2.heap.size + 1 = ab := by omega
        have e1 : ¬ w.heap.size = w2.heap.size := by omega
        have e2 : ¬ w.heap.size = w2.heap.size + 1 := by omega
        have e1' : ¬ w2.heap.size = w.heap.size := by omega
        have e2' : ¬ w2.heap.size + 1 = w.heap.size := by omega
        have k02a : ∀ o, (w2.alloc o).cell? ⟨w.heap.size, 0, none⟩ = some (.pointer (some ⟨v, 0, none⟩)) := fun o => by rw [World.cell?_alloc_lt _ _ _ hl02]; exact k02
        have k02b : ∀ o1 o2, ((w2.alloc o1).alloc o2).cell? ⟨w.heap.size, 0, none⟩ = some (.pointer (some ⟨v, 0, none⟩)) := fun o1 o2 => by rw [World.cell?_alloc_lt _ _ _ (by simp; omega)]; exact k02a o1
        have hfl2 := World.block_lt_of_cell? _ _ hfc
        have hfca : ∀ o, (w2.alloc o).cell? ⟨ab, aof, asb⟩ = some (.int .i64 tk) := fun o => by rw [World.cell?_alloc_lt _ _ _ hfl2]; exact hfc
        have hfcb : ∀ o1 o2, ((w2.alloc o1).alloc o2).cell? ⟨ab, aof, asb⟩ = some (.int .i64 tk) := fun o1 o2 => by rw [World.cell?_alloc_lt _ _ _ (by simp; omega)]; exact hfca o1
        go_region_held3 (fun w' => w'.cell? ⟨w.heap.size, 0, none⟩ = some (.pointer (some ⟨v, 0, none⟩)) ∧ w'.cell? ⟨ab, aof, asb⟩ = some (.int .i64 tk)) (go_keep) (first
          | (go_at_call 14; refine (HHd.out w2.drew HB2.out.drew).mono ?_; rintro e w3 ⟨⟨pg, pb, ps, plo, pll, plc, plf⟩, rfl, hphv, hpll, hplf, hown, b3⟩; simp only [] at hpll hplf; subst hpll hplf; unfold HdV.v; have hb3 := ((Below.refl w2.heap.size w2).drew.trans (b3.mono (by simp; try omega))); have hnw : ∀ k, blk (.slice plo q.ll plc) = some k → w2.heap.size ≤ k := (fun k hk => by have := hown.new k hk; simp at this; omega); have hrw := hown.row; have f3 := HFc.out w3 hb3; have g3 := one_cell ((b3.block w.heap.size (by simp; try omega)).trans HX2.out); have f3l := World.block_lt_of_cell? _ _ f3; have hz3 : w2.heap.size ≤ w3.heap.size := (by have := b3.size; simp at this; omega); simp only [] at f3l; have d3 : ¬ ab = w3.heap.size := (by omega); have d4 : ¬ ab = w3.heap.size + 1 := (by omega); have d3' : ¬ w3.heap.size = ab := (by omega); have d4' : ¬ w3.heap.size + 1 = ab := (by omega); have e3 : ¬ w.heap.size = w3.heap.size := (by omega); have e4 : ¬ w.heap.size = w3.heap.size + 1 := (by omega); have e3' : ¬ w3.heap.size = w.heap.size := (by omega); have e4' : ¬ w3.heap.size + 1 = w.heap.size := (by omega); have g3a : ∀ o, (w3.alloc o).cell? ⟨w.heap.size, 0, none⟩ = some (.pointer (some ⟨v, 0, none⟩)) := (fun o => by rw [World.cell?_alloc_lt _ _ _ (by show w.heap.size < w3.heap.size; omega)]; exact g3); have g3b : ∀ o1 o2, ((w3.alloc o1).alloc o2).cell? ⟨w.heap.size, 0, none⟩ = some (.pointer (some ⟨v, 0, none⟩)) := (fun o1 o2 => by rw [World.cell?_alloc_lt _ _ _ (by simp; omega)]; exact g3a o1); have f3a : ∀ o, (w3.alloc o).cell? ⟨ab, aof, asb⟩ = some (.int .i64 tk) := (fun o => by rw [World.cell?_alloc_lt _ _ _ f3l]; exact f3); have f3b : ∀ o1 o2, ((w3.alloc o1).alloc o2).cell? ⟨ab, aof, asb⟩ = some (.int .i64 tk) := (fun o1 o2 => by rw [World.cell?_alloc_lt _ _ _ (by simp; omega)]; exact f3a o1); have q1 : ∀ o1 o2 j, ((w3.alloc o1).alloc o2).cell? ⟨w3.heap.size, j, none⟩ = (w3.alloc o1).cell? ⟨w3.heap.size, j, none⟩ := (fun o1 o2 j => by rw [World.cell?_alloc_lt _ _ _ (by simp)]); have q2 : ∀ o1 o2 j, ((w3.alloc o1).alloc o2).frozen? ⟨w3.heap.size, j, none⟩ = (w3.alloc o1).frozen? ⟨w3.heap.size, j, none⟩ := (fun o1 o2 j => World.frozen?_of_block (Below.heap_alloc (w3.alloc o1) o2 _ (by simp))))
          | (go_at_call 14; refine (HHd.out (w2.alloc (.cells #[.int .i64 0] 3)).drew (HB2.out.alloc HB2.out.size _).drew).mono ?_; rintro e w3 ⟨⟨pg, pb, ps, plo, pll, plc, plf⟩, rfl, hphv, hpll, hplf, hown, b3⟩; simp only [] at hpll hplf; subst hpll hplf; unfold HdV.v; have hb3 := (((Below.refl w2.heap.size w2).alloc (Nat.le_refl _) _).drew.trans (b3.mono (by simp; try omega))); have hnw : ∀ k, blk (.slice plo q.ll plc) = some k → w2.heap.size + 1 ≤ k := (fun k hk => by have := hown.new k hk; simp at this; omega); have hrw := hown.row; have f3 := HFc.out w3 hb3; have g3 := one_cell ((b3.block w.heap.size (by simp; try omega)).trans ((Below.heap_alloc w2 _ _ hl02).trans HX2.out)); have f3l := World.block_lt_of_cell? _ _ f3; have hz3 : w2.heap.size ≤ w3.heap.size := (by have := b3.size; simp at this; omega); simp only [] at f3l; have d3 : ¬ ab = w3.heap.size := (by omega); have d4 : ¬ ab = w3.heap.size + 1 := (by omega); have d3' : ¬ w3.heap.size = ab := (by omega); have d4' : ¬ w3.heap.size + 1 = ab := (by omega); have e3 : ¬ w.heap.size = w3.heap.size := (by omega); have e4 : ¬ w.heap.size = w3.heap.size + 1 := (by omega); have e3' : ¬ w3.heap.size = w.heap.size := (by omega); have e4' : ¬ w3.heap.size + 1 = w.heap.size := (by omega); have g3a : ∀ o, (w3.alloc o).cell? ⟨w.heap.size, 0, none⟩ = some (.pointer (some ⟨v, 0, none⟩)) := (fun o => by rw [World.cell?_alloc_lt _ _ _ (by show w.heap.size < w3.heap.size; omega)]; exact g3); have g3b : ∀ o1 o2, ((w3.alloc o1).alloc o2).cell? ⟨w.heap.size, 0, none⟩ = some (.pointer (some ⟨v, 0, none⟩)) := (fun o1 o2 => by rw [World.cell?_alloc_lt _ _ _ (by simp; omega)]; exact g3a o1); have f3a : ∀ o, (w3.alloc o).cell? ⟨ab, aof, asb⟩ = some (.int .i64 tk) := (fun o => by rw [World.cell?_alloc_lt _ _ _ f3l]; exact f3); have f3b : ∀ o1 o2, ((w3.alloc o1).alloc o2).cell? ⟨ab, aof, asb⟩ = some (.int .i64 tk) := (fun o1 o2 => by rw [World.cell?_alloc_lt _ _ _ (by simp; omega)]; exact f3a o1); have y1 := (b3.block w2.heap.size (by simp; try omega)).trans (heap_alloc_new w2 (.cells #[.int .i64 0] 3)); have y2 := one_cell y1; have y3 : w3.frozen? ⟨w2.heap.size, 0, none⟩ = false := (by simp [World.frozen?, y1]); have yll : w2.heap.size < w3.heap.size := (lt_of_block' y1); have ylc : ∀ o j, (w3.alloc o).cell? ⟨w2.heap.size, j, none⟩ = w3.cell? ⟨w2.heap.size, j, none⟩ := (fun o j => by rw [World.cell?_alloc_lt _ _ _ yll]); have ylf : ∀ o j, (w3.alloc o).frozen? ⟨w2.heap.size, j, none⟩ = w3.frozen? ⟨w2.heap.size, j, none⟩ := (fun o j => World.frozen?_of_block (Below.heap_alloc w3 o _ yll)))
          | (go_at_call 14; refine (HHd.out (w2.alloc (.cells #[.int .i64 0, .int .i64 0, .int .i64 0, .slice none 0 0] 38)).drew (HB2.out.alloc HB2.out.size _).drew).mono ?_; rintro e w3 ⟨⟨pg, pb, ps, plo, pll, plc, plf⟩, rfl, hphv, hpll, hplf, hown, b3⟩; simp only [] at hpll hplf; subst hpll hplf; unfold HdV.v; have hb3 := (((Below.refl w2.heap.size w2).alloc (Nat.le_refl _) _).drew.trans (b3.mono (by simp; try omega))); have hnw : ∀ k, blk (.slice plo q.ll plc) = some k → w2.heap.size + 1 ≤ k := (fun k hk => by have := hown.new k hk; simp at this; omega); have hrw := hown.row; have f3 := HFc.out w3 hb3; have g3 := one_cell ((b3.block w.heap.size (by simp; try omega)).trans ((Below.heap_alloc w2 _ _ hl02).trans HX2.out)); have f3l := World.block_lt_of_cell? _ _ f3; have hz3 : w2.heap.size ≤ w3.heap.size := (by have := b3.size; simp at this; omega); simp only [] at f3l; have d3 : ¬ ab = w3.heap.size := (by omega); have d4 : ¬ ab = w3.heap.size + 1 := (by omega); have d3' : ¬ w3.heap.size = ab := (by omega); have d4' : ¬ w3.heap.size + 1 = ab := (by omega); have e3 : ¬ w.heap.size = w3.heap.size := (by omega); have e4 : ¬ w.heap.size = w3.heap.size + 1 := (by omega); have e3' : ¬ w3.heap.size = w.heap.size := (by omega); have e4' : ¬ w3.heap.size + 1 = w.heap.size := (by omega); have g3a : ∀ o, (w3.alloc o).cell? ⟨w.heap.size, 0, none⟩ = some (.pointer (some ⟨v, 0, none⟩)) := (fun o => by rw [World.cell?_alloc_lt _ _ _ (by show w.heap.size < w3.heap.size; omega)]; exact g3); have g3b : ∀ o1 o2, ((w3.alloc o1).alloc o2).cell? ⟨w.heap.size, 0, none⟩ = some (.pointer (some ⟨v, 0, none⟩)) := (fun o1 o2 => by rw [World.cell?_alloc_lt _ _ _ (by simp; omega)]; exact g3a o1); have f3a : ∀ o, (w3.alloc o).cell? ⟨ab, aof, asb⟩ = some (.int .i64 tk) := (fun o => by rw [World.cell?_alloc_lt _ _ _ f3l]; exact f3); have f3b : ∀ o1 o2, ((w3.alloc o1).alloc o2).cell? ⟨ab, aof, asb⟩ = some (.int .i64 tk) := (fun o1 o2 => by rw [World.cell?_alloc_lt _ _ _ (by simp; omega)]; exact f3a o1); have y1 := (b3.block w2.heap.size (by simp; try omega)).trans (heap_alloc_new w2 (.cells #[.int .i64 0, .int .i64 0, .int .i64 0, .slice none 0 0] 38)); obtain ⟨y2, y3, y4, y5⟩ := cells4 y1; obtain ⟨y6, y7, y8, y9⟩ := free4 y1; have yll : w2.heap.size < w3.heap.size := (lt_of_block' y1); have ylc : ∀ o j, (w3.alloc o).cell? ⟨w2.heap.size, j, none⟩ = w3.cell? ⟨w2.heap.size, j, none⟩ := (fun o j => by rw [World.cell?_alloc_lt _ _ _ yll]); have ylf : ∀ o j, (w3.alloc o).frozen? ⟨w2.heap.size, j, none⟩ = w3.frozen? ⟨w2.heap.size, j, none⟩ := (fun o j => World.frozen?_of_block (Below.heap_alloc w3 o _ yll)))
          | (go_at_call 14; refine (HHd.out ((w2.alloc (.cells #[.int .i64 0] 3)).alloc (.cells #[.int .i64 0, .int .i64 0, .int .i64 0, .slice none 0 0] 38)).drew ((HB2.out.alloc HB2.out.size _).alloc (by have := HB2.out.size; simp; omega) _).drew).mono ?_; rintro e w3 ⟨⟨pg, pb, ps, plo, pll, plc, plf⟩, rfl, hphv, hpll, hplf, hown, b3⟩; simp only [] at hpll hplf; subst hpll hplf; unfold HdV.v; have hb3 := ((((Below.refl w2.heap.size w2).alloc (Nat.le_refl _) _).alloc (by simp) _).drew.trans (b3.mono (by simp; try omega))); have hnw : ∀ k, blk (.slice plo q.ll plc) = some k → w2.heap.size + 1 + 1 ≤ k := (fun k hk => by have := hown.new k hk; simp at this; omega); have hrw := hown.row; have f3 := HFc.out w3 hb3; have g3 := one_cell ((b3.block w.heap.size (by simp; try omega)).trans ((Below.heap_alloc (w2.alloc _) _ _ (by simp; omega)).trans ((Below.heap_alloc w2 _ _ hl02).trans HX2.out))); have f3l := World.block_lt_of_cell? _ _ f3; have hz3 : w2.heap.size ≤ w3.heap.size := (by have := b3.size; simp at this; omega); simp only [] at f3l; have d3 : ¬ ab = w3.heap.size := (by omega); have d4 : ¬ ab = w3.heap.size + 1 := (by omega); have d3' : ¬ w3.heap.size = ab := (by omega); have d4' : ¬ w3.heap.size + 1 = ab := (by omega); have e3 : ¬ w.heap.size = w3.heap.size := (by omega); have e4 : ¬ w.heap.size = w3.heap.size + 1 := (by omega); have e3' : ¬ w3.heap.size = w.heap.size := (by omega); have e4' : ¬ w3.heap.size + 1 = w.heap.size := (by omega); have g3a : ∀ o, (w3.alloc o).cell? ⟨w.heap.size, 0, none⟩ = some (.pointer (some ⟨v, 0, none⟩)) := (fun o => by rw [World.cell?_alloc_lt _ _ _ (by show w.heap.size < w3.heap.size; omega)]; exact g3); have g3b : ∀ o1 o2, ((w3.alloc o1).alloc o2).cell? ⟨w.heap.size, 0, none⟩ = some (.pointer (some ⟨v, 0, none⟩)) := (fun o1 o2 => by rw [World.cell?_alloc_lt _ _ _ (by simp; omega)]; exact g3a o1); have f3a : ∀ o, (w3.alloc o).cell? ⟨ab, aof, asb⟩ = some (.int .i64 tk) := (fun o => by rw [World.cell?_alloc_lt _ _ _ f3l]; exact f3); have f3b : ∀ o1 o2, ((w3.alloc o1).alloc o2).cell? ⟨ab, aof, asb⟩ = some (.int .i64 tk) := (fun o1 o2 => by rw [World.cell?_alloc_lt _ _ _ (by simp; omega)]; exact f3a o1); have y1 := (b3.block w2.heap.size (by simp; try omega)).trans (heap_first w2 (.cells #[.int .i64 0] 3) (.cells #[.int .i64 0, .int .i64 0, .int .i64 0, .slice none 0 0] 38)); have z1 := (b3.block (w2.heap.size + 1) (by simp; try omega)).trans (heap_second w2 (.cells #[.int .i64 0] 3) (.cells #[.int .i64 0, .int .i64 0, .int .i64 0, .slice none 0 0] 38)); have y2 := one_cell y1; have y3 : w3.frozen? ⟨w2.heap.size, 0, none⟩ = false := (by simp [World.frozen?, y1]); obtain ⟨z2, z3, z4, z5⟩ := cells4 z1; obtain ⟨z6, z7, z8, z9⟩ := free4 z1)
          | (go_at_call 14; refine (HHd.out ((w2.alloc (.cells #[.int .i64 0, .int .i64 0, .int .i64 0, .slice none 0 0] 38)).alloc (.cells #[.int .i64 0] 3)).drew ((HB2.out.alloc HB2.out.size _).alloc (by have := HB2.out.size; simp; omega) _).drew).mono ?_; rintro e w3 ⟨⟨pg, pb, ps, plo, pll, plc, plf⟩, rfl, hphv, hpll, hplf, hown, b3⟩; simp only [] at hpll hplf; subst hpll hplf; unfold HdV.v; have hb3 := ((((Below.refl w2.heap.size w2).alloc (Nat.le_refl _) _).alloc (by simp) _).drew.trans (b3.mono (by simp; try omega))); have hnw : ∀ k, blk (.slice plo q.ll plc) = some k → w2.heap.size + 1 + 1 ≤ k := (fun k hk => by have := hown.new k hk; simp at this; omega); have hrw := hown.row; have f3 := HFc.out w3 hb3; have g3 := one_cell ((b3.block w.heap.size (by simp; try omega)).trans ((Below.heap_alloc (w2.alloc _) _ _ (by simp; omega)).trans ((Below.heap_alloc w2 _ _ hl02).trans HX2.out))); have f3l := World.block_lt_of_cell? _ _ f3; have hz3 : w2.heap.size ≤ w3.heap.size := (by have := b3.size; simp at this; omega); simp only [] at f3l; have d3 : ¬ ab = w3.heap.size := (by omega); have d4 : ¬ ab = w3.heap.size + 1 := (by omega); have d3' : ¬ w3.heap.size = ab := (by omega); have d4' : ¬ w3.heap.size + 1 = ab := (by omega); have e3 : ¬ w.heap.size = w3.heap.size := (by omega); have e4 : ¬ w.heap.size = w3.heap.size + 1 := (by omega); have e3' : ¬ w3.heap.size = w.heap.size := (by omega); have e4' : ¬ w3.heap.size + 1 = w.heap.size := (by omega); have g3a : ∀ o, (w3.alloc o).cell? ⟨w.heap.size, 0, none⟩ = some (.pointer (some ⟨v, 0, none⟩)) := (fun o => by rw [World.cell?_alloc_lt _ _ _ (by show w.heap.size < w3.heap.size; omega)]; exact g3); have g3b : ∀ o1 o2, ((w3.alloc o1).alloc o2).cell? ⟨w.heap.size, 0, none⟩ = some (.pointer (some ⟨v, 0, none⟩)) := (fun o1 o2 => by rw [World.cell?_alloc_lt _ _ _ (by simp; omega)]; exact g3a o1); have f3a : ∀ o, (w3.alloc o).cell? ⟨ab, aof, asb⟩ = some (.int .i64 tk) := (fun o => by rw [World.cell?_alloc_lt _ _ _ f3l]; exact f3); have f3b : ∀ o1 o2, ((w3.alloc o1).alloc o2).cell? ⟨ab, aof, asb⟩ = some (.int .i64 tk) := (fun o1 o2 => by rw [World.cell?_alloc_lt _ _ _ (by simp; omega)]; exact f3a o1); have y1 := (b3.block w2.heap.size (by simp; try omega)).trans (heap_first w2 (.cells #[.int .i64 0, .int .i64 0, .int .i64 0, .slice none 0 0] 38) (.cells #[.int .i64 0] 3)); have z1 := (b3.block (w2.heap.size + 1) (by simp; try omega)).trans (heap_second w2 (.cells #[.int .i64 0, .int .i64 0, .int .i64 0, .slice none 0 0] 38) (.cells #[.int .i64 0] 3)); obtain ⟨y2, y3, y4, y5⟩ := cells4 y1; obtain ⟨y6, y7, y8, y9⟩ := free4 y1; have z2 := one_cell z1; have z3 : w3.frozen? ⟨w2.heap.size + 1, 0, none⟩ = false := (by simp [World.frozen?, z1])))
        all_goals go_wp2_with fail
        all_goals go_meet
        all_goals
          refine ⟨_, _, ⟨pg, pb, ps, plo, q.ll, plc, q.lf⟩, rfl, rfl, hphv, rfl, rfl, ?_⟩
        all_goals
          first
            | (with_reducible refine tj1 (p := ⟨pg, pb, ps, plo, q.ll, plc, q.lf⟩) ?_ ?_ ?_)
            | (with_reducible refine tj2 (p := ⟨pg, pb, ps, plo, q.ll, plc, q.lf⟩) ?_ ?_ ?_)
            | (with_reducible refine tj3 (p := ⟨pg, pb, ps, plo, q.ll, plc, q.lf⟩) ?_ ?_ ?_ ?_)
            | (with_reducible refine tj4 (p := ⟨pg, pb, ps, plo, q.ll, plc, q.lf⟩) ?_ ?_ ?_ ?_ ?_)
            | (with_reducible refine tj5 (p := ⟨pg, pb, ps, plo, q.ll, plc, q.lf⟩) ?_ ?_ ?_ ?_)
            | (with_reducible refine tj6 (p := ⟨pg, pb, ps, plo, q.ll, plc, q.lf⟩) ?_ ?_ ?_ ?_ ?_)
        all_goals first
          | exact hb3
          | exact hrw
          | exact hnw
          | exact y1
          | exact z1
      case rest =>
        obtain ⟨tb, hb, p, rfl, rfl, hphv, hpll, hplf, tj⟩ := hcut
        obtain ⟨pg, pb, ps, plo, pll, plc, plf⟩ := p
        simp only [] at hpll hplf
        subst hpll hplf
        obtain ⟨rfl, rfl, rfl⟩ : pg = q.gen ∧ pb = q.base ∧ ps = q.snap := by
          have := hphv
          unfold HdV.hv at this
          simp only [Hd.HV.mk.injEq] at this
          exact ⟨this.1, this.2.1, this.2.2.1⟩
        have TJ0 := Kp.mk tj
        have hl02 := lt_of_block' HX2.out
        have hxb : wc.heap[w.heap.size]? = some (.cells #[.pointer (some ⟨v, 0, none⟩)] 30 (0, 0)) := (tj.bel.block _ hl02).trans HX2.out
        have HXB := Kp.mk hxb
        obtain ⟨y0, y1, y2, y3⟩ := cells4 tj.xh
        obtain ⟨f0, f1, f2, f3⟩ := free4 tj.xh
        have z0 := one_cell tj.xt
        have hlt1 := lt_of_block' tj.xt
        have hlt2 := lt_of_block' tj.xh
        have n1 : ¬ tb = hb := tj.ne
        have n2 : ¬ hb = tb := fun e => tj.ne e.symm
        have hg2 := HGen.out.2
        have hg1 := HGen.out.1
        have hfew := HS.out.vlt.few
        have HFw : Kp (q.ll + 1 ≤ 31) := ⟨by
          have h1 := Hd.parted q.hv HM.out
          have h2 : 0 < q.hv.free.length := List.length_pos_iff.2 HFr.out
          have h3 : q.hv.log.length = q.ll := by show (rowI q.lf q.ll).length = q.ll; rw [rowI_len]
          have h4 : q.hv.log.length ≤ q.hv.tapes.length := by unfold Hd.HV.tapes; split <;> simp
          omega⟩
        have HB5 : Kp (∀ x o3, Below w2.heap.size w2 ((wc.setCell ⟨hb, 0, none⟩ x).alloc o3)) := ⟨fun x o3 => ((tj.bel.setCell (p := ⟨hb, 0, none⟩) tj.gh x).alloc (by simpa using tj.bel.size) o3)⟩
        have HR5 : Kp (∀ x o3, RK 1 ((wc.setCell ⟨hb, 0, none⟩ x).alloc o3) (.slice plo q.ll plc) q.ll (numL q.lf q.ll)) := ⟨fun x o3 => (tj.row.set _ _ fun k hk => (tj.new k hk).2.2).alloc o3⟩
        have HSrc : Kp (∀ x T, Src 1 ((wc.setCell ⟨hb, 0, none⟩ x).alloc (.cells #[.int .i64 (tk : Int)] T (0, 0))) (.slice (some ⟨wc.heap.size, 0, none⟩) 1 1) 1 [.int .i64 (tk : Int)]) := ⟨fun x T => src_one (by have := heap_alloc_new (wc.setCell ⟨hb, 0, none⟩ x) (.cells #[.int .i64 (tk : Int)] T (0, 0)); simpa using this) rfl⟩
        have HN3 : Kp (∀ k, blk (.slice plo q.ll plc) = some k → w2.heap.size ≤ k) := ⟨fun k hk => (tj.new k hk).1⟩
        have HXh : Kp (∀ x o3, ((wc.setCell ⟨hb, 0, none⟩ x).alloc o3).heap[hb]? = some (.cells #[x, .int .i64 q.base, .int .i64 q.snap, .slice plo q.ll plc] 38 (0, 0))) := ⟨fun x o3 => (Below.heap_alloc _ o3 hb (by simpa using hlt2)).trans (by
          have := tj.xh
          show (wc.heap.modify hb _)[hb]? = _
          rw [Array.getElem?_modify]
          simp [this])⟩
        have HLw : Kp (∀ x o3, hb < ((wc.setCell ⟨hb, 0, none⟩ x).alloc o3).heap.size ∧ tb < ((wc.setCell ⟨hb, 0, none⟩ x).alloc o3).heap.size) := ⟨fun x o3 => ⟨by simp; omega, by simp; omega⟩⟩
        have HXt : Kp (∀ x o3, ((wc.setCell ⟨hb, 0, none⟩ x).alloc o3).heap[tb]? = some (.cells #[.int .i64 tk] 3 (0, 0))) := ⟨fun x o3 => (Below.heap_alloc _ o3 tb (by simpa using hlt1)).trans ((Below.heap_setCell wc ⟨hb, 0, none⟩ x tb n1).trans tj.xt)⟩
        have HNe : Kp (∀ k, blk (.slice plo q.ll plc) = some k → k ≠ hb ∧ k ≠ tb) := ⟨fun k hk => ⟨(tj.new k hk).2.2, (tj.new k hk).2.1⟩⟩
        obtain ⟨i0, hi0, hi1, hi2, hi3⟩ := info_parts infoInt
        have HI0 := Kp.mk (And.intro hi0 (And.intro hi1 (And.intro hi2 hi3)))
        have HNL := Kp.mk (numL_snoc q.lf q.ll tk)
        clear hi0 hi1 hi2 hi3 hxb tj
        go_wp2_with (at_builtin; go_loud (refine wpList_append_src rfl _ _ 36 rfl (HR5.out _ _) (HSrc.out _ _) 3 i0 _ 8 Tryz.underlying36 HI0.out.1 HI0.out.2.1 HI0.out.2.2.1 HI0.out.2.2.2 rfl (by decide) (by rfl) (by rfl) (num_one [(tk : Int)]) (by unfold maxLen; omega) (by omega) (q.ll + 1) (numL (putF1 q.lf q.ll tk) (q.ll + 1)) rfl HNL.out.1.symm ?_; intro a5 c5 w5 r5 g5 fr5; have N5 := Kp.mk (New.of (w := w2) (B := w2.heap.size) (HB5.out _ _) (HB5.out _ _).size g5 fr5 HN3.out); have R5 := Kp.mk r5; have X5h := (g5.block hb (HLw.out _ _).1 (fun e => (HNe.out hb e.symm).1 rfl)).trans (HXh.out _ _); have X5t := (g5.block tb (HLw.out _ _).2 (fun e => (HNe.out tb e.symm).2 rfl)).trans (HXt.out _ _); obtain ⟨u0, u1, u2, u3⟩ := cells4 X5h; obtain ⟨t4, t5, t6, t7⟩ := free4 X5h; have HN5 : Kp (∀ k, blk (.slice a5 (q.ll + 1) c5) = some k → k ≠ hb ∧ k ≠ tb) := ⟨fun k hk => (fr5 k hk).elim (HNe.out k) (fun h1 => by have h2 := (HLw.out (.int .i64 (q.gen + 1)) (.cells #[.int .i64 tk] 3 (0, 0))); constructor <;> omega)⟩; have s0 := one_cell X5t; have XH := Kp.mk X5h; have XT := Kp.mk X5t; clear g5 fr5 r5 X5h X5t))
        have B6 : Below w2.heap.size w2 (w5.setCell ⟨hb, 3, none⟩ (.slice a5 (q.ll + 1) c5)) := N5.out.below.setCell (p := ⟨hb, 3, none⟩) TJ0.out.gh _
        have XH6 : (w5.setCell ⟨hb, 3, none⟩ (.slice a5 (q.ll + 1) c5)).heap[hb]? = some (.cells #[.int .i64 (q.gen + 1), .int .i64 q.base, .int .i64 q.snap, .slice a5 (q.ll + 1) c5] 38 (0, 0)) := by
          have := XH.out
          show (w5.heap.modify hb _)[hb]? = _
          rw [Array.getElem?_modify]
          simp [this]
        have XT6 : (w5.setCell ⟨hb, 3, none⟩ (.slice a5 (q.ll + 1) c5)).heap[tb]? = some (.cells #[.int .i64 tk] 3 (0, 0)) := (Below.heap_setCell w5 ⟨hb, 3, none⟩ _ tb n1).trans XT.out
        have R6 : RK 1 (w5.setCell ⟨hb, 3, none⟩ (.slice a5 (q.ll + 1) c5)) (.slice a5 (q.ll + 1) c5) (q.ll + 1) (numL (putF1 q.lf q.ll tk) (q.ll + 1)) := R5.out.set _ _ fun k hk => (HN5.out k hk).1
        clear y0 y1 y2 y3 f0 f1 f2 f3 z0 u0 u1 u2 u3 t4 t5 t6 t7 s0
        generalize w5.setCell ⟨hb, 3, none⟩ (.slice a5 (q.ll + 1) c5) = w6 at *
        have B6w := HB2.out.trans (B6.mono HB2.out.size)
        have S6 := HS.out.below B6w
        have HS6 := Kp.mk S6
        have XB6 := (B6.block _ hl02).trans HX2.out
        obtain ⟨nq, ncp, hnv, _, _, _, _⟩ := HR.out.at_ (by decide)
        simp only [Value.slice.injEq] at hnv
        obtain ⟨rfl, _, rfl⟩ := hnv
        have HA6 : HdAt w6 ⟨q.gen + 1, q.base, q.snap, a5, q.ll + 1, c5, putF1 q.lf q.ll tk⟩ := (HdOwn.mk (B := 0) R6 (fun _ _ => Nat.zero_le _) HFw.out).at'
        have HPv : Kp ((HdV.hv ⟨q.gen + 1, q.base, q.snap, a5, q.ll + 1, c5, putF1 q.lf q.ll tk⟩) = nextH q.hv tk) := ⟨by unfold HdV.hv nextH; rw [HNL.out.2]⟩
        have HUs := Kp.mk (fun W (hW : Below w6.heap.size w6 W) => (Used_any g D W (S6.below hW).disk S6.ok.most).mono fun e w' (hh : _ ∧ _) => And.intro hh.1 (hW.trans (hh.2.mono hW.size)))
        have HOt := Kp.mk (fun W (hW : Below w6.heap.size w6 W) => (other_any g v D q m n W (S6.below hW) hd (some ⟨nq, 0, none⟩) nc (sizeF D) ((HR.out.below B6w).below hW)).mono fun e w' (hh : _ ∧ _) => And.intro hh.1 (hW.trans (hh.2.mono hW.size)))
        have HSz := Kp.mk (fun W (hW : Below w6.heap.size w6 W) => (HSize_any ⟨q.gen + 1, q.base, q.snap, a5, q.ll + 1, c5, putF1 q.lf q.ll tk⟩ W (HA6.below hW)).mono fun e w' (hh : _ ∧ _) => And.intro hh.1 (hW.trans (hh.2.mono hW.size)))
        have HCa := Kp.mk (fun W (hW : Below w6.heap.size w6 W) => (Capacity_any g D W (S6.below hW).disk).mono fun e w' (hh : _ ∧ W = w') => And.intro hh.1 (show Below w6.heap.size w6 w' from hh.2 ▸ hW))
        rw [HPv.out] at HSz
        have HDX : Kp (∀ W, Below w6.heap.size w6 W → W.cell? ⟨w.heap.size, 0, none⟩ = some (.pointer (some ⟨v, 0, none⟩)) ∧ W.cell? ⟨v, 0, none⟩ = some (.pointer (some ⟨g, 0, none⟩)) ∧ W.cell? ⟨tb, 0, none⟩ = some (.int .i64 tk) ∧ (W.cell? ⟨hb, 0, none⟩ = some (.int .i64 (q.gen + 1)) ∧ W.cell? ⟨hb, 1, none⟩ = some (.int .i64 q.base) ∧ W.cell? ⟨hb, 2, none⟩ = some (.int .i64 q.snap) ∧ W.cell? ⟨hb, 3, none⟩ = some (.slice a5 (q.ll + 1) c5)) ∧ W.cell? ⟨nq, tk, none⟩ = some (.int .i64 (sizeF D tk))) := ⟨fun W hW =>
          ⟨one_cell ((hW.block _ (lt_of_block' XB6)).trans XB6), (S6.below hW).vlt.c0, one_cell ((hW.block _ (lt_of_block' XT6)).trans XT6), cells4 ((hW.block _ (lt_of_block' XH6)).trans XH6), ((HR.out.below B6w).below hW).cell _ _ (numL_get _ _ _ ht32)⟩⟩
        have hRm : turnRoom D q.hv size = (used D.tp 32 : Int) + size - sizeF D tk - sizeF D (Hd.otherV D) + HSize (nextH q.hv tk) := by unfold turnRoom; rw [htk, Int.toNat_natCast]
        have b1 := used_le HS.out.ok.most 32 (Nat.le_refl _)
        have b2 : 0 ≤ sizeF D tk ∧ sizeF D tk ≤ 1048576 := ⟨by unfold sizeF; omega, by unfold sizeF; have := HS.out.ok.most tk ht32; omega⟩
        have b3 : 0 ≤ sizeF D (Hd.otherV D) ∧ sizeF D (Hd.otherV D) ≤ 1048576 := ⟨by unfold sizeF; omega, by unfold sizeF; have := HS.out.ok.most (Hd.otherV D) (by have := Hd.other_le D; omega); omega⟩
        have b4 : HSize (nextH q.hv tk) ≤ 400 := by
          unfold HSize
          split
          · rename_i hmm; have := enc_len hmm; omega
          · omega
        have XX := Kp.mk (And.intro XH6 (And.intro XT6 (And.intro XB6 (And.intro R6 B6w))))
        obtain ⟨k1, k2, k3, ⟨k4, k5, k6, k7⟩, k8⟩ := HDX.out w6 (Below.refl _ _)
        have BX := Kp.mk (Below.refl w6.heap.size w6)
        have hcap := HS.out.ok.cap
        have hcap2 := HS.out.ok.cap2
        have HTk := Kp.mk htk
        unfold HdV.v at HSz
        simp only [] at HSz
        clear S6 HA6 XH6 XT6 XB6 R6 B6w htk
        rw [hRm] at hV
        generalize hcp : D.cap = cap at *
        generalize used D.tp 32 = U at *
        generalize sizeF D tk = sa at *
        generalize sizeF D (Hd.otherV D) = sb at *
        generalize HSize (nextH q.hv tk) = sh at *
        have j1 : (0 : Int) ≤ (tk : Int) := by omega
        have j2 : (tk : Int) < 32 := by omega
        have v1 : IntKind.i64.wrap ((U : Int) + (size : Int)) = (U : Int) + (size : Int) := by rw [IntKind.wrap_i64]; omega
        have v2 : IntKind.i64.wrap ((U : Int) + (size : Int) - sa) = (U : Int) + (size : Int) - sa := by rw [IntKind.wrap_i64]; omega
        have v3 : IntKind.i64.wrap ((U : Int) + (size : Int) - sa - sb) = (U : Int) + (size : Int) - sa - sb := by rw [IntKind.wrap_i64]; omega
        have v4 : IntKind.i64.wrap ((U : Int) + (size : Int) - sa - sb + (sh : Int)) = (U : Int) + (size : Int) - sa - sb + (sh : Int) := by rw [IntKind.wrap_i64]; omega
        go_region_held3 (fun w' => w'.cell? ⟨w.heap.size, 0, none⟩ = some (.pointer (some ⟨v, 0, none⟩)) ∧ w'.cell? ⟨v, 0, none⟩ = some (.pointer (some ⟨g, 0, none⟩)) ∧ w'.cell? ⟨tb, 0, none⟩ = some (.int .i64 tk) ∧ (w'.cell? ⟨hb, 0, none⟩ = some (.int .i64 (q.gen + 1)) ∧ w'.cell? ⟨hb, 1, none⟩ = some (.int .i64 q.base) ∧ w'.cell? ⟨hb, 2, none⟩ = some (.int .i64 q.snap) ∧ w'.cell? ⟨hb, 3, none⟩ = some (.slice a5 (q.ll + 1) c5)) ∧ w'.cell? ⟨nq, tk, none⟩ = some (.int .i64 sa)) (go_keep)
          (first
            | (go_at_call 35; refine (HUs.out _ (by first | exact BX.out | exact BX.out.drew)).mono ?_; rintro e wu ⟨rfl, hbu⟩; have BX := Kp.mk hbu; obtain ⟨k1, k2, k3, ⟨k4, k5, k6, k7⟩, k8⟩ := HDX.out _ hbu; clear hbu)
            | (go_at_call 70; refine (HOt.out _ (by first | exact BX.out | exact BX.out.drew)).mono ?_; rintro e wu ⟨rfl, hbu⟩; have BX := Kp.mk hbu; obtain ⟨k1, k2, k3, ⟨k4, k5, k6, k7⟩, k8⟩ := HDX.out _ hbu; clear hbu)
            | (go_at_call 71; refine (HSz.out _ (by first | exact BX.out | exact BX.out.drew)).mono ?_; rintro e wu ⟨rfl, hbu⟩; have BX := Kp.mk hbu; obtain ⟨k1, k2, k3, ⟨k4, k5, k6, k7⟩, k8⟩ := HDX.out _ hbu; clear hbu)
            | (go_at_call 36; refine (HCa.out _ (by first | exact BX.out | exact BX.out.drew)).mono ?_; rintro e wu ⟨rfl, hbu⟩; have BX := Kp.mk hbu; obtain ⟨k1, k2, k3, ⟨k4, k5, k6, k7⟩, k8⟩ := HDX.out _ hbu; clear hbu))
        by_cases hroom : cap < (U : Int) + size - sa - sb + sh
        · have t9 : decide (cap < (U : Int) + (size : Int) - sa - sb + (sh : Int)) = true := by rw [decide_eq_true_eq]; exact hroom
          rw [if_pos hroom] at hV
          go_wp2
          go_ret
          exact ⟨by rw [hV.out] <;> rfl, ⟨q, by rw [hV.out], by rw [hV.out]; exact HS6.out.below BX.out, fun k hk => .inl hk⟩, Ch2.of_below (XX.out.2.2.2.2.trans (BX.out.mono XX.out.2.2.2.2.size)) g v⟩
        · have t9 : decide (cap < (U : Int) + (size : Int) - sa - sb + (sh : Int)) = false := by rw [decide_eq_false_iff_not]; exact hroom
          rw [if_neg hroom] at hV
          have HPc := Kp.mk (fun W => vput_any v ⟨q.gen + 1, q.base, q.snap, a5, q.ll + 1, c5, putF1 q.lf q.ll tk⟩ W)
          unfold HdV.v at HPc
          simp only [] at HPc
          go_wp2_with fail
          clear v1 v2 v3 v4 t9 hroom k8
          go_region_held3 (fun w' => w'.cell? ⟨w.heap.size, 0, none⟩ = some (.pointer (some ⟨v, 0, none⟩)) ∧ (w'.cell? ⟨hb, 0, none⟩ = some (.int .i64 (q.gen + 1)) ∧ w'.cell? ⟨hb, 1, none⟩ = some (.int .i64 q.base) ∧ w'.cell? ⟨hb, 2, none⟩ = some (.int .i64 q.snap) ∧ w'.cell? ⟨hb, 3, none⟩ = some (.slice a5 (q.ll + 1) c5))) (go_keep)
            (first
              | (go_at_call 77; refine (HPc.out _).mono ?_; rintro e wq ⟨rfl, hwq⟩; have HWQ := Kp.mk hwq; have BQ : Kp (Below w6.heap.size w6 wq) := ⟨by rw [hwq]; first | exact ((BX.out.alloc BX.out.size _).alloc (by have := BX.out.size; simp; omega) _) | exact ((BX.out.drew.alloc BX.out.size _).alloc (by have := BX.out.size; simp; omega) _)⟩; obtain ⟨k1, k2, k3, ⟨k4, k5, k6, k7⟩, k8⟩ := HDX.out _ BQ.out; clear hwq)
              | (go_at_call 57; have B7 := BQ.out.alloc BQ.out.size (.cells #[.func (.func 49) #[.pointer (some ⟨v, 0, none⟩)] #[], .func (.func 91) #[] #[.pointer (some ⟨w.heap.size, 0, none⟩), .pointer (some ⟨tb, 0, none⟩)], .func (.func 103) #[] #[.pointer (some ⟨wu.heap.size, 0, none⟩), .pointer (some ⟨wu.heap.size + 1, 0, none⟩)]] 34); have hq1 := heap_first wu.drew (.cells #[.pointer (some ⟨v, 0, none⟩)] 30) (.cells #[.int .i64 (q.gen + 1), .int .i64 q.base, .int .i64 q.snap, .slice a5 (q.ll + 1) c5] 38); have hq2 := heap_second wu.drew (.cells #[.pointer (some ⟨v, 0, none⟩)] 30) (.cells #[.int .i64 (q.gen + 1), .int .i64 q.base, .int .i64 q.snap, .slice a5 (q.ll + 1) c5] 38); rw [← HWQ.out] at hq1 hq2; have hq1 := (Below.heap_alloc wq (.cells #[.func (.func 49) #[.pointer (some ⟨v, 0, none⟩)] #[], .func (.func 91) #[] #[.pointer (some ⟨w.heap.size, 0, none⟩), .pointer (some ⟨tb, 0, none⟩)], .func (.func 103) #[] #[.pointer (some ⟨wu.heap.size, 0, none⟩), .pointer (some ⟨wu.heap.size + 1, 0, none⟩)]] 34) _ (lt_of_block' hq1)).trans hq1; have hq2 := (Below.heap_alloc wq (.cells #[.func (.func 49) #[.pointer (some ⟨v, 0, none⟩)] #[], .func (.func 91) #[] #[.pointer (some ⟨w.heap.size, 0, none⟩), .pointer (some ⟨tb, 0, none⟩)], .func (.func 103) #[] #[.pointer (some ⟨wu.heap.size, 0, none⟩), .pointer (some ⟨wu.heap.size + 1, 0, none⟩)]] 34) _ (lt_of_block' hq2)).trans hq2; have hs1 := HB2.out.size; have hs2 := XX.out.2.2.2.2.size; have hs3 := BX.out.size; have hs4 := BQ.out.size; have hgt := TJ0.out.gt; have hgh := TJ0.out.gh; obtain ⟨e1, e2, e3, ⟨e4, e5, e6, e7⟩, e8⟩ := HDX.out _ B7;
                  refine (turn_all _ g v w.heap.size tb wq.heap.size wu.heap.size (wu.heap.size + 1) D q ⟨q.gen + 1, q.base, q.snap, a5, q.ll + 1, c5, putF1 q.lf q.ll tk⟩ m n (HS6.out.below B7) (may_log HM.out).1 (heap_alloc_new wq _) e1 (by rw [HTk.out]; exact e3) (one_cell hq1) hq2 (XX.out.2.2.2.1.below B7) (fun k hk => by have h1 := N5.out.new k hk; constructor <;> omega) HFw.out (by rw [HTk.out]; exact HPv.out) (by constructor <;> omega) (by constructor <;> omega) (by constructor <;> omega) (by constructor <;> omega) (by constructor <;> omega)).mono ?_; rintro e w8 ⟨rfl, ⟨p', hp', s8, hor⟩, c8⟩; have k1 := c8.cell e1 (by omega) (by omega); have k4 := c8.cell e4 (by omega) (by omega); have k5 := c8.cell e5 (by omega) (by omega); have k6 := c8.cell e6 (by omega) (by omega); have k7 := c8.cell e7 (by omega) (by omega); have H8 := Kp.mk (And.intro hp' (And.intro s8 (And.intro hor ((Ch2.of_below (XX.out.2.2.2.2.trans (B7.mono XX.out.2.2.2.2.size)) g v).trans c8)))); have HNw : Kp (∀ k, blk (.slice a5 (q.ll + 1) c5) = some k → w.heap.size ≤ k) := ⟨fun k hk => by have h1 := N5.out.new k hk; omega⟩; clear hp' s8 hor c8 hq1 hq2 B7 e1 e2 e3 e4 e5 e6 e7 e8))
          all_goals go_wp2
          all_goals go_ret
          all_goals exact ⟨by rw [hV.out] <;> rfl, ⟨p', by rw [hV.out]; exact H8.out.1, by rw [hV.out]; exact H8.out.2.1, fun k hk => H8.out.2.2.1.elim (fun e => .inl (by rw [e] at hk; exact hk)) (fun e => .inr (HNw.out k (by rw [e] at hk; exact hk)))⟩, H8.out.2.2.2⟩
end Go.Proofs.YtpfoekfbcpinlaaGreatDoor
/- vault: Sync, the closures of Lay. -/
namespace Go.Proofs.YtpfoekfbcpinlaaGreatDoor
open Go.RowKit
set_option linter.unusedVariables false

theorem vSync_any (g v : Nat) (D : DiskV) (q : HdV) (m : Int) (n : Nat) (w : World) (h : VS w g v D q m n) (hl : 0 < q.ll) :
    Calls Tryz.prog 12 #[.pointer (some ⟨v, 0, none⟩)] w fun e w' => e = .returned (.int .i64 (syncV D (lastT q.hv)).1) ∧ VS w' g v (syncV D (lastT q.hv)).2 q m n ∧ Ch2 w w' g v := by
  have HS := Kp.mk (vsync_any g v D q m n w h hl)
  generalize syncV D (lastT q.hv) = P at HS ⊢
  obtain ⟨z, D1⟩ := P
  simp only [] at HS ⊢
  clear h
  go_enter Tryz.func12, Tryz.ntmps12
  go_wp2_with fail
  refine HS.out.mono ?_
  rintro e w1 ⟨rfl, s1, c1⟩
  have H := Kp.mk (And.intro s1 c1)
  clear s1 c1
  go_wp2
  go_ret
  exact ⟨rfl, H.out.1, H.out.2⟩
set_option maxRecDepth 20000 in
theorem lay1_any (g v vb tb : Nat) (t : Int) (D : DiskV) (q : HdV) (m : Int) (n : Nat) (w : World) (h : VS w g v D q m n) (hv : w.cell? ⟨vb, 0, none⟩ = some (.pointer (some ⟨v, 0, none⟩))) (htb : w.cell? ⟨tb, 0, none⟩ = some (.int .i64 t)) (h1 : vb ≠ g ∧ vb ≠ v) (h2 : tb ≠ g ∧ tb ≠ v) :
    Calls Tryz.prog 72 #[.pointer (some ⟨vb, 0, none⟩), .pointer (some ⟨tb, 0, none⟩)] w fun e w' => e = .returned (.int .i64 (wipeV D t).1) ∧ VS w' g v (wipeV D t).2 q m n ∧ Ch2 w w' g v := by
  have k0 := h.vlt.c0
  have HW := Kp.mk ((Wipe_any g D t w.drew h.drew.disk h.ok).mono fun e w' (hh : _ ∧ _ ∧ _) => And.intro hh.1 (And.intro (h.drew.chg hh.2.2 hh.2.1 (h.ok.wipe _)) ((Ch2.refl w g v).dr.trans (Ch2.of_chg hh.2.2 v))))
  have HK : Kp (∀ W, Ch2 w W g v → W.cell? ⟨vb, 0, none⟩ = some (.pointer (some ⟨v, 0, none⟩)) ∧ W.cell? ⟨tb, 0, none⟩ = some (.int .i64 t)) := ⟨fun W c => ⟨c.cell hv h1.1 h1.2, c.cell htb h2.1 h2.2⟩⟩
  generalize wipeV D t = P at HW ⊢
  obtain ⟨z, D1⟩ := P
  simp only [] at HW ⊢
  clear h
  go_enter Tryz.func72, Tryz.ntmps72
  go_wp2_with fail
  go_region_held3 (fun w' => w'.cell? ⟨vb, 0, none⟩ = some (.pointer (some ⟨v, 0, none⟩)) ∧ w'.cell? ⟨tb, 0, none⟩ = some (.int .i64 t) ∧ w'.cell? ⟨v, 0, none⟩ = some (.pointer (some ⟨g, 0, none⟩))) (go_keep)
    (first
      | (go_at_call 73; refine HW.out.mono ?_; rintro e wu ⟨rfl, s1, c1⟩; obtain ⟨hv, htb⟩ := HK.out _ c1; have k0 := s1.vlt.c0; have H := Kp.mk (And.intro s1 c1); clear s1 c1))
  go_wp2
  go_ret
  exact ⟨rfl, H.out.1, H.out.2⟩
set_option maxRecDepth 20000 in
theorem lay4_any (g v vb tb : Nat) (t : Int) (D : DiskV) (q : HdV) (m : Int) (n : Nat) (w : World) (h : VS w g v D q m n) (hv : w.cell? ⟨vb, 0, none⟩ = some (.pointer (some ⟨v, 0, none⟩))) (htb : w.cell? ⟨tb, 0, none⟩ = some (.int .i64 t)) (h1 : vb ≠ g ∧ vb ≠ v) (h2 : tb ≠ g ∧ tb ≠ v) :
    Calls Tryz.prog 76 #[.pointer (some ⟨vb, 0, none⟩), .pointer (some ⟨tb, 0, none⟩)] w fun e w' => e = .returned (.int .i64 (wipeV D t).1) ∧ VS w' g v (wipeV D t).2 q m n ∧ Ch2 w w' g v := by
  have k0 := h.vlt.c0
  have HW := Kp.mk ((Wipe_any g D t w.drew h.drew.disk h.ok).mono fun e w' (hh : _ ∧ _ ∧ _) => And.intro hh.1 (And.intro (h.drew.chg hh.2.2 hh.2.1 (h.ok.wipe _)) ((Ch2.refl w g v).dr.trans (Ch2.of_chg hh.2.2 v))))
  have HK : Kp (∀ W, Ch2 w W g v → W.cell? ⟨vb, 0, none⟩ = some (.pointer (some ⟨v, 0, none⟩)) ∧ W.cell? ⟨tb, 0, none⟩ = some (.int .i64 t)) := ⟨fun W c => ⟨c.cell hv h1.1 h1.2, c.cell htb h2.1 h2.2⟩⟩
  generalize wipeV D t = P at HW ⊢
  obtain ⟨z, D1⟩ := P
  simp only [] at HW ⊢
  clear h
  go_enter Tryz.func76, Tryz.ntmps76
  go_wp2_with fail
  go_region_held3 (fun w' => w'.cell? ⟨vb, 0, none⟩ = some (.pointer (some ⟨v, 0, none⟩)) ∧ w'.cell? ⟨tb, 0, none⟩ = some (.int .i64 t) ∧ w'.cell? ⟨v, 0, none⟩ = some (.pointer (some ⟨g, 0, none⟩))) (go_keep)
    (first
      | (go_at_call 73; refine HW.out.mono ?_; rintro e wu ⟨rfl, s1, c1⟩; obtain ⟨hv, htb⟩ := HK.out _ c1; have k0 := s1.vlt.c0; have H := Kp.mk (And.intro s1 c1); clear s1 c1))
  go_wp2
  go_ret
  exact ⟨rfl, H.out.1, H.out.2⟩
set_option maxRecDepth 20000 in
theorem lay6_any (g v vb tb : Nat) (t : Int) (D : DiskV) (q : HdV) (m : Int) (n : Nat) (w : World) (h : VS w g v D q m n) (hv : w.cell? ⟨vb, 0, none⟩ = some (.pointer (some ⟨v, 0, none⟩))) (htb : w.cell? ⟨tb, 0, none⟩ = some (.int .i64 t)) (h1 : vb ≠ g ∧ vb ≠ v) (h2 : tb ≠ g ∧ tb ≠ v) :
    Calls Tryz.prog 80 #[.pointer (some ⟨vb, 0, none⟩), .pointer (some ⟨tb, 0, none⟩)] w fun e w' => e = .returned (.int .i64 (wipeV D t).1) ∧ VS w' g v (wipeV D t).2 q m n ∧ Ch2 w w' g v := by
  have k0 := h.vlt.c0
  have HW := Kp.mk ((Wipe_any g D t w.drew h.drew.disk h.ok).mono fun e w' (hh : _ ∧ _ ∧ _) => And.intro hh.1 (And.intro (h.drew.chg hh.2.2 hh.2.1 (h.ok.wipe _)) ((Ch2.refl w g v).dr.trans (Ch2.of_chg hh.2.2 v))))
  have HK : Kp (∀ W, Ch2 w W g v → W.cell? ⟨vb, 0, none⟩ = some (.pointer (some ⟨v, 0, none⟩)) ∧ W.cell? ⟨tb, 0, none⟩ = some (.int .i64 t)) := ⟨fun W c => ⟨c.cell hv h1.1 h1.2, c.cell htb h2.1 h2.2⟩⟩
  generalize wipeV D t = P at HW ⊢
  obtain ⟨z, D1⟩ := P
  simp only [] at HW ⊢
  clear h
  go_enter Tryz.func80, Tryz.ntmps80
  go_wp2_with fail
  go_region_held3 (fun w' => w'.cell? ⟨vb, 0, none⟩ = some (.pointer (some ⟨v, 0, none⟩)) ∧ w'.cell? ⟨tb, 0, none⟩ = some (.int .i64 t) ∧ w'.cell? ⟨v, 0, none⟩ = some (.pointer (some ⟨g, 0, none⟩))) (go_keep)
    (first
      | (go_at_call 73; refine HW.out.mono ?_; rintro e wu ⟨rfl, s1, c1⟩; obtain ⟨hv, htb⟩ := HK.out _ c1; have k0 := s1.vlt.c0; have H := Kp.mk (And.intro s1 c1); clear s1 c1))
  go_wp2
  go_ret
  exact ⟨rfl, H.out.1, H.out.2⟩
set_option maxRecDepth 20000 in
theorem lay3_any (g v vb tb : Nat) (t : Int) (D : DiskV) (q : HdV) (m : Int) (n : Nat) (w : World) (h : VS w g v D q m n) (hv : w.cell? ⟨vb, 0, none⟩ = some (.pointer (some ⟨v, 0, none⟩))) (htb : w.cell? ⟨tb, 0, none⟩ = some (.int .i64 t)) (h1 : vb ≠ g ∧ vb ≠ v) (h2 : tb ≠ g ∧ tb ≠ v) :
    Calls Tryz.prog 75 #[.pointer (some ⟨vb, 0, none⟩), .pointer (some ⟨tb, 0, none⟩)] w fun e w' => e = .returned (.int .i64 (syncV D t).1) ∧ VS w' g v (syncV D t).2 q m n ∧ Ch2 w w' g v := by
  have k0 := h.vlt.c0
  have HW := Kp.mk ((Sync_any g D t w.drew h.drew.disk h.ok).mono fun e w' (hh : _ ∧ _ ∧ _) => And.intro hh.1 (And.intro (h.drew.chg hh.2.2 hh.2.1 (h.ok.sync _)) ((Ch2.refl w g v).dr.trans (Ch2.of_chg hh.2.2 v))))
  have HK : Kp (∀ W, Ch2 w W g v → W.cell? ⟨vb, 0, none⟩ = some (.pointer (some ⟨v, 0, none⟩)) ∧ W.cell? ⟨tb, 0, none⟩ = some (.int .i64 t)) := ⟨fun W c => ⟨c.cell hv h1.1 h1.2, c.cell htb h2.1 h2.2⟩⟩
  generalize syncV D t = P at HW ⊢
  obtain ⟨z, D1⟩ := P
  simp only [] at HW ⊢
  clear h
  go_enter Tryz.func75, Tryz.ntmps75
  go_wp2_with fail
  go_region_held3 (fun w' => w'.cell? ⟨vb, 0, none⟩ = some (.pointer (some ⟨v, 0, none⟩)) ∧ w'.cell? ⟨tb, 0, none⟩ = some (.int .i64 t) ∧ w'.cell? ⟨v, 0, none⟩ = some (.pointer (some ⟨g, 0, none⟩))) (go_keep)
    (first
      | (go_at_call 16; refine HW.out.mono ?_; rintro e wu ⟨rfl, s1, c1⟩; obtain ⟨hv, htb⟩ := HK.out _ c1; have k0 := s1.vlt.c0; have H := Kp.mk (And.intro s1 c1); clear s1 c1))
  go_wp2
  go_ret
  exact ⟨rfl, H.out.1, H.out.2⟩
set_option maxRecDepth 20000 in
theorem lay2_any (g v vb tb sb : Nat) (t : Int) (s : ByteArray) (D : DiskV) (q : HdV) (m : Int) (n : Nat) (w : World) (h : VS w g v D q m n) (hv : w.cell? ⟨vb, 0, none⟩ = some (.pointer (some ⟨v, 0, none⟩))) (htb : w.cell? ⟨tb, 0, none⟩ = some (.int .i64 t)) (hsb : w.cell? ⟨sb, 0, none⟩ = some (.string s)) (hsz : s.size ≤ maxLen) (h1 : vb ≠ g ∧ vb ≠ v) (h2 : tb ≠ g ∧ tb ≠ v) (h3 : sb ≠ g ∧ sb ≠ v) :
    Calls Tryz.prog 74 #[.pointer (some ⟨vb, 0, none⟩), .pointer (some ⟨tb, 0, none⟩), .pointer (some ⟨sb, 0, none⟩)] w fun e w' => e = .returned (.int .i64 (writeV D t s).1) ∧ VS w' g v (writeV D t s).2 q m n ∧ Ch2 w w' g v := by
  have k0 := h.vlt.c0
  have HW := Kp.mk ((Write_any g D t s w.drew h.drew.disk h.ok hsz).mono fun e w' (hh : _ ∧ _ ∧ _) => And.intro hh.1 (And.intro (h.drew.chg hh.2.2 hh.2.1 (h.ok.write _ _)) ((Ch2.refl w g v).dr.trans (Ch2.of_chg hh.2.2 v))))
  have HK : Kp (∀ W, Ch2 w W g v → W.cell? ⟨vb, 0, none⟩ = some (.pointer (some ⟨v, 0, none⟩)) ∧ W.cell? ⟨tb, 0, none⟩ = some (.int .i64 t) ∧ W.cell? ⟨sb, 0, none⟩ = some (.string s)) := ⟨fun W c => ⟨c.cell hv h1.1 h1.2, c.cell htb h2.1 h2.2, c.cell hsb h3.1 h3.2⟩⟩
  generalize writeV D t s = P at HW ⊢
  obtain ⟨z, D1⟩ := P
  simp only [] at HW ⊢
  clear h
  go_enter Tryz.func74, Tryz.ntmps74
  go_wp2_with fail
  go_region_held3 (fun w' => w'.cell? ⟨vb, 0, none⟩ = some (.pointer (some ⟨v, 0, none⟩)) ∧ w'.cell? ⟨tb, 0, none⟩ = some (.int .i64 t) ∧ w'.cell? ⟨sb, 0, none⟩ = some (.string s) ∧ w'.cell? ⟨v, 0, none⟩ = some (.pointer (some ⟨g, 0, none⟩))) (go_keep)
    (first
      | (go_at_call 15; refine HW.out.mono ?_; rintro e wu ⟨rfl, s1, c1⟩; obtain ⟨hv, htb, hsb⟩ := HK.out _ c1; have k0 := s1.vlt.c0; have H := Kp.mk (And.intro s1 c1); clear s1 c1))
  go_wp2
  go_ret
  exact ⟨rfl, H.out.1, H.out.2⟩
theorem lay5_any (g v vb : Nat) (D : DiskV) (q : HdV) (m : Int) (n : Nat) (w : World) (h : VS w g v D q m n) (hv : w.cell? ⟨vb, 0, none⟩ = some (.pointer (some ⟨v, 0, none⟩))) :
    Calls Tryz.prog 78 #[.pointer (some ⟨vb, 0, none⟩)] w fun e w' => e = .returned (.int .i64 0) ∧ VS w' g v D q m 0 ∧ Ch2 w w' g v := by
  have c6 := h.vlt.c6
  have fr := h.vlt.free 6
  have H := Kp.mk (h.since 0)
  clear h
  go_enter Tryz.func78, Tryz.ntmps78
  go_wp2
  go_ret
  exact ⟨rfl, H.out, Ch2.setv _ _ _ _ _⟩
end Go.Proofs.YtpfoekfbcpinlaaGreatDoor
/- vault: Add. -/
namespace Go.Proofs.YtpfoekfbcpinlaaGreatDoor
open Go.RowKit
set_option linter.unusedVariables false

def recB (s : ByteArray) : ByteArray := B (Fr.fr 1 s.data.toList)
theorem recB_size (s : ByteArray) : (recB s).size = s.size + 9 := by
  unfold recB; rw [B_size, Fr.fr_length]; rfl
def addW (D : DiskV) (h : Hd.HV) (n : Nat) (F : ByteArray) : Int × DiskV × Hd.HV × Nat :=
  ((writeV D (lastT h) F).1, (writeV D (lastT h) F).2, h, if (writeV D (lastT h) F).1 = 0 then n + 1 else n)
def addV (D : DiskV) (h : Hd.HV) (m : Int) (n : Nat) (s : ByteArray) : Int × DiskV × Hd.HV × Nat :=
  if 262144 < s.size ∨ 1099511627776 ≤ h.base + n then (40, D, h, n) else if D.down = true then (45, D, h, n)
  else if 0 < sizeF D (lastT h).toNat ∧ m < sizeF D (lastT h).toNat + ((recB s).size : Int) then
    (if (turnV D h (recB s).size).1 ≠ 0 then ((turnV D h (recB s).size).1, (turnV D h (recB s).size).2.1, (turnV D h (recB s).size).2.2, n) else addW (turnV D h (recB s).size).2.1 (turnV D h (recB s).size).2.2 n (recB s))
  else if D.cap < (used D.tp 32 : Int) + ((recB s).size : Int) then (44, D, h, n) else addW D h n (recB s)
theorem turnV_log {D : DiskV} {h : Hd.HV} {k : Nat} (h0 : (turnV D h k).1 = 0) (hl : h.log ≠ []) : (turnV D h k).2.2.log ≠ [] := by
  unfold turnV turnG at *
  repeat' split
  all_goals first
    | exact hl
    | (unfold nextH; simp)
theorem lastT_in {q : HdV} (h : q.hv.may = true) : ∃ k : Nat, lastT q.hv = k ∧ 2 ≤ k ∧ k < 32 := by
  have h1 := (Hd.may_first h).2.2.2.2.1
  have h2 := (Hd.may_tapes h).2 (lastT q.hv) (by
    unfold lastT
    rw [List.getLastD_eq_getLast?]
    cases hl : q.hv.log.getLast? with
    | none => exact absurd (List.getLast?_eq_none_iff.1 hl) h1
    | some x => exact List.mem_of_getLast? hl)
  exact ⟨(lastT q.hv).toNat, by omega, by omega, by omega⟩
theorem log_pos {q : HdV} (h : q.hv.log ≠ []) : 0 < q.ll := by
  rcases Nat.eq_zero_or_pos q.ll with e | e
  · exact absurd (by show rowI q.lf q.ll = []; rw [e]; rfl) h
  · exact e
set_option maxRecDepth 20000 in
set_option maxHeartbeats 4000000 in
theorem Add_any (g v : Nat) (D : DiskV) (q : HdV) (m : Int) (n : Nat) (s : ByteArray) (w : World) (h : VS w g v D q m n) (hm : q.hv.may = true) (hn : n ≤ 1000000000000) (hs : s.size ≤ 140737488351000) :
    Calls Tryz.prog 11 #[.pointer (some ⟨v, 0, none⟩), .string s] w fun e w' => e = .returned (.int .i64 (addV D q.hv m n s).1) ∧ (∃ p' : HdV, p'.hv = (addV D q.hv m n s).2.2.1 ∧ VS w' g v (addV D q.hv m n s).2.1 p' m (addV D q.hv m n s).2.2.2 ∧ ∀ k, blk (.slice p'.lo p'.ll p'.lc) = some k → blk (.slice q.lo q.ll q.lc) = some k ∨ w.heap.size ≤ k) ∧ Ch2 w w' g v := by
  have H0 := Kp.mk h
  have HM := Kp.mk hm
  have hb := Hd.may_first hm
  have hbase : q.hv.base = q.base := rfl
  have HC := Kp.mk (Count_any g v D q m n w h (by have := hb.2.2.1; rw [hbase] at this; exact this) (by have := hb.2.2.2.1; rw [hbase] at this; omega))
  have k0 := h.vlt.c0
  have hdr : ∀ k, Below w.heap.size w (w.drewN k) := fun k => ⟨rfl, rfl, rfl, Nat.le_refl _, fun _ _ => rfl⟩
  have HDr := Kp.mk hdr
  have hbb : Kp (0 ≤ q.base ∧ q.base ≤ 1099511627776) := ⟨by rw [← hbase]; exact ⟨hb.2.2.1, hb.2.2.2.1⟩⟩
  clear h hm hb
  by_cases hbig : 262144 < s.size
  · have hV : Kp (addV D q.hv m n s = (40, D, q.hv, n)) := ⟨by unfold addV; rw [if_pos (.inl hbig)]⟩
    have i1 : decide ((262144 : Int) < (s.size : Int)) = true := by rw [decide_eq_true_eq]; omega
    clear hbase
    go_enter Tryz.func11, Tryz.ntmps11
    go_wp2
    go_ret
    exact ⟨by rw [hV.out] <;> rfl, ⟨q, by rw [hV.out], by rw [hV.out]; exact H0.out, fun k hk => .inl hk⟩, Ch2.refl _ _ _⟩
  · have i1 : decide ((262144 : Int) < (s.size : Int)) = false := by rw [decide_eq_false_iff_not]; omega
    by_cases hcount : 1099511627776 ≤ q.base + n
    · have hV : Kp (addV D q.hv m n s = (40, D, q.hv, n)) := ⟨by unfold addV; rw [if_pos (.inr (by rw [hbase]; exact hcount))]⟩
      have i2 : decide ((1099511627776 : Int) ≤ q.base + n) = true := by rw [decide_eq_true_eq]; exact hcount
      clear hbase
      go_enter Tryz.func11, Tryz.ntmps11
      go_wp2_with fail
      refine HC.out.mono ?_
      rintro e w1 ⟨rfl, k, rfl⟩
      go_wp2
      go_ret
      exact ⟨by rw [hV.out] <;> rfl, ⟨q, by rw [hV.out], by rw [hV.out]; exact H0.out.drewN _, fun k hk => .inl hk⟩, Ch2.drewN _ _ _ _⟩
    · have i2 : decide ((1099511627776 : Int) ≤ q.base + n) = false := by rw [decide_eq_false_iff_not]; exact hcount
      by_cases hd : D.down = true
      · have hV : Kp (addV D q.hv m n s = (45, D, q.hv, n)) := ⟨by unfold addV; rw [if_neg (by rintro (h | h); exact hbig h; rw [hbase] at h; exact hcount h), if_pos hd]⟩
        have HU := Kp.mk (fun k => Up_any g D (w.drewN k) (H0.out.drewN k).disk)
        rw [hd] at HU
        clear hbase hd
        go_enter Tryz.func11, Tryz.ntmps11
        go_wp2_with fail
        refine HC.out.mono ?_
        rintro e w1 ⟨rfl, k, rfl⟩
        have k1 := (H0.out.drewN k).vlt.c0
        go_wp2_with fail
        refine (HU.out k).mono ?_
        rintro e w1 ⟨rfl, rfl⟩
        go_wp2
        go_ret
        exact ⟨by rw [hV.out] <;> rfl, ⟨q, by rw [hV.out], by rw [hV.out]; exact H0.out.drewN _, fun k hk => .inl hk⟩, Ch2.drewN _ _ _ _⟩
      · have hd' : D.down = false := by simpa using hd
        have hV : Kp (addV D q.hv m n s = if 0 < sizeF D (lastT q.hv).toNat ∧ m < sizeF D (lastT q.hv).toNat + ((recB s).size : Int) then
    (if (turnV D q.hv (recB s).size).1 ≠ 0 then ((turnV D q.hv (recB s).size).1, (turnV D q.hv (recB s).size).2.1, (turnV D q.hv (recB s).size).2.2, n) else addW (turnV D q.hv (recB s).size).2.1 (turnV D q.hv (recB s).size).2.2 n (recB s))
  else if D.cap < (used D.tp 32 : Int) + ((recB s).size : Int) then (44, D, q.hv, n) else addW D q.hv n (recB s)) := ⟨by unfold addV; rw [if_neg (by rintro (h | h); exact hbig h; rw [hbase] at h; exact hcount h), if_neg hd]⟩
        have HU := Kp.mk (fun k => Up_any g D (w.drewN k) (H0.out.drewN k).disk)
        rw [hd'] at HU
        have HMk := Kp.mk (fun W (hW : Below w.heap.size w W) => (Make_any 1 s W (by decide) hs (H0.out.below hW).tab.now).mono fun e w' (hh : _ ∧ _) => And.intro (hh.1.trans (show makeE 1 s = .returned (.tuple #[.string (recB s), .int .i64 (0 : Nat)]) from by unfold makeE makeV; rw [if_neg (by decide), if_neg hbig]; rfl)) (hW.trans (hh.2.mono hW.size)))
        have hFz := recB_size s
        have HFz : Kp ((recB s).size ≤ 262153) := ⟨by omega⟩
        generalize recB s = F at *
        have HBy := Kp.mk (fun W (hW : Below w.heap.size w W) => (bytes_any g D W (H0.out.below hW).disk H0.out.ok))
        have HLa := Kp.mk (fun W (hW : Below w.heap.size w W) => last_any g v D q m n W (H0.out.below hW) (may_log HM.out).1)
        obtain ⟨lk, hlk, hl2, hl32⟩ := lastT_in HM.out
        rw [hlk] at HLa
        have HLk := Kp.mk hlk
        rw [hlk, Int.toNat_natCast] at hV
        clear hbase hd hFz hlk
        go_enter Tryz.func11, Tryz.ntmps11
        go_wp2_with fail
        refine HC.out.mono ?_
        rintro e w1 ⟨rfl, k, rfl⟩
        have k1 := (H0.out.drewN k).vlt.c0
        go_wp2_with fail
        refine (HU.out k).mono ?_
        rintro e w1 ⟨rfl, rfl⟩
        go_wp2_with fail
        refine (HMk.out _ (HDr.out k)).mono ?_
        rintro e w2 ⟨rfl, b2⟩
        have B2 := Kp.mk b2
        have k2 := (H0.out.below b2).vlt.c0
        clear k1 b2
        go_wp2_with fail
        refine (HBy.out _ B2.out).mono ?_
        rintro e w3 ⟨ao, nc, rfl, hr, hnw⟩
        have B3 : Kp (Below w.heap.size w w3) := ⟨B2.out.trans (hnw.below.mono B2.out.size)⟩
        have HR := Kp.mk hr
        clear hr hnw k2
        go_wp2_with fail
        refine (HLa.out _ B3.out).mono ?_
        rintro e w4 ⟨rfl, k4, rfl⟩
        obtain ⟨nq, ncp, hnv, _, _, _, _⟩ := HR.out.at_ (by decide)
        simp only [Value.slice.injEq] at hnv
        obtain ⟨rfl, _, rfl⟩ := hnv
        have B4 : Kp (Below w.heap.size w (w3.drewN k4)) := ⟨B3.out.trans ⟨rfl, rfl, rfl, Nat.le_refl _, fun _ _ => rfl⟩⟩
        have S4 := Kp.mk (H0.out.below B4.out)
        have R4 : Kp (RK 1 (w3.drewN k4) (.slice (some ⟨nq, 0, none⟩) 32 nc) 32 (numL (sizeF D) 32)) := ⟨HR.out.below ⟨rfl, rfl, rfl, Nat.le_refl _, fun _ _ => rfl⟩⟩
        have x4 := R4.out.cell lk _ (numL_get _ _ _ hl32)
        have v0 := S4.out.vlt.c0
        have v5 := S4.out.vlt.c5
        have B4' := Kp.mk B4.out.size
        have i3 : (0 : Int) ≤ (lk : Int) := by omega
        have i4 : (lk : Int) < 32 := by omega
        have hsl : 0 ≤ sizeF D lk ∧ sizeF D lk ≤ 1048576 := ⟨by unfold sizeF; omega, by unfold sizeF; have := H0.out.ok.most lk hl32; omega⟩
        have hFz := HFz.out
        have hTu := Kp.mk (turn_any g v D q m n F.size (some ⟨nq, 0, none⟩) nc (w3.drewN k4) S4.out hd' HM.out R4.out (by omega))
        have hTl := Kp.mk (fun (h0 : (turnV D q.hv F.size).1 = 0) => turnV_log h0 (Hd.may_first HM.out).2.2.2.2.1)
        have hUs := Kp.mk (fun W (hW : Below (w3.drewN k4).heap.size (w3.drewN k4) W) => (Used_any g D W (S4.out.below hW).disk H0.out.ok.most).mono fun e w' (hh : _ ∧ _) => And.intro hh.1 (hW.trans (hh.2.mono hW.size)))
        have hCa := Kp.mk (fun W (hW : Below (w3.drewN k4).heap.size (w3.drewN k4) W) => (Capacity_any g D W (S4.out.below hW).disk).mono fun e w' (hh : _ ∧ W = w') => And.intro hh.1 (show Below (w3.drewN k4).heap.size (w3.drewN k4) w' from hh.2 ▸ hW))
        have HV0 : Kp (∀ W, Below (w3.drewN k4).heap.size (w3.drewN k4) W → W.cell? ⟨v, 0, none⟩ = some (.pointer (some ⟨g, 0, none⟩))) := ⟨fun W hW => (S4.out.below hW).vlt.c0⟩
        have hus := used_le H0.out.ok.most 32 (Nat.le_refl _)
        have hcap := H0.out.ok.cap2
        clear hdr
        generalize w3.drewN k4 = w4 at *
        generalize sizeF D lk = here at *
        have n1 : IntKind.i64.wrap (here + (F.size : Int)) = here + (F.size : Int) := by rw [IntKind.wrap_i64]; omega
        go_upto_region 10 with fail
        go_cut [57] from 45 to 57 (fun c wx => c = .bool (decide (0 < here ∧ m < here + (F.size : Int))) ∧ w4 = wx)
        case first =>
          by_cases c1 : 0 < here
          · have e1 : decide (0 < here) = true := by rw [decide_eq_true_eq]; exact c1
            by_cases c2 : m < here + (F.size : Int)
            · have e2 : decide (m < here + (F.size : Int)) = true := by rw [decide_eq_true_eq]; exact c2
              have e3 : Kp (decide (0 < here ∧ m < here + (F.size : Int)) = true) := ⟨by rw [decide_eq_true_eq]; exact ⟨c1, c2⟩⟩
              go_wp2_with fail
              go_meet
              exact ⟨by rw [e3.out], rfl⟩
            · have e2 : decide (m < here + (F.size : Int)) = false := by rw [decide_eq_false_iff_not]; exact c2
              have e3 : Kp (decide (0 < here ∧ m < here + (F.size : Int)) = false) := ⟨by rw [decide_eq_false_iff_not]; exact fun h => c2 h.2⟩
              go_wp2_with fail
              go_meet
              exact ⟨by rw [e3.out], rfl⟩
          · have e1 : decide (0 < here) = false := by rw [decide_eq_false_iff_not]; exact c1
            have e3 : Kp (decide (0 < here ∧ m < here + (F.size : Int)) = false) := ⟨by rw [decide_eq_false_iff_not]; exact fun h => c1 h.1⟩
            go_wp2_with fail
            go_meet
            exact ⟨by rw [e3.out], rfl⟩
        case rest =>
        obtain ⟨rfl, rfl⟩ := hcut
        generalize hbl : decide (0 < here ∧ m < here + (F.size : Int)) = bl
        have HBl := Kp.mk hbl
        clear hbl
        go_upto_if 57 with fail
        go_cut [] from 58 to 79 (fun wx => ∃ (D1 : DiskV) (p1 : HdV), addV D q.hv m n s = addW D1 p1.hv n F ∧ VS wx g v D1 p1 m n ∧ 0 < p1.ll ∧ (∀ k, blk (.slice p1.lo p1.ll p1.lc) = some k → blk (.slice q.lo q.ll q.lc) = some k ∨ w.heap.size ≤ k) ∧ Ch2 w wx g v)
        case first =>
          by_cases cT : 0 < here ∧ m < here + (F.size : Int)
          · rw [if_pos cT] at hV
            obtain rfl : bl = true := by rw [← HBl.out, decide_eq_true_eq]; exact cT
            have HT : ∃ z D1 h1, turnV D q.hv F.size = (z, D1, h1) := ⟨_, _, _, rfl⟩
            obtain ⟨z, D1, h1, hT⟩ := HT
            rw [hT] at hV hTu hTl
            simp only [] at hV hTu hTl
            clear hT cT
            go_wp2_with fail
            refine hTu.out.mono ?_
            rintro e w5 ⟨rfl, ⟨p', hp', s5, hbk⟩, c5⟩
            have S5 := Kp.mk (And.intro hp' (And.intro s5 (And.intro hbk ((Ch2.of_below B4.out g v).trans c5))))
            clear hp' s5 hbk c5
            by_cases hz : z = 0
            · subst hz
              rw [if_neg (by simp)] at hV
              go_wp2
              go_meet
              exact ⟨D1, p', by rw [hV.out, S5.out.1], S5.out.2.1, log_pos (by rw [S5.out.1]; exact hTl.out (by simp)), fun k hk => (S5.out.2.2.1 k hk).imp id (fun h => by have := B4'.out; omega), S5.out.2.2.2⟩
            · rw [if_pos hz] at hV
              have t9 : (z == 0) = false := by rw [beq_eq_false_iff_ne]; exact hz
              go_wp2
              go_ret
              exact ⟨by rw [hV.out] <;> rfl, ⟨p', by rw [hV.out]; exact S5.out.1, by rw [hV.out]; exact S5.out.2.1, fun k hk => (S5.out.2.2.1 k hk).imp id (fun h => by have := B4'.out; omega)⟩, S5.out.2.2.2⟩
          · rw [if_neg cT] at hV
            obtain rfl : bl = false := by rw [← HBl.out, decide_eq_false_iff_not]; exact cT
            generalize hU : used D.tp 32 = U at *
            generalize hcp : D.cap = cap at *
            have n2 : IntKind.i64.wrap ((U : Int) + (F.size : Int)) = (U : Int) + (F.size : Int) := by rw [IntKind.wrap_i64]; omega
            have BX := Kp.mk (Below.refl w4.heap.size w4)
            clear hU hcp cT
            go_wp2_with fail
            go_region_held3 (fun w' => w'.cell? ⟨v, 0, none⟩ = some (.pointer (some ⟨g, 0, none⟩))) (go_keep)
              (first
                | (go_at_call 35; refine (hUs.out _ (by first | exact BX.out | exact BX.out.drew)).mono ?_; rintro e wu ⟨rfl, hbu⟩; have BX := Kp.mk hbu; have v0 := HV0.out _ hbu; clear hbu)
                | (go_at_call 36; refine (hCa.out _ (by first | exact BX.out | exact BX.out.drew)).mono ?_; rintro e wu ⟨rfl, hbu⟩; have BX := Kp.mk hbu; have v0 := HV0.out _ hbu; clear hbu))
            by_cases hroom : cap < (U : Int) + (F.size : Int)
            · rw [if_pos hroom] at hV
              have t9 : decide (cap < (U : Int) + (F.size : Int)) = true := by rw [decide_eq_true_eq]; exact hroom
              go_wp2
              go_ret
              exact ⟨by rw [hV.out] <;> rfl, ⟨q, by rw [hV.out], by rw [hV.out]; exact S4.out.below BX.out, fun k hk => .inl hk⟩, (Ch2.of_below B4.out g v).trans (Ch2.of_below BX.out g v)⟩
            · rw [if_neg hroom] at hV
              have t9 : decide (cap < (U : Int) + (F.size : Int)) = false := by rw [decide_eq_false_iff_not]; exact hroom
              go_wp2
              go_meet
              exact ⟨D, q, hV.out, S4.out.below BX.out, (may_log HM.out).1, fun k hk => .inl hk, (Ch2.of_below B4.out g v).trans (Ch2.of_below BX.out g v)⟩
        case rest =>
        obtain ⟨D1, p1, hA, s1, hl1, hbk1, c1⟩ := hcut
        have S := Kp.mk s1
        have A := Kp.mk hA
        have HC1 := Kp.mk (And.intro hbk1 c1)
        have hbz : q.base + n < 1099511627776 := hcount
        have u0 := s1.vlt.c0
        have BX := Kp.mk (Below.refl wc.heap.size wc)
        have HL := Kp.mk (fun W (hW : Below wc.heap.size wc W) => (last_any g v D1 p1 m n W (s1.below hW) hl1).mono fun e w' (hh : _ ∧ ∃ k, w' = W.drewN k) => And.intro hh.1 (show Below wc.heap.size wc w' from by obtain ⟨_, k, rfl⟩ := hh; exact ⟨hW.os, hW.tape, hW.output, hW.size, hW.block⟩))
        have HW := Kp.mk (fun W (hW : Below wc.heap.size wc W) => (Write_any g D1 (lastT p1.hv) F W (s1.below hW).disk s1.ok (by unfold maxLen; omega)).mono fun e w' (hh : _ ∧ _ ∧ _) => And.intro hh.1 (And.intro ((s1.below hW).chg hh.2.2 hh.2.1 (s1.ok.write _ _)) ((Ch2.of_below hW g v).trans (Ch2.of_chg hh.2.2 v))))
        have HK : Kp (∀ W, Below wc.heap.size wc W → W.cell? ⟨v, 0, none⟩ = some (.pointer (some ⟨g, 0, none⟩))) := ⟨fun W hW => (s1.below hW).vlt.c0⟩
        unfold addW at A
        clear hA s1 hbk1 c1
        generalize lastT p1.hv = tl at *
        have HT : ∃ z D2, writeV D1 tl F = (z, D2) := ⟨_, _, rfl⟩
        obtain ⟨z, D2, hT⟩ := HT
        rw [hT] at A HW
        simp only [] at A HW
        clear hT
        go_wp2_with fail
        go_region_held3 (fun w' => w'.cell? ⟨v, 0, none⟩ = some (.pointer (some ⟨g, 0, none⟩))) (go_keep)
          (first
            | (go_at_call 47; refine (HL.out _ (by first | exact BX.out | exact BX.out.drew)).mono ?_; rintro e wu ⟨rfl, hbu⟩; have BX := Kp.mk hbu; have u0 := HK.out _ hbu; clear hbu)
            | (go_at_call 15; refine (HW.out _ (by first | exact BX.out | exact BX.out.drew)).mono ?_; rintro e wu ⟨rfl, s2, c2⟩; have u0 := s2.vlt.c0; have u6 := s2.vlt.c6; have uf := s2.vlt.free 6; have S2 := Kp.mk (And.intro s2 (HC1.out.2.trans c2)); have SS := Kp.mk (s2.since (n + 1)); clear s2 c2))
        by_cases hz : z = 0
        · subst hz
          rw [if_pos rfl] at A
          have n3 : IntKind.i64.wrap ((n : Int) + 1) = (n : Int) + 1 := by rw [IntKind.wrap_i64]; omega
          rw [show (((n + 1 : Nat)) : Int) = (n : Int) + 1 from by omega] at SS
          go_wp2
          go_ret
          exact ⟨by rw [A.out] <;> rfl, ⟨p1, by rw [A.out], by rw [A.out]; exact SS.out, HC1.out.1⟩, S2.out.2.trans (Ch2.setv _ _ _ _ _)⟩
        · rw [if_neg hz] at A
          have t9 : (z == 0) = false := by rw [beq_eq_false_iff_ne]; exact hz
          go_wp2
          go_ret
          exact ⟨by rw [A.out] <;> rfl, ⟨p1, by rw [A.out], by rw [A.out]; exact S2.out.1, HC1.out.1⟩, S2.out.2⟩
end Go.Proofs.YtpfoekfbcpinlaaGreatDoor
/- vault: the steps of Lay, one behind the other. -/
namespace Go.Proofs.YtpfoekfbcpinlaaGreatDoor
open Go.RowKit
set_option linter.unusedVariables false

/-- One thing behind the other, up to the first one that errs. -/
def runV (f : Nat → DiskV → Int × DiskV) (D : DiskV) : Nat → Int × DiskV
  | 0 => (0, D)
  | i + 1 => if (runV f D i).1 ≠ 0 then runV f D i else f i (runV f D i).2
theorem runV_err {f : Nat → DiskV → Int × DiskV} {D : DiskV} {i : Nat} (h : (runV f D i).1 ≠ 0) : ∀ j, i ≤ j → runV f D j = runV f D i
  | 0, hj => by obtain rfl : i = 0 := by omega
                rfl
  | j + 1, hj => by
    rcases Nat.lt_or_ge j i with h1 | h1
    · obtain rfl : i = j + 1 := by omega
      rfl
    · have ih := runV_err h j h1
      rw [runV, ih, if_pos h]
theorem runV_zero {f : Nat → DiskV → Int × DiskV} {D : DiskV} {i j : Nat} (h : (runV f D i).1 = 0) (hj : j ≤ i) : (runV f D j).1 = 0 := by
  rcases Decidable.em ((runV f D j).1 = 0) with h1 | h1
  · exact h1
  · rw [runV_err h1 i hj] at h; exact absurd h h1
theorem runV_ok {f : Nat → DiskV → Int × DiskV} {D : DiskV} (h : Ok D) (hf : ∀ i E, Ok E → Ok (f i E).2) : ∀ i, Ok (runV f D i).2
  | 0 => h
  | i + 1 => by
    rw [runV]
    split
    · exact runV_ok h hf i
    · exact hf i _ (runV_ok h hf i)
/-- The steps of Lay. -/
def layF (last a b : Int) (F : ByteArray) (h : Hd.HV) (L : Nat → Int) : Nat → DiskV → Int × DiskV
  | 0, D => syncV D last
  | 1, D => wipeV D a
  | 2, D => writeV D a F
  | 3, D => syncV D a
  | 4, D => wipeV D b
  | 5, D => Hd.putV D h
  | 6, D => (0, D)
  | j + 7, D => wipeV D (L j)
def lfid : Nat → FuncId
  | 0 => 49
  | 1 => 72
  | 2 => 74
  | 3 => 75
  | 4 => 76
  | 5 => 103
  | 6 => 78
  | _ + 7 => 80
abbrev PB (b : Nat) : Value := .pointer (some ⟨b, 0, none⟩)
def lbnd (v : Nat) : Nat → Array Value
  | 0 => #[PB v]
  | _ + 1 => #[]
def lcap (vb ab bb sb pb hb : Nat) (tb : Nat → Nat) : Nat → Array Value
  | 0 => #[]
  | 1 => #[PB vb, PB ab]
  | 2 => #[PB vb, PB ab, PB sb]
  | 3 => #[PB vb, PB ab]
  | 4 => #[PB vb, PB bb]
  | 5 => #[PB pb, PB hb]
  | 6 => #[PB vb]
  | j + 7 => #[PB vb, PB (tb j)]
abbrev lfn (v vb ab bb sb pb hb : Nat) (tb : Nat → Nat) (i : Nat) : Value := .func (.func (lfid i)) (lbnd v i) (lcap vb ab bb sb pb hb tb i)
theorem lent (W : World) (v vb ab bb sb pb hb : Nat) (tb : Nat → Nat) (i : Nat) : (callFunc (lfid i) (lbnd v i ++ lcap vb ab bb sb pb hb tb i)).run Tryz.prog W = .ok (.enter (lfid i) (lbnd v i ++ lcap vb ab bb sb pb hb tb i)) W := by
  have e1 : ∀ p r, (callFunc 72 (#[] ++ #[p, r])).run Tryz.prog W = .ok (.enter 72 (#[] ++ #[p, r])) W := fun p r => by kernel_rfl
  have e2 : ∀ p r s, (callFunc 74 (#[] ++ #[p, r, s])).run Tryz.prog W = .ok (.enter 74 (#[] ++ #[p, r, s])) W := fun p r s => by kernel_rfl
  have e3 : ∀ p r, (callFunc 75 (#[] ++ #[p, r])).run Tryz.prog W = .ok (.enter 75 (#[] ++ #[p, r])) W := fun p r => by kernel_rfl
  have e4 : ∀ p r, (callFunc 76 (#[] ++ #[p, r])).run Tryz.prog W = .ok (.enter 76 (#[] ++ #[p, r])) W := fun p r => by kernel_rfl
  have e5 : ∀ p, (callFunc 78 (#[] ++ #[p])).run Tryz.prog W = .ok (.enter 78 (#[] ++ #[p])) W := fun p => by kernel_rfl
  have e6 : ∀ p r, (callFunc 80 (#[] ++ #[p, r])).run Tryz.prog W = .ok (.enter 80 (#[] ++ #[p, r])) W := fun p r => by kernel_rfl
  match i with
  | 0 => exact ent_sync W _
  | 1 => exact e1 _ _
  | 2 => exact e2 _ _ _
  | 3 => exact e3 _ _
  | 4 => exact e4 _ _
  | 5 => exact ent_put1 W _ _
  | 6 => exact e5 _
  | j + 7 => exact e6 _ _
set_option maxHeartbeats 1000000 in
theorem lay_all (w : World) (g v cb vb ab bb sb pb hb : Nat) (tb : Nat → Nat) (cap k : Nat) (cs : List Value) (D : DiskV) (q p : HdV) (m : Int) (n : Nat) (a b : Int) (F : ByteArray) (L : Nat → Int) (hk : k ≤ 30) (hs : VS w g v D q m n) (hl : 0 < q.ll)
    (hrow : RK 1 w (.slice (some ⟨cb, 0, none⟩) (7 + k) cap) (7 + k) cs) (hcs : ∀ i, i < 7 + k → cs[i]? = some (lfn v vb ab bb sb pb hb tb i))
    (hv : w.cell? ⟨vb, 0, none⟩ = some (PB v)) (ha : w.cell? ⟨ab, 0, none⟩ = some (.int .i64 a)) (hb' : w.cell? ⟨bb, 0, none⟩ = some (.int .i64 b)) (hsb : w.cell? ⟨sb, 0, none⟩ = some (.string F)) (hF : F.size ≤ maxLen) (hp : w.cell? ⟨pb, 0, none⟩ = some (PB v)) (hh : w.heap[hb]? = some (OH p))
    (ht : ∀ j, j < k → w.cell? ⟨tb j, 0, none⟩ = some (.int .i64 (L j)))
    (hr : RK 1 w (.slice p.lo p.ll p.lc) p.ll (numL p.lf p.ll)) (hoff : ∀ k, blk (.slice p.lo p.ll p.lc) = some k → k ≠ g ∧ k ≠ v) (hf : p.ll ≤ 31)
    (nc : cb ≠ g ∧ cb ≠ v) (nv : vb ≠ g ∧ vb ≠ v) (na : ab ≠ g ∧ ab ≠ v) (nb : bb ≠ g ∧ bb ≠ v) (ns : sb ≠ g ∧ sb ≠ v) (np : pb ≠ g ∧ pb ≠ v) (nh : hb ≠ g ∧ hb ≠ v) (nt : ∀ j, j < k → tb j ≠ g ∧ tb j ≠ v) :
    Calls Tryz.prog 57 #[.slice (some ⟨cb, 0, none⟩) (7 + k) cap] w fun e w' => e = .returned (.int .i64 (runV (layF (lastT q.hv) a b F p.hv L) D (7 + k)).1) ∧
      (∃ p' : HdV, p'.hv = (if (runV (layF (lastT q.hv) a b F p.hv L) D 6).1 = 0 then p.hv else q.hv) ∧ VS w' g v (runV (layF (lastT q.hv) a b F p.hv L) D (7 + k)).2 p' m (if (runV (layF (lastT q.hv) a b F p.hv L) D 6).1 = 0 then 0 else n) ∧ (p' = q ∨ p' = p)) ∧ Ch2 w w' g v := by
  generalize hR : runV (layF (lastT q.hv) a b F p.hv L) D = R
  have hR0 : R 0 = (0, D) := by rw [← hR]; rfl
  have hRs : ∀ i, (R i).1 = 0 → R (i + 1) = layF (lastT q.hv) a b F p.hv L i (R i).2 := fun i h => by rw [← hR] at h ⊢; rw [runV, if_neg (by simpa using h)]
  have hRe : ∀ i j, (R i).1 ≠ 0 → i ≤ j → R j = R i := fun i j h hj => by rw [← hR] at h ⊢; exact runV_err h j hj
  have hRz : ∀ i j, (R i).1 = 0 → j ≤ i → (R j).1 = 0 := fun i j h hj => by rw [← hR] at h ⊢; exact runV_zero h hj
  clear hR
  refine (all_any ⟨cb, 0, none⟩ (7 + k) cap lfid (lbnd v) (lcap vb ab bb sb pb hb tb)
    (fun i W => (R i).1 = 0 ∧ VS W g v (R i).2 (if i ≤ 5 then q else p) m (if i ≤ 6 then n else 0) ∧ Ch2 w W g v)
    (fun z W => ∃ i, i < 7 + k ∧ (R i).1 = 0 ∧ (R (i + 1)).1 = z ∧ z ≠ 0 ∧ VS W g v (R (i + 1)).2 (if i ≤ 5 then q else p) m (if i ≤ 6 then n else 0) ∧ Ch2 w W g v) w (by omega) ?_ ?_ ?_ ?_).mono ?_
  · rw [hR0]; exact ⟨rfl, hs, Ch2.refl _ _ _⟩
  · rintro W i hi ⟨h0, s, c⟩
    rw [Addr.add_lit, Nat.zero_add]
    exact c.cell (hrow.cell i _ (hcs i hi)) nc.1 nc.2
  · exact fun W i _ => lent W v vb ab bb sb pb hb tb i
  · rintro W i hi ⟨h0, s, c⟩
    have hst := hRs i h0
    have hfin : ∀ (e : Ending) (W' : World) (z : Int), e = .returned (.int .i64 z) → (R (i + 1)).1 = z → VS W' g v (R (i + 1)).2 (if z = 0 then (if i + 1 ≤ 5 then q else p) else (if i ≤ 5 then q else p)) m (if z = 0 then (if i + 1 ≤ 6 then n else 0) else (if i ≤ 6 then n else 0)) → Ch2 W W' g v →
        ∃ z : Int, e = .returned (.int .i64 z) ∧ ((z = 0 ∧ (R (i + 1)).1 = 0 ∧ VS W' g v (R (i + 1)).2 (if i + 1 ≤ 5 then q else p) m (if i + 1 ≤ 6 then n else 0) ∧ Ch2 w W' g v) ∨ (z ≠ 0 ∧ ∃ i, i < 7 + k ∧ (R i).1 = 0 ∧ (R (i + 1)).1 = z ∧ z ≠ 0 ∧ VS W' g v (R (i + 1)).2 (if i ≤ 5 then q else p) m (if i ≤ 6 then n else 0) ∧ Ch2 w W' g v)) := by
      intro e W' z he hz hvs hc
      refine ⟨z, he, ?_⟩
      by_cases hz0 : z = 0
      · rw [if_pos hz0, if_pos hz0] at hvs
        exact .inl ⟨hz0, hz.trans hz0, hvs, c.trans hc⟩
      · rw [if_neg hz0, if_neg hz0] at hvs
        exact .inr ⟨hz0, i, hi, h0, hz, hz0, hvs, c.trans hc⟩
    clear hRs hRe hRz
    match i, hi, hst, h0, s, hfin with
    | 0, _, hst, h0, s, hfin =>
      refine (vsync_any g v _ q m n W s hl).mono ?_
      rintro e W' ⟨rfl, s1, c1⟩
      refine hfin _ _ _ rfl (by rw [hst]; rfl) ?_ c1
      rw [hst]
      split <;> exact s1
    | 1, _, hst, h0, s, hfin =>
      refine (lay1_any g v vb ab a _ q m n W s (c.cell hv nv.1 nv.2) (c.cell ha na.1 na.2) nv na).mono ?_
      rintro e W' ⟨rfl, s1, c1⟩
      refine hfin _ _ _ rfl (by rw [hst]; rfl) ?_ c1
      rw [hst]
      split <;> exact s1
    | 2, _, hst, h0, s, hfin =>
      refine (lay2_any g v vb ab sb a F _ q m n W s (c.cell hv nv.1 nv.2) (c.cell ha na.1 na.2) (c.cell hsb ns.1 ns.2) hF nv na ns).mono ?_
      rintro e W' ⟨rfl, s1, c1⟩
      refine hfin _ _ _ rfl (by rw [hst]; rfl) ?_ c1
      rw [hst]
      split <;> exact s1
    | 3, _, hst, h0, s, hfin =>
      refine (lay3_any g v vb ab a _ q m n W s (c.cell hv nv.1 nv.2) (c.cell ha na.1 na.2) nv na).mono ?_
      rintro e W' ⟨rfl, s1, c1⟩
      refine hfin _ _ _ rfl (by rw [hst]; rfl) ?_ c1
      rw [hst]
      split <;> exact s1
    | 4, _, hst, h0, s, hfin =>
      refine (lay4_any g v vb bb b _ q m n W s (c.cell hv nv.1 nv.2) (c.cell hb' nb.1 nb.2) nv nb).mono ?_
      rintro e W' ⟨rfl, s1, c1⟩
      refine hfin _ _ _ rfl (by rw [hst]; rfl) ?_ c1
      rw [hst]
      split <;> exact s1
    | 5, _, hst, h0, s, hfin =>
      refine (vput_do g v pb hb _ q p m n W s (c.cell hp np.1 np.2) (c.heap hh nh.1 nh.2) (hr.ch2 c hoff) hoff hf np nh).mono ?_
      rintro e W' ⟨rfl, s1, c1⟩
      refine hfin _ _ _ rfl (by rw [hst]; rfl) ?_ c1
      rw [hst]
      rcases s1 with ⟨z0, s1⟩ | ⟨z0, s1⟩
      · rw [if_pos z0, if_pos z0]; exact s1
      · rw [if_neg z0, if_neg z0]; exact s1
    | 6, _, hst, h0, s, hfin =>
      refine (lay5_any g v vb _ p m n W s (c.cell hv nv.1 nv.2)).mono ?_
      rintro e W' ⟨rfl, s1, c1⟩
      refine hfin _ _ _ rfl (by rw [hst]; rfl) ?_ c1
      rw [hst, if_pos rfl, if_pos rfl]
      exact s1
    | j + 7, hi, hst, h0, s, hfin =>
      have hs1 : ¬ j + 7 ≤ 5 := by omega
      have hs2 : ¬ j + 7 ≤ 6 := by omega
      rw [if_neg hs1, if_neg hs2] at s
      have hjk : j < k := by omega
      refine (lay6_any g v vb (tb j) (L j) _ p m 0 W s (c.cell hv nv.1 nv.2) (c.cell (ht j hjk) (nt j hjk).1 (nt j hjk).2) nv (nt j hjk)).mono ?_
      rintro e W' ⟨rfl, s1, c1⟩
      refine hfin _ _ _ rfl (by rw [hst]; rfl) ?_ c1
      rw [hst, if_neg (show ¬ j + 7 + 1 ≤ 5 by omega), if_neg hs1, if_neg (show ¬ j + 7 + 1 ≤ 6 by omega), if_neg hs2]
      split <;> exact s1
  · rintro e w6 ⟨z, rfl, hz⟩
    rcases hz with ⟨rfl, h0, s, c⟩ | ⟨hz, i, hi, h0, h1, _, s, c⟩
    · have h6 := hRz (7 + k) 6 h0 (by omega)
      rw [if_neg (show ¬ 7 + k ≤ 5 by omega), if_neg (show ¬ 7 + k ≤ 6 by omega)] at s
      refine ⟨by rw [h0], ⟨p, by rw [if_pos h6], by rw [if_pos h6]; exact s, .inr rfl⟩, c⟩
    · have hN := hRe (i + 1) (7 + k) (by rw [h1]; exact hz) (by omega)
      rw [hN]
      by_cases h5 : i ≤ 5
      · have h6 : (R 6).1 ≠ 0 := by rw [hRe (i + 1) 6 (by rw [h1]; exact hz) (by omega), h1]; exact hz
        rw [if_pos h5, if_pos (show i ≤ 6 by omega)] at s
        exact ⟨by rw [h1], ⟨q, by rw [if_neg h6], by rw [if_neg h6]; exact s, .inl rfl⟩, c⟩
      · have h6 := hRz i 6 h0 (by omega)
        rcases Nat.lt_or_ge 6 i with h7 | h7
        · rw [if_neg h5, if_neg (show ¬ i ≤ 6 by omega)] at s
          exact ⟨by rw [h1], ⟨p, by rw [if_pos h6], by rw [if_pos h6]; exact s, .inr rfl⟩, c⟩
        · obtain rfl : i = 6 := by omega
          rw [hRs 6 h0] at h1
          exact absurd h1.symm hz
end Go.Proofs.YtpfoekfbcpinlaaGreatDoor
/- vault: what Lay does, plain; where the ways of its drawn regions meet. -/
namespace Go.Proofs.YtpfoekfbcpinlaaGreatDoor
open Go.RowKit
set_option linter.unusedVariables false

def freeT2 (h : Hd.HV) : Int := h.free.getD 1 0
def snapB (s : ByteArray) : ByteArray := B (Fr.fr 2 s.data.toList)
theorem snapB_size (s : ByteArray) : (snapB s).size = s.size + 9 := by
  unfold snapB; rw [B_size, Fr.fr_length]; rfl
/-- The head that Lay puts. -/
def layH (h : Hd.HV) (n : Nat) : Hd.HV := ⟨h.gen + 1, h.base + n, freeT h, [freeT2 h]⟩
/-- The tapes of the head that was. -/
def oldT (h : Hd.HV) : List Int := Hd.R.filter fun t => h.uses t
def layL (h : Hd.HV) : Nat → Int := fun j => (oldT h).getD j 0
def layR (D : DiskV) (h : Hd.HV) (n : Nat) (F : ByteArray) : Nat → Int × DiskV := runV (layF (lastT h) (freeT h) (freeT2 h) F (layH h n) (layL h)) D
def layG (D : DiskV) (h : Hd.HV) (n : Nat) (F : ByteArray) : Int × DiskV × Hd.HV × Nat :=
  ((layR D h n F (7 + (oldT h).length)).1, (layR D h n F (7 + (oldT h).length)).2, if (layR D h n F 6).1 = 0 then layH h n else h, if (layR D h n F 6).1 = 0 then 0 else n)
def layU (D : DiskV) (h : Hd.HV) (F : ByteArray) : Int := (used D.tp 32 : Int) - sizeF D (freeT h).toNat + (F.size : Int)
def layV (D : DiskV) (h : Hd.HV) (n : Nat) (s : ByteArray) : Int × DiskV × Hd.HV × Nat :=
  if 262144 < s.size ∨ 1099511627776 < h.base + n then (40, D, h, n) else if D.down = true then (45, D, h, n) else if 1099511627776 ≤ h.gen then (40, D, h, n)
  else if h.free.length < 2 then (44, D, h, n)
  else if D.cap < layU D h (snapB s) ∨ D.cap < layU D h (snapB s) - sizeF D (freeT2 h).toNat - sizeF D (Hd.otherV D) + HSize (layH h n) then (44, D, h, n)
  else layG D h n (snapB s)
theorem free_in2 {h : Hd.HV} (hn : ¬ h.free.length < 2) : ∃ a b : Nat, freeT h = a ∧ freeT2 h = b ∧ 2 ≤ a ∧ a < 32 ∧ 2 ≤ b ∧ b < 32 ∧ h.free ≠ [] := by
  have hne : h.free ≠ [] := fun e => hn (by rw [e]; decide)
  obtain ⟨a, ha, h1, h2⟩ := free_in hne
  have hm : freeT2 h ∈ h.free := by
    unfold freeT2
    rw [List.getD_eq_getElem?_getD, List.getElem?_eq_getElem (show 1 < h.free.length by omega)]
    exact List.getElem_mem _
  have := (List.mem_filter.1 hm).1
  unfold Hd.R at this
  rw [List.mem_map] at this
  obtain ⟨k, hk, he⟩ := this
  rw [List.mem_range] at hk
  exact ⟨a, k + 2, ha, by omega, h1, h2, by omega, by omega, hne⟩
/-- Two tapes' numbers lie in blocks ab and bb, the bytes of the tapes in a row. -/
structure LJ (w2 wx : World) (a b : Int) (ab bb : Nat) (ao : Option Addr) (nc : Nat) (f : Nat → Int) : Prop where
  xa : wx.heap[ab]? = some (OT a)
  xb : wx.heap[bb]? = some (OT b)
  row : RK 1 wx (.slice ao 32 nc) 32 (numL f 32)
  ga : w2.heap.size ≤ ab
  gb : w2.heap.size ≤ bb
  ne : ab ≠ bb
  bel : Below w2.heap.size w2 wx
section
variable {w2 w3 : World} {a b : Int} {ao : Option Addr} {nc : Nat} {f : Nat → Int}
theorem lj_at (hb : Below w2.heap.size w2 w3) {wx : World} {ab bb : Nat} (hx : Below w2.heap.size w3 wx) (xa : wx.heap[ab]? = some (OT a)) (xb : wx.heap[bb]? = some (OT b)) (hr : RK 1 w3 (.slice ao 32 nc) 32 (numL f 32))
    (hn : ∀ k, blk (.slice ao 32 nc) = some k → wx.heap[k]? = w3.heap[k]?) (g1 : w2.heap.size ≤ ab) (g2 : w2.heap.size ≤ bb) (ne : ab ≠ bb) : LJ w2 wx a b ab bb ao nc f :=
  ⟨xa, xb, hr.same hx.size fun k hk => hn k hk, g1, g2, ne, hb.trans hx⟩
theorem lj1 (hb : Below w2.heap.size w2 w3) (hr : RK 1 w3 (.slice ao 32 nc) 32 (numL f 32)) : LJ w2 ((w3.alloc (OT a)).alloc (OT b)) a b w3.heap.size (w3.heap.size + 1) ao nc f :=
  lj_at hb (((Below.refl _ w3).alloc hb.size _).alloc (by simp; have := hb.size; omega) _) (heap_first w3 _ _) (heap_second w3 _ _) hr (fun k hk => by
    have := hr.lt k hk
    exact (Below.heap_alloc _ _ k (by simp; omega)).trans (Below.heap_alloc _ _ k this)) hb.size (by have := hb.size; omega) (by omega)
theorem lj2 (hb : Below w2.heap.size w2 w3) (hr : RK 1 w3 (.slice ao 32 nc) 32 (numL f 32)) : LJ w2 ((w3.alloc (OT b)).alloc (OT a)) a b (w3.heap.size + 1) w3.heap.size ao nc f :=
  lj_at hb (((Below.refl _ w3).alloc hb.size _).alloc (by simp; have := hb.size; omega) _) (heap_second w3 _ _) (heap_first w3 _ _) hr (fun k hk => by
    have := hr.lt k hk
    exact (Below.heap_alloc _ _ k (by simp; omega)).trans (Below.heap_alloc _ _ k this)) (by have := hb.size; omega) hb.size (by omega)
theorem lj_one {x y : Int} (hb : Below w2.heap.size w2 w3) (hr : RK 1 w3 (.slice ao 32 nc) 32 (numL f 32)) (hn : ∀ k, blk (.slice ao 32 nc) = some k → w2.heap.size + 1 ≤ k) (z : w3.heap[w2.heap.size]? = some (OT 0)) :
    Below w2.heap.size w3 ((w3.setCell ⟨w2.heap.size, 0, none⟩ (.int .i64 x)).alloc (OT y)) ∧ ((w3.setCell ⟨w2.heap.size, 0, none⟩ (.int .i64 x)).alloc (OT y)).heap[w2.heap.size]? = some (OT x) ∧ ((w3.setCell ⟨w2.heap.size, 0, none⟩ (.int .i64 x)).alloc (OT y)).heap[w3.heap.size]? = some (OT y) ∧
      (∀ k, blk (.slice ao 32 nc) = some k → ((w3.setCell ⟨w2.heap.size, 0, none⟩ (.int .i64 x)).alloc (OT y)).heap[k]? = w3.heap[k]?) := by
  have hlt := lt_of_block' z
  have hsz : (w3.setCell ⟨w2.heap.size, 0, none⟩ (.int .i64 x)).heap.size = w3.heap.size := by simp
  refine ⟨((Below.refl _ w3).setCell (p := ⟨w2.heap.size, 0, none⟩) (Nat.le_refl _) _).alloc (by rw [hsz]; exact hb.size) _, (Below.heap_alloc _ _ _ (by rw [hsz]; exact hlt)).trans (one_set' z _), by have := heap_alloc_new (w3.setCell ⟨w2.heap.size, 0, none⟩ (.int .i64 x)) (OT y); rw [hsz] at this; exact this, fun k hk => ?_⟩
  have h1 := hr.lt k hk
  have h2 := hn k hk
  exact (Below.heap_alloc _ _ k (by rw [hsz]; exact h1)).trans (Below.heap_setCell w3 ⟨w2.heap.size, 0, none⟩ _ k (by show k ≠ w2.heap.size; omega))
theorem lj3 (hb : Below w2.heap.size w2 w3) (hr : RK 1 w3 (.slice ao 32 nc) 32 (numL f 32)) (hn : ∀ k, blk (.slice ao 32 nc) = some k → w2.heap.size + 1 ≤ k) (z : w3.heap[w2.heap.size]? = some (OT 0)) : LJ w2 ((w3.setCell ⟨w2.heap.size, 0, none⟩ (.int .i64 a)).alloc (OT b)) a b w2.heap.size w3.heap.size ao nc f := by
  obtain ⟨h1, h2, h3, h4⟩ := lj_one (x := a) (y := b) hb hr hn z
  exact lj_at hb h1 h2 h3 hr h4 (Nat.le_refl _) hb.size (by have := lt_of_block' z; omega)
theorem lj4 (hb : Below w2.heap.size w2 w3) (hr : RK 1 w3 (.slice ao 32 nc) 32 (numL f 32)) (hn : ∀ k, blk (.slice ao 32 nc) = some k → w2.heap.size + 1 ≤ k) (z : w3.heap[w2.heap.size]? = some (OT 0)) : LJ w2 ((w3.setCell ⟨w2.heap.size, 0, none⟩ (.int .i64 b)).alloc (OT a)) a b w3.heap.size w2.heap.size ao nc f := by
  obtain ⟨h1, h2, h3, h4⟩ := lj_one (x := b) (y := a) hb hr hn z
  exact lj_at hb h1 h3 h2 hr h4 hb.size (Nat.le_refl _) (by have := lt_of_block' z; omega)
theorem lj_two {i j : Nat} {x y : Int} (hb : Below w2.heap.size w2 w3) (hi : w2.heap.size ≤ i) (hj : w2.heap.size ≤ j) (hi2 : i ≤ w2.heap.size + 1) (hj2 : j ≤ w2.heap.size + 1) (hne : i ≠ j) (hn : ∀ k, blk (.slice ao 32 nc) = some k → w2.heap.size + 1 + 1 ≤ k) (zi : w3.heap[i]? = some (OT 0)) (zj : w3.heap[j]? = some (OT 0)) :
    Below w2.heap.size w3 ((w3.setCell ⟨i, 0, none⟩ (.int .i64 x)).setCell ⟨j, 0, none⟩ (.int .i64 y)) ∧ ((w3.setCell ⟨i, 0, none⟩ (.int .i64 x)).setCell ⟨j, 0, none⟩ (.int .i64 y)).heap[i]? = some (OT x) ∧ ((w3.setCell ⟨i, 0, none⟩ (.int .i64 x)).setCell ⟨j, 0, none⟩ (.int .i64 y)).heap[j]? = some (OT y) ∧
      (∀ k, blk (.slice ao 32 nc) = some k → ((w3.setCell ⟨i, 0, none⟩ (.int .i64 x)).setCell ⟨j, 0, none⟩ (.int .i64 y)).heap[k]? = w3.heap[k]?) := by
  refine ⟨((Below.refl _ w3).setCell (p := ⟨i, 0, none⟩) hi _).setCell (p := ⟨j, 0, none⟩) hj _, (Below.heap_setCell _ ⟨j, 0, none⟩ _ i hne).trans (one_set' zi _), one_set' ((Below.heap_setCell w3 ⟨i, 0, none⟩ _ j (fun e => hne e.symm)).trans zj) _, fun k hk => ?_⟩
  have h2 := hn k hk
  exact (Below.heap_setCell _ ⟨j, 0, none⟩ _ k (by show k ≠ j; omega)).trans (Below.heap_setCell w3 ⟨i, 0, none⟩ _ k (by show k ≠ i; omega))
theorem lj5 (hb : Below w2.heap.size w2 w3) (hr : RK 1 w3 (.slice ao 32 nc) 32 (numL f 32)) (hn : ∀ k, blk (.slice ao 32 nc) = some k → w2.heap.size + 1 + 1 ≤ k) (y : w3.heap[w2.heap.size]? = some (OT 0)) (z : w3.heap[w2.heap.size + 1]? = some (OT 0)) : LJ w2 ((w3.setCell ⟨w2.heap.size, 0, none⟩ (.int .i64 a)).setCell ⟨w2.heap.size + 1, 0, none⟩ (.int .i64 b)) a b w2.heap.size (w2.heap.size + 1) ao nc f := by
  obtain ⟨h1, h2, h3, h4⟩ := lj_two (x := a) (y := b) hb (Nat.le_refl _) (by omega) (by omega) (Nat.le_refl _) (by omega) hn y z
  exact lj_at hb h1 h2 h3 hr h4 (Nat.le_refl _) (by omega) (by omega)
theorem lj6 (hb : Below w2.heap.size w2 w3) (hr : RK 1 w3 (.slice ao 32 nc) 32 (numL f 32)) (hn : ∀ k, blk (.slice ao 32 nc) = some k → w2.heap.size + 1 + 1 ≤ k) (y : w3.heap[w2.heap.size]? = some (OT 0)) (z : w3.heap[w2.heap.size + 1]? = some (OT 0)) : LJ w2 ((w3.setCell ⟨w2.heap.size + 1, 0, none⟩ (.int .i64 a)).setCell ⟨w2.heap.size, 0, none⟩ (.int .i64 b)) a b (w2.heap.size + 1) w2.heap.size ao nc f := by
  obtain ⟨h1, h2, h3, h4⟩ := lj_two (x := a) (y := b) hb (i := w2.heap.size + 1) (j := w2.heap.size) (by omega) (Nat.le_refl _) (Nat.le_refl _) (by omega) (by omega) hn z y
  exact lj_at hb h1 h2 h3 hr h4 (by omega) (Nat.le_refl _) (by omega)
end
theorem infoFn : (Tryz.prog.info? 34).map (fun i => (i.zero.isSome, i.size)) = some (true, 1) := by kernel_rfl
end Go.Proofs.YtpfoekfbcpinlaaGreatDoor
