/- The reference's Scan; both Ones; refused. -/
import Derived.Test.YtdclfffjiokenaaDoorFrameTwo
namespace Go.Proofs.YtdclfffjiokenaaDoor
open Go.RowKit
set_option linter.unusedVariables false

theorem infoRefFrame : (Tryd.prog.info? 40).map (fun i => (i.zero, i.size, i.bytes)) = some (some (.agg #[.int .u8 0, .string ⟨#[]⟩, .int .i64 0]), 3, 32) := by kernel_rfl
theorem refScan_out (s : ByteArray) (a : Int) (w : World) (h0 : a < 0 ∨ (s.size : Int) < a) (hs : s.size ≤ 1000000000000) (h1 : -9223372036854775808 ≤ a) (h2 : a ≤ 9223372036854775807) :
    Calls Tryd.prog 23 #[.string s, .int .i64 a] w fun e w' => e = .returned (.tuple #[.slice none 0 0, .int .i64 0]) ∧ Below w.heap.size w w' := by
  by_cases h00 : a < 0
  · have t1 : decide (a < 0) = true := by rw [decide_eq_true_eq]; exact h00
    go_enter Tryd.func23, Tryd.ntmps23
    go_wp2
    go_ret2
    exact ⟨rfl, Below.refl _ _⟩
  · have t1 : decide (a < 0) = false := by rw [decide_eq_false_iff_not]; exact h00
    have t2 : decide ((s.size : Int) < a) = true := by rw [decide_eq_true_eq]; omega
    go_enter Tryd.func23, Tryd.ntmps23
    go_wp2
    go_ret2
    exact ⟨rfl, Below.refl _ _⟩
set_option maxRecDepth 100000 in
set_option maxHeartbeats 2000000 in
theorem refScan_in (s : ByteArray) (p0 : Nat) (w : World) (hs : s.size ≤ 1000000000000) (hp : p0 ≤ s.size) :
    Calls Tryd.prog 23 #[.string s, .int .i64 p0] w fun e w' => ∃ v, e = .returned (.tuple #[v, .int .i64 (scanL s.data.toList p0).2]) ∧ RK 3 w' v (scanL s.data.toList p0).1.length ((scanL s.data.toList p0).1.flatMap FrV.cells) ∧ (∀ k, blk v = some k → w.heap.size ≤ k) ∧ Below w.heap.size w w' := by
  have t1 : decide ((p0 : Int) < 0) = false := by rw [decide_eq_false_iff_not]; omega
  have t2 : decide ((s.size : Int) < (p0 : Int)) = false := by rw [decide_eq_false_iff_not]; omega
  have t3 : decide (s.size < p0) = false := by rw [decide_eq_false_iff_not]; omega
  obtain ⟨i0, hi0, hi1, hi2, hi3⟩ := info_parts infoRefFrame
  have HI := Kp.mk (And.intro hi0 (And.intro hi1 (And.intro hi2 hi3)))
  clear hi0 hi1 hi2 hi3
  go_enter Tryd.func23, Tryd.ntmps23
  go_wp2
  go_loopw [1, 6, 7, 8, 9] (fun at' out f nx er wr => ∃ (pre : List FrV) (q : Nat), 9 * pre.length ≤ q ∧ q ≤ s.size ∧ at' = .int .i64 q ∧ (scanL s.data.toList p0).1 = pre ++ (scanL s.data.toList q).1 ∧ (scanL s.data.toList p0).2 = (scanL s.data.toList q).2 ∧
      RK 3 wr out pre.length (pre.flatMap FrV.cells) ∧ (∀ k, blk out = some k → w.heap.size ≤ k) ∧ Below w.heap.size w wr)
    (fun at' _ _ _ _ _ => s.size - (intOf at').toNat)
  case atStart => exact ⟨[], p0, by simp, hp, rfl, by simp, rfl, RK.nil _ _, fun k hk => by simp [blk] at hk, Below.refl _ _⟩
  case round =>
    obtain ⟨pre, q, hpq, hq, rfl, hsc, hsd, hrow, hnew, hb⟩ := hrel
    have HR := Kp.mk (refRead_any s q wr (by omega) (by omega) (by omega))
    by_cases hr : (Fr.readL (s.data.toList.drop q)).1 = 0
    · rw [readE_at_ok hq hr] at HR
      have hx := frAt_next hr
      rw [data_len] at hx
      have hso := scanL_ok hr
      obtain ⟨x, hxx⟩ : ∃ x, frAt s.data.toList q = x := ⟨_, rfl⟩
      rw [hxx] at HR hx hso
      obtain ⟨k, y, a⟩ := x
      obtain ⟨N, hN⟩ : ∃ N, (⟨k, y, a⟩ : FrV).next = N := ⟨_, rfl⟩
      rw [hN] at HR hx hso
      have HSO := Kp.mk hso
      have HSC := Kp.mk hsc
      have HSD := Kp.mk hsd
      have HRow := Kp.mk hrow
      have HNew := Kp.mk hnew
      have HBel := Kp.mk hb
      unfold FrV.v at HR
      simp only [] at HR
      have hpl : pre.length + 1 ≤ maxLen := by unfold maxLen; omega
      have hpl2 : (pre.length + 1) * 32 ≤ 140737488355328 := by omega
      have HPL := Kp.mk (And.intro hpl hpl2)
      have HX := Kp.mk hx
      clear hso hsc hsd hrow hnew hb hxx hr hpl hpl2
      go_wp2_with fail
      refine HR.out.mono ?_
      rintro e w1 ⟨rfl, hb1⟩
      have HB1 := Kp.mk hb1
      have HIN := Kp.mk (show Src 3 ((w1.alloc (.cells #[.int .u8 k, .string (B y), .int .i64 a] 40)).alloc (.cells #[.int .u8 k, .string (B y), .int .i64 a] 40)) (.slice (some ⟨w1.heap.size + 1, 0, none⟩) 1 1) 1 [.int .u8 k, .string (B y), .int .i64 a] from src_one (heap_second _ _ _) rfl)
      have HRW := Kp.mk (((HRow.out.below hb1).alloc (.cells #[.int .u8 k, .string (B y), .int .i64 a] 40)).alloc (.cells #[.int .u8 k, .string (B y), .int .i64 a] 40))
      clear hb1
      go_wp2_with (at_builtin; go_loud (refine wpList_append_src rfl _ _ 30 rfl HRW.out HIN.out 40 i0 _ 32 Tryd.underlying30 HI.out.1 HI.out.2.1 HI.out.2.2.1 HI.out.2.2.2 rfl (by decide) rfl rfl (by simp [Value.oneCell']) HPL.out.1 HPL.out.2 _ _ rfl rfl ?_; intro ao cap w3 k1 k2 k3; have K1 := Kp.mk k1; have K2 := Kp.mk k2; have K3 := Kp.mk k3; clear k1 k2 k3))
      have hx := HX.out
      have hbz := HBel.out.size
      have hb1z := HB1.out.size
      go_roundw
      case rel =>
        refine ⟨pre ++ [⟨k, y, a⟩], N, by simp; omega, hx.2, rfl, by rw [HSC.out, HSO.out]; simp, by rw [HSD.out, HSO.out], by have := K1.out; simpa [FrV.cells] using this, fun j hj => ?_, ?_⟩
        · rcases K3.out j hj with h | h
          · exact HNew.out j h
          · simp at h; omega
        · exact (((HBel.out.trans (HB1.out.mono hbz)).alloc (by omega) _).alloc (by simp; omega) _).grown K2.out (by simp; omega) (fun j e => HNew.out j e)
      case measure => simp [intOf]; omega
    · rw [readE_at_bad hq hr] at HR
      have he := hr
      have hle := Fr.readL_err (s.data.toList.drop q)
      have hso := Kp.mk (scanL_end hr)
      obtain ⟨e0, he0⟩ : ∃ e0, (Fr.readL (s.data.toList.drop q)).1 = e0 := ⟨_, rfl⟩
      rw [he0] at HR he hle
      unfold Fr.badE at HR
      have t1 : ((e0 : Int) != 0) = true := by rw [bne_iff_ne]; omega
      have HSC := Kp.mk hsc
      have HSD := Kp.mk hsd
      have HRow := Kp.mk hrow
      have HNew := Kp.mk hnew
      have HBel := Kp.mk hb
      clear hsc hsd hrow hnew hb he0 hr
      go_wp2_with fail
      refine HR.out.mono ?_
      rintro e w1 ⟨rfl, hb1⟩
      have HB1 := Kp.mk hb1
      clear hb1
      go_wp2
      go_ret2
      have hbz := HBel.out.size
      have hb1z := HB1.out.size
      rw [HSC.out, HSD.out, hso.out, List.append_nil]
      exact ⟨_, rfl, (HRow.out.below HB1.out).alloc _, HNew.out, (HBel.out.trans (HB1.out.mono hbz)).alloc (by omega) _⟩
end Go.Proofs.YtdclfffjiokenaaDoor
