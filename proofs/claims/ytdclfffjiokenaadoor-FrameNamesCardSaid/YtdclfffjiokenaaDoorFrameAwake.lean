/- The laws' awake. -/
import Derived.Test.YtdclfffjiokenaaDoorScanRow
import Derived.KernelRfl
namespace Go.Proofs.YtdclfffjiokenaaDoor
open Go.RowKit
set_option linter.unusedVariables false

theorem mk1 : makeV 1 ⟨#[]⟩ = (⟨#[0, 0, 0, 0, 5, 43, 40, 67, 1]⟩, 0) := by kernel_rfl
theorem fr1 : Fr.fr 1 [97] = [1, 0, 0, 0] ++ Var.fb 4 (Fr.sumL [1, 97]) ++ [1, 97] := rfl
theorem mk2 : (makeV 1 ⟨#[97]⟩).1 = B (Fr.fr 1 [97]) := by rfl
theorem mk3 : (makeV 2 ⟨#[98, 99]⟩).1 = B (Fr.fr 2 [98, 99]) := by rfl
theorem mk4 : makeE 4 ⟨#[]⟩ = .returned (.tuple #[.string ⟨#[]⟩, .int .i64 1]) := by rfl
theorem RK.block {z n q : Nat} {W : World} {cs : Array Value} {T : TypeId} (h : W.heap[q]? = some (.cells cs T (0, 0))) (hz : cs.size = n * z) (hn : n ≤ maxLen) : RK z W (.slice (some ⟨q, 0, none⟩) n n) n cs.toList := by
  refine ⟨by simpa using hz, .inr ⟨q, n, rfl, Nat.le_refl _, hn, fun _ => ⟨src_lt h, fun j u hu => ?_, fun j hj => ?_⟩⟩⟩
  · simp [World.cell?, h]; simpa using hu
  · have : j < cs.size := by omega
    simp [World.cell?, World.frozen?, h, this]
def awk : List PartV := [⟨1, [97]⟩, ⟨2, [98, 99]⟩]
theorem awk_two : B (Fr.fr 1 [97]) ++ B (Fr.fr 2 [98, 99]) = B (rowB awk) := by rw [B_append]; rfl
theorem awk_scan : scanV (B (rowB awk ++ [120])) 0 = (framesAt 0 awk, 21) := by
  unfold scanV
  rw [if_neg (by rw [B_size]; omega), B_list]
  have := scan_row awk (by intro x hx; simp [awk] at hx; rcases hx with rfl | rfl <;> exact ⟨by decide, by decide, by decide⟩) [120] (by decide) []
  exact this
set_option maxRecDepth 100000 in
set_option maxHeartbeats 2000000 in
theorem awake_any (w : World) (ht : Tab w) : Calls Tryd.prog 12 #[] w fun e w' => e = .returned (.bool true) ∧ Below w.heap.size w w' := by
  have H1 : Kp (∀ w, Tab w → Calls Tryd.prog 26 #[.int .u8 1, .string ⟨#[]⟩] w fun e w' => e = .returned (.string ⟨#[0, 0, 0, 0, 5, 43, 40, 67, 1]⟩) ∧ Below w.heap.size w w') := ⟨fun w h => by
    have := made_any 1 ⟨#[]⟩ w (by decide) (by decide) h
    rw [mk1] at this; exact this⟩
  have H2 : Kp (∀ w, Tab w → Calls Tryd.prog 26 #[.int .u8 1, .string ⟨#[97]⟩] w fun e w' => e = .returned (.string (B (Fr.fr 1 [97]))) ∧ Below w.heap.size w w') := ⟨fun w h => by
    have := made_any 1 ⟨#[97]⟩ w (by decide) (by decide) h
    rw [mk2] at this; exact this⟩
  have H3 : Kp (∀ w, Tab w → Calls Tryd.prog 26 #[.int .u8 2, .string ⟨#[98, 99]⟩] w fun e w' => e = .returned (.string (B (Fr.fr 2 [98, 99]))) ∧ Below w.heap.size w w') := ⟨fun w h => by
    have := made_any 2 ⟨#[98, 99]⟩ w (by decide) (by decide) h
    rw [mk3] at this; exact this⟩
  have H4 : Kp (∀ w, Tab w → Calls Tryd.prog 17 #[.int .u8 4, .string ⟨#[]⟩] w fun e w' => e = .returned (.tuple #[.string ⟨#[]⟩, .int .i64 1]) ∧ Below w.heap.size w w') := ⟨fun w h => by
    have := Make_any 4 ⟨#[]⟩ w (by decide) (by decide) h
    rw [mk4] at this; exact this⟩
  have H5 : Kp (∀ w, Tab w → Calls Tryd.prog 15 #[.string (B (rowB awk ++ [120])), .int .i64 0] w fun e w' => ∃ v, e = .returned (.tuple #[v, .int .i64 21]) ∧ RK 3 w' v 2 ((framesAt 0 awk).flatMap FrV.cells) ∧ (∀ k, blk v = some k → w.heap.size ≤ k) ∧ Below w.heap.size w w') := ⟨fun w h => by
    have := Scan_any (B (rowB awk ++ [120])) 0 w (by decide) (by decide) (by decide) h
    rw [awk_scan] at this; exact this⟩
  have H6 : Kp (∀ w, Tab w → Calls Tryd.prog 27 #[.string ⟨#[0, 0, 0, 0, 5, 43, 40, 67]⟩, .int .i64 0, .int .i64 8] w fun e w' => e = .returned (.bool true) ∧ Below w.heap.size w w') := ⟨fun w h => by
    have := refused_any ⟨#[0, 0, 0, 0, 5, 43, 40, 67]⟩ 0 8 w (by decide) (by decide) (by decide) (by decide) h
    rw [show decide ((Fr.readV ⟨#[0, 0, 0, 0, 5, 43, 40, 67]⟩ 0).1 = 8) = true from by decide] at this; exact this⟩
  have htwo := awk_two
  have hcat : B (rowB awk) ++ ⟨#[120]⟩ = B (rowB awk ++ [120]) := by rw [← B_append]; rfl
  have hlen : (B (rowB awk)).size = 21 := by decide
  have hs1 : (B (Fr.fr 1 [97])).size = 10 := by decide
  have hs2 : (B (Fr.fr 2 [98, 99])).size = 11 := by decide
  have hl1 : ¬ 9223372036854775807 < (B (Fr.fr 1 [97])).size + (B (Fr.fr 2 [98, 99])).size := by rw [hs1, hs2]; decide
  generalize B (Fr.fr 1 [97]) = A1 at H2 htwo hs1 hl1
  generalize B (Fr.fr 2 [98, 99]) = A2 at H3 htwo hs2 hl1
  generalize B (rowB awk) = A3 at htwo hcat hlen
  generalize B (rowB awk ++ [120]) = A4 at hcat H5
  have HT := Kp.mk ht
  clear ht
  go_enter Tryd.func12, Tryd.ntmps12
  go_wp2_with fail
  refine (H1.out _ HT.out).mono ?_
  rintro e w1 ⟨rfl, b1⟩
  have B1 := Kp.mk b1
  have T1 := Kp.mk (HT.out.below b1)
  clear b1
  go_wp2_with fail
  refine (H2.out _ T1.out).mono ?_
  rintro e w2 ⟨rfl, b2⟩
  have B2 := Kp.mk (B1.out.trans (b2.mono B1.out.size))
  have T2 := Kp.mk (T1.out.below b2)
  clear b2
  go_wp2_with fail
  refine (H3.out _ T2.out).mono ?_
  rintro e w3 ⟨rfl, b3⟩
  have B3 := Kp.mk (B2.out.trans (b3.mono B2.out.size))
  have T3 := Kp.mk (T2.out.below b3)
  clear b3
  go_wp2_with fail
  refine (H5.out _ T3.out).mono ?_
  rintro e w4 ⟨v, rfl, hv, hnew, b4⟩
  have B4 := Kp.mk (B3.out.trans (b4.mono B3.out.size))
  have T4 := Kp.mk (T3.out.below b4)
  have HV4 := Kp.mk hv
  clear b4 hv hnew
  go_wp2_with fail
  refine (H4.out _ T4.out).mono ?_
  rintro e w5 ⟨rfl, b5⟩
  have B5 := Kp.mk (B4.out.trans (b5.mono B4.out.size))
  have T5 := Kp.mk (T4.out.below b5)
  have HV5 := Kp.mk (HV4.out.below b5)
  clear b5
  go_wp2_with fail
  refine (H6.out _ T5.out).mono ?_
  rintro e w6 ⟨rfl, b6⟩
  have B6 := Kp.mk (B5.out.trans (b6.mono B5.out.size))
  have T6 := Kp.mk (T5.out.below b6)
  have HV6 := Kp.mk (HV5.out.below b6)
  clear b6
  go_wp2_with fail
  have HBlk := RK.block (z := 3) (n := 2) (heap_alloc_new w6 (.cells #[.int .u8 1, .string ⟨#[97]⟩, .int .i64 0, .int .u8 2, .string ⟨#[98, 99]⟩, .int .i64 10] 40)) rfl (by decide)
  have hk : ∀ f ∈ framesAt 0 awk, f.k < 256 := by intro f hf; simp [framesAt, awk] at hf; rcases hf with rfl | rfl <;> simp
  refine (all_any v _ (framesAt 0 awk) (framesAt 0 awk) _ (HV6.out.alloc _) HBlk (by decide) hk hk).mono ?_
  rw [(allF_iff _ _).2 rfl]
  rintro e w7 ⟨rfl, b7⟩
  have B7 := Kp.mk (B6.out.trans (((Below.refl _ _).alloc (Nat.le_refl _) _).trans (b7.mono (by simp)) |>.mono B6.out.size))
  clear b7
  go_wp2
  go_ret
  exact ⟨rfl, B7.out⟩
end Go.Proofs.YtdclfffjiokenaaDoor
