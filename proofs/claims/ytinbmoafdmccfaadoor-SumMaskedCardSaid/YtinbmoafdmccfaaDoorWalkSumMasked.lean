/- The walk of SumMasked: it returns true, and leaves what was there. -/
import Derived.Test.YtinbmoafdmccfaaDoorSumAwake
namespace Go.Proofs.YtinbmoafdmccfaaDoor
open Go.RowKit

theorem walkSumMasked (w : World) (a : Int) (ha : (Lit.int .u32 a).wf = true) (b : Int) (hb : (Lit.int .u32 b).wf = true) (hL : Tab w) :
    Calls Tryd.prog 7 #[.int .u32 a, .int .u32 b] w fun e w' => e = .returned (.bool true) ∧ Below w.heap.size w w' := by
  obtain ⟨a, rfl, h1⟩ := u32_nat ha
  obtain ⟨b, rfl, h2⟩ := u32_nat hb
  clear ha hb
  have HT := Lib.hid hL
  clear hL
  have HA := Lib.hid (Crc.plain_mask h1)
  have HP := Lib.hid (Crc.mask_plain h1)
  have hm := Crc.mask_lt a
  have hp := Crc.plain_lt a
  have HE : Hid ((((Crc.mask a : Nat) : Int) == ((Crc.mask b : Nat) : Int)) = ((a : Int) == (b : Int))) := Lib.hid (by
    rw [beq_nat, beq_nat, Bool.eq_iff_iff]
    simp only [decide_eq_true_eq]
    exact ⟨fun h => Crc.mask_inj h1 h2 h, fun h => by rw [h]⟩)
  go_enter Tryd.func7, Tryd.ntmps7
  go_wp2_with fail
  refine (awake_any _ HT.out).mono ?_
  rintro e w1 ⟨rfl, hb1⟩
  have HB1 := Lib.hid hb1
  clear hb1
  go_wp2_with fail
  refine (mask_any _ _ h1).mono ?_
  rintro e w' ⟨rfl, rfl⟩
  go_wp2_with fail
  refine (plain_any _ _ hm).mono ?_
  rw [HA.out]
  rintro e w' ⟨rfl, rfl⟩
  go_wp2_with fail
  refine (plain_any _ _ h1).mono ?_
  rintro e w' ⟨rfl, rfl⟩
  go_wp2_with fail
  refine (mask_any _ _ hp).mono ?_
  rw [HP.out]
  rintro e w' ⟨rfl, rfl⟩
  go_wp2_with fail
  refine (mask_any _ _ h1).mono ?_
  rintro e w' ⟨rfl, rfl⟩
  go_wp2_with fail
  refine (mask_any _ _ h2).mono ?_
  rintro e w' ⟨rfl, rfl⟩
  go_wp2_with fail
  go_ret
  exact ⟨ret_bool (by rw [HE.out]; simp), HB1.out⟩
end Go.Proofs.YtinbmoafdmccfaaDoor
