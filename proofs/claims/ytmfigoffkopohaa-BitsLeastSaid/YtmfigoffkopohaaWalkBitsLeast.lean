/- The walk of BitsLeast: it returns true, and leaves what was there. -/
import Derived.Test.YtmfigoffkopohaaBitsAwake
namespace Go.Proofs.Ytmfigoffkopohaa
open Go.RowKit
set_option linter.unusedVariables false

theorem uvI_first {a b : Nat} (ha : a < 18446744073709551616) : Var.uvI (B (Var.vb a) ++ B (Var.vb b)).data.toList 0 = (a, (Var.vb a).length, 0) := by
  rw [B_append, B_list]
  have := Var.uv_vb [] (Var.vb b) a ha
  unfold Var.uvI
  rw [if_neg (by simp; omega)]
  simpa using this
theorem uvI_second {a b : Nat} (hb : b < 18446744073709551616) : Var.uvI (B (Var.vb a) ++ B (Var.vb b)).data.toList ((Var.vb a).length : Nat) = (b, (Var.vb a).length + (Var.vb b).length, 0) := by
  rw [B_append, B_list]
  have := Var.uv_vb (Var.vb a) [] b hb
  rw [List.append_nil] at this
  unfold Var.uvI
  rw [if_neg (by simp; omega), Int.toNat_natCast, this]
theorem least_core (w : World) (a b : Nat) (S T : ByteArray) (ha : a < 18446744073709551616) (hb : b < 18446744073709551616) (hS : B (Var.vb a) = S) (hT : B (Var.vb b) = T)
    (hs0 : 1 ≤ S.size) (hs1 : S.size ≤ 10) (ht1 : T.size ≤ 10) (x : Bool) (tx : decide (1 < (S.size : Int)) = x) (hx : Kp (∀ h : 1 < S.size, (((S[S.size - 1]'(by omega)).toNat : Int) == 0) = false))
    (y : Bool) (ty : decide ((S.size : Int) < (T.size : Int)) = y) (ty2 : decide (S.size < T.size) = y) (hy : y = true → decide ((b : Int) ≤ (a : Int)) = false ∧ decide (b ≤ a) = false) (hst : Kp ((S.toList == T.toList) = ((a : Int) == (b : Int)))) :
    Calls Try.prog 3 #[.int .u64 a, .int .u64 b] w fun e w' => e = .returned (.bool true) ∧ Below w.heap.size w w' := by
  have HLA : Kp (((Var.vb a).length : Int) = S.size) := ⟨by rw [← hS, B_size]⟩
  have HLB : Kp (((Var.vb b).length : Int) = T.size) := ⟨by rw [← hT, B_size]⟩
  have HU1 : Kp (Var.uvI (S ++ T).data.toList 0 = (a, S.size, 0)) := ⟨by rw [← hS, ← hT, uvI_first ha, B_size]⟩
  have HU2 : Kp (Var.uvI (S ++ T).data.toList (S.size : Int) = (b, S.size + T.size, 0)) := ⟨by rw [← hS, ← hT, B_size, B_size, uvI_second hb]⟩
  have hap : (S ++ T).size = S.size + T.size := by simp
  have HS := Kp.mk hS
  have HT := Kp.mk hT
  clear hS hT
  go_enter Try.func3, Try.ntmps3
  go_wp2_with fail
  refine (law01put_at a _ S (by omega) (by omega) (by rw [Int.toNat_natCast]; exact HS.out)).mono ?_
  rintro e w1 ⟨rfl, hb1⟩
  have HB1 := Kp.mk hb1
  clear hb1
  go_wp2_with fail
  refine (law01put_at b _ T (by omega) (by omega) (by rw [Int.toNat_natCast]; exact HT.out)).mono ?_
  rintro e w2 ⟨rfl, hb2⟩
  have HB2 : Kp (Below w.heap.size w w2) := ⟨HB1.out.trans (hb2.mono HB1.out.size)⟩
  clear hb2
  go_wp2_with fail
  refine (Len_at a S.size _ (by omega) (by omega) (by rw [Int.toNat_natCast]; exact HLA.out)).mono ?_
  rintro e w' ⟨rfl, rfl⟩
  have hse := hst.out
  cases x
  · clear hx
    cases y
    · clear hy
      go_wp2_with fail
      refine (Uvarint_at _ _ _ a S.size 0 (by omega) (by decide) (by decide) _ HU1.out rfl rfl rfl).mono ?_
      rintro e w' ⟨rfl, rfl⟩
      go_wp2_with fail
      refine (Uvarint_at _ _ _ b ((S.size : Int) + T.size) 0 (by omega) (by omega) (by omega) _ HU2.out rfl (Int.natCast_add S.size T.size) rfl).mono ?_
      rintro e w' ⟨rfl, rfl⟩
      go_wp2_with fail
      refine (awake_any _).mono ?_
      rintro e w3 ⟨rfl, hb3⟩
      have HB3 := Kp.mk hb3
      clear hb3
      go_wp2_with fail
      go_ret
      exact ⟨by trivial, HB2.out.trans (HB3.out.mono HB2.out.size)⟩
    · obtain ⟨hy1, hy2⟩ := hy rfl
      clear hy
      go_wp2_with fail
      refine (Uvarint_at _ _ _ a S.size 0 (by omega) (by decide) (by decide) _ HU1.out rfl rfl rfl).mono ?_
      rintro e w' ⟨rfl, rfl⟩
      go_wp2_with fail
      refine (Uvarint_at _ _ _ b ((S.size : Int) + T.size) 0 (by omega) (by omega) (by omega) _ HU2.out rfl (Int.natCast_add S.size T.size) rfl).mono ?_
      rintro e w' ⟨rfl, rfl⟩
      go_wp2_with fail
      refine (awake_any _).mono ?_
      rintro e w3 ⟨rfl, hb3⟩
      have HB3 := Kp.mk hb3
      clear hb3
      go_wp2_with fail
      go_ret
      exact ⟨by trivial, HB2.out.trans (HB3.out.mono HB2.out.size)⟩
  · have hgt : 1 < S.size := by simp at tx; omega
    have hxx := hx.out hgt
    have hidx : ((S.size : Int) - 1).toNat = S.size - 1 := by omega
    clear hx
    cases y
    · clear hy
      go_wp2_with fail
      refine (Uvarint_at _ _ _ a S.size 0 (by omega) (by decide) (by decide) _ HU1.out rfl rfl rfl).mono ?_
      rintro e w' ⟨rfl, rfl⟩
      go_wp2_with fail
      refine (Uvarint_at _ _ _ b ((S.size : Int) + T.size) 0 (by omega) (by omega) (by omega) _ HU2.out rfl (Int.natCast_add S.size T.size) rfl).mono ?_
      rintro e w' ⟨rfl, rfl⟩
      go_wp2_with fail
      refine (awake_any _).mono ?_
      rintro e w3 ⟨rfl, hb3⟩
      have HB3 := Kp.mk hb3
      clear hb3
      go_wp2_with fail
      go_ret
      exact ⟨by trivial, HB2.out.trans (HB3.out.mono HB2.out.size)⟩
    · obtain ⟨hy1, hy2⟩ := hy rfl
      clear hy
      go_wp2_with fail
      refine (Uvarint_at _ _ _ a S.size 0 (by omega) (by decide) (by decide) _ HU1.out rfl rfl rfl).mono ?_
      rintro e w' ⟨rfl, rfl⟩
      go_wp2_with fail
      refine (Uvarint_at _ _ _ b ((S.size : Int) + T.size) 0 (by omega) (by omega) (by omega) _ HU2.out rfl (Int.natCast_add S.size T.size) rfl).mono ?_
      rintro e w' ⟨rfl, rfl⟩
      go_wp2_with fail
      refine (awake_any _).mono ?_
      rintro e w3 ⟨rfl, hb3⟩
      have HB3 := Kp.mk hb3
      clear hb3
      go_wp2_with fail
      go_ret
      exact ⟨by trivial, HB2.out.trans (HB3.out.mono HB2.out.size)⟩
theorem walkBitsLeast (w : World) (a : Int) (ha : (Lit.int .u64 a).wf = true) (b : Int) (hb : (Lit.int .u64 b).wf = true) :
    Calls Try.prog 3 #[.int .u64 a, .int .u64 b] w fun e w' => e = .returned (.bool true) ∧ Below w.heap.size w w' := by
  obtain ⟨a, rfl, ha0⟩ := u64_nat ha
  obtain ⟨b, rfl, hb0⟩ := u64_nat hb
  have la := Var.vb_len10 ha0
  have lb := Var.vb_len10 hb0
  have pa := Var.vb_pos a
  refine least_core w a b (B (Var.vb a)) (B (Var.vb b)) ha0 hb0 rfl rfl (by rw [B_size]; exact pa) (by rw [B_size]; exact la) (by rw [B_size]; exact lb) _ rfl ⟨fun h => ?_⟩ _ rfl ?_ ?_ ⟨?_⟩
  · obtain ⟨k, hk⟩ : ∃ k, (Var.vb a).length = k + 2 := ⟨(Var.vb a).length - 2, by rw [B_size] at h; omega⟩
    obtain ⟨u, hu, hne⟩ := Var.vb_last k a hk
    have e : (B (Var.vb a))[(B (Var.vb a)).size - 1]'(by omega) = u := by
      obtain ⟨h1, h2⟩ := List.getElem?_eq_some_iff.1 hu
      rw [← h2]
      show (Var.vb a).toArray[(B (Var.vb a)).size - 1]'(by simp [B_size]; omega) = _
      simp [B_size, hk]
    rw [e, beq_eq_false_iff_ne]
    intro h0
    exact hne (UInt8.toNat_inj.1 (by simp; omega))
  · simp [B_size]
  · intro h
    rw [B_size, B_size] at h
    have h2 : (Var.vb a).length < (Var.vb b).length := by simpa using h
    have := Var.vb_fewer h2
    constructor <;> (simp; omega)
  · rw [bytes_toList, bytes_toList, B_list, B_list, Bool.eq_iff_iff]
    simp only [beq_iff_eq]
    exact ⟨fun h => by rw [Var.vb_inj ha0 hb0 h], fun h => by rw [show a = b by omega]⟩
end Go.Proofs.Ytmfigoffkopohaa
