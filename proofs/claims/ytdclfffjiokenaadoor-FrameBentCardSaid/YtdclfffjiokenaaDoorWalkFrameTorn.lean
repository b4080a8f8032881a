/- The walk of FrameTorn. -/
import Derived.Test.YtdclfffjiokenaaDoorWalkFrameRow
namespace Go.Proofs.YtdclfffjiokenaaDoor
open Go.RowKit
set_option linter.unusedVariables false

/-- A row cut short keeps its room. -/
theorem RK.head {z n g cap : Nat} {w : World} {cs : List Value} (h : RK z w (.slice (some ⟨g, 0, none⟩) n cap) n cs) (i : Nat) (hi : i ≤ n) : RK z w (.slice (some ⟨g, 0, none⟩) i cap) i (cs.take (i * z)) := by
  refine ⟨by rw [List.length_take, h.1]; exact Nat.min_eq_left (Nat.mul_le_mul_right _ hi), ?_⟩
  rcases h.2 with ⟨h1, _⟩ | ⟨g', cap', h1, h2, h3, h4⟩
  · simp at h1
  · simp only [Value.slice.injEq, Option.some.injEq, Addr.mk.injEq, and_true, true_and] at h1
    obtain ⟨rfl, rfl⟩ := h1
    refine .inr ⟨g, cap, rfl, by omega, h3, fun hc => ?_⟩
    obtain ⟨h5, h6, h7⟩ := h4 hc
    refine ⟨h5, fun j u hu => ?_, h7⟩
    rw [List.getElem?_take] at hu
    split at hu
    · exact h6 j u hu
    · cases hu
theorem cells_take (l : List FrV) (j : Nat) : (l.flatMap FrV.cells).take (j * 3) = (l.take j).flatMap FrV.cells := by
  induction l generalizing j with
  | nil => simp
  | cons x r ih =>
    cases j with
    | zero => simp
    | succ j =>
      rw [List.take_succ_cons, List.flatMap_cons, List.flatMap_cons, ← ih j, List.take_append]
      have : x.cells.length = 3 := rfl
      rw [List.take_of_length_le (by omega), this, show (j + 1) * 3 - 3 = j * 3 from by omega]
theorem frames_get (f : Nat → PtV) {j len : Nat} (h : j < len) : (framesAt 0 (parts f len))[j]? = some ⟨(f j).part.k, (f j).part.p, (rowB (parts f j)).length⟩ := by
  obtain ⟨r, hr⟩ := parts_cut f h
  rw [hr, framesAt_append, List.getElem?_append_right (by rw [framesAt_length, parts_length]; exact Nat.le_refl _), framesAt_length, parts_length, Nat.sub_self, Nat.zero_add]
  rfl
theorem frames_take (f : Nat → PtV) {j len : Nat} (h : j ≤ len) : (framesAt 0 (parts f len)).take j = framesAt 0 (parts f j) := by
  rcases Nat.lt_or_ge j len with h1 | h1
  · obtain ⟨r, hr⟩ := parts_cut f h1
    rw [hr, framesAt_append, List.take_left' (by rw [framesAt_length, parts_length])]
  · obtain rfl : j = len := by omega
    exact List.take_of_length_le (by rw [framesAt_length, parts_length]; exact Nat.le_refl _)
theorem frames_cells (f : Nat → PtV) {j len : Nat} (h : j < len) : ((framesAt 0 (parts f len)).flatMap FrV.cells)[j * 3]? = some (.int .u8 (f j).part.k) ∧ ((framesAt 0 (parts f len)).flatMap FrV.cells)[j * 3 + 1]? = some (.string (f j).s) ∧ ((framesAt 0 (parts f len)).flatMap FrV.cells)[j * 3 + 2]? = some (.int .i64 ((rowB (parts f j)).length : Nat)) := by
  have hl : j < (framesAt 0 (parts f len)).length := by rw [framesAt_length, parts_length]; exact h
  have h1 := cells_get _ j hl
  have h2 := (List.getElem?_eq_some_iff.1 (frames_get f h)).2
  rw [h2] at h1
  have hb : B (f j).part.p = (f j).s := by apply bytes_ext; rw [B_list]; rfl
  simp only [hb] at h1
  exact h1
theorem rows_succ (f : Nat → PtV) (j : Nat) : (rowB (parts f (j + 1))).length = (rowB (parts f j)).length + ((f j).s.size + 9) := by
  rw [parts_succ, rowB_append, List.length_append]
  have : (rowB [(f j).part]).length = (f j).part.p.length + 9 := by rw [rowB_cons]; simp [rowB, PartV.len]
  rw [this]
  have hz : (f j).part.p.length = (f j).s.size := by unfold PtV.part; exact data_len _
  rw [hz]
theorem rows_mono (f : Nat → PtV) {j k : Nat} (h : j ≤ k) : (rowB (parts f j)).length ≤ (rowB (parts f k)).length := by
  induction h with
  | refl => exact Nat.le_refl _
  | step _ ih => rw [rows_succ]; omega
set_option maxRecDepth 100000 in
set_option maxHeartbeats 4000000 in
theorem torn_small (w : World) (ao : Option Addr) (len cap : Nat) (f : Nat → PtV) (cut : Int) (hlm : len ≤ maxLen) (hf : Pts w ao len f) (hc : cost f len < 6000) (ht : Tab w) :
    Calls Tryd.prog 6 #[.slice ao len cap, .int .i64 cut] w fun e w' => e = .returned (.bool true) ∧ Below w.heap.size w w' := by
  have HA := Kp.mk awake_any
  have HT := Kp.mk ht
  have HF := Kp.mk hf
  have HL := Kp.mk (fun w hf => long_any w ao len cap f hlm hf)
  rw [show decide (6000 ≤ cost f len) = false from by rw [decide_eq_false_iff_not]; omega] at HL
  have HR := Kp.mk (fun w hf ht => row_any w ao len cap f hf hc ht)
  have hrc := rowB_cost f len hc
  have hok := parts_ok f len hc
  have h40 := cost_len f len
  have HTo := Kp.mk (scan_torn f len hc)
  have HMo := Kp.mk (fun j k h => rows_mono f (j := j) (k := k) h)
  have HSu := Kp.mk (rows_succ f)
  have HCl := Kp.mk (fun j h => frames_cells f (j := j) (len := len) h)
  have HTk := Kp.mk (fun j h => frames_take f (j := j) (len := len) h)
  have hfk := framesAt_kind 0 (parts f len) hok
  have HSm := Kp.mk (small_of f len hc)
  have hfl : (framesAt 0 (parts f len)).length = len := by rw [framesAt_length, parts_length]
  have hsz : (B (rowB (parts f len))).size = (rowB (parts f len)).length := B_size _
  have hsl : (B (rowB (parts f len))).data.toList = rowB (parts f len) := B_list _
  have hs6 : (B (rowB (parts f len))).size < 6000 := by omega
  have HSZ := Kp.mk hsz
  have HSL := Kp.mk hsl
  have HFK := Kp.mk hfk
  have HFL := Kp.mk hfl
  generalize B (rowB (parts f len)) = S at *
  obtain ⟨kk, hkk, hkks⟩ : ∃ kk : Nat, wrap64 ((IntKind.u64.wrap cut).tmod ((S.size : Int) + 1)) = (kk : Int) ∧ kk ≤ S.size := by
    refine ⟨((cut % 18446744073709551616) % ((S.size : Int) + 1)).toNat, ?_, ?_⟩
    · have h1 : 0 ≤ cut % 18446744073709551616 := by omega
      have h2 := Int.emod_nonneg (cut % 18446744073709551616) (show (S.size : Int) + 1 ≠ 0 by omega)
      have h3 := Int.emod_lt_of_pos (cut % 18446744073709551616) (show 0 < (S.size : Int) + 1 by omega)
      rw [IntKind.wrap_u64, Int.tmod_eq_emod_of_nonneg h1]
      unfold wrap64
      omega
    · have h2 := Int.emod_nonneg (cut % 18446744073709551616) (show (S.size : Int) + 1 ≠ 0 by omega)
      have h3 := Int.emod_lt_of_pos (cut % 18446744073709551616) (show 0 < (S.size : Int) + 1 by omega)
      omega
  have hlen : len < 150 := by omega
  clear hf ht hrc hok h40 hlm hc hfk hfl hsz hsl
  go_enter Tryd.func6, Tryd.ntmps6
  go_wp2_with fail
  refine (HL.out _ HF.out).mono ?_
  rintro e w' ⟨rfl, rfl⟩
  go_wp2_with fail
  refine (HA.out _ HT.out).mono ?_
  rintro e w1 ⟨rfl, b1⟩
  have B1 := Kp.mk b1
  clear b1
  go_wp2_with fail
  refine (HR.out _ (HF.out.below B1.out) (HT.out.below B1.out)).mono ?_
  rintro e w3 ⟨want, rfl, hw3, _, b3⟩
  obtain ⟨an, cn, rfl, _, _⟩ := hw3.len
  have HW3 := Kp.mk hw3
  have B3 := Kp.mk (B1.out.trans (b3.mono B1.out.size))
  clear b3 hw3
  go_wp2
  rw [hkk]
  clear hkk
  go_loopw [8, 9] (fun i at' wr => ∃ j : Nat, j ≤ len ∧ i = .int .i64 j ∧ at' = .int .i64 ((rowB (parts f j)).length : Nat) ∧ (rowB (parts f j)).length ≤ kk ∧ RK 3 wr (.slice an len cn) len ((framesAt 0 (parts f len)).flatMap FrV.cells) ∧ Below w.heap.size w wr) (fun i _ _ => len - (intOf i).toNat)
  case atStart => exact ⟨0, by omega, rfl, rfl, Nat.zero_le _, HW3.out, B3.out⟩
  case round =>
    obtain ⟨j, hj, rfl, rfl, hat, h6, hb6⟩ := hrel
    have H6 := Kp.mk h6
    have B6 := Kp.mk hb6
    have HKj : Kp (∀ x ∈ framesAt 0 (parts f j), x.k < 256) := ⟨fun x hx => HFK.out x (by rw [← HTk.out j hj] at hx; exact List.mem_of_mem_take hx)⟩
    clear h6 hb6
    have HFin : Kp (∀ (W : World), (j = len ∨ kk < (rowB (parts f (j + 1))).length) → Below w.heap.size w W → Calls Tryd.prog 15 #[.string (S.extract 0 kk), .int .i64 0] W fun e w' => ∃ v, e = .returned (.tuple #[v, .int .i64 ((rowB (parts f j)).length : Nat)]) ∧ RK 3 w' v j ((framesAt 0 (parts f j)).flatMap FrV.cells) ∧ Below W.heap.size W w') := ⟨fun W hfin hb => by
      have h1 := Scan_any (S.extract 0 kk) (0 : Nat) W (by rw [ByteArray.size_extract]; omega) (by omega) (by omega) (HT.out.below hb)
      have hx : (S.extract 0 kk).data.toList = (rowB (parts f len)).take kk := by
        have := extract_list S 0 kk
        rw [Nat.zero_add, HSL.out, List.drop_zero] at this
        exact this
      rw [scanV_in _ _ (Nat.zero_le _), hx, HTo.out kk j (by have := HSZ.out; omega) hj hat hfin] at h1
      refine h1.mono ?_
      rintro e w' ⟨v, he, hr, _, hb'⟩
      simp only [framesAt_length, parts_length] at hr
      exact ⟨v, he, hr, hb'⟩⟩
    by_cases hjl : j < len
    · obtain ⟨g, cp, he, hcp1, hcp2, hg, hgb⟩ := H6.out.at_ (by omega)
      simp only [Value.slice.injEq] at he
      obtain ⟨rfl, _, rfl⟩ := he
      obtain ⟨_, x1, _⟩ := HCl.out j hjl
      have c1 := H6.out.cell _ _ x1
      have hsj := HSm.out j hjl
      have hsu := HSu.out j
      have HZ := Kp.mk (fun w => Size_any ((f j).s.size : Nat) w (by omega) (by omega))
      have hsv : sizeV ((f j).s.size : Nat) = (((f j).s.size + 9 : Nat) : Int) := by unfold sizeV; rw [if_neg (by omega)]; omega
      rw [hsv] at HZ
      have hrl := HMo.out j len hj
      have hsz := HSZ.out
      rw [← hsz] at hrl
      clear hsz hsv x1
      by_cases hle : (rowB (parts f (j + 1))).length ≤ kk
      · have HLE := Kp.mk hle
        obtain ⟨R1, hR1⟩ : ∃ R, (rowB (parts f (j + 1))).length = R := ⟨_, rfl⟩
        have HR1 := Kp.mk hR1
        rw [hR1] at hsu hle
        clear hR1
        generalize (rowB (parts f j)).length = R0 at *
        generalize (f j).s = q at *
        have ts : ((R0 : Int) + (((q.size + 9 : Nat)) : Int)) = ((R0 + (q.size + 9) : Nat) : Int) := by omega
        have td : decide ((R0 : Int) + (((q.size + 9 : Nat)) : Int) ≤ (kk : Int)) = true := by rw [decide_eq_true_eq]; omega
        clear HFin
        go_wp2_with (go_at_call 19; refine (HZ.out _).mono ?_; rintro e w' ⟨rfl, rfl⟩)
        go_roundw
        case rel => exact ⟨j + 1, by omega, by go_num, by rw [HR1.out]; congr 1; omega, HLE.out, H6.out, B6.out⟩
        case measure => simp [intOf]; omega
      · have HFn := Kp.mk (fun W h => HFin.out W (.inr (by omega)) h)
        have hhd := H6.out.head j hj
        rw [cells_take, HTk.out j hj] at hhd
        have HHd := Kp.mk hhd
        have hjc : j ≤ cn := by omega
        generalize (rowB (parts f j)).length = R0 at *
        generalize (rowB (parts f (j + 1))).length = R1 at *
        generalize (f j).s = q at *
        have td : decide ((R0 : Int) + (((q.size + 9 : Nat)) : Int) ≤ (kk : Int)) = false := by rw [decide_eq_false_iff_not]; omega
        clear HFin hhd
        go_wp2_with (go_at_call 19; refine (HZ.out _).mono ?_; rintro e w' ⟨rfl, rfl⟩)
        refine (HFn.out _ B6.out).mono ?_
        rintro e w7 ⟨m, rfl, hm, hb7⟩
        obtain ⟨am, cm, rfl, _, _⟩ := hm.len
        have HM := Kp.mk hm
        have HD := Kp.mk (HHd.out.below hb7)
        have B7 := Kp.mk (B6.out.trans (hb7.mono B6.out.size))
        clear hm hb7
        have HAl := Kp.mk (all_any _ _ (framesAt 0 (parts f j)) (framesAt 0 (parts f j)) w7 (by rw [framesAt_length, parts_length]; exact HM.out) (by rw [framesAt_length, parts_length]; exact HD.out) (by rw [framesAt_length, parts_length]; omega) HKj.out HKj.out)
        rw [(allF_iff _ _).2 rfl] at HAl
        go_wp2_with fail
        refine HAl.out.mono ?_
        rintro e w8 ⟨rfl, b8⟩
        have B8 := Kp.mk (B7.out.trans (b8.mono B7.out.size))
        clear b8
        go_wp2
        go_ret
        exact ⟨rfl, B8.out⟩
    · have HFn := Kp.mk (fun W h => HFin.out W (.inl (by omega)) h)
      obtain rfl : j = len := by omega
      clear HFin
      generalize (rowB (parts f j)).length = R0 at *
      rcases H6.out.2 with ⟨hv, hv0⟩ | ⟨g, cp, hv, hcp1, hcp2, _⟩
      · simp only [Value.slice.injEq] at hv
        obtain ⟨rfl, _, rfl⟩ := hv
        subst hv0
        have HHd := Kp.mk H6.out
        rw [show ((0 : Nat) : Int) = 0 from rfl]
        have hcast : ((0 : Nat) : Int) = 0 := rfl
        go_wp2_with fail
        refine (HFn.out _ B6.out).mono ?_
        rintro e w7 ⟨m, rfl, hm, hb7⟩
        obtain ⟨am, cm, rfl, _, _⟩ := hm.len
        have HM := Kp.mk hm
        have HD := Kp.mk (HHd.out.below hb7)
        have B7 := Kp.mk (B6.out.trans (hb7.mono B6.out.size))
        clear hm hb7
        have HAl := Kp.mk (all_any _ _ (framesAt 0 (parts f 0)) (framesAt 0 (parts f 0)) w7 (by rw [framesAt_length, parts_length]; exact HM.out) (by rw [framesAt_length, parts_length]; exact HD.out) (by rw [framesAt_length, parts_length]; omega) HKj.out HKj.out)
        rw [(allF_iff _ _).2 rfl] at HAl
        go_wp2_with fail
        refine HAl.out.mono ?_
        rintro e w8 ⟨rfl, b8⟩
        have B8 := Kp.mk (B7.out.trans (b8.mono B7.out.size))
        clear b8
        go_wp2
        go_ret
        exact ⟨rfl, B8.out⟩
      · simp only [Value.slice.injEq] at hv
        obtain ⟨rfl, _, rfl⟩ := hv
        have HHd := Kp.mk H6.out
        go_wp2_with fail
        refine (HFn.out _ B6.out).mono ?_
        rintro e w7 ⟨m, rfl, hm, hb7⟩
        obtain ⟨am, cm, rfl, _, _⟩ := hm.len
        have HM := Kp.mk hm
        have HD := Kp.mk (HHd.out.below hb7)
        have B7 := Kp.mk (B6.out.trans (hb7.mono B6.out.size))
        clear hm hb7
        have HAl := Kp.mk (all_any _ _ (framesAt 0 (parts f j)) (framesAt 0 (parts f j)) w7 (by rw [framesAt_length, parts_length]; exact HM.out) (by rw [framesAt_length, parts_length]; exact HD.out) (by rw [framesAt_length, parts_length]; omega) HKj.out HKj.out)
        rw [(allF_iff _ _).2 rfl] at HAl
        go_wp2_with fail
        refine HAl.out.mono ?_
        rintro e w8 ⟨rfl, b8⟩
        have B8 := Kp.mk (B7.out.trans (b8.mono B7.out.size))
        clear b8
        go_wp2
        go_ret
        exact ⟨rfl, B8.out⟩
theorem torn_long (w : World) (ao : Option Addr) (len cap : Nat) (f : Nat → PtV) (cut : Int) (hlm : len ≤ maxLen) (hf : Pts w ao len f) (hc : 6000 ≤ cost f len) (ht : Tab w) :
    Calls Tryd.prog 6 #[.slice ao len cap, .int .i64 cut] w fun e w' => e = .returned (.bool true) ∧ Below w.heap.size w w' := by
  have HA := Kp.mk (awake_any w ht)
  have HL := Kp.mk (long_any w ao len cap f hlm hf)
  rw [show decide (6000 ≤ cost f len) = true from by rw [decide_eq_true_eq]; omega] at HL
  go_enter Tryd.func6, Tryd.ntmps6
  go_wp2_with fail
  refine HL.out.mono ?_
  rintro e w' ⟨rfl, rfl⟩
  go_wp2_with fail
  refine HA.out.mono ?_
  rintro e w1 ⟨rfl, b1⟩
  have B1 := Kp.mk b1
  clear b1
  go_wp2
  go_ret
  exact ⟨rfl, B1.out⟩
theorem walkFrameTorn {H : Type} {enc : TypeId × Value → H} {X : Prop} {b0 : Nat} {d : DataW H} {ps : List MemPlace} (w : World) (v : Value) (hval : Value.okWide Tryd.prog w .any b0 22 v)
    (h : DataW.Trod enc Tryd.prog w 0 (fun _ => true) true 22 v d ps) (cut : Int) (hcut : (Lit.int .i64 cut).wf = true) (_hweigh : X) (hL : Tab w) :
    Calls Tryd.prog 6 #[v, .int .i64 cut] w fun e w' => e = .returned (.bool true) ∧ Below w.heap.size w w' := by
  obtain ⟨a0, len0, cap0, hv⟩ := Go.WideShapes.okWide_slice Tryd.underlying22 hval
  have hc : v.cells.toList = [v] := by rw [hv]; rfl
  obtain ⟨ao, len, cap, f, rfl, hlm, hf⟩ := parts_open hc h
  by_cases h6 : cost f len < 6000
  · exact torn_small w ao len cap f cut hlm ⟨hf⟩ h6 hL
  · exact torn_long w ao len cap f cut hlm ⟨hf⟩ (by omega) hL
end Go.Proofs.YtdclfffjiokenaaDoor
