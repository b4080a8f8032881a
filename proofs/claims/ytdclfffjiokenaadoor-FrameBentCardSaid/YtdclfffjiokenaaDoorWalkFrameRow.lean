/- The walk of FrameRow. -/
import Derived.Test.YtdclfffjiokenaaDoorTorn
import Derived.Test.YtdclfffjiokenaaDoorRowSet
namespace Go.Proofs.YtdclfffjiokenaaDoor
open Go.RowKit
set_option linter.unusedVariables false

def shF (T : Nat) (f : FrV) : FrV := ⟨f.k, f.p, f.a + T⟩
theorem framesAt_shift (T q : Nat) (l : List PartV) : framesAt (q + T) l = (framesAt q l).map (shF T) := by
  induction l generalizing q with
  | nil => rfl
  | cons x r ih =>
    simp only [framesAt, List.map_cons, shF]
    rw [show q + T + 9 + x.p.length = (q + 9 + x.p.length) + T from by omega, ih]
theorem framesAt_le (q : Nat) (l : List PartV) : ∀ x ∈ framesAt q l, x.a ≤ q + (rowB l).length := by
  induction l generalizing q with
  | nil => intro x hx; simp [framesAt] at hx
  | cons y r ih =>
    intro x hx
    rw [rowB_cons, List.length_append, PartV.len]
    rcases List.mem_cons.1 hx with rfl | hx
    · simp only []; omega
    · have := ih _ x hx; omega
def mixF (T : Nat) (L : List FrV) (j : Nat) : List FrV := L.take j ++ (L.drop j).map (shF T)
theorem mixF_zero (T : Nat) (L : List FrV) : mixF T L 0 = L.map (shF T) := by simp [mixF]
theorem mixF_all (T : Nat) (L : List FrV) : mixF T L L.length = L := by simp [mixF]
theorem cells_len (l : List FrV) : (l.flatMap FrV.cells).length = l.length * 3 := by
  induction l with
  | nil => rfl
  | cons x r ih => rw [List.flatMap_cons, List.length_append, ih, List.length_cons]; simp only [FrV.cells, List.length_cons, List.length_nil]; omega
theorem mixF_set (T : Nat) (L : List FrV) (j : Nat) (h : j < L.length) : ((mixF T L j).flatMap FrV.cells).set (j * 3 + 2) (.int .i64 (L[j].a : Nat)) = (mixF T L (j + 1)).flatMap FrV.cells := by
  have e1 : L.drop j = L[j] :: L.drop (j + 1) := (List.getElem_cons_drop (h := h)).symm
  unfold mixF
  rw [e1, List.take_succ_eq_append_getElem h, List.map_cons, List.flatMap_append, List.flatMap_cons, List.append_assoc, List.flatMap_append, List.singleton_append, List.flatMap_cons]
  have hl : ((L.take j).flatMap FrV.cells).length = j * 3 := by rw [cells_len, List.length_take, Nat.min_eq_left (Nat.le_of_lt h)]
  rw [List.set_append_right _ _ (by omega), hl, show j * 3 + 2 - j * 3 = 2 from by omega]
  rfl
theorem mixF_get (T : Nat) (L : List FrV) (j : Nat) (h : j < L.length) : ((mixF T L j).flatMap FrV.cells)[j * 3 + 2]? = some (.int .i64 (L[j].a + T : Nat)) := by
  have hm : j < (mixF T L j).length := by simp [mixF]; omega
  have := (cells_get (mixF T L j) j hm).2.2
  rw [this]
  have hl : (L.take j).length = j := by rw [List.length_take, Nat.min_eq_left (Nat.le_of_lt h)]
  have e0 : (mixF T L j)[j]? = some (shF T L[j]) := by
    unfold mixF
    rw [List.getElem?_append_right (by omega), hl, Nat.sub_self, List.getElem?_map, List.getElem?_drop, Nat.add_zero, List.getElem?_eq_getElem h]
    rfl
  have e : (mixF T L j)[j] = shF T L[j] := (List.getElem?_eq_some_iff.1 e0).2
  rw [e]
  rfl
theorem mixF_len (T : Nat) (L : List FrV) (j : Nat) (h : j ≤ L.length) : (mixF T L j).length = L.length := by simp [mixF]; omega
theorem readE_nil_ok (s : ByteArray) : Fr.readV s 0 = Fr.readL s.data.toList := by
  have := readV_at (s := s) (p := 0) (Nat.zero_le _)
  simpa using this
theorem scanV_in (s : ByteArray) (p : Nat) (h : p ≤ s.size) : scanV s p = scanL s.data.toList p := by
  unfold scanV
  rw [if_neg (by omega), Int.toNat_natCast]
set_option maxRecDepth 100000 in
set_option maxHeartbeats 4000000 in
theorem row_small (w : World) (ao : Option Addr) (len cap : Nat) (f : Nat → PtV) (t : ByteArray) (hlm : len ≤ maxLen) (hf : Pts w ao len f) (hc : cost f len < 6000) (h30 : t.size ≤ 3000) (ht : Tab w) :
    Calls Tryd.prog 3 #[.slice ao len cap, .string t] w fun e w' => e = .returned (.bool true) ∧ Below w.heap.size w w' := by
  have HA := Kp.mk awake_any
  have HT := Kp.mk ht
  have HF := Kp.mk hf
  have HL := Kp.mk (fun w hf => long_any w ao len cap f hlm hf)
  rw [show decide (6000 ≤ cost f len) = false from by rw [decide_eq_false_iff_not]; omega] at HL
  have HR := Kp.mk (fun w hf ht => row_any w ao len cap f hf hc ht)
  have hrc := rowB_cost f len hc
  have hok := parts_ok f len hc
  have hpl := parts_length f len
  have h40 := cost_len f len
  generalize parts f len = P at *
  have t1 : decide (3000 < (t.size : Int)) = false := by rw [decide_eq_false_iff_not]; omega
  have HR0 := Kp.mk (fun w hw => Read_any t 0 w (by omega) (by omega) (by omega) hw)
  by_cases hr0 : (Fr.readL t.data.toList).1 = 0
  · rw [readE_zero, hr0] at HR0
    generalize (Fr.readL t.data.toList).2.1 = fk at HR0
    generalize (Fr.readL t.data.toList).2.2 = fp at HR0
    generalize Fr.nxt (Fr.readL t.data.toList) 0 = fn at HR0
    clear hf ht
    go_enter Tryd.func3, Tryd.ntmps3
    go_wp2_with fail
    refine (HL.out _ HF.out).mono ?_
    rintro e w' ⟨rfl, rfl⟩
    go_wp2_with fail
    refine (HA.out _ HT.out).mono ?_
    rintro e w1 ⟨rfl, b1⟩
    have B1 := Kp.mk b1
    clear b1
    go_wp2_with fail
    refine (HR0.out _ (HT.out.below B1.out)).mono ?_
    rintro e w2 ⟨rfl, b2⟩
    have B2 := Kp.mk (B1.out.trans (b2.mono B1.out.size))
    clear b2
    go_wp2
    go_ret
    exact ⟨rfl, B2.out.alloc B2.out.size _⟩
  · have hrl : (Fr.readL t.data.toList).2 = (0, []) := Fr.readL_bad hr0
    have hz1 : scanV (B (rowB P) ++ t) (0 : Nat) = (framesAt 0 P, (rowB P).length) := by
      rw [scanV_in _ _ (Nat.zero_le _)]
      have := scan_row P hok t.data.toList hr0 []
      simpa [B_list] using this
    have hz2 : scanV (t ++ B (rowB P)) (t.size : Nat) = (framesAt (0 + t.size) P, t.size + (rowB P).length) := by
      rw [scanV_in _ _ (by rw [ByteArray.size_append]; omega)]
      have := scan_row P hok [] Fr.readL_nil t.data.toList
      rw [data_len] at this
      simpa [B_list] using this
    have hfl : (framesAt 0 P).length = len := by rw [framesAt_length, hpl]
    have hfk := framesAt_kind 0 P hok
    have hfa : ∀ x ∈ framesAt 0 P, x.a ≤ 6000 := fun x hx => by have := framesAt_le 0 P x hx; omega
    rw [framesAt_shift] at hz2
    have hsz : (B (rowB P)).size = (rowB P).length := B_size _
    have HS1 := Kp.mk (fun w hw => Scan_any (B (rowB P) ++ t) (0 : Nat) w (by rw [ByteArray.size_append]; omega) (by omega) (by omega) hw)
    have HS2 := Kp.mk (fun w hw => Scan_any (t ++ B (rowB P)) (t.size : Nat) w (by rw [ByteArray.size_append]; omega) (by omega) (by omega) hw)
    rw [hz1] at HS1
    rw [hz2] at HS2
    rw [← hsz] at HS1 HS2 hrc
    have hc1 : ¬ 9223372036854775807 < (B (rowB P)).size + t.size := by omega
    have hc2 : ¬ 9223372036854775807 < t.size + (B (rowB P)).size := by omega
    clear hz1 hz2 hsz hok hpl
    generalize B (rowB P) = S at *
    generalize framesAt 0 P = L at *
    simp only [List.length_map, hfl] at HS1 HS2
    have hs1 : Fr.readE t 0 = .returned (.tuple #[.agg #[.int .u8 0, .string ⟨#[]⟩, .int .i64 0], .int .i64 0, .int .i64 (Fr.readL t.data.toList).1]) := by
      have := Fr.readE_bad (s := t) (a := 0) hr0 (by rw [readE_nil_ok]; exact Prod.ext rfl hrl)
      rw [this]; rfl
    rw [hs1] at HR0
    generalize (Fr.readL t.data.toList).1 = er at HR0 hr0
    have ter : ((er : Int) == 0) = false := by simp; omega
    have HFK := Kp.mk hfk
    have HFA := Kp.mk hfa
    have HFL := Kp.mk hfl
    have hlen : len < 150 := by omega
    clear hf ht hfk hfl hfa hrl hs1 hlm
    rw [show ((0 : Nat) : Int) = 0 from rfl] at HS1
    go_enter Tryd.func3, Tryd.ntmps3
    go_wp2_with fail
    refine (HL.out _ HF.out).mono ?_
    rintro e w' ⟨rfl, rfl⟩
    go_wp2_with fail
    refine (HA.out _ HT.out).mono ?_
    rintro e w1 ⟨rfl, b1⟩
    have B1 := Kp.mk b1
    clear b1
    go_wp2_with fail
    refine (HR0.out _ (HT.out.below B1.out)).mono ?_
    rintro e w2 ⟨rfl, b2⟩
    have B2 := Kp.mk (B1.out.trans (b2.mono B1.out.size))
    have B2' := Kp.mk (B2.out.alloc B2.out.size (.cells #[.int .u8 0, .string ⟨#[]⟩, .int .i64 0] 26))
    clear b2
    go_wp2_with fail
    refine (HR.out _ (HF.out.below B2'.out) (HT.out.below B2'.out)).mono ?_
    rintro e w3 ⟨want, rfl, hw3, _, b3⟩
    have HW3 := Kp.mk hw3
    have B3 := Kp.mk (B2'.out.trans (b3.mono B2'.out.size))
    clear b3 hw3
    go_wp2_with fail
    refine (HS1.out _ (HT.out.below B3.out)).mono ?_
    rintro e w4 ⟨m, rfl, hm4, hmn, b4⟩
    obtain ⟨am, cm, rfl, _, _⟩ := hm4.len
    have HM4 := Kp.mk hm4
    have HW4 := Kp.mk (HW3.out.below b4)
    have B4 := Kp.mk (B3.out.trans (b4.mono B3.out.size))
    clear b4 hm4
    go_wp2_with fail
    refine (HS2.out _ (HT.out.below B4.out)).mono ?_
    rintro e w5 ⟨n, rfl, hn5, hnn, b5⟩
    obtain ⟨an, cn, rfl, _, _⟩ := hn5.len
    have HN5 := Kp.mk hn5
    have HM5 := Kp.mk (HM4.out.below b5)
    have HW5 := Kp.mk (HW4.out.below b5)
    have B5 := Kp.mk (B4.out.trans (b5.mono B4.out.size))
    have HO1 : Kp (∀ g, blk (.slice an len cn) = some g → Off g want ∧ Off g (.slice am len cm) ∧ w.heap.size ≤ g) := ⟨fun g hg => by
      have h1 := hnn g hg
      have h2 := B4.out.size
      exact ⟨fun k hk e => by have := HW4.out.lt k hk; omega, fun k hk e => by have := HM4.out.lt k hk; omega, by omega⟩⟩
    clear b5 hn5 hnn hmn
    go_wp2
    go_loopw [14] (fun i wr => ∃ j : Nat, j ≤ len ∧ i = .int .i64 j ∧ RK 3 wr (.slice an len cn) len ((mixF t.size L j).flatMap FrV.cells) ∧ RK 3 wr (.slice am len cm) len (L.flatMap FrV.cells) ∧ RK 3 wr want len (L.flatMap FrV.cells) ∧ Below w.heap.size w wr) (fun i _ => len - (intOf i).toNat)
    case atStart => exact ⟨0, by omega, rfl, by rw [mixF_zero]; exact HN5.out, HM5.out, HW5.out, B5.out⟩
    case round =>
      obtain ⟨j, hj, rfl, h6, hm6, hw6, hb6⟩ := hrel
      have H6 := Kp.mk h6
      have HM6 := Kp.mk hm6
      have HW6 := Kp.mk hw6
      have B6 := Kp.mk hb6
      clear h6 hm6 hw6 hb6
      by_cases hjl : j < len
      · obtain ⟨g, cp, he, hcp1, hcp2, hg, hgb⟩ := H6.out.at_ (by omega)
        simp only [Value.slice.injEq] at he
        obtain ⟨rfl, _, rfl⟩ := he
        have hjL : j < L.length := by rw [HFL.out]; exact hjl
        have c2 := H6.out.cell _ _ (mixF_get t.size L j hjL)
        have f2 := H6.out.free (j * 3 + 2) (by omega)
        have HP := Kp.mk (H6.out.put (j * 3 + 2) (.int .i64 (L[j].a : Nat)) (by omega))
        rw [mixF_set t.size L j hjL] at HP
        obtain ⟨o1, o2, o3⟩ := HO1.out g hgb
        have HP2 := Kp.mk (HM6.out.off (j := j * 3 + 2) (u := .int .i64 (L[j].a : Nat)) o2)
        have HP3 := Kp.mk (HW6.out.off (j := j * 3 + 2) (u := .int .i64 (L[j].a : Nat)) o1)
        have HP4 := Kp.mk (B6.out.setCell (p := ⟨g, j * 3 + 2, none⟩) o3 (.int .i64 (L[j].a : Nat)))
        have haL : L[j].a + t.size < 9223372036854775808 := by have := HFA.out _ (List.getElem_mem hjL); omega
        generalize L[j].a = A at *
        clear hjL o1 o2 o3
        go_wp2
        go_roundw
        case rel => exact ⟨j + 1, by omega, by go_num, HP.out, HP2.out, HP3.out, HP4.out⟩
        case measure => simp [intOf]; omega
      · obtain rfl : j = len := by omega
        have h6 := H6.out
        rw [← HFL.out, mixF_all, HFL.out] at h6
        have HA1 := Kp.mk (all_any _ want L L _ (by rw [HFL.out]; exact HM6.out) (by rw [HFL.out]; exact HW6.out) (by rw [HFL.out]; omega) HFK.out HFK.out)
        rw [(allF_iff L L).2 rfl] at HA1
        go_wp2_with fail
        refine HA1.out.mono ?_
        rintro e w7 ⟨rfl, b7⟩
        have H7 := Kp.mk (h6.below b7)
        have HW7 := Kp.mk (HW6.out.below b7)
        have B7 := Kp.mk (B6.out.trans (b7.mono B6.out.size))
        clear b7 h6
        have HA2 := Kp.mk (all_any _ want L L _ (by rw [HFL.out]; exact H7.out) (by rw [HFL.out]; exact HW7.out) (by rw [HFL.out]; omega) HFK.out HFK.out)
        rw [(allF_iff L L).2 rfl] at HA2
        go_wp2_with fail
        refine HA2.out.mono ?_
        rintro e w8 ⟨rfl, b8⟩
        have B8 := Kp.mk (B7.out.trans (b8.mono B7.out.size))
        clear b8
        have hcm : ((t.size + S.size : Nat) : Int) = (S.size : Int) + (t.size : Int) := by omega
        go_wp2
        go_ret
        exact ⟨by simp <;> omega, B8.out⟩
theorem row_long (w : World) (ao : Option Addr) (len cap : Nat) (f : Nat → PtV) (t : ByteArray) (hlm : len ≤ maxLen) (hf : Pts w ao len f) (hc : 6000 ≤ cost f len ∨ 3000 < t.size) (ht : Tab w) :
    Calls Tryd.prog 3 #[.slice ao len cap, .string t] w fun e w' => e = .returned (.bool true) ∧ Below w.heap.size w w' := by
  have HA := Kp.mk (awake_any w ht)
  have HL := Kp.mk (long_any w ao len cap f hlm hf)
  by_cases h6 : 6000 ≤ cost f len
  · rw [show decide (6000 ≤ cost f len) = true from by rw [decide_eq_true_eq]; omega] at HL
    go_enter Tryd.func3, Tryd.ntmps3
    go_wp2_with fail
    refine HL.out.mono ?_
    rintro e w' ⟨rfl, rfl⟩
    go_wp2_with fail
    refine HA.out.mono ?_
    rintro e w1 ⟨rfl, b1⟩
    have B1 := Kp.mk b1
    clear b1
    go_wp2
    go_ret
    exact ⟨rfl, B1.out⟩
  · rw [show decide (6000 ≤ cost f len) = false from by rw [decide_eq_false_iff_not]; omega] at HL
    have t1 : decide (3000 < (t.size : Int)) = true := by rw [decide_eq_true_eq]; omega
    go_enter Tryd.func3, Tryd.ntmps3
    go_wp2_with fail
    refine HL.out.mono ?_
    rintro e w' ⟨rfl, rfl⟩
    go_wp2_with fail
    refine HA.out.mono ?_
    rintro e w1 ⟨rfl, b1⟩
    have B1 := Kp.mk b1
    clear b1
    go_wp2
    go_ret
    exact ⟨rfl, B1.out⟩
theorem walkFrameRow {H : Type} {enc : TypeId × Value → H} {X : Prop} {b0 : Nat} {d : DataW H} {ps : List MemPlace} (w : World) (v : Value) (hval : Value.okWide Tryd.prog w .any b0 22 v)
    (h : DataW.Trod enc Tryd.prog w 0 (fun _ => true) true 22 v d ps) (t : ByteArray) (hts : t.size ≤ maxLen) (_hweigh : X) (hL : Tab w) :
    Calls Tryd.prog 3 #[v, .string t] w fun e w' => e = .returned (.bool true) ∧ Below w.heap.size w w' := by
  obtain ⟨a0, len0, cap0, hv⟩ := Go.WideShapes.okWide_slice Tryd.underlying22 hval
  have hc : v.cells.toList = [v] := by rw [hv]; rfl
  obtain ⟨ao, len, cap, f, rfl, hlm, hf⟩ := parts_open hc h
  by_cases h6 : cost f len < 6000 ∧ t.size ≤ 3000
  · exact row_small w ao len cap f t hlm ⟨hf⟩ h6.1 h6.2 hL
  · exact row_long w ao len cap f t hlm ⟨hf⟩ (by omega) hL
end Go.Proofs.YtdclfffjiokenaaDoor
