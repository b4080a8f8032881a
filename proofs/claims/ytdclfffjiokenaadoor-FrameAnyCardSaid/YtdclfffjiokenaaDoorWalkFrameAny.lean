/- The walk of FrameAny. -/
import Derived.Test.YtdclfffjiokenaaDoorFrameAwake
import Derived.Test.YtdclfffjiokenaaDoorRowSet
namespace Go.Proofs.YtdclfffjiokenaaDoor
open Go.RowKit
set_option linter.unusedVariables false

theorem scanL_chain (l : List UInt8) (p : Nat) : ∀ i (h : i < (scanL l p).1.length), ((scanL l p).1[i]).a = good p ((scanL l p).1.take i) := by
  induction p using scanL.induct (l := l) with
  | case1 p h ih =>
    intro i hi
    have e := scanL_ok h
    generalize scanL l (frAt l p).next = r at *
    rw [e] at hi
    simp only [e]
    cases i with
    | zero => rfl
    | succ i =>
      simp only [List.getElem_cons_succ, List.take_succ_cons, good]
      exact ih i (by simpa using hi)
  | case2 p h => intro i hi; rw [scanL_end h] at hi; simp at hi
theorem scanL_small (l : List UInt8) (p : Nat) : ∀ x ∈ (scanL l p).1, x.p.length ≤ 262144 := by
  induction p using scanL.induct (l := l) with
  | case1 p h ih =>
    rw [scanL_ok h]
    intro f hf
    rcases List.mem_cons.1 hf with rfl | hf
    · exact (Fr.readL_is h).small
    · exact ih f hf
  | case2 p h => rw [scanL_end h]; intro f hf; simp at hf
theorem scanL_stop (l : List UInt8) (p : Nat) : (Fr.readL (l.drop (scanL l p).2)).1 ≠ 0 := by
  induction p using scanL.induct (l := l) with
  | case1 p h ih => rw [scanL_ok h]; exact ih
  | case2 p h => rw [scanL_end h]; exact h
theorem scanL_le (l : List UInt8) (p : Nat) (hp : p ≤ l.length) : (scanL l p).2 ≤ l.length := by
  induction p using scanL.induct (l := l) with
  | case1 p h ih => rw [scanL_ok h]; exact ih (frAt_next h).2
  | case2 p h => rw [scanL_end h]; exact hp
theorem scanL_count (l : List UInt8) (p : Nat) (hp : p ≤ l.length) : (scanL l p).1.length + p ≤ l.length := by
  induction p using scanL.induct (l := l) with
  | case1 p h ih =>
    have hx := frAt_next h
    rw [scanL_ok h]
    have := ih hx.2
    simp only [List.length_cons]
    omega
  | case2 p h => rw [scanL_end h]; simpa using hp
theorem good_take (p : Nat) (l : List FrV) (i : Nat) (h : i < l.length) : good p (l.take (i + 1)) = l[i].next := by
  rw [List.take_succ_eq_append_getElem h, good_snoc]
theorem good_le (l : List UInt8) (p : Nat) (hp : p ≤ l.length) : ∀ i, i ≤ (scanL l p).1.length → good p ((scanL l p).1.take i) ≤ l.length := by
  induction p using scanL.induct (l := l) with
  | case1 p h ih =>
    intro i hi
    have e := scanL_ok h
    have hx := frAt_next h
    generalize scanL l (frAt l p).next = r at *
    rw [e] at hi
    simp only [e]
    cases i with
    | zero => exact hp
    | succ i =>
      simp only [List.take_succ_cons, good]
      exact ih hx.2 i (by simpa using hi)
  | case2 p h => intro i hi; rw [scanL_end h]; simpa [good] using hp
set_option maxRecDepth 100000 in
set_option maxHeartbeats 2000000 in
theorem any_in (s : ByteArray) (p : Nat) (w : World) (hs : s.size ≤ 20000) (hp : p ≤ s.size) (ht : Tab w) :
    Calls Tryd.prog 7 #[.string s, .int .i64 p] w fun e w' => e = .returned (.bool true) ∧ Below w.heap.size w w' := by
  have HA := Kp.mk awake_any
  have HT := Kp.mk ht
  have HSc := Kp.mk (fun w hw => Scan_any s p w (by omega) (by omega) (by omega) hw)
  have hsv : scanV s p = scanL s.data.toList p := by
    unfold scanV
    rw [if_neg (by omega), Int.toNat_natCast]
  rw [hsv] at HSc
  have hp' : p ≤ s.data.toList.length := by rw [data_len]; exact hp
  have hch := scanL_chain s.data.toList p
  have hsm := scanL_small s.data.toList p
  have hle := scanL_le s.data.toList p hp'
  have hst := scanL_stop s.data.toList p
  have hgd := scanL_good s.data.toList p
  have hcn := scanL_count s.data.toList p hp'
  have hgl := good_le s.data.toList p hp'
  rw [data_len] at hle hcn hgl
  generalize scanL s.data.toList p = r at *
  obtain ⟨l, gd⟩ := r
  simp only [] at HSc hch hsm hle hst hgd hcn hgl
  have HR := Kp.mk (fun w hw => Read_any s gd w (by omega) (by omega) (by omega) hw)
  rw [readE_at_bad hle hst] at HR
  generalize (Fr.readL (s.data.toList.drop gd)).1 = er at HR hst
  unfold Fr.badE at HR
  have ter : ((er : Int) != 0) = true := by simp; omega
  have t1 : decide (20000 < (s.size : Int)) = false := by rw [decide_eq_false_iff_not]; omega
  have t2 : decide ((p : Int) < 0) = false := by rw [decide_eq_false_iff_not]; omega
  have t3 : decide ((s.size : Int) < (p : Int)) = false := by rw [decide_eq_false_iff_not]; omega
  have t3' : decide (s.size < p) = false := by rw [decide_eq_false_iff_not]; omega
  have t4' : decide (gd ≤ s.size) = true := by rw [decide_eq_true_eq]; omega
  have t4 : decide ((gd : Int) ≤ (s.size : Int)) = true := by rw [decide_eq_true_eq]; omega
  have HCh := Kp.mk hch
  have HSm := Kp.mk hsm
  have HGd := Kp.mk hgd
  have HGl := Kp.mk hgl
  have hll : l.length ≤ 20000 := by omega
  clear ht hsv hch hsm hst hgd hp' hgl
  go_enter Tryd.func7, Tryd.ntmps7
  go_wp2_with fail
  refine (HA.out _ HT.out).mono ?_
  rintro e w1 ⟨rfl, b1⟩
  have B1 := Kp.mk b1
  clear b1
  go_wp2_with fail
  refine (HSc.out _ (HT.out.below B1.out)).mono ?_
  rintro e w2 ⟨v, rfl, hv, hn, b2⟩
  obtain ⟨av, cv, rfl, _, _⟩ := hv.len
  have HV := Kp.mk hv
  have B2 := Kp.mk (B1.out.trans (b2.mono B1.out.size))
  clear b2 hv hn
  go_wp2
  go_loopw [1, 7] (fun at' i wr => ∃ j : Nat, j ≤ l.length ∧ i = .int .i64 j ∧ at' = .int .i64 (good p (l.take j) : Nat) ∧ RK 3 wr (.slice av l.length cv) l.length (l.flatMap FrV.cells) ∧ Below w.heap.size w wr) (fun _ i _ => l.length - (intOf i).toNat)
  case atStart => exact ⟨0, by omega, rfl, rfl, HV.out, B2.out⟩
  case round =>
    obtain ⟨j, hj, rfl, rfl, h7, hb7⟩ := hrel
    have B7 := Kp.mk hb7
    have H7 := Kp.mk h7
    clear hb7 h7
    by_cases hjl : j < l.length
    · obtain ⟨g, cp, he, hcp1, hcp2, hg, hgb⟩ := H7.out.at_ (by omega)
      simp only [Value.slice.injEq] at he
      obtain ⟨rfl, _, rfl⟩ := he
      obtain ⟨x0, x1, x2⟩ := cells_get l j hjl
      have p1 := H7.out.cell _ _ x1
      have p2 := H7.out.cell _ _ x2
      have hca := HCh.out j hjl
      have hsz := HSm.out _ (List.getElem_mem hjl)
      have HNx := Kp.mk (good_take p l j hjl)
      have hgj := HGl.out j hj
      rw [hca] at p2
      generalize good p (l.take j) = G at *
      have HNx2 : Kp (l[j].next = G + 9 + l[j].p.length) := ⟨by unfold FrV.next; rw [hca]⟩
      have hpb : (B l[j].p).size = l[j].p.length := B_size _
      have HZ := Kp.mk (fun w => Size_any (l[j].p.length : Nat) w (by omega) (by omega))
      have hsv : sizeV (l[j].p.length : Nat) = ((l[j].p.length + 9 : Nat) : Int) := by unfold sizeV; rw [if_neg (by omega)]; omega
      rw [hsv] at HZ
      generalize B l[j].p = bb at *
      generalize l[j].p.length = n at *
      generalize l[j].next = nx at *
      clear x0 x1 x2 hca hsv
      go_wp2_with fail
      refine (HZ.out _).mono ?_
      rintro e w' ⟨rfl, rfl⟩
      go_wp2
      go_roundw
      case rel => exact ⟨j + 1, by omega, by go_num, by rw [HNx.out, HNx2.out]; congr 1; omega, H7.out, B7.out⟩
      case measure => simp [intOf]; omega
    · obtain rfl : j = l.length := by omega
      rw [List.take_of_length_le (Nat.le_refl _), ← HGd.out]
      go_wp2_with fail
      refine (HR.out _ (HT.out.below B7.out)).mono ?_
      rintro e w9 ⟨rfl, b9⟩
      have B9 := Kp.mk (B7.out.trans (b9.mono B7.out.size))
      clear b9
      go_wp2
      go_ret
      exact ⟨rfl, B9.out.alloc B9.out.size _⟩
theorem any_out (s : ByteArray) (a : Int) (w : World) (hs : s.size ≤ 20000) (h1 : -9223372036854775808 ≤ a) (h2 : a ≤ 9223372036854775807) (h0 : a < 0 ∨ (s.size : Int) < a) (ht : Tab w) :
    Calls Tryd.prog 7 #[.string s, .int .i64 a] w fun e w' => e = .returned (.bool true) ∧ Below w.heap.size w w' := by
  have HA := Kp.mk awake_any
  have HT := Kp.mk ht
  have HSc := Kp.mk (fun w => Scan_out s a w (by omega) h1 h2 h0)
  have t1 : decide (20000 < (s.size : Int)) = false := by rw [decide_eq_false_iff_not]; omega
  by_cases h00 : a < 0
  · have t2 : decide (a < 0) = true := by rw [decide_eq_true_eq]; exact h00
    go_enter Tryd.func7, Tryd.ntmps7
    go_wp2_with fail
    refine (HA.out _ HT.out).mono ?_
    rintro e w1 ⟨rfl, b1⟩
    have B1 := Kp.mk b1
    clear b1
    go_wp2_with fail
    refine (HSc.out _).mono ?_
    rintro e w2 ⟨rfl, b2⟩
    have B2 := Kp.mk (B1.out.trans (b2.mono B1.out.size))
    clear b2
    go_wp2
    go_ret
    exact ⟨rfl, B2.out⟩
  · have t2 : decide (a < 0) = false := by rw [decide_eq_false_iff_not]; exact h00
    have t3 : decide ((s.size : Int) < a) = true := by rw [decide_eq_true_eq]; omega
    go_enter Tryd.func7, Tryd.ntmps7
    go_wp2_with fail
    refine (HA.out _ HT.out).mono ?_
    rintro e w1 ⟨rfl, b1⟩
    have B1 := Kp.mk b1
    clear b1
    go_wp2_with fail
    refine (HSc.out _).mono ?_
    rintro e w2 ⟨rfl, b2⟩
    have B2 := Kp.mk (B1.out.trans (b2.mono B1.out.size))
    clear b2
    go_wp2
    go_ret
    exact ⟨rfl, B2.out⟩
theorem any_long (s : ByteArray) (a : Int) (w : World) (hs : 20000 < s.size) (ht : Tab w) :
    Calls Tryd.prog 7 #[.string s, .int .i64 a] w fun e w' => e = .returned (.bool true) ∧ Below w.heap.size w w' := by
  have HA := Kp.mk (awake_any w ht)
  have h1 : decide (20000 < (s.size : Int)) = true := by rw [decide_eq_true_eq]; omega
  go_enter Tryd.func7, Tryd.ntmps7
  go_wp2_with fail
  refine HA.out.mono ?_
  rintro e w1 ⟨rfl, b1⟩
  have B1 := Kp.mk b1
  clear b1
  go_wp2
  go_ret
  exact ⟨rfl, B1.out⟩
theorem walkFrameAny (w : World) (s : ByteArray) (hs : s.size ≤ maxLen) (n : Int) (hn : (Lit.int .i64 n).wf = true) (hL : Tab w) :
    Calls Tryd.prog 7 #[.string s, .int .i64 n] w fun e w' => e = .returned (.bool true) ∧ Below w.heap.size w w' := by
  by_cases h : 20000 < s.size
  · exact any_long s n w h hL
  · by_cases h0 : n < 0 ∨ (s.size : Int) < n
    · exact any_out s n w (by omega) (i64_int hn).1 (i64_int hn).2 h0 hL
    · obtain ⟨p, rfl⟩ := Int.eq_ofNat_of_zero_le (show 0 ≤ n by omega)
      exact any_in s p w (by omega) (by omega) hL
end Go.Proofs.YtdclfffjiokenaaDoor
