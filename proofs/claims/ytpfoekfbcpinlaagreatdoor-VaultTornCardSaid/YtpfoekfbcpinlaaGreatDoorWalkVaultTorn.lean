/- The walk of VaultTorn: it returns true, and leaves what was there. -/
import Derived.Test.YtpfoekfbcpinlaaGreatDoorVaultTornOne
namespace Go.Proofs.YtpfoekfbcpinlaaGreatDoor
open Go.RowKit Go.ChangeShapes Go.WideShapes Go.Deep
set_option linter.unusedVariables false

theorem HPfew {w : World} {g v : Nat} {D : DiskV} (q : HdV) {m : Int} {n : Nat} (h : VS w g v D q m n) : q.ll ≤ 31 := h.vlt.few
theorem wpList_append_on {P : Program} {w : World} {v u : Value} {z n m : Nat} {cs ks : List Value} {ops : Array Oper} {rest : List Oper} {o : Oper} {a : Act} {Q : Exit → Act → World → Prop} (hgd : Region.wanted o (yielded ops a.tmps) = true) (s x : Operand) (T : TypeId) (ho : o.op = .call { callee := .builtin .append, args := #[s, x], argTypes := #[T, T] })
    (h : RK z w v n cs) (hu : Src z w u m ks) (E : TypeId) (i : TypeInfo) (zero : Value) (bytes : Nat) (hT : P.underlying T = some (.slice E)) (hi : P.info? E = some i) (hz : i.zero = some zero) (hsz : i.size = z) (hby : i.bytes = bytes) (hzs : zero.cells.size = z) (hz0 : 0 < z)
    (hs : a.eval s = v) (hx : a.eval x = u) (h1 : ∀ u ∈ ks, u.oneCell' = true) (h63 : n + m ≤ maxLen) (hbytes : (n + m) * bytes ≤ 140737488355328) (p : Nat) (ls : List Value) (hp : n + m = p) (hl : cs ++ ks = ls)
    (hK : ∀ ao cap w', RK z w' (.slice ao p cap) p ls → w.grownBy w' (blk v) → Fresh w v (.slice ao p cap) → wpList P ops Q rest (a.put o.dst (.slice ao p cap)) w') : wpList P ops Q (o :: rest) a w := by
  refine wpList_step fun K hK' => ?_
  rw [if_pos hgd]
  obtain ⟨ao, cap, w', hr, k1, k2, k3⟩ := run_append_src h hu T o.type E i zero bytes hT hi hz hsz hby hzs hz0 h1 h63 hbytes p ls hp hl
  exact wp_append_of_run s x T ho v _ _ w' hs hx hr (hK' _ _ (hK ao cap w' k1 k2 k3))
theorem writeTo {g v : Nat} {D D' : DiskV} {q : HdV} {m : Int} {n : Nat} {s : ByteArray} {t z : Int} {w : World} (hv : VS w g v D q m n) (hp : writeV D t s = (z, D')) (hs : s.size ≤ maxLen) :
    Calls Tryz.prog 15 #[.pointer (some ⟨g, 0, none⟩), .int .i64 t, .string s] w fun e w' => e = .returned (.int .i64 z) ∧ DiskAt w' g D' ∧ Ok D' ∧ Chg w w' g := by
  have h := Write_any g D t s w hv.disk hv.ok hs
  have ho := hv.ok.write t s
  rw [hp] at h ho
  exact h.mono fun e w' ⟨h1, h2, h3⟩ => ⟨h1, h2, ho, h3⟩
theorem syncTo {g v : Nat} {D D' : DiskV} {q : HdV} {m : Int} {n : Nat} {t z : Int} {w : World} (hv : VS w g v D q m n) (hp : syncV D t = (z, D')) :
    Calls Tryz.prog 16 #[.pointer (some ⟨g, 0, none⟩), .int .i64 t] w fun e w' => e = .returned (.int .i64 z) ∧ DiskAt w' g D' ∧ Ok D' ∧ Chg w w' g := by
  have h := Sync_any g D t w hv.disk hv.ok
  have ho := hv.ok.sync t
  rw [hp] at h ho
  exact h.mono fun e w' ⟨h1, h2, h3⟩ => ⟨h1, h2, ho, h3⟩
set_option maxRecDepth 100000 in
set_option maxHeartbeats 4000000 in
theorem torn_early (ao : Option Addr) (len cap : Nat) (f : Nat → ByteArray) (t : ByteArray) (w : World) (hl : len ≤ maxLen) (hf : StrIn w ao len f) (hz : ∀ i, i < len → (f i).size ≤ maxLen) (hts : t.size ≤ 9223372036854775807) (ht : Tab w)
    (hbig : 3000 ≤ costT10 f len ∨ 3000 < t.size ∨ (Fr.readL t.data.toList).1 = 0) :
    Calls Tryz.prog 3 #[.slice ao len cap, .string t] w fun e w' => e = .returned (.bool true) ∧ Below w.heap.size w w' := by
  unfold maxLen at hl
  have HF := Kp.mk hf
  have HSz := Kp.mk hz
  have HAw := Kp.mk (fun W (hW : Below w.heap.size w W) => awake_any W (ht.below hW))
  have HDr : Kp (∀ k, Below w.heap.size w (w.drewN k)) := ⟨fun k => ⟨rfl, rfl, rfl, Nat.le_refl _, fun _ _ => rfl⟩⟩
  clear hf hz ht
  go_enter Tryz.func3, Tryz.ntmps3
  go_wp2
  go_loopw [5, 6] (fun n i wr => ∃ j m : Nat, j ≤ len ∧ i = .int .i64 j ∧ n = .int .i64 (costT10 f j) ∧ costT10 f j < 9100 ∧ wr = w.drewN m) (fun _ i _ => len - (intOf i).toNat)
  case atStart => exact ⟨0, 0, by omega, rfl, rfl, (by show (0 : Nat) < 9100; decide), rfl⟩
  case round =>
    obtain ⟨j, me, hj, rfl, rfl, hc2, rfl⟩ := hrel
    by_cases hgo2 : j < len ∧ costT10 f j < 3000
    · obtain ⟨hjl, h6⟩ := hgo2
      obtain ⟨a, rfl, c0⟩ := HF.out w (Below.refl _ _) j hjl
      have hs := HSz.out j hjl
      unfold maxLen at hs
      have HC2 : Kp (costT10 f (j + 1) = costT10 f j + (30 + min 3000 (f j).size)) := ⟨rfl⟩
      have t1 : decide ((costT10 f j : Int) < 3000) = true := by rw [decide_eq_true_eq]; omega
      have t1' : decide (costT10 f j < 3000) = true := by rw [decide_eq_true_eq]; omega
      generalize f j = q at c0 hs HC2
      generalize costT10 f j = E at h6 hc2 HC2 t1 t1' ⊢
      obtain ⟨m1, hm1⟩ : ∃ m, min 3000 q.size = m := ⟨_, rfl⟩
      have hb1 : m1 ≤ 3000 := by omega
      have HM1 : Kp ((if (q.size : Int) < (3000 : Int) then (q.size : Int) else (3000 : Int)) = (m1 : Int)) := ⟨by split <;> omega⟩
      rw [hm1] at HC2
      have hmin1 : min (q.size : Int) 3000 = (m1 : Int) := by omega
      have hmin2 : min (3000 : Int) (q.size : Int) = (m1 : Int) := by omega
      clear hm1
      have hk0 : (0 : Int) ≤ (j : Int) := by omega
      have hk1 : (j : Int) < (len : Int) := by omega
      have n1 : IntKind.i64.wrap ((E : Int) + 30) = ((E + 30 : Nat) : Int) := by rw [IntKind.wrap_i64]; omega
      have n5 : IntKind.i64.wrap (((E + 30 : Nat) : Int) + (m1 : Int)) = ((E + 30 + m1 : Nat) : Int) := by rw [IntKind.wrap_i64]; omega
      go_wp2_with fail
      clear n1 n5
      go_roundw
      case rel => exact ⟨j + 1, _, by omega, by go_num, by rw [HC2.out, HM1.out]; congr 1; omega, by rw [HC2.out]; omega, rfl⟩
      case measure => simp [intOf]; omega
    · have HB := Kp.mk (HDr.out me)
      have HRd := Kp.mk (refReadB_any t 0 (w.drewN me) hts (by decide) (by decide))
      rw [readE_zero] at HRd
      generalize (Fr.nxt (Fr.readL t.data.toList) 0) = nx at HRd
      by_cases hN : 3000 ≤ costT10 f j
      · have t2 : decide ((3000 : Int) ≤ (costT10 f j : Int)) = true := by rw [decide_eq_true_eq]; omega
        have t2' : decide (3000 ≤ costT10 f j) = true := by rw [decide_eq_true_eq]; omega
        have t1 : decide ((costT10 f j : Int) < 3000) = false := by rw [decide_eq_false_iff_not]; omega
        have t1' : decide (costT10 f j < 3000) = false := by rw [decide_eq_false_iff_not]; omega
        generalize Fr.readL t.data.toList = R at HRd
        clear hgo2 hbig hN
        by_cases hjl : j < len
        · have t0 : decide ((j : Int) < (len : Int)) = true := by rw [decide_eq_true_eq]; omega
          have t0' : decide (j < len) = true := by rw [decide_eq_true_eq]; omega
          clear hjl
          go_wp2_with fail
          refine HRd.out.mono ?_
          rintro e w2 ⟨rfl, b2⟩
          have HB2 := Kp.mk (HB.out.trans (b2.mono HB.out.size))
          have HB3 := Kp.mk (fun o => HB2.out.alloc HB2.out.size o)
          clear b2 HRd
          go_wp2_with fail
          refine (HAw.out _ (HB3.out _)).mono ?_
          rintro e w3 ⟨rfl, b3⟩
          have HB4 := Kp.mk ((HB3.out _).trans (b3.mono (HB3.out _).size))
          clear b3
          go_wp2
          go_ret
          exact ⟨by trivial, HB4.out⟩
        · obtain rfl : j = len := by omega
          clear hjl
          go_wp2_with fail
          refine HRd.out.mono ?_
          rintro e w2 ⟨rfl, b2⟩
          have HB2 := Kp.mk (HB.out.trans (b2.mono HB.out.size))
          have HB3 := Kp.mk (fun o => HB2.out.alloc HB2.out.size o)
          clear b2 HRd
          go_wp2_with fail
          refine (HAw.out _ (HB3.out _)).mono ?_
          rintro e w3 ⟨rfl, b3⟩
          have HB4 := Kp.mk ((HB3.out _).trans (b3.mono (HB3.out _).size))
          clear b3
          go_wp2
          go_ret
          exact ⟨by trivial, HB4.out⟩
      · obtain rfl : j = len := by omega
        have t2 : decide ((3000 : Int) ≤ (costT10 f j : Int)) = false := by rw [decide_eq_false_iff_not]; omega
        have t2' : decide (3000 ≤ costT10 f j) = false := by rw [decide_eq_false_iff_not]; omega
        by_cases hT : 3000 < t.size
        · have t3 : decide ((3000 : Int) < (t.size : Int)) = true := by rw [decide_eq_true_eq]; omega
          have t3' : decide (3000 < t.size) = true := by rw [decide_eq_true_eq]; omega
          generalize Fr.readL t.data.toList = R at HRd
          clear hgo2 hbig hN hT
          go_wp2_with fail
          refine HRd.out.mono ?_
          rintro e w2 ⟨rfl, b2⟩
          have HB2 := Kp.mk (HB.out.trans (b2.mono HB.out.size))
          have HB3 := Kp.mk (fun o => HB2.out.alloc HB2.out.size o)
          clear b2 HRd
          go_wp2_with fail
          refine (HAw.out _ (HB3.out _)).mono ?_
          rintro e w3 ⟨rfl, b3⟩
          have HB4 := Kp.mk ((HB3.out _).trans (b3.mono (HB3.out _).size))
          clear b3
          go_wp2
          go_ret
          exact ⟨by trivial, HB4.out⟩
        · have t3 : decide ((3000 : Int) < (t.size : Int)) = false := by rw [decide_eq_false_iff_not]; omega
          have t3' : decide (3000 < t.size) = false := by rw [decide_eq_false_iff_not]; omega
          have hR : (Fr.readL t.data.toList).1 = 0 := by omega
          rw [hR] at HRd
          generalize (Fr.readL t.data.toList).2 = R at HRd
          clear hgo2 hbig hN hT hR
          go_wp2_with fail
          refine HRd.out.mono ?_
          rintro e w2 ⟨rfl, b2⟩
          have HB2 := Kp.mk (HB.out.trans (b2.mono HB.out.size))
          have HB3 := Kp.mk (fun o => HB2.out.alloc HB2.out.size o)
          clear b2 HRd
          go_wp2_with fail
          refine (HAw.out _ (HB3.out _)).mono ?_
          rintro e w3 ⟨rfl, b3⟩
          have HB4 := Kp.mk ((HB3.out _).trans (b3.mono (HB3.out _).size))
          clear b3
          go_wp2
          go_ret
          exact ⟨by trivial, HB4.out⟩
set_option maxRecDepth 100000 in
set_option maxHeartbeats 8000000 in
theorem torn_core (ao : Option Addr) (len cap : Nat) (f : Nat → ByteArray) (t : ByteArray) (w : World) (hl : len ≤ maxLen) (hf : StrIn w ao len f) (hz : ∀ i, i < len → (f i).size ≤ maxLen) (hsh : (ao = none ∧ len = 0 ∧ cap = 0) ∨ ∃ a, ao = some a) (ht : Tab w)
    (hcost : costT10 f len < 3000) (htz : t.size ≤ 3000) (hrd : (Fr.readL t.data.toList).1 ≠ 0) :
    Calls Tryz.prog 3 #[.slice ao len cap, .string t] w fun e w' => e = .returned (.bool true) ∧ Below w.heap.size w w' := by
  unfold maxLen at hl
  have hts : t.size ≤ 9223372036854775807 := by omega
  have HF := Kp.mk hf
  have HSz := Kp.mk hz
  have HAw := Kp.mk (fun W (hW : Below w.heap.size w W) => awake_any W (ht.below hW))
  have HTb := Kp.mk (fun W (hW : Below w.heap.size w W) => ht.below hW)
  have HDr : Kp (∀ k, Below w.heap.size w (w.drewN k)) := ⟨fun k => ⟨rfl, rfl, rfl, Nat.le_refl _, fun _ _ => rfl⟩⟩
  have HCo := Kp.mk hcost
  have HRd0 := Kp.mk (And.intro htz (And.intro hrd hsh))
  have hlen : len < 150 := by
    have := sumT10_cost f len hcost len (Nat.le_refl _)
    omega
  clear hf hz ht hsh
  go_enter Tryz.func3, Tryz.ntmps3
  go_wp2
  go_loopw [5, 6] (fun n i wr => ∃ j m : Nat, j ≤ len ∧ i = .int .i64 j ∧ n = .int .i64 (costT10 f j) ∧ costT10 f j < 9100 ∧ wr = w.drewN m) (fun _ i _ => len - (intOf i).toNat)
  case atStart => exact ⟨0, 0, by omega, rfl, rfl, (by show (0 : Nat) < 9100; decide), rfl⟩
  case round =>
    obtain ⟨j, me, hj, rfl, rfl, hc2, rfl⟩ := hrel
    by_cases hgo2 : j < len ∧ costT10 f j < 3000
    · obtain ⟨hjl, h6⟩ := hgo2
      obtain ⟨a, rfl, c0⟩ := HF.out w (Below.refl _ _) j hjl
      have hs := HSz.out j hjl
      unfold maxLen at hs
      have HC2 : Kp (costT10 f (j + 1) = costT10 f j + (30 + min 3000 (f j).size)) := ⟨rfl⟩
      have t1 : decide ((costT10 f j : Int) < 3000) = true := by rw [decide_eq_true_eq]; omega
      have t1' : decide (costT10 f j < 3000) = true := by rw [decide_eq_true_eq]; omega
      generalize f j = q at c0 hs HC2
      generalize costT10 f j = E at h6 hc2 HC2 t1 t1' ⊢
      obtain ⟨m1, hm1⟩ : ∃ m, min 3000 q.size = m := ⟨_, rfl⟩
      have hb1 : m1 ≤ 3000 := by omega
      have HM1 : Kp ((if (q.size : Int) < (3000 : Int) then (q.size : Int) else (3000 : Int)) = (m1 : Int)) := ⟨by split <;> omega⟩
      rw [hm1] at HC2
      have hmin1 : min (q.size : Int) 3000 = (m1 : Int) := by omega
      have hmin2 : min (3000 : Int) (q.size : Int) = (m1 : Int) := by omega
      clear hm1
      have hk0 : (0 : Int) ≤ (j : Int) := by omega
      have hk1 : (j : Int) < (len : Int) := by omega
      have n1 : IntKind.i64.wrap ((E : Int) + 30) = ((E + 30 : Nat) : Int) := by rw [IntKind.wrap_i64]; omega
      have n5 : IntKind.i64.wrap (((E + 30 : Nat) : Int) + (m1 : Int)) = ((E + 30 + m1 : Nat) : Int) := by rw [IntKind.wrap_i64]; omega
      go_wp2_with fail
      clear n1 n5
      go_roundw
      case rel => exact ⟨j + 1, _, by omega, by go_num, by rw [HC2.out, HM1.out]; congr 1; omega, by rw [HC2.out]; omega, rfl⟩
      case measure => simp [intOf]; omega
    · have HB := Kp.mk (HDr.out me)
      have HRd := Kp.mk (refReadB_any t 0 (w.drewN me) hts (by decide) (by decide))
      rw [readE_zero] at HRd
      have hN : ¬ 3000 ≤ costT10 f j := by have := costT10_mono f hj; omega
      obtain rfl : j = len := by omega
      have t2 : decide ((3000 : Int) ≤ (costT10 f j : Int)) = false := by rw [decide_eq_false_iff_not]; omega
      have t2' : decide (3000 ≤ costT10 f j) = false := by rw [decide_eq_false_iff_not]; omega
      have t3 : decide ((3000 : Int) < (t.size : Int)) = false := by rw [decide_eq_false_iff_not]; omega
      have t3' : decide (3000 < t.size) = false := by rw [decide_eq_false_iff_not]; omega
      have t4 : (((Fr.readL t.data.toList).1 : Int) == 0) = false := by rw [beq_eq_false_iff_ne]; omega
      generalize (Fr.nxt (Fr.readL t.data.toList) 0) = nx at HRd
      generalize (Fr.readL t.data.toList).1 = R1 at HRd t4
      generalize (Fr.readL t.data.toList).2 = R2 at HRd
      clear hgo2 hN hrd hcost htz
      go_wp2_with fail
      refine HRd.out.mono ?_
      rintro e w2 ⟨rfl, b2⟩
      have HB2 := Kp.mk (HB.out.trans (b2.mono HB.out.size))
      have HB3 := Kp.mk (fun o => HB2.out.alloc HB2.out.size o)
      clear b2 HRd
      go_wp2_with fail
      refine (HAw.out _ (HB3.out _)).mono ?_
      rintro e w3 ⟨rfl, b3⟩
      have HB4 := Kp.mk ((HB3.out _).trans (b3.mono (HB3.out _).size))
      clear b3 HB3 HB2 HB t2 t2' t3 t3' t4
      go_wp2_with fail
      refine (on_any 100000 200 w3 (HTb.out _ HB4.out) (by decide) (by decide) (by decide) (by decide)).mono ?_
      rintro e w4 ⟨v, q0, rfl, s0, hq0, hgv, -, b4⟩
      have S0 := Kp.mk s0
      have Q0 := Kp.mk hq0
      have B4 := Kp.mk (HB4.out.trans (b4.mono HB4.out.size))
      have HG : Kp (w.heap.size ≤ w3.heap.size ∧ w3.heap.size < v) := ⟨HB4.out.size, hgv⟩
      clear s0 hq0 hgv b4 HB4
      generalize w3.heap.size = g at *
      have HL9 : Kp (∀ k, k ≤ j → sumT10 f k + 21 * k < 3100) := ⟨fun k hk => by have := sumT10_cost f j HCo.out k hk; have := costT10_mono f hk; have := HCo.out; omega⟩
      go_wp2
      go_loopw [12] (fun i wr => ∃ (k : Nat) (D : DiskV) (q : HdV) (T : Int → List (List UInt8)), i = .int .i64 k ∧ k ≤ j ∧ VS wr g v D q 200 k ∧ Vp.Torn D q.hv T k (sumT10 f k) ∧ Vp.recsOf q.hv T = txtL f k ∧ Below w.heap.size w wr) (fun i _ => j - (intOf i).toNat)
      case atStart => exact ⟨0, _, q0, fun _ => [], rfl, Nat.zero_le _, S0.out, by rw [Q0.out]; exact Vp.torn_new, by rw [Q0.out]; rfl, B4.out⟩
      case round =>
        obtain ⟨k, D, q, T, rfl, hk, hs, htn, hrc, hbw⟩ := hrel
        have S := Kp.mk hs
        have TN := Kp.mk htn
        have RC := Kp.mk hrc
        have BW := Kp.mk hbw
        clear hs htn hrc hbw
        by_cases hk2 : k < j
        · obtain ⟨a, rfl, hc⟩ := HF.out wr BW.out k hk2
          have hsm := costT10_small f j k HCo.out hk2
          obtain ⟨D', h', T', e1, e2, e3, -⟩ := Vp.torn_step (b := f k) TN.out (HL9.out k hk) (by omega) TN.out.inv.firmSome
          have HAd := Kp.mk (Add_to S.out rfl TN.out.inv.base.may (by omega) (by omega) e1)
          have HE := Kp.mk (And.intro e2 e3)
          have HTx := Kp.mk (txtL_succ f k)
          have HSu : Kp (sumT10 f (k + 1) = sumT10 f k + ((f k).size + 9)) := ⟨rfl⟩
          have i1 : (0 : Int) ≤ (k : Int) := by omega
          have i2 : (k : Int) < (j : Int) := by omega
          clear e1 e2 e3 hsm
          generalize f k = x at *
          go_wp2_with fail
          refine HAd.out.mono ?_
          rintro e w5 ⟨rfl, ⟨p', hp', s5, -⟩, c5⟩
          have S5 := Kp.mk s5
          have P5 := Kp.mk hp'
          have B5 := Kp.mk (c5.below BW.out BW.out.size HG.out.1 (Nat.le_of_lt (Nat.lt_of_le_of_lt HG.out.1 HG.out.2)))
          clear s5 hp' c5 HAd
          go_wp2
          go_roundw
          case rel => exact ⟨k + 1, D', p', T', by go_num, by omega, S5.out, by rw [P5.out, HSu.out]; exact HE.out.1, by rw [P5.out, HE.out.2, RC.out, HTx.out], B5.out⟩
          case measure => simp [intOf]; omega
        · obtain rfl : k = j := by omega
          clear hk2
          obtain ⟨D1, y1, y2, y3, y4, y5, y6, -⟩ := Vp.sync_done TN.out.inv TN.out.nc
          have tn1 : Vp.Torn D1 q.hv T k (sumT10 f k) := ⟨y2, y5, y4.trans TN.out.cap, TN.out.snap, TN.out.base, TN.out.gen, TN.out.len, TN.out.tapes, TN.out.pairs, by rw [y6]; exact TN.out.used⟩
          obtain ⟨D2, D3, z1, z2, z3, z4, z5, z6, z7, z8⟩ := Vp.torn_tail (tail := t) tn1 y3 (HL9.out k (Nat.le_refl _)) HRd0.out.1 HRd0.out.2.1
          obtain ⟨D4, h4, T4, v1, v2, v3, -⟩ := Vp.torn_step (b := ⟨#[109, 111, 114, 101]⟩) z7 (HL9.out k (Nat.le_refl _)) (by decide) z7.inv.firmSome
          obtain ⟨u1, -, u3, u4, -⟩ := Vp.open_done v2.inv v2.nc
          have hd4 : decide (h4.snap ≠ 0) = false := decide_eq_false (fun h => h v2.snap)
          rw [hd4] at u3
          have HSy := Kp.mk (Sync_to S.out rfl TN.out.inv.base.may y1)
          have hmay := TN.out.inv.base.may
          have HP := Kp.mk (And.intro z1 (And.intro z2 (And.intro z3 (And.intro z4 (And.intro z6 (And.intro v1 (And.intro u1 u3)))))))
          have HO3 : Kp ((oR D3).1 = txtL f k) := ⟨z5.trans RC.out⟩
          have HO4 : Kp ((oR D4).1 = txtL f k ++ [[109, 111, 114, 101]]) := ⟨by rw [u4, v3, RC.out]⟩
          have HMy := Kp.mk hmay
          obtain ⟨la, hla, hl2, hl32⟩ := lastT_in hmay
          have HLa := Kp.mk hla
          have hfw := HPfew q S.out
          clear y1 y2 y3 y4 y5 y6 tn1 z1 z2 z3 z4 z5 z6 z7 z8 v1 v2 v3 u1 u3 u4 hd4 hmay hla
          go_wp2_with fail
          refine HSy.out.mono ?_
          rintro e w5 ⟨rfl, s5, c5⟩
          have S5 := Kp.mk s5
          have B5 := Kp.mk (c5.below BW.out BW.out.size HG.out.1 (Nat.le_of_lt (Nat.lt_of_le_of_lt HG.out.1 HG.out.2)))
          clear s5 c5 HSy
          go_wp2_with fail
          refine (Copy_any g D1 w5 S5.out.disk).mono ?_
          rintro e w6 ⟨rfl, d6, b6⟩
          have D6 := Kp.mk d6
          have S6 := Kp.mk (S5.out.below b6)
          have B6 := Kp.mk (B5.out.trans (b6.mono B5.out.size))
          have HC : Kp (w5.heap.size ≠ g ∧ w5.heap.size ≠ v) := ⟨by have := S5.out.disk.lt; have := S5.out.vlt.lt; omega⟩
          clear d6 b6
          generalize w5.heap.size = cg at *
          go_wp2_with fail
          refine (vHead_any g v D1 q 200 k w6 S6.out).mono ?_
          rintro e w7 ⟨p, rfl, hp, hpl, hpf, hown, b7⟩
          have S7 := Kp.mk (S6.out.below b7)
          have D7 := Kp.mk (D6.out.below b7)
          have B7 := Kp.mk (B6.out.trans (b7.mono B6.out.size))
          obtain ⟨k1, hk1⟩ : ∃ k1, p.ll = k1 + 1 := ⟨p.ll - 1, by have := (may_log (show q.hv.may = true from HMy.out)).1; omega⟩
          have hR := hown.row
          obtain ⟨pb, pcap, hpv, h1, h2, hpl2, hpbk⟩ := hR.at_ (by omega)
          have hcell := (hpv ▸ hR).cell k1 _ (numL_get p.lf p.ll k1 (by omega))
          have hval : p.lf k1 = la := by
            have h3 : lastT p.hv = p.lf k1 := by unfold HdV.hv; rw [hk1]; exact lastT_row
            rw [← h3, hp, HLa.out]
          rw [hval] at hcell
          have HBl : Kp (w6.heap.size ≤ pb) := ⟨hown.new pb hpbk⟩
          simp only [Value.slice.injEq] at hpv
          obtain ⟨hv1, _, hv2⟩ := hpv
          obtain ⟨pg, pbs, ps, plo, pll, plc, plf⟩ := p
          simp only [] at hv1 hv2 hk1 hcell
          subst hv1 hv2 hk1
          have HA7 := Kp.mk (fun o => (show Below w7.heap.size w7 (w7.alloc o) from (Below.refl _ _).alloc (Nat.le_refl _) _))
          have hx7 : ∀ o, (w7.alloc o).cell? ⟨pb, k1, none⟩ = some (.int .i64 la) := fun o => by rw [World.cell?_alloc_lt _ _ _ hpl2]; simpa using hcell
          have i1 : (0 : Int) ≤ (k1 : Int) := by omega
          have i2 : (k1 : Int) < ((k1 + 1 : Nat) : Int) := by omega
          have n1 : IntKind.i64.wrap (((k1 + 1 : Nat) : Int) - 1) = (k1 : Int) := by rw [IntKind.wrap_i64]; simp only [] at hfw hpl; omega
          have n2 : ((k1 + 1 : Nat) : Int) - 1 = (k1 : Int) := by omega
          have n3 : wrap64 (k1 : Int) = (k1 : Int) := by unfold wrap64; simp only [] at hfw hpl; omega
          have i3 : (k1 : Int) < (k1 : Int) + 1 := by omega
          have S7a := Kp.mk (fun o => S7.out.alloc o)
          have D7a := Kp.mk (fun o => D7.out.alloc o)
          have B7a := Kp.mk (fun o => B7.out.alloc B7.out.size o)
          clear hp hpl hpf hown b7 hR hcell hval h1 h2 hpl2 hpbk
          unfold HdV.v
          simp only []
          go_wp2_with fail
          refine (writeTo (z := 0) (D' := D2) (S7a.out _) (by rw [← HLa.out]; exact HP.out.1) (by unfold maxLen; omega)).mono ?_
          rintro e w8 ⟨rfl, d8, o8, c8⟩
          have S8 := Kp.mk ((S7a.out _).chg c8 d8 o8)
          have D8 := Kp.mk (c8.other (D7a.out _) HC.out.1)
          have B8 := Kp.mk (c8.below (B7a.out _) (B7a.out _).size HG.out.1)
          clear d8 o8 c8
          have HS8 := Kp.mk (syncTo (z := 0) (D' := D3) S8.out (t := (la : Int)) (by rw [← HLa.out]; exact HP.out.2.1))
          go_wp2_with fail
          refine HS8.out.mono ?_
          rintro e w9 ⟨rfl, d9, o9, c9⟩
          have S9 := Kp.mk (S8.out.chg c9 d9 o9)
          have D9 := Kp.mk (c9.other D8.out HC.out.1)
          have B9 := Kp.mk (c9.below B8.out B8.out.size HG.out.1)
          clear d9 o9 c9 HS8 S8 D8 B8
          have HFi := Kp.mk (finds_yes g D3 200 false ⟨#[]⟩ ao k cap f w9 S9.out.disk S9.out.ok (fun W hW => HTb.out W (hW.below B9.out B9.out.size HG.out.1)) (by decide) (by decide) HP.out.2.2.1 HP.out.2.2.2.1 (by omega) (by rw [HO3.out, txtL_len]) (fun i hi => by rw [HO3.out, txtL_get f hi, Vp.B_of]) (fun W hW => HF.out.below (hW.below B9.out B9.out.size HG.out.1)))
          go_wp2_with fail
          refine HFi.out.mono ?_
          rintro e w10 ⟨rfl, d10, o10, c10⟩
          have S10 := Kp.mk (S9.out.chg c10 d10 o10)
          have D10 := Kp.mk (c10.other D9.out HC.out.1)
          have B10 := Kp.mk (c10.below B9.out B9.out.size HG.out.1)
          clear d10 o10 c10 HFi S9 D9 B9
          go_wp2_with fail
          refine (Tapes_any g (openD D3) w10 S10.out.disk S10.out.ok).mono ?_
          rintro e w11 ⟨lo, lc, rfl, hr, hn⟩
          have S11 := Kp.mk (S10.out.below hn.below)
          have D11 := Kp.mk (D10.out.below hn.below)
          have B11 := Kp.mk (B10.out.trans (hn.below.mono B10.out.size))
          have R11 := Kp.mk hr
          clear hr hn S10 D10 B10
          go_wp2_with fail
          refine (Tapes_any cg D1 w11 D11.out S5.out.ok).mono ?_
          rintro e w12 ⟨mo, mc, rfl, hr, hn⟩
          have S12 := Kp.mk (S11.out.below hn.below)
          have B12 := Kp.mk (B11.out.trans (hn.below.mono B11.out.size))
          have R12 := Kp.mk (R11.out.below hn.below)
          have R12b := Kp.mk hr
          clear hr hn S11 D11 B11 R11
          rw [HP.out.2.2.2.2.1] at R12
          have HTy := Kp.mk (Tapes_yes D1 lo mo lc mc w12 R12.out R12b.out)
          go_wp2_with fail
          refine HTy.out.mono ?_
          rintro e w13 ⟨rfl, nd, rfl⟩
          have S13 := Kp.mk (S12.out.drewN nd)
          have B13 : Kp (Below w.heap.size w (w12.drewN nd)) := ⟨⟨B12.out.os, B12.out.tape, B12.out.output, B12.out.size, B12.out.block⟩⟩
          clear HTy S12 B12 R12 R12b
          generalize w12.drewN nd = w13 at *
          have HAd := Kp.mk (Add_to S13.out rfl HMy.out (by omega) (by decide) HP.out.2.2.2.2.2.1)
          go_wp2_with fail
          refine HAd.out.mono ?_
          rintro e w14 ⟨rfl, ⟨p', hp', s14, -⟩, c14⟩
          have S14 := Kp.mk s14
          have B14 := Kp.mk (c14.below B13.out B13.out.size HG.out.1 (Nat.le_of_lt (Nat.lt_of_le_of_lt HG.out.1 HG.out.2)))
          clear s14 c14 HAd S13 B13
          obtain ⟨i0, hi0, hi1, hi2, hi3⟩ := info_parts infoString
          have HI := Kp.mk (And.intro hi0 (And.intro hi1 (And.intro hi2 hi3)))
          have HLM : Kp (k + 1 ≤ maxLen ∧ (k + 1) * 16 ≤ 140737488355328 ∧ 0 + k ≤ maxLen ∧ (0 + k) * 16 ≤ 140737488355328) := ⟨by unfold maxLen; omega⟩
          have HSr := Kp.mk (StrIn.src HF.out HRd0.out.2.2)
          have HMC : Kp (recC (txtL f k) ++ [.string ⟨#[109, 111, 114, 101]⟩] = recC (txtL f k ++ [[109, 111, 114, 101]])) := ⟨by rw [recC_append]; rfl⟩
          have HL4 : Kp ((txtL f k ++ [[109, 111, 114, 101]]).length = k + 1) := ⟨by rw [List.length_append, txtL_len]; rfl⟩
          clear hi0 hi1 hi2 hi3
          go_wp2_with (at_builtin; go_loud (first
            | (refine wpList_append_on (by rfl) (.tmp 120) (.tmp 121) 22 (by rfl) (RK.empty 1 _ _) (HSr.out _ (B14.out.alloc B14.out.size _)) 9 i0 _ 16 Tryz.underlying22 HI.out.1 HI.out.2.1 HI.out.2.2.1 HI.out.2.2.2 rfl (by decide) (by rfl) (by rfl) (recC_one _) HLM.out.2.2.1 HLM.out.2.2.2 k (recC (txtL f k)) (by simp) (by simp) ?_; intro a2 c2 w15 r1 g1 f1; have R15 := Kp.mk r1; have B15 := Kp.mk (((Below.refl w14.heap.size w14).alloc (Nat.le_refl _) _).grown g1 (by simp) (fun j e => by simp [blk] at e)); have N15 : Kp (∀ j, blk (.slice a2 k c2) = some j → w14.heap.size ≤ j) := ⟨fun j e => (f1 j e).elim (fun h => by simp [blk] at h) (fun h => by simp at h; omega)⟩; clear r1 g1 f1)
            | (refine wpList_append_on (by rfl) (.tmp 122) (.tmp 123) 22 (by rfl) (R15.out.alloc _) (src_one (heap_alloc_new w15 _) rfl) 9 i0 _ 16 Tryz.underlying22 HI.out.1 HI.out.2.1 HI.out.2.2.1 HI.out.2.2.2 rfl (by decide) (by rfl) (by rfl) (by simp [Value.oneCell']) HLM.out.1 HLM.out.2.1 (k + 1) (recC (txtL f k ++ [[109, 111, 114, 101]])) rfl HMC.out ?_; intro a3 c3 w16 r2 g2 f2; have R16 := Kp.mk r2; have B16 := Kp.mk ((B15.out.alloc B15.out.size _).grown g2 (by simp; have := B15.out.size; omega) (fun j e => N15.out j e)); have N16 : Kp (∀ j, blk (.slice a3 (k + 1) c3) = some j → w14.heap.size ≤ j) := ⟨fun j e => (f2 j e).elim (fun h => N15.out j h) (fun h => by simp at h; have := B15.out.size; omega)⟩; clear r2 g2 f2)))
          have S16 := Kp.mk (S14.out.below B16.out)
          have C16 := Kp.mk (B14.out.trans (B16.out.mono B14.out.size))
          have hlt := S14.out.disk.lt
          have hR := R16.out
          rw [← HL4.out] at hR
          have hSt := str_chg (g := g) hR (fun j e => by rw [HL4.out] at e; have := N16.out j e; omega)
          rw [HL4.out] at hSt
          refine (finds_yes g D4 200 false ⟨#[]⟩ a3 (k + 1) c3 _ w16 S16.out.disk S16.out.ok (fun W hW => HTb.out W (hW.below C16.out C16.out.size HG.out.1)) (by decide) (by decide) HP.out.2.2.2.2.2.2.1 HP.out.2.2.2.2.2.2.2 (by omega) (by rw [HO4.out]; exact HL4.out) (fun j _ => by rw [HO4.out]) hSt).mono ?_
          rintro e w17 ⟨rfl, -, -, c17⟩
          have B17 := Kp.mk (c17.below C16.out C16.out.size HG.out.1)
          clear c17 hSt hR hlt
          go_wp2
          go_ret
          exact ⟨by trivial, B17.out⟩
set_option maxRecDepth 100000 in
theorem walkVaultTorn {H : Type} {enc : TypeId × Value → H} {b1 : Nat} {d1 : DataW H} {ps1 : List MemPlace} {ts : List TypeId} {ds : List (DataW H)} (w : World)
    (v1 : Value) (hv1 : Value.okWide Tryz.prog w .any b1 22 v1) (hV1 : DataW.Trod enc Tryz.prog w 0 (fun _ => true) true 22 v1 d1 ps1)
    (t : ByteArray) (htm : t.size ≤ maxLen) (hweigh : (DataW.weightsEach Tryz.prog ts ds).all (· ≤ reachBytes) = true) (ht : Tab w) :
    Calls Tryz.prog 3 #[v1, .string t] w fun e w' => e = .returned (.bool true) ∧ Below w.heap.size w w' := by
  obtain ⟨_, _, _, hv1'⟩ := Go.WideShapes.okWide_slice Tryz.underlying22 hv1
  obtain ⟨ao, len, cap, f, rfl, hl, hsh, hf, hz⟩ := strs_open (by rw [hv1']; rfl) hV1
  have hts : t.size ≤ 9223372036854775807 := by unfold maxLen at htm; omega
  by_cases h1 : 3000 ≤ costT10 f len
  · exact torn_early ao len cap f t w hl hf hz hts ht (.inl h1)
  by_cases h2 : 3000 < t.size
  · exact torn_early ao len cap f t w hl hf hz hts ht (.inr (.inl h2))
  by_cases h3 : (Fr.readL t.data.toList).1 = 0
  · exact torn_early ao len cap f t w hl hf hz hts ht (.inr (.inr h3))
  · exact torn_core ao len cap f t w hl hf hz hsh ht (by omega) (by omega) h3
end Go.Proofs.YtpfoekfbcpinlaaGreatDoor
