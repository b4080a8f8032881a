/- The walk of NetDoes: it returns true, and leaves what was there. -/
import Derived.Test.YtdhpnhdokkhnlaaLike
namespace Go.Proofs.Ytdhpnhdokkhnlaa
open Go.RowKit
set_option linter.unusedVariables false

set_option maxRecDepth 100000 in
theorem does_big (w : World) (ao : Option Addr) (len cap : Nat) (n : Int) (f : Nat → ActV) (hlm : len ≤ maxLen) (hbig : ¬ cost f len < 20000 ∨ 200 < len) (hf : ∀ i, i < len → ∃ a, ao = some a ∧ (f i).ok ∧ ActAt w (a.add (i * 6)) (f i)) :
    Calls Try.prog 8 #[.int .i64 n, .slice ao len cap] w fun e w' => e = .returned (.bool true) ∧ Below w.heap.size w w' := by
  have HL := Kp.mk (long_any w ao len cap f hlm hf)
  unfold maxLen at hlm
  clear hf
  by_cases hc : cost f len < 20000
  · rw [show decide (20000 ≤ cost f len) = false from by rw [decide_eq_false_iff_not]; omega] at HL
    have t0 : decide ((200 : Int) < (len : Int)) = true := by rw [decide_eq_true_eq]; omega
    clear hc hbig
    go_enter Try.func8, Try.ntmps8
    go_wp2_with fail
    refine HL.out.mono ?_
    rintro e w' ⟨rfl, md, rfl⟩
    go_wp2_with fail
    refine (awake_any _).mono ?_
    rintro e w1 ⟨rfl, hb1⟩
    have HB1 : Kp (Below w.heap.size w w1) := ⟨⟨hb1.os, hb1.tape, hb1.output, hb1.size, hb1.block⟩⟩
    clear hb1
    go_wp2
    go_ret
    exact ⟨by trivial, HB1.out⟩
  · rw [show decide (20000 ≤ cost f len) = true from by rw [decide_eq_true_eq]; omega] at HL
    clear hc hbig
    go_enter Try.func8, Try.ntmps8
    go_wp2_with fail
    refine HL.out.mono ?_
    rintro e w' ⟨rfl, md, rfl⟩
    go_wp2_with fail
    refine (awake_any _).mono ?_
    rintro e w1 ⟨rfl, hb1⟩
    have HB1 : Kp (Below w.heap.size w w1) := ⟨⟨hb1.os, hb1.tape, hb1.output, hb1.size, hb1.block⟩⟩
    clear hb1
    go_wp2
    go_ret
    exact ⟨by trivial, HB1.out⟩
set_option maxRecDepth 100000 in
theorem does_no (w : World) (ao : Option Addr) (len cap : Nat) (n : Int) (f : Nat → ActV) (hlm : len ≤ 200) (hc : cost f len < 20000) (hf : ∀ i, i < len → ∃ a, ao = some a ∧ (f i).ok ∧ ActAt w (a.add (i * 6)) (f i)) (hn : n < 2 ∨ 5 < n) :
    Calls Try.prog 8 #[.int .i64 n, .slice ao len cap] w fun e w' => e = .returned (.bool true) ∧ Below w.heap.size w w' := by
  have HL := Kp.mk (long_any w ao len cap f (by unfold maxLen; omega) hf)
  rw [show decide (20000 ≤ cost f len) = false from by rw [decide_eq_false_iff_not]; omega] at HL
  have t0 : decide ((200 : Int) < (len : Int)) = false := by rw [decide_eq_false_iff_not]; omega
  have HNo := Kp.mk (fun wx => New_no n wx hn)
  clear hf hc
  by_cases h2 : n < 2
  · have t1 : decide ((2 : Int) ≤ n) = false := by rw [decide_eq_false_iff_not]; omega
    clear hn
    go_enter Try.func8, Try.ntmps8
    go_wp2_with fail
    refine HL.out.mono ?_
    rintro e w' ⟨rfl, md, rfl⟩
    go_wp2_with fail
    refine (HNo.out _).mono ?_
    rintro e w' ⟨rfl, rfl⟩
    go_wp2_with fail
    refine (awake_any _).mono ?_
    rintro e w1 ⟨rfl, hb1⟩
    have HB1 : Kp (Below w.heap.size w w1) := ⟨⟨hb1.os, hb1.tape, hb1.output, hb1.size, hb1.block⟩⟩
    clear hb1
    go_wp2
    go_ret
    exact ⟨by trivial, HB1.out⟩
  · have t1 : decide ((2 : Int) ≤ n) = true := by rw [decide_eq_true_eq]; omega
    have t2 : decide (n ≤ 5) = false := by rw [decide_eq_false_iff_not]; omega
    clear hn
    go_enter Try.func8, Try.ntmps8
    go_wp2_with fail
    refine HL.out.mono ?_
    rintro e w' ⟨rfl, md, rfl⟩
    go_wp2_with fail
    refine (HNo.out _).mono ?_
    rintro e w' ⟨rfl, rfl⟩
    go_wp2_with fail
    refine (awake_any _).mono ?_
    rintro e w1 ⟨rfl, hb1⟩
    have HB1 : Kp (Below w.heap.size w w1) := ⟨⟨hb1.os, hb1.tape, hb1.output, hb1.size, hb1.block⟩⟩
    clear hb1
    go_wp2
    go_ret
    exact ⟨by trivial, HB1.out⟩
/-- The document's new net. -/
theorem RefAt.new (w : World) (n : Int) : RefAt (w.alloc (.cells #[.int .i64 n, .slice none 0 0, .int .i64 0, .int .i64 0, .int .i64 0, .int .i64 0, .int .i64 0] 58)) w.heap.size (.slice none 0 0) ⟨0, 0, 0, 0, n, 0, []⟩ :=
  ⟨heap_alloc_new w _, RK.nil _ _, by simp [blk]⟩
theorem feet_below {B : Nat} {w0 w w' : World} {g h : Nat} {v v' u u' : Value} (t : Two w w' g v v' h u u') (hb : Below B w0 w) (hB : B ≤ w.heap.size) (hf : ∀ k, feet g v h u k → B ≤ k) : Below B w0 w' ∧ ∀ k, feet g v' h u' k → B ≤ k :=
  ⟨t.frm.below hb hB hf, fun k hk => (t.new k hk).elim (hf k) fun h1 => by omega⟩
set_option maxRecDepth 100000 in
set_option maxHeartbeats 2000000 in
theorem does_core (w : World) (ao : Option Addr) (len cap : Nat) (n : Int) (f : Nat → ActV) (hlm : len ≤ 200) (hc : cost f len < 20000) (hf : ∀ i, i < len → ∃ a, ao = some a ∧ (f i).ok ∧ ActAt w (a.add (i * 6)) (f i)) (h1 : 2 ≤ n) (h2 : n ≤ 5) :
    Calls Try.prog 8 #[.int .i64 n, .slice ao len cap] w fun e w' => e = .returned (.bool true) ∧ Below w.heap.size w w' := by
  have HL := Kp.mk (long_any w ao len cap f (by unfold maxLen; omega) hf)
  rw [show decide (20000 ≤ cost f len) = false from by rw [decide_eq_false_iff_not]; omega] at HL
  have t0 : decide ((200 : Int) < (len : Int)) = false := by rw [decide_eq_false_iff_not]; omega
  have t1 : decide ((2 : Int) ≤ n) = true := by rw [decide_eq_true_eq]; omega
  have t2 : decide (n ≤ 5) = true := by rw [decide_eq_true_eq]; omega
  have HF := Kp.mk hf
  have HNew := Kp.mk (fun wx => New_ok n wx h1 h2)
  clear hf hc
  go_enter Try.func8, Try.ntmps8
  go_wp2_with fail
  refine HL.out.mono ?_
  rintro e w' ⟨rfl, md, rfl⟩
  go_wp2_with fail
  refine (HNew.out _).mono ?_
  rintro e w2 ⟨rfl, n2, b2⟩
  have HB : Kp (Below w.heap.size w w2) := ⟨⟨b2.os, b2.tape, b2.output, b2.size, b2.block⟩⟩
  have H := Kp.mk n2
  clear n2 b2
  go_wp2
  have X0 := Kp.mk (RefAt.new w2 n)
  have N0 := Kp.mk (H.out.alloc (.cells #[.int .i64 n, .slice none 0 0, .int .i64 0, .int .i64 0, .int .i64 0, .int .i64 0, .int .i64 0] 58))
  have B0 := Kp.mk (HB.out.alloc HB.out.size (.cells #[.int .i64 n, .slice none 0 0, .int .i64 0, .int .i64 0, .int .i64 0, .int .i64 0, .int .i64 0] 58))
  have HG : Kp (w.heap.size < w2.heap.size) := ⟨H.out.lt⟩
  generalize w2.alloc (.cells #[.int .i64 n, .slice none 0 0, .int .i64 0, .int .i64 0, .int .i64 0, .int .i64 0, .int .i64 0] 58) = w3 at X0 N0 B0 ⊢
  generalize w2.heap.size = h at X0 HG ⊢
  clear H HB HL HNew
  go_loopw [8] (fun k wr => ∃ (j : Nat) (v u : Value) (N : NetV), k = .int .i64 j ∧ j ≤ len ∧ Duo wr w.heap.size v h u N ∧ Sm N (300 * j) ∧ (Below w.heap.size w wr ∧ ∀ k, feet w.heap.size v h u k → w.heap.size ≤ k)) (fun k _ => len - (intOf k).toNat)
  case atStart =>
    refine ⟨0, _, _, _, rfl, by omega, ⟨N0.out, X0.out, fun k hk h1 => ?_⟩, (Sm_new _).mono (by omega), B0.out, fun k hk => ?_⟩
    · have := HG.out
      rcases hk with rfl | hk
      · rcases h1 with h1 | h1
        · omega
        · simp [blk] at h1
      · simp [blk] at hk
    · have := HG.out
      rcases hk with hk | hk
      · rcases hk with rfl | hk
        · exact Nat.le_refl _
        · simp [blk] at hk
      · rcases hk with rfl | hk
        · omega
        · simp [blk] at hk
  case round =>
    obtain ⟨j, v, u, N, rfl, hj, hd, hs, hb, hf⟩ := hrel
    have D := Kp.mk hd
    have B := Kp.mk hb
    have F := Kp.mk hf
    have S := Kp.mk (hs.mono (show 300 * (j : Int) ≤ 900000000000 by omega))
    have S1 := Kp.mk hs
    by_cases hjl : j < len
    · obtain ⟨a, rfl, hok, hat⟩ := HF.out j hjl
      have HAT : Kp (∀ wx, Below w.heap.size w wx → ActAt wx (a.add (j * 6)) (f j)) := ⟨fun wx hx => hat.below hx⟩
      have HK := Kp.mk hok
      clear hd hb hf hs hat hok
      have h256 : Kp (N.l.length ≤ 256) := ⟨S.out.2.2.2.2.2⟩
      have HY := Kp.mk (fun (g h : Nat) (v u : Value) (wx : World) (dx : Duo wx g v h u N) => both_any g h v u N (f j) HK.out wx dx S.out)
      have SM := Kp.mk (Sm_act S1.out (f j))
      generalize actV N (f j) = M at HY SM
      generalize f j = q at HAT HY
      obtain ⟨qw, qf, qt, qi, qs, qm⟩ := q
      simp only [ActV.v] at HY
      have h256' : Kp (M.l.length ≤ 256) := ⟨SM.out.2.2.2.2.2⟩
      have i0 : (0 : Int) ≤ (j : Int) := by omega
      have i1 : (j : Int) < (len : Int) := by omega
      go_wp2_with fail
      refine (Copy_any _ v N _ D.out.net (by have := h256.out; omega)).mono ?_
      rintro e w4 ⟨rfl, vc, c4, b4, f4⟩
      have C4 := Kp.mk c4
      have D4 := Kp.mk (D.out.below b4)
      have B4 := Kp.mk (B.out.trans (b4.mono B.out.size))
      have F4 := Kp.mk f4
      have Z4 : Kp (wr.heap.size ≤ w4.heap.size) := ⟨b4.size⟩
      clear c4 b4 f4
      go_wp2_with fail
      refine (RefCopy_any _ u N _ D4.out.ref (by have := h256.out; omega)).mono ?_
      rintro e w5 ⟨rfl, uy, y5, b5, f5⟩
      have AC : Kp (Apart wr.heap.size vc w4.heap.size uy) := ⟨Apart.fresh C4.out.foot_lt fun k hk => hk.elim (fun e => by omega) (f5 k)⟩
      have C5 : Kp (Duo w5 wr.heap.size vc w4.heap.size uy N) := ⟨⟨C4.out.below b5, y5, AC.out⟩⟩
      have D5 := Kp.mk (D4.out.below b5)
      have B5 := Kp.mk (B4.out.trans (b5.mono B4.out.size))
      have FC : Kp (∀ k, feet wr.heap.size vc w4.heap.size uy k → wr.heap.size ≤ k) := ⟨fun k hk => by
        have := Z4.out
        rcases hk with hk | hk
        · rcases hk with rfl | hk
          · exact Nat.le_refl _
          · exact F4.out k hk
        · rcases hk with rfl | hk
          · omega
          · have := f5 k hk; omega⟩
      have X5 : Kp (∀ k, feet w.heap.size v h u k → ¬ feet wr.heap.size vc w4.heap.size uy k) := ⟨fun k hk h1 => by have := D.out.lt k hk; have := FC.out k h1; omega⟩
      have FC' : Kp (∀ k, feet wr.heap.size vc w4.heap.size uy k → w.heap.size ≤ k) := ⟨fun k hk => by have := FC.out k hk; have := B.out.size; omega⟩
      obtain ⟨c0, c1, c2, c3, c4, c5⟩ := HAT.out _ B5.out
      have c0 : w5.cell? (a.add (j * 6)) = some (.int .u8 qw) := c0
      have c1 : w5.cell? ⟨(a.add (j * 6)).block, (a.add (j * 6)).off + 1, none⟩ = some (.int .i64 qf) := c1
      have c2 : w5.cell? ⟨(a.add (j * 6)).block, (a.add (j * 6)).off + 2, none⟩ = some (.int .i64 qt) := c2
      have c3 : w5.cell? ⟨(a.add (j * 6)).block, (a.add (j * 6)).off + 3, none⟩ = some (.int .i64 qi) := c3
      have c4 : w5.cell? ⟨(a.add (j * 6)).block, (a.add (j * 6)).off + 4, none⟩ = some (.string qs) := c4
      have c5 : w5.cell? ⟨(a.add (j * 6)).block, (a.add (j * 6)).off + 5, none⟩ = some (.int .u16 qm) := c5
      clear y5 b5 f5 D4 B4 F4 AC FC C4 Z4
      go_wp2_with fail
      refine (HY.out _ _ _ _ _ D5.out).mono ?_
      rintro e w6 ⟨rfl, v6, u6, d6, t6⟩
      have D6 := Kp.mk d6
      have BF6 := Kp.mk (feet_below t6 B5.out B5.out.size F.out)
      have CC6 := Kp.mk (C5.out.beside X5.out t6)
      clear d6 t6 c0 c1 c2 c3 c4 c5 B5
      go_wp2_with fail
      refine (like_any _ _ _ _ _ _ D6.out.net D6.out.ref h256'.out).mono ?_
      rintro e w7 ⟨rfl, b7⟩
      have D7 := Kp.mk (D6.out.below b7)
      have C7 := Kp.mk (CC6.out.1.below b7)
      have B7 := Kp.mk (BF6.out.1.trans (b7.mono BF6.out.1.size))
      clear b7
      go_wp2_with fail
      refine (like_any _ _ _ _ _ _ C7.out.net C7.out.ref h256.out).mono ?_
      rintro e w8 ⟨rfl, b8⟩
      have D8 := Kp.mk (D7.out.below b8)
      have C8 := Kp.mk (C7.out.below b8)
      have B8 := Kp.mk (B7.out.trans (b8.mono B7.out.size))
      obtain ⟨c0, c1, c2, c3, c4, c5⟩ := HAT.out _ B8.out
      have c0 : w8.cell? (a.add (j * 6)) = some (.int .u8 qw) := c0
      have c1 : w8.cell? ⟨(a.add (j * 6)).block, (a.add (j * 6)).off + 1, none⟩ = some (.int .i64 qf) := c1
      have c2 : w8.cell? ⟨(a.add (j * 6)).block, (a.add (j * 6)).off + 2, none⟩ = some (.int .i64 qt) := c2
      have c3 : w8.cell? ⟨(a.add (j * 6)).block, (a.add (j * 6)).off + 3, none⟩ = some (.int .i64 qi) := c3
      have c4 : w8.cell? ⟨(a.add (j * 6)).block, (a.add (j * 6)).off + 4, none⟩ = some (.string qs) := c4
      have c5 : w8.cell? ⟨(a.add (j * 6)).block, (a.add (j * 6)).off + 5, none⟩ = some (.int .u16 qm) := c5
      clear b8 D7 C7 B7
      go_wp2_with fail
      refine (HY.out _ _ _ _ _ C8.out).mono ?_
      rintro e w9 ⟨rfl, v9, u9, d9, t9⟩
      have C9 := Kp.mk d9
      have D9 := Kp.mk (D8.out.beside (fun k hk h1 => CC6.out.2 k h1 hk) t9).1
      have B9 := Kp.mk (feet_below t9 B8.out B8.out.size FC'.out).1
      clear d9 t9 c0 c1 c2 c3 c4 c5
      go_wp2_with fail
      refine (like_any _ _ _ _ _ _ C9.out.net D9.out.ref h256'.out).mono ?_
      rintro e w10 ⟨rfl, b10⟩
      have D10 := Kp.mk (D9.out.below b10)
      have B10 := Kp.mk (B9.out.trans (b10.mono B9.out.size))
      clear b10
      go_wp2_with fail
      refine (like_any _ _ _ _ _ _ D10.out.net D10.out.ref h256'.out).mono ?_
      rintro e w11 ⟨rfl, b11⟩
      have D11 := Kp.mk (D10.out.below b11)
      have B11 := Kp.mk (B10.out.trans (b11.mono B10.out.size))
      clear b11
      go_wp2
      go_roundw
      case rel => exact ⟨j + 1, v6, u6, M, by go_num, by omega, D11.out, SM.out.mono (by omega), B11.out, BF6.out.2⟩
      case measure => simp [intOf]; omega
    · obtain rfl : j = len := by omega
      clear hd hb hf hs
      go_wp2_with fail
      refine (awake_any _).mono ?_
      rintro e w4 ⟨rfl, b4⟩
      have B4 := Kp.mk (B.out.trans (b4.mono B.out.size))
      clear b4
      go_wp2
      go_ret
      exact ⟨by trivial, B4.out⟩
theorem walkNetDoes {H : Type} {enc : TypeId × Value → H} {X : Prop} {b0 : Nat} {d : DataW H} {ps : List MemPlace} (w : World) (n : Int) (_hn : (Lit.int .i64 n).wf = true) (v : Value) (hval : Value.okWide Try.prog w .any b0 22 v)
    (h : DataW.Trod enc Try.prog w 0 (fun _ => true) true 22 v d ps) (_hweigh : X) :
    Calls Try.prog 8 #[.int .i64 n, v] w fun e w' => e = .returned (.bool true) ∧ Below w.heap.size w w' := by
  obtain ⟨a0, len0, cap0, hv⟩ := Go.WideShapes.okWide_slice Try.underlying22 hval
  have hc : v.cells.toList = [v] := by rw [hv]; rfl
  obtain ⟨ao, len, cap, f, rfl, hlm, hf⟩ := acts_open hc h
  by_cases hbig : ¬ cost f len < 20000 ∨ 200 < len
  · exact does_big w ao len cap n f hlm hbig hf
  · by_cases hn : n < 2 ∨ 5 < n
    · exact does_no w ao len cap n f (by omega) (by omega) hf hn
    · exact does_core w ao len cap n f (by omega) (by omega) hf (by omega) (by omega)
end Go.Proofs.Ytdhpnhdokkhnlaa
