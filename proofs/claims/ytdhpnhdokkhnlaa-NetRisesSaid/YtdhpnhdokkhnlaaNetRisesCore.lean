/- The walk of NetRises: it returns true, and leaves what was there. -/
import Derived.Test.YtdhpnhdokkhnlaaNetRise
namespace Go.Proofs.Ytdhpnhdokkhnlaa
open Go.RowKit
set_option linter.unusedVariables false

set_option maxRecDepth 100000 in
set_option maxHeartbeats 2000000 in
theorem rises_core (w : World) (ao : Option Addr) (len cap : Nat) (n : Int) (f : Nat → ActV) (hlm : len ≤ 200) (hc : cost f len < 20000) (hf : ∀ i, i < len → ∃ a, ao = some a ∧ (f i).ok ∧ ActAt w (a.add (i * 6)) (f i)) (h1 : 2 ≤ n) (h2 : n ≤ 5) :
    Calls Try.prog 4 #[.int .i64 n, .slice ao len cap] w fun e w' => e = .returned (.bool true) ∧ Below w.heap.size w w' := by
  have HL := Kp.mk (long_any w ao len cap f (by unfold maxLen; omega) hf)
  rw [show decide (20000 ≤ cost f len) = false from by rw [decide_eq_false_iff_not]; omega] at HL
  have t0 : decide ((200 : Int) < (len : Int)) = false := by rw [decide_eq_false_iff_not]; omega
  have HF := Kp.mk hf
  clear hf hc
  go_enter Try.func4, Try.ntmps4
  go_wp2_with fail
  refine HL.out.mono ?_
  rintro e w' ⟨rfl, md, rfl⟩
  go_wp2_with fail
  refine (awake_any _).mono ?_
  rintro e w1 ⟨rfl, hb1⟩
  have HB1 : Kp (Below w.heap.size w w1) := ⟨⟨hb1.os, hb1.tape, hb1.output, hb1.size, hb1.block⟩⟩
  clear hb1
  go_wp2_with fail
  refine (New_ok n _ h1 h2).mono ?_
  rintro e w2 ⟨rfl, n2, b2⟩
  have HB : Kp (Below w.heap.size w w2 ∧ ∀ k, blk (.slice none 0 0) = some k → w.heap.size ≤ k) := ⟨HB1.out.trans (b2.mono HB1.out.size), fun k hk => by simp [blk] at hk⟩
  have HG : Kp (w.heap.size ≤ w1.heap.size) := ⟨HB1.out.size⟩
  obtain ⟨g, hg⟩ : ∃ g, w1.heap.size = g := ⟨_, rfl⟩
  rw [hg] at n2 HG ⊢
  have H := Kp.mk n2
  clear n2 b2 hg HB1 HL
  go_wp2
  go_loopw [7, 8] (fun lv k wr => ∃ (j : Nat) (v : Value) (N : NetV), k = .int .i64 j ∧ lv = .int .i64 N.last ∧ j ≤ len ∧ NetAt wr g v N ∧ (Sm N j ∧ Rise N.l N.last) ∧ (Below w.heap.size w wr ∧ ∀ k, blk v = some k → w.heap.size ≤ k)) (fun _ k _ => len - (intOf k).toNat)
  case atStart => exact ⟨0, _, _, rfl, rfl, by omega, H.out, ⟨Sm_new _, Rise.nil _⟩, HB.out⟩
  case round =>
    obtain ⟨j, v, N, rfl, rfl, hj, hn, hsr, hbv⟩ := hrel
    by_cases hjl : j < len
    · obtain ⟨a, rfl, hok, hat⟩ := HF.out j hjl
      obtain ⟨c0, c1, c2, c3, c4, c5⟩ := hat.below hbv.1
      have hsm := hsr.1.mono (show (j : Int) ≤ 1000000000000 by omega)
      have HN : Kp (∀ o, NetAt (wr.alloc o) g v N) := ⟨fun o => hn.alloc o⟩
      have HBV : Kp (∀ o, Below w.heap.size w (wr.alloc o)) := ⟨fun o => hbv.1.trans ((Below.refl _ _).alloc hbv.1.size o)⟩
      have HBK := Kp.mk hbv.2
      have HS := Kp.mk hsm
      have HR := Kp.mk hsr
      clear hn hbv hsm hsr hat H HB
      generalize f j = q at c0 c1 c2 c3 c4 c5 hok
      obtain ⟨qw, qf, qt, qi, qs, qm⟩ := q
      have c0 : wr.cell? (a.add (j * 6)) = some (.int .u8 qw) := c0
      have c1 : wr.cell? ⟨(a.add (j * 6)).block, (a.add (j * 6)).off + 1, none⟩ = some (.int .i64 qf) := c1
      have c2 : wr.cell? ⟨(a.add (j * 6)).block, (a.add (j * 6)).off + 2, none⟩ = some (.int .i64 qt) := c2
      have c3 : wr.cell? ⟨(a.add (j * 6)).block, (a.add (j * 6)).off + 3, none⟩ = some (.int .i64 qi) := c3
      have c4 : wr.cell? ⟨(a.add (j * 6)).block, (a.add (j * 6)).off + 4, none⟩ = some (.string qs) := c4
      have c5 : wr.cell? ⟨(a.add (j * 6)).block, (a.add (j * 6)).off + 5, none⟩ = some (.int .u16 qm) := c5
      have hqs : qs.size ≤ maxLen := hok.2.2.2.2.1
      have hi0 : (0 : Int) ≤ (j : Int) := by omega
      have hi1 : (j : Int) < (len : Int) := by omega
      clear hok
      have h4 : qw = 0 ∨ qw = 1 ∨ qw = 2 ∨ (qw ≠ 0 ∧ qw ≠ 1 ∧ qw ≠ 2) := by omega
      rcases h4 with rfl | rfl | rfl | ⟨z0, z1, z2⟩
      · have hg := send_given HS.out HR.out.2 qf qt qs
        have hs' := Sm_send HR.out.1 qf qt qs
        have HC := Kp.mk (fun wx hx => Send_any g v N qf qt qs wx hx HS.out hqs)
        generalize sendV N qf qt qs = r at hg hs' HC
        obtain ⟨⟨id, er⟩, M⟩ := r
        simp only [] at hg hs' HC
        go_wp2_with fail
        refine (HC.out _ (HN.out _)).mono ?_
        rintro e w3 ⟨rfl, v3, n3, u3⟩
        have H := Kp.mk n3
        have HB := Kp.mk (Upd.below (HBV.out _) u3 (HBV.out _).size HG.out HBK.out)
        have HM := Kp.mk (And.intro hs' hg.2)
        have hgv := hg.1
        unfold Given at hgv
        clear n3 u3 hs' hg HC HN HBV HBK HS HR c0 c1 c2 c3 c4 c5
        generalize N.last = la at hgv ⊢
        rcases hgv with ⟨rfl, ha, hl⟩ | ⟨he, rfl, hl⟩
        · have tl : decide (id ≤ la) = false := by rw [decide_eq_false_iff_not]; omega
          go_wp2_with fail
          refine (Mails_any g v3 M _ H.out (by have := HM.out.1.2.2.2.2.2; omega)).mono ?_
          rintro e w4 ⟨vm, rfl, r4, b4, _⟩
          rw [← hl]
          clear hl ha tl
          replace H := Kp.mk (H.out.below b4)
          replace HB : Kp (Below w.heap.size w w4 ∧ ∀ k, blk v3 = some k → w.heap.size ≤ k) := ⟨HB.out.1.trans (b4.mono HB.out.1.size), HB.out.2⟩
          obtain ⟨am, cm, hvm, _, hcm⟩ := r4.len
          subst hvm
          unfold maxLen at hcm
          have RM := Kp.mk r4
          have h256 : M.l.length ≤ 256 := HM.out.1.2.2.2.2.2
          clear r4 b4
          obtain ⟨wo, rfl⟩ : ∃ wo : World, wo = wr := ⟨_, rfl⟩
          go_wp2
          go_loopw [13] (fun k wr => ∃ p : Nat, k = .int .i64 p ∧ p ≤ M.l.length ∧ RK 4 wr (.slice am M.l.length cm) M.l.length (rows M.l) ∧ NetAt wr g v3 M ∧ Below w.heap.size w wr) (fun k _ => M.l.length - (intOf k).toNat)
          case atStart => exact ⟨0, rfl, by omega, RM.out, H.out, HB.out.1⟩
          case round =>
            obtain ⟨p, rfl, hp, hr, hn, hbw⟩ := hrel
            have R1 := Kp.mk (And.intro hr (And.intro hn hbw))
            clear hn hbw RM H
            by_cases hpl : p < M.l.length
            · obtain ⟨r0, _, _, _⟩ := rows_get M.l p hpl
              obtain ⟨gm, cm', hvm, _, _, _, _⟩ := hr.at_ (by omega)
              simp only [Value.slice.injEq] at hvm
              obtain ⟨rfl, _, rfl⟩ := hvm
              have x0 := hr.cell _ _ r0
              obtain ⟨lo1, lo2⟩ := HM.out.2.at_ p hpl
              have q1 : decide (M.l[p].id < 1) = false := by rw [decide_eq_false_iff_not]; omega
              have q2 : decide (M.last < M.l[p].id) = false := by rw [decide_eq_false_iff_not]; omega
              have i0 : (0 : Int) ≤ (p : Int) := by omega
              have i1 : (p : Int) < (M.l.length : Int) := by omega
              by_cases hp0 : p = 0
              · subst hp0
                replace x0 : wr.cell? ⟨gm, 0, none⟩ = some (.int .i64 M.l[0].id) := by simpa using x0
                replace i1 : (0 : Int) < (M.l.length : Int) := i1
                clear hr
                generalize M.l[0].id = ip at x0 q1 q2 lo1 lo2
                go_wp2_with fail
                go_quiet (fail)
                go_wp2
                go_roundw
                case rel => exact ⟨0 + 1, by go_num, by omega, R1.out.1, R1.out.2.1, ⟨R1.out.2.2.os, R1.out.2.2.tape, R1.out.2.2.output, R1.out.2.2.size, R1.out.2.2.block⟩⟩
                case measure => simp [intOf]; omega
              · have q3 : decide ((0 : Int) < (p : Int)) = true := by rw [decide_eq_true_eq]; omega
                have q5 : decide (0 < p) = true := by rw [decide_eq_true_eq]; omega
                have hp1 : 0 < p := by omega
                obtain ⟨q, hq⟩ : ∃ q, p - 1 = q := ⟨_, rfl⟩
                have hql : q < M.l.length := by omega
                obtain ⟨s0, _, _, _⟩ := rows_get M.l q hql
                have y0 := hr.cell _ _ s0
                have hlt := HM.out.2.lt q p hpl (by omega)
                have q4 : decide (M.l[p].id ≤ M.l[q].id) = false := by rw [decide_eq_false_iff_not]; omega
                have i2 : IntKind.i64.wrap ((p : Int) - 1) = (q : Int) := by rw [IntKind.wrap_i64]; omega
                have i3 : (0 : Int) ≤ (q : Int) := by omega
                have i4 : (q : Int) < (M.l.length : Int) := by omega
                clear hr
                generalize M.l[p].id = ip at x0 q1 q2 q4 hlt lo1 lo2
                generalize M.l[q].id = iq at y0 q4 hlt
                go_wp2_with fail
                go_quiet (fail)
                go_wp2
                go_roundw
                case rel => exact ⟨p + 1, by go_num, by omega, R1.out.1, R1.out.2.1, ⟨R1.out.2.2.os, R1.out.2.2.tape, R1.out.2.2.output, R1.out.2.2.size, R1.out.2.2.block⟩⟩
                case measure => simp [intOf]; omega
            · obtain rfl : p = M.l.length := by omega
              clear hr
              go_wp2
              go_roundw
              case rel => exact ⟨j + 1, v3, M, by go_num, rfl, by omega, R1.out.2.1, ⟨HM.out.1, HM.out.2⟩, R1.out.2.2, HB.out.2⟩
              case measure => simp [intOf]; omega
        · have te : (er != 0) = true := by rw [bne_iff_ne]; omega
          have te2 : (er == 0) = false := by rw [beq_eq_false_iff_ne]; omega
          have hla : ¬ la < 0 := by have := HM.out.1.2.2.2.2.1.1; omega
          go_wp2_with fail
          refine (Mails_any g v3 M _ H.out (by have := HM.out.1.2.2.2.2.2; omega)).mono ?_
          rintro e w4 ⟨vm, rfl, r4, b4, _⟩
          rw [← hl]
          clear hl te te2 hla
          replace H := Kp.mk (H.out.below b4)
          replace HB : Kp (Below w.heap.size w w4 ∧ ∀ k, blk v3 = some k → w.heap.size ≤ k) := ⟨HB.out.1.trans (b4.mono HB.out.1.size), HB.out.2⟩
          obtain ⟨am, cm, hvm, _, hcm⟩ := r4.len
          subst hvm
          unfold maxLen at hcm
          have RM := Kp.mk r4
          have h256 : M.l.length ≤ 256 := HM.out.1.2.2.2.2.2
          clear r4 b4
          obtain ⟨wo, rfl⟩ : ∃ wo : World, wo = wr := ⟨_, rfl⟩
          go_wp2
          go_loopw [13] (fun k wr => ∃ p : Nat, k = .int .i64 p ∧ p ≤ M.l.length ∧ RK 4 wr (.slice am M.l.length cm) M.l.length (rows M.l) ∧ NetAt wr g v3 M ∧ Below w.heap.size w wr) (fun k _ => M.l.length - (intOf k).toNat)
          case atStart => exact ⟨0, rfl, by omega, RM.out, H.out, HB.out.1⟩
          case round =>
            obtain ⟨p, rfl, hp, hr, hn, hbw⟩ := hrel
            have R1 := Kp.mk (And.intro hr (And.intro hn hbw))
            clear hn hbw RM H
            by_cases hpl : p < M.l.length
            · obtain ⟨r0, _, _, _⟩ := rows_get M.l p hpl
              obtain ⟨gm, cm', hvm, _, _, _, _⟩ := hr.at_ (by omega)
              simp only [Value.slice.injEq] at hvm
              obtain ⟨rfl, _, rfl⟩ := hvm
              have x0 := hr.cell _ _ r0
              obtain ⟨lo1, lo2⟩ := HM.out.2.at_ p hpl
              have q1 : decide (M.l[p].id < 1) = false := by rw [decide_eq_false_iff_not]; omega
              have q2 : decide (M.last < M.l[p].id) = false := by rw [decide_eq_false_iff_not]; omega
              have i0 : (0 : Int) ≤ (p : Int) := by omega
              have i1 : (p : Int) < (M.l.length : Int) := by omega
              by_cases hp0 : p = 0
              · subst hp0
                replace x0 : wr.cell? ⟨gm, 0, none⟩ = some (.int .i64 M.l[0].id) := by simpa using x0
                replace i1 : (0 : Int) < (M.l.length : Int) := i1
                clear hr
                generalize M.l[0].id = ip at x0 q1 q2 lo1 lo2
                go_wp2_with fail
                go_quiet (fail)
                go_wp2
                go_roundw
                case rel => exact ⟨0 + 1, by go_num, by omega, R1.out.1, R1.out.2.1, ⟨R1.out.2.2.os, R1.out.2.2.tape, R1.out.2.2.output, R1.out.2.2.size, R1.out.2.2.block⟩⟩
                case measure => simp [intOf]; omega
              · have q3 : decide ((0 : Int) < (p : Int)) = true := by rw [decide_eq_true_eq]; omega
                have q5 : decide (0 < p) = true := by rw [decide_eq_true_eq]; omega
                have hp1 : 0 < p := by omega
                obtain ⟨q, hq⟩ : ∃ q, p - 1 = q := ⟨_, rfl⟩
                have hql : q < M.l.length := by omega
                obtain ⟨s0, _, _, _⟩ := rows_get M.l q hql
                have y0 := hr.cell _ _ s0
                have hlt := HM.out.2.lt q p hpl (by omega)
                have q4 : decide (M.l[p].id ≤ M.l[q].id) = false := by rw [decide_eq_false_iff_not]; omega
                have i2 : IntKind.i64.wrap ((p : Int) - 1) = (q : Int) := by rw [IntKind.wrap_i64]; omega
                have i3 : (0 : Int) ≤ (q : Int) := by omega
                have i4 : (q : Int) < (M.l.length : Int) := by omega
                clear hr
                generalize M.l[p].id = ip at x0 q1 q2 q4 hlt lo1 lo2
                generalize M.l[q].id = iq at y0 q4 hlt
                go_wp2_with fail
                go_quiet (fail)
                go_wp2
                go_roundw
                case rel => exact ⟨p + 1, by go_num, by omega, R1.out.1, R1.out.2.1, ⟨R1.out.2.2.os, R1.out.2.2.tape, R1.out.2.2.output, R1.out.2.2.size, R1.out.2.2.block⟩⟩
                case measure => simp [intOf]; omega
            · obtain rfl : p = M.l.length := by omega
              clear hr
              go_wp2
              go_roundw
              case rel => exact ⟨j + 1, v3, M, by go_num, rfl, by omega, R1.out.2.1, ⟨HM.out.1, HM.out.2⟩, R1.out.2.2, HB.out.2⟩
              case measure => simp [intOf]; omega
      · have hg := take_rise HR.out.2 qi
        have hs' := Sm_take HR.out.1 qi
        have HC := Kp.mk (fun wx hx => Take_any g v N qi wx hx HS.out)
        generalize takeV N qi = r at hg hs' HC
        obtain ⟨⟨mt, er⟩, M⟩ := r
        simp only [] at hg hs' HC
        go_wp2_with fail
        refine (HC.out _ (HN.out _)).mono ?_
        rintro e w3 ⟨rfl, v3, n3, u3⟩
        have H := Kp.mk n3
        have HB := Kp.mk (Upd.below (HBV.out _) u3 (HBV.out _).size HG.out HBK.out)
        have HM := Kp.mk (And.intro hs' hg.2)
        have hl := hg.1
        clear n3 u3 hs' hg HC HN HBV HBK HS HR c0 c1 c2 c3 c4 c5
        generalize N.last = la at hl ⊢
        have hla : ¬ la < 0 := by have := HM.out.1.2.2.2.2.1.1; omega
        go_wp2_with fail
        refine (Mails_any g v3 M _ H.out (by have := HM.out.1.2.2.2.2.2; omega)).mono ?_
        rintro e w4 ⟨vm, rfl, r4, b4, _⟩
        rw [← hl]
        clear hl hla
        replace H := Kp.mk (H.out.below b4)
        replace HB : Kp (Below w.heap.size w w4 ∧ ∀ k, blk v3 = some k → w.heap.size ≤ k) := ⟨HB.out.1.trans (b4.mono HB.out.1.size), HB.out.2⟩
        obtain ⟨am, cm, hvm, _, hcm⟩ := r4.len
        subst hvm
        unfold maxLen at hcm
        have RM := Kp.mk r4
        have h256 : M.l.length ≤ 256 := HM.out.1.2.2.2.2.2
        clear r4 b4
        obtain ⟨wo, rfl⟩ : ∃ wo : World, wo = wr := ⟨_, rfl⟩
        go_wp2
        go_loopw [13] (fun k wr => ∃ p : Nat, k = .int .i64 p ∧ p ≤ M.l.length ∧ RK 4 wr (.slice am M.l.length cm) M.l.length (rows M.l) ∧ NetAt wr g v3 M ∧ Below w.heap.size w wr) (fun k _ => M.l.length - (intOf k).toNat)
        case atStart => exact ⟨0, rfl, by omega, RM.out, H.out, HB.out.1⟩
        case round =>
          obtain ⟨p, rfl, hp, hr, hn, hbw⟩ := hrel
          have R1 := Kp.mk (And.intro hr (And.intro hn hbw))
          clear hn hbw RM H
          by_cases hpl : p < M.l.length
          · obtain ⟨r0, _, _, _⟩ := rows_get M.l p hpl
            obtain ⟨gm, cm', hvm, _, _, _, _⟩ := hr.at_ (by omega)
            simp only [Value.slice.injEq] at hvm
            obtain ⟨rfl, _, rfl⟩ := hvm
            have x0 := hr.cell _ _ r0
            obtain ⟨lo1, lo2⟩ := HM.out.2.at_ p hpl
            have q1 : decide (M.l[p].id < 1) = false := by rw [decide_eq_false_iff_not]; omega
            have q2 : decide (M.last < M.l[p].id) = false := by rw [decide_eq_false_iff_not]; omega
            have i0 : (0 : Int) ≤ (p : Int) := by omega
            have i1 : (p : Int) < (M.l.length : Int) := by omega
            by_cases hp0 : p = 0
            · subst hp0
              replace x0 : wr.cell? ⟨gm, 0, none⟩ = some (.int .i64 M.l[0].id) := by simpa using x0
              replace i1 : (0 : Int) < (M.l.length : Int) := i1
              clear hr
              generalize M.l[0].id = ip at x0 q1 q2 lo1 lo2
              go_wp2_with fail
              go_quiet (fail)
              go_wp2
              go_roundw
              case rel => exact ⟨0 + 1, by go_num, by omega, R1.out.1, R1.out.2.1, ⟨R1.out.2.2.os, R1.out.2.2.tape, R1.out.2.2.output, R1.out.2.2.size, R1.out.2.2.block⟩⟩
              case measure => simp [intOf]; omega
            · have q3 : decide ((0 : Int) < (p : Int)) = true := by rw [decide_eq_true_eq]; omega
              have q5 : decide (0 < p) = true := by rw [decide_eq_true_eq]; omega
              have hp1 : 0 < p := by omega
              obtain ⟨q, hq⟩ : ∃ q, p - 1 = q := ⟨_, rfl⟩
              have hql : q < M.l.length := by omega
              obtain ⟨s0, _, _, _⟩ := rows_get M.l q hql
              have y0 := hr.cell _ _ s0
              have hlt := HM.out.2.lt q p hpl (by omega)
              have q4 : decide (M.l[p].id ≤ M.l[q].id) = false := by rw [decide_eq_false_iff_not]; omega
              have i2 : IntKind.i64.wrap ((p : Int) - 1) = (q : Int) := by rw [IntKind.wrap_i64]; omega
              have i3 : (0 : Int) ≤ (q : Int) := by omega
              have i4 : (q : Int) < (M.l.length : Int) := by omega
              clear hr
              generalize M.l[p].id = ip at x0 q1 q2 q4 hlt lo1 lo2
              generalize M.l[q].id = iq at y0 q4 hlt
              go_wp2_with fail
              go_quiet (fail)
              go_wp2
              go_roundw
              case rel => exact ⟨p + 1, by go_num, by omega, R1.out.1, R1.out.2.1, ⟨R1.out.2.2.os, R1.out.2.2.tape, R1.out.2.2.output, R1.out.2.2.size, R1.out.2.2.block⟩⟩
              case measure => simp [intOf]; omega
          · obtain rfl : p = M.l.length := by omega
            clear hr
            go_wp2
            go_roundw
            case rel => exact ⟨j + 1, v3, M, by go_num, rfl, by omega, R1.out.2.1, ⟨HM.out.1, HM.out.2⟩, R1.out.2.2, HB.out.2⟩
            case measure => simp [intOf]; omega
      · have hg := lose_rise HR.out.2 qi
        have hs' := Sm_lose HR.out.1 qi
        have HC := Kp.mk (fun wx hx => Lose_any g v N qi wx hx HS.out)
        generalize loseV N qi = r at hg hs' HC
        obtain ⟨er, M⟩ := r
        simp only [] at hg hs' HC
        go_wp2_with fail
        refine (HC.out _ (HN.out _)).mono ?_
        rintro e w3 ⟨rfl, v3, n3, u3⟩
        have H := Kp.mk n3
        have HB := Kp.mk (Upd.below (HBV.out _) u3 (HBV.out _).size HG.out HBK.out)
        have HM := Kp.mk (And.intro hs' hg.2)
        have hl := hg.1
        clear n3 u3 hs' hg HC HN HBV HBK HS HR c0 c1 c2 c3 c4 c5
        generalize N.last = la at hl ⊢
        have hla : ¬ la < 0 := by have := HM.out.1.2.2.2.2.1.1; omega
        go_wp2_with fail
        refine (Mails_any g v3 M _ H.out (by have := HM.out.1.2.2.2.2.2; omega)).mono ?_
        rintro e w4 ⟨vm, rfl, r4, b4, _⟩
        rw [← hl]
        clear hl hla
        replace H := Kp.mk (H.out.below b4)
        replace HB : Kp (Below w.heap.size w w4 ∧ ∀ k, blk v3 = some k → w.heap.size ≤ k) := ⟨HB.out.1.trans (b4.mono HB.out.1.size), HB.out.2⟩
        obtain ⟨am, cm, hvm, _, hcm⟩ := r4.len
        subst hvm
        unfold maxLen at hcm
        have RM := Kp.mk r4
        have h256 : M.l.length ≤ 256 := HM.out.1.2.2.2.2.2
        clear r4 b4
        obtain ⟨wo, rfl⟩ : ∃ wo : World, wo = wr := ⟨_, rfl⟩
        go_wp2
        go_loopw [13] (fun k wr => ∃ p : Nat, k = .int .i64 p ∧ p ≤ M.l.length ∧ RK 4 wr (.slice am M.l.length cm) M.l.length (rows M.l) ∧ NetAt wr g v3 M ∧ Below w.heap.size w wr) (fun k _ => M.l.length - (intOf k).toNat)
        case atStart => exact ⟨0, rfl, by omega, RM.out, H.out, HB.out.1⟩
        case round =>
          obtain ⟨p, rfl, hp, hr, hn, hbw⟩ := hrel
          have R1 := Kp.mk (And.intro hr (And.intro hn hbw))
          clear hn hbw RM H
          by_cases hpl : p < M.l.length
          · obtain ⟨r0, _, _, _⟩ := rows_get M.l p hpl
            obtain ⟨gm, cm', hvm, _, _, _, _⟩ := hr.at_ (by omega)
            simp only [Value.slice.injEq] at hvm
            obtain ⟨rfl, _, rfl⟩ := hvm
            have x0 := hr.cell _ _ r0
            obtain ⟨lo1, lo2⟩ := HM.out.2.at_ p hpl
            have q1 : decide (M.l[p].id < 1) = false := by rw [decide_eq_false_iff_not]; omega
            have q2 : decide (M.last < M.l[p].id) = false := by rw [decide_eq_false_iff_not]; omega
            have i0 : (0 : Int) ≤ (p : Int) := by omega
            have i1 : (p : Int) < (M.l.length : Int) := by omega
            by_cases hp0 : p = 0
            · subst hp0
              replace x0 : wr.cell? ⟨gm, 0, none⟩ = some (.int .i64 M.l[0].id) := by simpa using x0
              replace i1 : (0 : Int) < (M.l.length : Int) := i1
              clear hr
              generalize M.l[0].id = ip at x0 q1 q2 lo1 lo2
              go_wp2_with fail
              go_quiet (fail)
              go_wp2
              go_roundw
              case rel => exact ⟨0 + 1, by go_num, by omega, R1.out.1, R1.out.2.1, ⟨R1.out.2.2.os, R1.out.2.2.tape, R1.out.2.2.output, R1.out.2.2.size, R1.out.2.2.block⟩⟩
              case measure => simp [intOf]; omega
            · have q3 : decide ((0 : Int) < (p : Int)) = true := by rw [decide_eq_true_eq]; omega
              have q5 : decide (0 < p) = true := by rw [decide_eq_true_eq]; omega
              have hp1 : 0 < p := by omega
              obtain ⟨q, hq⟩ : ∃ q, p - 1 = q := ⟨_, rfl⟩
              have hql : q < M.l.length := by omega
              obtain ⟨s0, _, _, _⟩ := rows_get M.l q hql
              have y0 := hr.cell _ _ s0
              have hlt := HM.out.2.lt q p hpl (by omega)
              have q4 : decide (M.l[p].id ≤ M.l[q].id) = false := by rw [decide_eq_false_iff_not]; omega
              have i2 : IntKind.i64.wrap ((p : Int) - 1) = (q : Int) := by rw [IntKind.wrap_i64]; omega
              have i3 : (0 : Int) ≤ (q : Int) := by omega
              have i4 : (q : Int) < (M.l.length : Int) := by omega
              clear hr
              generalize M.l[p].id = ip at x0 q1 q2 q4 hlt lo1 lo2
              generalize M.l[q].id = iq at y0 q4 hlt
              go_wp2_with fail
              go_quiet (fail)
              go_wp2
              go_roundw
              case rel => exact ⟨p + 1, by go_num, by omega, R1.out.1, R1.out.2.1, ⟨R1.out.2.2.os, R1.out.2.2.tape, R1.out.2.2.output, R1.out.2.2.size, R1.out.2.2.block⟩⟩
              case measure => simp [intOf]; omega
          · obtain rfl : p = M.l.length := by omega
            clear hr
            go_wp2
            go_roundw
            case rel => exact ⟨j + 1, v3, M, by go_num, rfl, by omega, R1.out.2.1, ⟨HM.out.1, HM.out.2⟩, R1.out.2.2, HB.out.2⟩
            case measure => simp [intOf]; omega
      · have zz0 : ((qw : Int) == 0) = false := by rw [beq_eq_false_iff_ne]; omega
        have zz1 : ((qw : Int) == 1) = false := by rw [beq_eq_false_iff_ne]; omega
        have zz2 : ((qw : Int) == 2) = false := by rw [beq_eq_false_iff_ne]; omega
        have hg := twice_given HS.out HR.out.2 qi
        have hs' := Sm_twice HR.out.1 qi
        have HC := Kp.mk (fun wx hx => Twice_any g v N qi wx hx HS.out)
        generalize twiceV N qi = r at hg hs' HC
        obtain ⟨⟨id, er⟩, M⟩ := r
        simp only [] at hg hs' HC
        go_wp2_with fail
        refine (HC.out _ (HN.out _)).mono ?_
        rintro e w3 ⟨rfl, v3, n3, u3⟩
        have H := Kp.mk n3
        have HB := Kp.mk (Upd.below (HBV.out _) u3 (HBV.out _).size HG.out HBK.out)
        have HM := Kp.mk (And.intro hs' hg.2)
        have hgv := hg.1
        unfold Given at hgv
        clear n3 u3 hs' hg HC HN HBV HBK HS HR c0 c1 c2 c3 c4 c5
        generalize N.last = la at hgv ⊢
        rcases hgv with ⟨rfl, ha, hl⟩ | ⟨he, rfl, hl⟩
        · have tl : decide (id ≤ la) = false := by rw [decide_eq_false_iff_not]; omega
          go_wp2_with fail
          refine (Mails_any g v3 M _ H.out (by have := HM.out.1.2.2.2.2.2; omega)).mono ?_
          rintro e w4 ⟨vm, rfl, r4, b4, _⟩
          rw [← hl]
          clear hl ha tl
          replace H := Kp.mk (H.out.below b4)
          replace HB : Kp (Below w.heap.size w w4 ∧ ∀ k, blk v3 = some k → w.heap.size ≤ k) := ⟨HB.out.1.trans (b4.mono HB.out.1.size), HB.out.2⟩
          obtain ⟨am, cm, hvm, _, hcm⟩ := r4.len
          subst hvm
          unfold maxLen at hcm
          have RM := Kp.mk r4
          have h256 : M.l.length ≤ 256 := HM.out.1.2.2.2.2.2
          clear r4 b4
          obtain ⟨wo, rfl⟩ : ∃ wo : World, wo = wr := ⟨_, rfl⟩
          go_wp2
          go_loopw [13] (fun k wr => ∃ p : Nat, k = .int .i64 p ∧ p ≤ M.l.length ∧ RK 4 wr (.slice am M.l.length cm) M.l.length (rows M.l) ∧ NetAt wr g v3 M ∧ Below w.heap.size w wr) (fun k _ => M.l.length - (intOf k).toNat)
          case atStart => exact ⟨0, rfl, by omega, RM.out, H.out, HB.out.1⟩
          case round =>
            obtain ⟨p, rfl, hp, hr, hn, hbw⟩ := hrel
            have R1 := Kp.mk (And.intro hr (And.intro hn hbw))
            clear hn hbw RM H
            by_cases hpl : p < M.l.length
            · obtain ⟨r0, _, _, _⟩ := rows_get M.l p hpl
              obtain ⟨gm, cm', hvm, _, _, _, _⟩ := hr.at_ (by omega)
              simp only [Value.slice.injEq] at hvm
              obtain ⟨rfl, _, rfl⟩ := hvm
              have x0 := hr.cell _ _ r0
              obtain ⟨lo1, lo2⟩ := HM.out.2.at_ p hpl
              have q1 : decide (M.l[p].id < 1) = false := by rw [decide_eq_false_iff_not]; omega
              have q2 : decide (M.last < M.l[p].id) = false := by rw [decide_eq_false_iff_not]; omega
              have i0 : (0 : Int) ≤ (p : Int) := by omega
              have i1 : (p : Int) < (M.l.length : Int) := by omega
              by_cases hp0 : p = 0
              · subst hp0
                replace x0 : wr.cell? ⟨gm, 0, none⟩ = some (.int .i64 M.l[0].id) := by simpa using x0
                replace i1 : (0 : Int) < (M.l.length : Int) := i1
                clear hr
                generalize M.l[0].id = ip at x0 q1 q2 lo1 lo2
                go_wp2_with fail
                go_quiet (fail)
                go_wp2
                go_roundw
                case rel => exact ⟨0 + 1, by go_num, by omega, R1.out.1, R1.out.2.1, ⟨R1.out.2.2.os, R1.out.2.2.tape, R1.out.2.2.output, R1.out.2.2.size, R1.out.2.2.block⟩⟩
                case measure => simp [intOf]; omega
              · have q3 : decide ((0 : Int) < (p : Int)) = true := by rw [decide_eq_true_eq]; omega
                have q5 : decide (0 < p) = true := by rw [decide_eq_true_eq]; omega
                have hp1 : 0 < p := by omega
                obtain ⟨q, hq⟩ : ∃ q, p - 1 = q := ⟨_, rfl⟩
                have hql : q < M.l.length := by omega
                obtain ⟨s0, _, _, _⟩ := rows_get M.l q hql
                have y0 := hr.cell _ _ s0
                have hlt := HM.out.2.lt q p hpl (by omega)
                have q4 : decide (M.l[p].id ≤ M.l[q].id) = false := by rw [decide_eq_false_iff_not]; omega
                have i2 : IntKind.i64.wrap ((p : Int) - 1) = (q : Int) := by rw [IntKind.wrap_i64]; omega
                have i3 : (0 : Int) ≤ (q : Int) := by omega
                have i4 : (q : Int) < (M.l.length : Int) := by omega
                clear hr
                generalize M.l[p].id = ip at x0 q1 q2 q4 hlt lo1 lo2
                generalize M.l[q].id = iq at y0 q4 hlt
                go_wp2_with fail
                go_quiet (fail)
                go_wp2
                go_roundw
                case rel => exact ⟨p + 1, by go_num, by omega, R1.out.1, R1.out.2.1, ⟨R1.out.2.2.os, R1.out.2.2.tape, R1.out.2.2.output, R1.out.2.2.size, R1.out.2.2.block⟩⟩
                case measure => simp [intOf]; omega
            · obtain rfl : p = M.l.length := by omega
              clear hr
              go_wp2
              go_roundw
              case rel => exact ⟨j + 1, v3, M, by go_num, rfl, by omega, R1.out.2.1, ⟨HM.out.1, HM.out.2⟩, R1.out.2.2, HB.out.2⟩
              case measure => simp [intOf]; omega
        · have te : (er != 0) = true := by rw [bne_iff_ne]; omega
          have te2 : (er == 0) = false := by rw [beq_eq_false_iff_ne]; omega
          have hla : ¬ la < 0 := by have := HM.out.1.2.2.2.2.1.1; omega
          go_wp2_with fail
          refine (Mails_any g v3 M _ H.out (by have := HM.out.1.2.2.2.2.2; omega)).mono ?_
          rintro e w4 ⟨vm, rfl, r4, b4, _⟩
          rw [← hl]
          clear hl te te2 hla
          replace H := Kp.mk (H.out.below b4)
          replace HB : Kp (Below w.heap.size w w4 ∧ ∀ k, blk v3 = some k → w.heap.size ≤ k) := ⟨HB.out.1.trans (b4.mono HB.out.1.size), HB.out.2⟩
          obtain ⟨am, cm, hvm, _, hcm⟩ := r4.len
          subst hvm
          unfold maxLen at hcm
          have RM := Kp.mk r4
          have h256 : M.l.length ≤ 256 := HM.out.1.2.2.2.2.2
          clear r4 b4
          obtain ⟨wo, rfl⟩ : ∃ wo : World, wo = wr := ⟨_, rfl⟩
          go_wp2
          go_loopw [13] (fun k wr => ∃ p : Nat, k = .int .i64 p ∧ p ≤ M.l.length ∧ RK 4 wr (.slice am M.l.length cm) M.l.length (rows M.l) ∧ NetAt wr g v3 M ∧ Below w.heap.size w wr) (fun k _ => M.l.length - (intOf k).toNat)
          case atStart => exact ⟨0, rfl, by omega, RM.out, H.out, HB.out.1⟩
          case round =>
            obtain ⟨p, rfl, hp, hr, hn, hbw⟩ := hrel
            have R1 := Kp.mk (And.intro hr (And.intro hn hbw))
            clear hn hbw RM H
            by_cases hpl : p < M.l.length
            · obtain ⟨r0, _, _, _⟩ := rows_get M.l p hpl
              obtain ⟨gm, cm', hvm, _, _, _, _⟩ := hr.at_ (by omega)
              simp only [Value.slice.injEq] at hvm
              obtain ⟨rfl, _, rfl⟩ := hvm
              have x0 := hr.cell _ _ r0
              obtain ⟨lo1, lo2⟩ := HM.out.2.at_ p hpl
              have q1 : decide (M.l[p].id < 1) = false := by rw [decide_eq_false_iff_not]; omega
              have q2 : decide (M.last < M.l[p].id) = false := by rw [decide_eq_false_iff_not]; omega
              have i0 : (0 : Int) ≤ (p : Int) := by omega
              have i1 : (p : Int) < (M.l.length : Int) := by omega
              by_cases hp0 : p = 0
              · subst hp0
                replace x0 : wr.cell? ⟨gm, 0, none⟩ = some (.int .i64 M.l[0].id) := by simpa using x0
                replace i1 : (0 : Int) < (M.l.length : Int) := i1
                clear hr
                generalize M.l[0].id = ip at x0 q1 q2 lo1 lo2
                go_wp2_with fail
                go_quiet (fail)
                go_wp2
                go_roundw
                case rel => exact ⟨0 + 1, by go_num, by omega, R1.out.1, R1.out.2.1, ⟨R1.out.2.2.os, R1.out.2.2.tape, R1.out.2.2.output, R1.out.2.2.size, R1.out.2.2.block⟩⟩
                case measure => simp [intOf]; omega
              · have q3 : decide ((0 : Int) < (p : Int)) = true := by rw [decide_eq_true_eq]; omega
                have q5 : decide (0 < p) = true := by rw [decide_eq_true_eq]; omega
                have hp1 : 0 < p := by omega
                obtain ⟨q, hq⟩ : ∃ q, p - 1 = q := ⟨_, rfl⟩
                have hql : q < M.l.length := by omega
                obtain ⟨s0, _, _, _⟩ := rows_get M.l q hql
                have y0 := hr.cell _ _ s0
                have hlt := HM.out.2.lt q p hpl (by omega)
                have q4 : decide (M.l[p].id ≤ M.l[q].id) = false := by rw [decide_eq_false_iff_not]; omega
                have i2 : IntKind.i64.wrap ((p : Int) - 1) = (q : Int) := by rw [IntKind.wrap_i64]; omega
                have i3 : (0 : Int) ≤ (q : Int) := by omega
                have i4 : (q : Int) < (M.l.length : Int) := by omega
                clear hr
                generalize M.l[p].id = ip at x0 q1 q2 q4 hlt lo1 lo2
                generalize M.l[q].id = iq at y0 q4 hlt
                go_wp2_with fail
                go_quiet (fail)
                go_wp2
                go_roundw
                case rel => exact ⟨p + 1, by go_num, by omega, R1.out.1, R1.out.2.1, ⟨R1.out.2.2.os, R1.out.2.2.tape, R1.out.2.2.output, R1.out.2.2.size, R1.out.2.2.block⟩⟩
                case measure => simp [intOf]; omega
            · obtain rfl : p = M.l.length := by omega
              clear hr
              go_wp2
              go_roundw
              case rel => exact ⟨j + 1, v3, M, by go_num, rfl, by omega, R1.out.2.1, ⟨HM.out.1, HM.out.2⟩, R1.out.2.2, HB.out.2⟩
              case measure => simp [intOf]; omega
    · obtain rfl : j = len := by omega
      have HB := Kp.mk hbv.1
      clear hn hbv hsr
      go_wp2
      go_ret
      exact ⟨by trivial, HB.out⟩
end Go.Proofs.Ytdhpnhdokkhnlaa
