/- The walk of NetPlace (its core). Printed by tools/placegen.py. -/
import Derived.Test.YtdhpnhdokkhnlaaNetRise
namespace Go.Proofs.Ytdhpnhdokkhnlaa
open Go.RowKit
set_option linter.unusedVariables false

theorem lose_cases (N : NetV) (i : Int) : ((i < 0 ∨ (N.l.length : Int) ≤ i) ∧ loseV N i = (5, N)) ∨ ∃ k : Nat, k < N.l.length ∧ i = k ∧ (loseV N i).1 = 0 ∧ (loseV N i).2.l = outL N.l k := by
  rcases place N i with hi | ⟨k, rfl, hk⟩
  · exact .inl ⟨hi, by unfold loseV; rw [if_pos hi]⟩
  · refine .inr ⟨k, hk, rfl, ?_, ?_⟩ <;> (unfold loseV; rw [if_neg (by omega)]) <;> simp
theorem take_cases (N : NetV) (i : Int) : ((i < 0 ∨ (N.l.length : Int) ≤ i) ∧ takeV N i = ((zeroMail, 5), N)) ∨ ∃ k : Nat, k < N.l.length ∧ i = k ∧ (takeV N i).1.2 = 0 ∧ (takeV N i).2.l = outL N.l k := by
  rcases place N i with hi | ⟨k, rfl, hk⟩
  · exact .inl ⟨hi, by unfold takeV; rw [if_pos hi]⟩
  · refine .inr ⟨k, hk, rfl, ?_, ?_⟩ <;> (unfold takeV; rw [if_neg (by omega)]) <;> simp
theorem outL_get (l : List MailV) (k p : Nat) (hk : k < l.length) (hp : p < (outL l k).length) : ∃ q, ∃ hq : q < l.length, q = (if p < k then p else p + 1) ∧ (outL l k)[p] = l[q] := by
  have h1 := outL_len l k hk
  refine ⟨if p < k then p else p + 1, by split <;> omega, rfl, ?_⟩
  have e : outL l k = l.eraseIdx k := by unfold outL; rw [List.eraseIdx_eq_take_drop_succ]
  simp only [e, List.getElem_eraseIdx]
  split
  · simp
  · simp
set_option maxRecDepth 100000 in
set_option maxHeartbeats 2000000 in
theorem place_core (w : World) (ao : Option Addr) (len cap : Nat) (n i : Int) (b : Bool) (f : Nat → ActV) (hlm : len ≤ 200) (hc : cost f len < 20000) (hf : ∀ i, i < len → ∃ a, ao = some a ∧ (f i).ok ∧ ActAt w (a.add (i * 6)) (f i)) (h1 : 2 ≤ n) (h2 : n ≤ 5) (hi1 : -9223372036854775808 ≤ i) (hi2 : i ≤ 9223372036854775807) :
    Calls Try.prog 5 #[.int .i64 n, .slice ao len cap, .int .i64 i, .bool b] w fun e w' => e = .returned (.bool true) ∧ Below w.heap.size w w' := by
  have HL := Kp.mk (long_any w ao len cap f (by unfold maxLen; omega) hf)
  rw [show decide (20000 ≤ cost f len) = false from by rw [decide_eq_false_iff_not]; omega] at HL
  have t0 : decide ((200 : Int) < (len : Int)) = false := by rw [decide_eq_false_iff_not]; omega
  have HF := Kp.mk hf
  clear hf hc
  go_enter Try.func5, Try.ntmps5
  go_wp2_with fail
  refine HL.out.mono ?_
  rintro e w' ⟨rfl, md, rfl⟩
  go_wp2_with fail
  refine (awake_any _).mono ?_
  rintro e w1 ⟨rfl, hb1⟩
  have HB1 : Kp (Below w.heap.size w w1) := ⟨⟨hb1.os, hb1.tape, hb1.output, hb1.size, hb1.block⟩⟩
  clear hb1
  go_wp2_with fail
  refine (New_ok n _ h1 h2).mono ?_
  rintro e w2 ⟨rfl, n2, b2⟩
  have HB : Kp (Below w.heap.size w w2 ∧ ∀ k, blk (.slice none 0 0) = some k → w.heap.size ≤ k) := ⟨HB1.out.trans (b2.mono HB1.out.size), fun k hk => by simp [blk] at hk⟩
  have HG : Kp (w.heap.size ≤ w1.heap.size) := ⟨HB1.out.size⟩
  obtain ⟨g, hg⟩ : ∃ g, w1.heap.size = g := ⟨_, rfl⟩
  rw [hg] at n2 HG ⊢
  have H := Kp.mk n2
  clear n2 b2 hg HB1 HL
  go_wp2
  go_loopw [11] (fun k wr => ∃ (j : Nat) (v : Value) (N : NetV), k = .int .i64 j ∧ j ≤ len ∧ NetAt wr g v N ∧ Sm N j ∧ (Below w.heap.size w wr ∧ ∀ k, blk v = some k → w.heap.size ≤ k)) (fun k _ => len - (intOf k).toNat)
  case atStart => exact ⟨0, _, _, rfl, by omega, H.out, Sm_new _, HB.out⟩
  case round =>
    obtain ⟨j, v, N, rfl, hj, hn, hs, hbv⟩ := hrel
    have H := Kp.mk hn
    have HB := Kp.mk hbv
    have HR := Kp.mk hs
    by_cases hjl : j < len
    · obtain ⟨a, rfl, hok, hat⟩ := HF.out j hjl
      obtain ⟨c0, c1, c2, c3, c4, _⟩ := hat.below hbv.1
      have HS := Kp.mk (hs.mono (show (j : Int) ≤ 1000000000000 by omega))
      clear hn hbv hs
      have HAT : Kp (∀ wx, Below w.heap.size w wx → ActAt wx (a.add (j * 6)) (f j)) := ⟨fun wx hx => hat.below hx⟩
      have hqs : (f j).s.size ≤ maxLen := hok.2.2.2.2.1
      clear hat hok
      generalize f j = q at c0 c1 c2 c3 c4 HAT hqs
      obtain ⟨qw, qf, qt, qi, qs, qm⟩ := q
      replace c0 : wr.cell? (a.add (j * 6)) = some (.int .u8 qw) := c0
      replace c1 : wr.cell? ⟨(a.add (j * 6)).block, (a.add (j * 6)).off + 1, none⟩ = some (.int .i64 qf) := c1
      replace c2 : wr.cell? ⟨(a.add (j * 6)).block, (a.add (j * 6)).off + 2, none⟩ = some (.int .i64 qt) := c2
      replace c3 : wr.cell? ⟨(a.add (j * 6)).block, (a.add (j * 6)).off + 3, none⟩ = some (.int .i64 qi) := c3
      replace c4 : wr.cell? ⟨(a.add (j * 6)).block, (a.add (j * 6)).off + 4, none⟩ = some (.string qs) := c4
      have hi0 : (0 : Int) ≤ (j : Int) := by omega
      have hi1 : (j : Int) < (len : Int) := by omega
      by_cases hq0 : qw = 0
      · subst hq0
        have hs' := Sm_send HR.out qf qt qs
        have HC := Kp.mk (fun wx hx => Send_any g v N qf qt qs wx hx HS.out hqs)
        generalize sendV N qf qt qs = r at hs' HC
        obtain ⟨⟨id, er⟩, M⟩ := r
        simp only [] at hs' HC
        have HM := Kp.mk hs'
        have HK : Kp (∀ wx wy vx, Below w.heap.size w wx → Upd wx wy g v vx → (Below w.heap.size w wy ∧ ∀ k, blk vx = some k → w.heap.size ≤ k)) := ⟨fun wx wy vx hx hu => Upd.below hx hu hx.size HG.out HB.out.2⟩
        clear hs'
        go_wp2_with fail
        go_region_held3 (fun w' => w'.cell? ⟨(a.add (j * 6)).block, (a.add (j * 6)).off + 1, none⟩ = some (.int .i64 qf) ∧ w'.cell? ⟨(a.add (j * 6)).block, (a.add (j * 6)).off + 2, none⟩ = some (.int .i64 qt) ∧ w'.cell? ⟨(a.add (j * 6)).block, (a.add (j * 6)).off + 4, none⟩ = some (.string qs)) (go_keep)
          (first
            | (go_at_call 12; refine (HC.out _ H.out.drew).mono ?_; rintro e w3 ⟨rfl, v3, n3, u3⟩; have N3 := Kp.mk n3; have U3 := Kp.mk (HK.out _ _ _ HB.out.1.drew u3); obtain ⟨_, e1, e2, _, e4, _⟩ := HAT.out _ U3.out.1; have e1 : w3.cell? ⟨(a.add (j * 6)).block, (a.add (j * 6)).off + 1, none⟩ = some (.int .i64 qf) := e1; have e2 : w3.cell? ⟨(a.add (j * 6)).block, (a.add (j * 6)).off + 2, none⟩ = some (.int .i64 qt) := e2; have e4 : w3.cell? ⟨(a.add (j * 6)).block, (a.add (j * 6)).off + 4, none⟩ = some (.string qs) := e4; clear n3 u3))
        go_wp2
        go_roundw
        case rel => exact ⟨j + 1, v3, M, by go_num, by omega, N3.out, HM.out, U3.out⟩
        case measure => simp [intOf]; omega
      · have zz0 : ((qw : Int) == 0) = false := by rw [beq_eq_false_iff_ne]; omega
        have hs' := Sm_twice HR.out qi
        have HC := Kp.mk (fun wx hx => Twice_any g v N qi wx hx HS.out)
        generalize twiceV N qi = r at hs' HC
        obtain ⟨⟨id, er⟩, M⟩ := r
        simp only [] at hs' HC
        have HM := Kp.mk hs'
        clear hs'
        go_wp2_with fail
        refine (HC.out _ H.out).mono ?_
        rintro e w3 ⟨rfl, v3, n3, u3⟩
        have N3 := Kp.mk n3
        have U3 := Kp.mk (Upd.below HB.out.1 u3 HB.out.1.size HG.out HB.out.2)
        clear n3 u3
        go_wp2
        go_roundw
        case rel => exact ⟨j + 1, v3, M, by go_num, by omega, N3.out, HM.out, U3.out⟩
        case measure => simp [intOf]; omega
    · obtain rfl : j = len := by omega
      have HS := Kp.mk (hs.mono (show (j : Int) ≤ 1000000000000 by omega))
      have h256 : N.l.length ≤ 256 := hs.2.2.2.2.2
      clear hn hbv hs HF HR
      go_wp2_with fail
      refine (Mails_any g v N _ H.out (by omega)).mono ?_
      rintro e w3 ⟨vw, rfl, r3, b3, f3⟩
      replace HB : Kp (Below w.heap.size w w3 ∧ ∀ k, blk v = some k → w.heap.size ≤ k) := ⟨HB.out.1.trans (b3.mono HB.out.1.size), HB.out.2⟩
      have SW := Kp.mk (Sep.fresh H.out f3)
      replace H := Kp.mk (H.out.below b3)
      have RW := Kp.mk r3
      clear r3 b3 f3
      cases b
      · rcases take_cases N i with ⟨hi, hV⟩ | ⟨k, hk, rfl, hV1, hV2⟩
        · have HC := Kp.mk (Take_any g v N i _ H.out HS.out)
          rw [hV] at HC
          have hM : N.l = N.l := rfl
          go_wp2_with fail
          refine HC.out.mono ?_
          rintro e w4 ⟨rfl, v4, n4, u4⟩
          replace HB := Kp.mk (Upd.below HB.out.1 u4 HB.out.1.size HG.out HB.out.2)
          have RW4 := Kp.mk (RW.out.upd u4 SW.out).1
          have H4 := Kp.mk n4
          clear n4 u4 HC RW SW H
          go_wp2_with fail
          refine (Mails_any g v4 N _ H4.out (by omega)).mono ?_
          rintro e w5 ⟨vn, rfl, r5, b5, _⟩
          replace HB : Kp (Below w.heap.size w w5) := ⟨HB.out.1.trans (b5.mono HB.out.1.size)⟩
          replace RW4 := Kp.mk (RW4.out.below b5)
          have RN := Kp.mk r5
          obtain ⟨an, cn, hvn, _, hcn⟩ := r5.len
          obtain ⟨aw, cw, hvw, _, hcw⟩ := RW4.out.len
          unfold maxLen at hcn hcw
          subst hvn hvw
          clear r5 b5 H4
          have hML : N.l.length = N.l.length := rfl
          rcases hi with hi | hi
          · have z1 : decide (0 ≤ i) = false := by rw [decide_eq_false_iff_not]; omega
            go_wp2
            go_loopw [15] (fun k wr => ∃ p : Nat, k = .int .i64 p ∧ p ≤ N.l.length ∧ RK 4 wr (.slice an N.l.length cn) N.l.length (rows N.l) ∧ RK 4 wr (.slice aw N.l.length cw) N.l.length (rows N.l) ∧ Below w.heap.size w wr) (fun k _ => N.l.length - (intOf k).toNat)
            case atStart => exact ⟨0, rfl, by omega, RN.out, RW4.out, HB.out⟩
            case round =>
              obtain ⟨p, rfl, hp, hr, hrw, hbw⟩ := hrel
              have R1 := Kp.mk (And.intro hr (And.intro hrw hbw))
              clear hbw RN RW4
              by_cases hpl : p < N.l.length
              · obtain ⟨q, hqe⟩ : ∃ q, p = q := ⟨_, rfl⟩
                have hq : q < N.l.length := by omega
                have hpq : N.l[p] = N.l[q] := by simp only [hqe]
                subst hqe
                obtain ⟨s0, s1, s2, s3⟩ := rows_get N.l p hpl
                obtain ⟨r0, r1, r2, r3⟩ := rows_get N.l p hpl
                obtain ⟨gn, cn', hvn, _, _, _, _⟩ := hr.at_ (by omega)
                obtain ⟨gw, cw', hvw, _, _, _, _⟩ := hrw.at_ (by omega)
                simp only [Value.slice.injEq] at hvn hvw
                obtain ⟨rfl, _, rfl⟩ := hvn
                obtain ⟨rfl, _, rfl⟩ := hvw
                have y0 := hr.cell _ _ s0
                have y1 := hr.cell _ _ s1
                have y2 := hr.cell _ _ s2
                have y3 := hr.cell _ _ s3
                have x0 := hrw.cell _ _ r0
                have x1 := hrw.cell _ _ r1
                have x2 := hrw.cell _ _ r2
                have x3 := hrw.cell _ _ r3
                clear hr hrw r0 r1 r2 r3 s0 s1 s2 s3
                generalize N.l[p] = m at x0 x1 x2 x3 y0 y1 y2 y3
                obtain ⟨mi, mf, mt, md⟩ := m
                simp only [] at x0 x1 x2 x3 y0 y1 y2 y3
                have i0 : (0 : Int) ≤ (p : Int) := by omega
                have i1 : (p : Int) < (N.l.length : Int) := by omega
                go_wp2_with fail
                go_quiet (fail)
                go_wp2
                go_roundw
                case rel => exact ⟨p + 1, by go_num, by omega, R1.out.1, R1.out.2.1, ⟨R1.out.2.2.os, R1.out.2.2.tape, R1.out.2.2.output, R1.out.2.2.size, R1.out.2.2.block⟩⟩
                case measure => simp [intOf]; omega
              · obtain rfl : p = N.l.length := by omega
                clear hr hrw
                go_wp2
                go_ret
                exact ⟨by trivial, R1.out.2.2⟩
          · have z1 : decide (0 ≤ i) = true := by rw [decide_eq_true_eq]; omega
            have z2 : decide (i < (N.l.length : Int)) = false := by rw [decide_eq_false_iff_not]; omega
            go_wp2
            go_loopw [15] (fun k wr => ∃ p : Nat, k = .int .i64 p ∧ p ≤ N.l.length ∧ RK 4 wr (.slice an N.l.length cn) N.l.length (rows N.l) ∧ RK 4 wr (.slice aw N.l.length cw) N.l.length (rows N.l) ∧ Below w.heap.size w wr) (fun k _ => N.l.length - (intOf k).toNat)
            case atStart => exact ⟨0, rfl, by omega, RN.out, RW4.out, HB.out⟩
            case round =>
              obtain ⟨p, rfl, hp, hr, hrw, hbw⟩ := hrel
              have R1 := Kp.mk (And.intro hr (And.intro hrw hbw))
              clear hbw RN RW4
              by_cases hpl : p < N.l.length
              · obtain ⟨q, hqe⟩ : ∃ q, p = q := ⟨_, rfl⟩
                have hq : q < N.l.length := by omega
                have hpq : N.l[p] = N.l[q] := by simp only [hqe]
                subst hqe
                obtain ⟨s0, s1, s2, s3⟩ := rows_get N.l p hpl
                obtain ⟨r0, r1, r2, r3⟩ := rows_get N.l p hpl
                obtain ⟨gn, cn', hvn, _, _, _, _⟩ := hr.at_ (by omega)
                obtain ⟨gw, cw', hvw, _, _, _, _⟩ := hrw.at_ (by omega)
                simp only [Value.slice.injEq] at hvn hvw
                obtain ⟨rfl, _, rfl⟩ := hvn
                obtain ⟨rfl, _, rfl⟩ := hvw
                have y0 := hr.cell _ _ s0
                have y1 := hr.cell _ _ s1
                have y2 := hr.cell _ _ s2
                have y3 := hr.cell _ _ s3
                have x0 := hrw.cell _ _ r0
                have x1 := hrw.cell _ _ r1
                have x2 := hrw.cell _ _ r2
                have x3 := hrw.cell _ _ r3
                clear hr hrw r0 r1 r2 r3 s0 s1 s2 s3
                generalize N.l[p] = m at x0 x1 x2 x3 y0 y1 y2 y3
                obtain ⟨mi, mf, mt, md⟩ := m
                simp only [] at x0 x1 x2 x3 y0 y1 y2 y3
                have i0 : (0 : Int) ≤ (p : Int) := by omega
                have i1 : (p : Int) < (N.l.length : Int) := by omega
                go_wp2_with fail
                go_quiet (fail)
                go_wp2
                go_roundw
                case rel => exact ⟨p + 1, by go_num, by omega, R1.out.1, R1.out.2.1, ⟨R1.out.2.2.os, R1.out.2.2.tape, R1.out.2.2.output, R1.out.2.2.size, R1.out.2.2.block⟩⟩
                case measure => simp [intOf]; omega
              · obtain rfl : p = N.l.length := by omega
                clear hr hrw
                go_wp2
                go_ret
                exact ⟨by trivial, R1.out.2.2⟩
        · have HC := Kp.mk (Take_any g v N k _ H.out HS.out)
          have HSM : Kp (Sm (takeV N k).2 1000000000001) := ⟨Sm_take HS.out k⟩
          generalize takeV N k = r at HC HSM hV1 hV2
          obtain ⟨⟨mt, er⟩, M⟩ := r
          simp only [] at hV1 hV2 HC HSM
          subst hV1
          go_wp2_with fail
          refine HC.out.mono ?_
          rintro e w4 ⟨rfl, v4, n4, u4⟩
          replace HB := Kp.mk (Upd.below HB.out.1 u4 HB.out.1.size HG.out HB.out.2)
          have RW4 := Kp.mk (RW.out.upd u4 SW.out).1
          have H4 := Kp.mk n4
          clear n4 u4 HC RW SW H
          go_wp2_with fail
          refine (Mails_any g v4 M _ H4.out (by have := HSM.out.2.2.2.2.2; omega)).mono ?_
          rintro e w5 ⟨vn, rfl, r5, b5, _⟩
          replace HB : Kp (Below w.heap.size w w5) := ⟨HB.out.1.trans (b5.mono HB.out.1.size)⟩
          replace RW4 := Kp.mk (RW4.out.below b5)
          have RN := Kp.mk r5
          obtain ⟨an, cn, hvn, _, hcn⟩ := r5.len
          obtain ⟨aw, cw, hvw, _, hcw⟩ := RW4.out.len
          unfold maxLen at hcn hcw
          subst hvn hvw
          clear r5 b5 H4
          have hlen := outL_len N.l k hk
          rw [← hV2] at hlen
          have HV2 := Kp.mk hV2
          clear hV2
          have z1 : decide (0 ≤ (k : Int)) = true := by rw [decide_eq_true_eq]; omega
          have z2 : decide ((k : Int) < (N.l.length : Int)) = true := by rw [decide_eq_true_eq]; omega
          have z2' : decide (k < N.l.length) = true := by rw [decide_eq_true_eq]; omega
          have z3 : IntKind.i64.wrap ((N.l.length : Int) - 1) = (M.l.length : Int) := by rw [IntKind.wrap_i64]; omega
          go_wp2
          go_loopw [15] (fun k wr => ∃ p : Nat, k = .int .i64 p ∧ p ≤ M.l.length ∧ RK 4 wr (.slice an M.l.length cn) M.l.length (rows M.l) ∧ RK 4 wr (.slice aw N.l.length cw) N.l.length (rows N.l) ∧ Below w.heap.size w wr) (fun k _ => M.l.length - (intOf k).toNat)
          case atStart => exact ⟨0, rfl, by omega, RN.out, RW4.out, HB.out⟩
          case round =>
            obtain ⟨p, rfl, hp, hr, hrw, hbw⟩ := hrel
            have R1 := Kp.mk (And.intro hr (And.intro hrw hbw))
            clear hbw RN RW4
            by_cases hpl : p < M.l.length
            · obtain ⟨q, hq, hqe, hpq⟩ := outL_get N.l k p hk (by rw [← HV2.out]; exact hpl)
              replace hpq : M.l[p] = N.l[q] := by rw [← hpq]; simp only [HV2.out]
              obtain ⟨s0, s1, s2, s3⟩ := rows_get M.l p hpl
              obtain ⟨r0, r1, r2, r3⟩ := rows_get N.l q hq
              obtain ⟨gn, cn', hvn, _, _, _, _⟩ := hr.at_ (by omega)
              obtain ⟨gw, cw', hvw, _, _, _, _⟩ := hrw.at_ (by omega)
              simp only [Value.slice.injEq] at hvn hvw
              obtain ⟨rfl, _, rfl⟩ := hvn
              obtain ⟨rfl, _, rfl⟩ := hvw
              have y0 := hr.cell _ _ s0
              have y1 := hr.cell _ _ s1
              have y2 := hr.cell _ _ s2
              have y3 := hr.cell _ _ s3
              have x0 := hrw.cell _ _ r0
              have x1 := hrw.cell _ _ r1
              have x2 := hrw.cell _ _ r2
              have x3 := hrw.cell _ _ r3
              rw [hpq] at y0 y1 y2 y3
              clear hr hrw r0 r1 r2 r3 s0 s1 s2 s3
              generalize N.l[q] = m at x0 x1 x2 x3 y0 y1 y2 y3
              obtain ⟨mi, mf, mt, md⟩ := m
              simp only [] at x0 x1 x2 x3 y0 y1 y2 y3
              have i0 : (0 : Int) ≤ (p : Int) := by omega
              have i1 : (p : Int) < (M.l.length : Int) := by omega
              have i2 : (0 : Int) ≤ (q : Int) := by omega
              have i3 : (q : Int) < (N.l.length : Int) := by omega
              by_cases hpk : p < k
              · rw [if_pos hpk] at hqe
                subst hqe
                have z4 : decide ((k : Int) ≤ (q : Int)) = false := by rw [decide_eq_false_iff_not]; omega
                have z5 : decide (k ≤ q) = false := by rw [decide_eq_false_iff_not]; omega
                go_wp2_with fail
                go_quiet (fail)
                go_wp2
                go_roundw
                case rel => exact ⟨q + 1, by go_num, by omega, R1.out.1, R1.out.2.1, ⟨R1.out.2.2.os, R1.out.2.2.tape, R1.out.2.2.output, R1.out.2.2.size, R1.out.2.2.block⟩⟩
                case measure => simp [intOf]; omega
              · rw [if_neg hpk] at hqe
                have z4 : decide ((k : Int) ≤ (p : Int)) = true := by rw [decide_eq_true_eq]; omega
                have z5 : decide (k ≤ p) = true := by rw [decide_eq_true_eq]; omega
                subst hqe
                have z6 : (0 : Int) ≤ (p : Int) + 1 := by omega
                have z7 : (p : Int) + 1 < (N.l.length : Int) := by omega
                have z8 : ((p : Int) + 1).toNat = p + 1 := by omega
                go_wp2_with fail
                go_quiet (fail)
                clear z6 z7 z8
                go_wp2
                go_roundw
                case rel => first | exact ⟨p + 1, by go_num, by omega, R1.out.1, R1.out.2.1, ⟨R1.out.2.2.os, R1.out.2.2.tape, R1.out.2.2.output, R1.out.2.2.size, R1.out.2.2.block⟩⟩ | exact ⟨_, rfl, by omega, R1.out.1, R1.out.2.1, ⟨R1.out.2.2.os, R1.out.2.2.tape, R1.out.2.2.output, R1.out.2.2.size, R1.out.2.2.block⟩⟩
                case measure => simp [intOf]; omega
            · obtain rfl : p = M.l.length := by omega
              clear hr hrw
              go_wp2
              go_ret
              exact ⟨by trivial, R1.out.2.2⟩
      · rcases lose_cases N i with ⟨hi, hV⟩ | ⟨k, hk, rfl, hV1, hV2⟩
        · have HC := Kp.mk (Lose_any g v N i _ H.out HS.out)
          rw [hV] at HC
          have hM : N.l = N.l := rfl
          go_wp2_with fail
          refine HC.out.mono ?_
          rintro e w4 ⟨rfl, v4, n4, u4⟩
          replace HB := Kp.mk (Upd.below HB.out.1 u4 HB.out.1.size HG.out HB.out.2)
          have RW4 := Kp.mk (RW.out.upd u4 SW.out).1
          have H4 := Kp.mk n4
          clear n4 u4 HC RW SW H
          go_wp2_with fail
          refine (Mails_any g v4 N _ H4.out (by omega)).mono ?_
          rintro e w5 ⟨vn, rfl, r5, b5, _⟩
          replace HB : Kp (Below w.heap.size w w5) := ⟨HB.out.1.trans (b5.mono HB.out.1.size)⟩
          replace RW4 := Kp.mk (RW4.out.below b5)
          have RN := Kp.mk r5
          obtain ⟨an, cn, hvn, _, hcn⟩ := r5.len
          obtain ⟨aw, cw, hvw, _, hcw⟩ := RW4.out.len
          unfold maxLen at hcn hcw
          subst hvn hvw
          clear r5 b5 H4
          have hML : N.l.length = N.l.length := rfl
          rcases hi with hi | hi
          · have z1 : decide (0 ≤ i) = false := by rw [decide_eq_false_iff_not]; omega
            go_wp2
            go_loopw [15] (fun k wr => ∃ p : Nat, k = .int .i64 p ∧ p ≤ N.l.length ∧ RK 4 wr (.slice an N.l.length cn) N.l.length (rows N.l) ∧ RK 4 wr (.slice aw N.l.length cw) N.l.length (rows N.l) ∧ Below w.heap.size w wr) (fun k _ => N.l.length - (intOf k).toNat)
            case atStart => exact ⟨0, rfl, by omega, RN.out, RW4.out, HB.out⟩
            case round =>
              obtain ⟨p, rfl, hp, hr, hrw, hbw⟩ := hrel
              have R1 := Kp.mk (And.intro hr (And.intro hrw hbw))
              clear hbw RN RW4
              by_cases hpl : p < N.l.length
              · obtain ⟨q, hqe⟩ : ∃ q, p = q := ⟨_, rfl⟩
                have hq : q < N.l.length := by omega
                have hpq : N.l[p] = N.l[q] := by simp only [hqe]
                subst hqe
                obtain ⟨s0, s1, s2, s3⟩ := rows_get N.l p hpl
                obtain ⟨r0, r1, r2, r3⟩ := rows_get N.l p hpl
                obtain ⟨gn, cn', hvn, _, _, _, _⟩ := hr.at_ (by omega)
                obtain ⟨gw, cw', hvw, _, _, _, _⟩ := hrw.at_ (by omega)
                simp only [Value.slice.injEq] at hvn hvw
                obtain ⟨rfl, _, rfl⟩ := hvn
                obtain ⟨rfl, _, rfl⟩ := hvw
                have y0 := hr.cell _ _ s0
                have y1 := hr.cell _ _ s1
                have y2 := hr.cell _ _ s2
                have y3 := hr.cell _ _ s3
                have x0 := hrw.cell _ _ r0
                have x1 := hrw.cell _ _ r1
                have x2 := hrw.cell _ _ r2
                have x3 := hrw.cell _ _ r3
                clear hr hrw r0 r1 r2 r3 s0 s1 s2 s3
                generalize N.l[p] = m at x0 x1 x2 x3 y0 y1 y2 y3
                obtain ⟨mi, mf, mt, md⟩ := m
                simp only [] at x0 x1 x2 x3 y0 y1 y2 y3
                have i0 : (0 : Int) ≤ (p : Int) := by omega
                have i1 : (p : Int) < (N.l.length : Int) := by omega
                go_wp2_with fail
                go_quiet (fail)
                go_wp2
                go_roundw
                case rel => exact ⟨p + 1, by go_num, by omega, R1.out.1, R1.out.2.1, ⟨R1.out.2.2.os, R1.out.2.2.tape, R1.out.2.2.output, R1.out.2.2.size, R1.out.2.2.block⟩⟩
                case measure => simp [intOf]; omega
              · obtain rfl : p = N.l.length := by omega
                clear hr hrw
                go_wp2
                go_ret
                exact ⟨by trivial, R1.out.2.2⟩
          · have z1 : decide (0 ≤ i) = true := by rw [decide_eq_true_eq]; omega
            have z2 : decide (i < (N.l.length : Int)) = false := by rw [decide_eq_false_iff_not]; omega
            go_wp2
            go_loopw [15] (fun k wr => ∃ p : Nat, k = .int .i64 p ∧ p ≤ N.l.length ∧ RK 4 wr (.slice an N.l.length cn) N.l.length (rows N.l) ∧ RK 4 wr (.slice aw N.l.length cw) N.l.length (rows N.l) ∧ Below w.heap.size w wr) (fun k _ => N.l.length - (intOf k).toNat)
            case atStart => exact ⟨0, rfl, by omega, RN.out, RW4.out, HB.out⟩
            case round =>
              obtain ⟨p, rfl, hp, hr, hrw, hbw⟩ := hrel
              have R1 := Kp.mk (And.intro hr (And.intro hrw hbw))
              clear hbw RN RW4
              by_cases hpl : p < N.l.length
              · obtain ⟨q, hqe⟩ : ∃ q, p = q := ⟨_, rfl⟩
                have hq : q < N.l.length := by omega
                have hpq : N.l[p] = N.l[q] := by simp only [hqe]
                subst hqe
                obtain ⟨s0, s1, s2, s3⟩ := rows_get N.l p hpl
                obtain ⟨r0, r1, r2, r3⟩ := rows_get N.l p hpl
                obtain ⟨gn, cn', hvn, _, _, _, _⟩ := hr.at_ (by omega)
                obtain ⟨gw, cw', hvw, _, _, _, _⟩ := hrw.at_ (by omega)
                simp only [Value.slice.injEq] at hvn hvw
                obtain ⟨rfl, _, rfl⟩ := hvn
                obtain ⟨rfl, _, rfl⟩ := hvw
                have y0 := hr.cell _ _ s0
                have y1 := hr.cell _ _ s1
                have y2 := hr.cell _ _ s2
                have y3 := hr.cell _ _ s3
                have x0 := hrw.cell _ _ r0
                have x1 := hrw.cell _ _ r1
                have x2 := hrw.cell _ _ r2
                have x3 := hrw.cell _ _ r3
                clear hr hrw r0 r1 r2 r3 s0 s1 s2 s3
                generalize N.l[p] = m at x0 x1 x2 x3 y0 y1 y2 y3
                obtain ⟨mi, mf, mt, md⟩ := m
                simp only [] at x0 x1 x2 x3 y0 y1 y2 y3
                have i0 : (0 : Int) ≤ (p : Int) := by omega
                have i1 : (p : Int) < (N.l.length : Int) := by omega
                go_wp2_with fail
                go_quiet (fail)
                go_wp2
                go_roundw
                case rel => exact ⟨p + 1, by go_num, by omega, R1.out.1, R1.out.2.1, ⟨R1.out.2.2.os, R1.out.2.2.tape, R1.out.2.2.output, R1.out.2.2.size, R1.out.2.2.block⟩⟩
                case measure => simp [intOf]; omega
              · obtain rfl : p = N.l.length := by omega
                clear hr hrw
                go_wp2
                go_ret
                exact ⟨by trivial, R1.out.2.2⟩
        · have HC := Kp.mk (Lose_any g v N k _ H.out HS.out)
          have HSM : Kp (Sm (loseV N k).2 1000000000001) := ⟨Sm_lose HS.out k⟩
          generalize loseV N k = r at HC HSM hV1 hV2
          obtain ⟨er, M⟩ := r
          simp only [] at hV1 hV2 HC HSM
          subst hV1
          go_wp2_with fail
          refine HC.out.mono ?_
          rintro e w4 ⟨rfl, v4, n4, u4⟩
          replace HB := Kp.mk (Upd.below HB.out.1 u4 HB.out.1.size HG.out HB.out.2)
          have RW4 := Kp.mk (RW.out.upd u4 SW.out).1
          have H4 := Kp.mk n4
          clear n4 u4 HC RW SW H
          go_wp2_with fail
          refine (Mails_any g v4 M _ H4.out (by have := HSM.out.2.2.2.2.2; omega)).mono ?_
          rintro e w5 ⟨vn, rfl, r5, b5, _⟩
          replace HB : Kp (Below w.heap.size w w5) := ⟨HB.out.1.trans (b5.mono HB.out.1.size)⟩
          replace RW4 := Kp.mk (RW4.out.below b5)
          have RN := Kp.mk r5
          obtain ⟨an, cn, hvn, _, hcn⟩ := r5.len
          obtain ⟨aw, cw, hvw, _, hcw⟩ := RW4.out.len
          unfold maxLen at hcn hcw
          subst hvn hvw
          clear r5 b5 H4
          have hlen := outL_len N.l k hk
          rw [← hV2] at hlen
          have HV2 := Kp.mk hV2
          clear hV2
          have z1 : decide (0 ≤ (k : Int)) = true := by rw [decide_eq_true_eq]; omega
          have z2 : decide ((k : Int) < (N.l.length : Int)) = true := by rw [decide_eq_true_eq]; omega
          have z2' : decide (k < N.l.length) = true := by rw [decide_eq_true_eq]; omega
          have z3 : IntKind.i64.wrap ((N.l.length : Int) - 1) = (M.l.length : Int) := by rw [IntKind.wrap_i64]; omega
          go_wp2
          go_loopw [15] (fun k wr => ∃ p : Nat, k = .int .i64 p ∧ p ≤ M.l.length ∧ RK 4 wr (.slice an M.l.length cn) M.l.length (rows M.l) ∧ RK 4 wr (.slice aw N.l.length cw) N.l.length (rows N.l) ∧ Below w.heap.size w wr) (fun k _ => M.l.length - (intOf k).toNat)
          case atStart => exact ⟨0, rfl, by omega, RN.out, RW4.out, HB.out⟩
          case round =>
            obtain ⟨p, rfl, hp, hr, hrw, hbw⟩ := hrel
            have R1 := Kp.mk (And.intro hr (And.intro hrw hbw))
            clear hbw RN RW4
            by_cases hpl : p < M.l.length
            · obtain ⟨q, hq, hqe, hpq⟩ := outL_get N.l k p hk (by rw [← HV2.out]; exact hpl)
              replace hpq : M.l[p] = N.l[q] := by rw [← hpq]; simp only [HV2.out]
              obtain ⟨s0, s1, s2, s3⟩ := rows_get M.l p hpl
              obtain ⟨r0, r1, r2, r3⟩ := rows_get N.l q hq
              obtain ⟨gn, cn', hvn, _, _, _, _⟩ := hr.at_ (by omega)
              obtain ⟨gw, cw', hvw, _, _, _, _⟩ := hrw.at_ (by omega)
              simp only [Value.slice.injEq] at hvn hvw
              obtain ⟨rfl, _, rfl⟩ := hvn
              obtain ⟨rfl, _, rfl⟩ := hvw
              have y0 := hr.cell _ _ s0
              have y1 := hr.cell _ _ s1
              have y2 := hr.cell _ _ s2
              have y3 := hr.cell _ _ s3
              have x0 := hrw.cell _ _ r0
              have x1 := hrw.cell _ _ r1
              have x2 := hrw.cell _ _ r2
              have x3 := hrw.cell _ _ r3
              rw [hpq] at y0 y1 y2 y3
              clear hr hrw r0 r1 r2 r3 s0 s1 s2 s3
              generalize N.l[q] = m at x0 x1 x2 x3 y0 y1 y2 y3
              obtain ⟨mi, mf, mt, md⟩ := m
              simp only [] at x0 x1 x2 x3 y0 y1 y2 y3
              have i0 : (0 : Int) ≤ (p : Int) := by omega
              have i1 : (p : Int) < (M.l.length : Int) := by omega
              have i2 : (0 : Int) ≤ (q : Int) := by omega
              have i3 : (q : Int) < (N.l.length : Int) := by omega
              by_cases hpk : p < k
              · rw [if_pos hpk] at hqe
                subst hqe
                have z4 : decide ((k : Int) ≤ (q : Int)) = false := by rw [decide_eq_false_iff_not]; omega
                have z5 : decide (k ≤ q) = false := by rw [decide_eq_false_iff_not]; omega
                go_wp2_with fail
                go_quiet (fail)
                go_wp2
                go_roundw
                case rel => exact ⟨q + 1, by go_num, by omega, R1.out.1, R1.out.2.1, ⟨R1.out.2.2.os, R1.out.2.2.tape, R1.out.2.2.output, R1.out.2.2.size, R1.out.2.2.block⟩⟩
                case measure => simp [intOf]; omega
              · rw [if_neg hpk] at hqe
                have z4 : decide ((k : Int) ≤ (p : Int)) = true := by rw [decide_eq_true_eq]; omega
                have z5 : decide (k ≤ p) = true := by rw [decide_eq_true_eq]; omega
                subst hqe
                have z6 : (0 : Int) ≤ (p : Int) + 1 := by omega
                have z7 : (p : Int) + 1 < (N.l.length : Int) := by omega
                have z8 : ((p : Int) + 1).toNat = p + 1 := by omega
                go_wp2_with fail
                go_quiet (fail)
                clear z6 z7 z8
                go_wp2
                go_roundw
                case rel => first | exact ⟨p + 1, by go_num, by omega, R1.out.1, R1.out.2.1, ⟨R1.out.2.2.os, R1.out.2.2.tape, R1.out.2.2.output, R1.out.2.2.size, R1.out.2.2.block⟩⟩ | exact ⟨_, rfl, by omega, R1.out.1, R1.out.2.1, ⟨R1.out.2.2.os, R1.out.2.2.tape, R1.out.2.2.output, R1.out.2.2.size, R1.out.2.2.block⟩⟩
                case measure => simp [intOf]; omega
            · obtain rfl : p = M.l.length := by omega
              clear hr hrw
              go_wp2
              go_ret
              exact ⟨by trivial, R1.out.2.2⟩
end Go.Proofs.Ytdhpnhdokkhnlaa
