/- The walk of NetTakes: it returns true, and leaves what was there. Printed by tools/takesgen.py. -/
import Derived.Test.YtdhpnhdokkhnlaaTakeS
import Derived.Deep.RegionWith
import Derived.Deep.QuietTactic
import Derived.BigQuiet
namespace Go.Proofs.Ytdhpnhdokkhnlaa
open Go.RowKit Go.Maps
set_option linter.unusedVariables false

theorem cells6 {w : World} {k : Nat} {a b c d e f : Value} {t : TypeId} (h : w.heap[k]? = some (.cells #[a, b, c, d, e, f] t (0, 0))) : w.cell? ⟨k, 0, none⟩ = some a ∧ w.cell? ⟨k, 1, none⟩ = some b ∧ w.cell? ⟨k, 2, none⟩ = some c ∧ w.cell? ⟨k, 3, none⟩ = some d ∧ w.cell? ⟨k, 4, none⟩ = some e ∧ w.cell? ⟨k, 5, none⟩ = some f := by
  refine ⟨?_, ?_, ?_, ?_, ?_, ?_⟩ <;> simp [World.cell?, h]
theorem belowd (B : Nat) (W : World) (k : Nat) : Below B W (W.drewN k) := ⟨rfl, rfl, rfl, Nat.le_refl _, fun _ _ => rfl⟩
theorem TkS.drewN {w0 W : World} {g B m : Nat} {v : Value} {N : NetV} {c : Lit → Nat} (h : TkS w0 g B W v N c m) (k : Nat) : TkS w0 g B (W.drewN k) v N c m := h.stay (belowd _ _ _)
theorem elem_inv (v : Value) (y : DataW Unit × List MemPlace) (h : plainElem Try.prog 3 v = some y) : ∃ c : Int, v = Value.int .i64 c := by
  obtain ⟨c, rfl, _⟩ := plainElem_int_inv Try.underlying3 h
  exact ⟨c, rfl⟩
theorem pool (N : NetV) (m : Int) (h : Sm N m) : N.l.length ≤ 256 := h.2.2.2.2.2
set_option maxRecDepth 100000 in
set_option maxHeartbeats 4000000 in
theorem takes_core (w : World) (ao : Option Addr) (len cap : Nat) (n : Int) (f : Nat → ActV) (hlm : len ≤ 200) (hc : cost f len < 20000) (hf : ∀ i, i < len → ∃ a, ao = some a ∧ (f i).ok ∧ ActAt w (a.add (i * 6)) (f i)) (h1 : 2 ≤ n) (h2 : n ≤ 5) :
    Calls Try.prog 6 #[.int .i64 n, .slice ao len cap] w fun e w' => e = .returned (.bool true) ∧ Below w.heap.size w w' := by
  have HL := Kp.mk (long_any w ao len cap f (by unfold maxLen; omega) hf)
  rw [show decide (20000 ≤ cost f len) = false from by rw [decide_eq_false_iff_not]; omega] at HL
  have t0 : decide ((200 : Int) < (len : Int)) = false := by rw [decide_eq_false_iff_not]; omega
  have HF := Kp.mk hf
  have hmm := @run_makeMap Try.prog
  clear hf hc
  go_enter Try.func6, Try.ntmps6
  go_wp2_with fail
  refine HL.out.mono ?_
  rintro e w' ⟨rfl, md, rfl⟩
  go_wp2_with fail
  refine (awake_any _).mono ?_
  rintro e w1 ⟨rfl, hb1⟩
  have HB1 : Kp (Below w.heap.size w w1) := ⟨⟨hb1.os, hb1.tape, hb1.output, hb1.size, hb1.block⟩⟩
  clear hb1
  go_wp2_with fail
  refine (New_ok n _ h1 h2).mono ?_
  rintro e w2 ⟨rfl, n2, b2⟩
  have H0 : Kp (TkS w w1.heap.size w2.heap.size (w2.alloc (.map #[] 0)) (.slice none 0 0) ⟨0, 0, 0, 0, n, 0, []⟩ (cnt []) 0) := ⟨by
    have hb := HB1.out.trans (b2.mono HB1.out.size)
    have hl := n2.lt
    exact ⟨n2.alloc _, Sm_new _, Fine.new n h2, ⟨0, _, World.ownsMap_made w2 _ _ _, Nat.le_refl _, Bal.nil⟩, by omega, by simp [blk], hb.alloc hb.size _, fun k hk => by simp [blk] at hk, HB1.out.size, hb.size⟩⟩
  obtain ⟨g, hg⟩ : ∃ g, w1.heap.size = g := ⟨_, rfl⟩
  rw [hg] at n2 H0 ⊢
  clear n2 b2 hg HB1 HL
  go_wp2
  obtain ⟨B, hB⟩ : ∃ B, w2.heap.size = B := ⟨_, rfl⟩
  rw [hB] at H0 ⊢
  clear hmm
  go_loopw [8] (fun k wr => ∃ (j : Nat) (v : Value) (N : NetV), k = .int .i64 j ∧ j ≤ len ∧ TkS w g B wr v N (cnt N.l) (700 * j)) (fun k _ => len - (intOf k).toNat)
  case atStart => exact ⟨0, _, _, rfl, by omega, H0.out⟩
  case round =>
    obtain ⟨j, v, N, rfl, hj, hS⟩ := hrel
    by_cases hjl : j < len
    · obtain ⟨a, rfl, hok, hat⟩ := HF.out j hjl
      obtain ⟨c0, c1, c2, c3, c4, c5⟩ := hat.below hS.below
      generalize f j = q at c0 c1 c2 c3 c4 c5 hok
      obtain ⟨qw, qf, qt, qi, qs, qm⟩ := q
      have c0 : wr.cell? (a.add (j * 6)) = some (.int .u8 qw) := c0
      have c1 : wr.cell? ⟨(a.add (j * 6)).block, (a.add (j * 6)).off + 1, none⟩ = some (.int .i64 qf) := c1
      have c2 : wr.cell? ⟨(a.add (j * 6)).block, (a.add (j * 6)).off + 2, none⟩ = some (.int .i64 qt) := c2
      have c3 : wr.cell? ⟨(a.add (j * 6)).block, (a.add (j * 6)).off + 3, none⟩ = some (.int .i64 qi) := c3
      have c4 : wr.cell? ⟨(a.add (j * 6)).block, (a.add (j * 6)).off + 4, none⟩ = some (.string qs) := c4
      have c5 : wr.cell? ⟨(a.add (j * 6)).block, (a.add (j * 6)).off + 5, none⟩ = some (.int .u16 qm) := c5
      have hqs : qs.size ≤ maxLen := hok.2.2.2.2.1
      have hi0 : (0 : Int) ≤ (j : Int) := by omega
      have hi1 : (j : Int) < (len : Int) := by omega
      have hm7 : 700 * j < 140000 := by omega
      obtain ⟨b0, hb0⟩ : ∃ b0, wr.heap.size = b0 := ⟨_, rfl⟩
      have HX := Kp.mk (Bx.new hS (.cells #[.int .u8 qw, .int .i64 qf, .int .i64 qt, .int .i64 qi, .string qs, .int .u16 qm] 33))
      have HS := Kp.mk (hS.stay (W' := wr.alloc (.cells #[.int .u8 qw, .int .i64 qf, .int .i64 qt, .int .i64 qi, .string qs, .int .u16 qm] 33)) ((Below.refl _ _).alloc (Nat.le_refl _) _))
      clear hok hat hS H0
      have h4 : qw = 0 ∨ qw = 1 ∨ qw = 2 ∨ (qw ≠ 0 ∧ qw ≠ 1 ∧ qw ≠ 2) := by omega
      rcases h4 with rfl | rfl | rfl | ⟨z0, z1, z2⟩
      · obtain ⟨T, hT⟩ : ∃ T, qm % 300 = T := ⟨_, rfl⟩
        have hT3 : T < 300 := by omega
        have n2 : (qm : Int).tmod 300 = (T : Int) := by rw [Int.tmod_eq_emod_of_nonneg (by omega)]; omega
        go_wp2
        rw [hb0] at HX
        rw [show ((0 : Nat) : Int) = 0 from rfl] at HS HX
        obtain ⟨Wa, hWa⟩ : ∃ Wa, wr.alloc (.cells #[.int .u8 0, .int .i64 qf, .int .i64 qt, .int .i64 qi, .string qs, .int .u16 qm] 33) = Wa := ⟨_, rfl⟩
        rw [hWa] at HX HS ⊢
        clear hWa hb0 c0 c1 c2 c3 c4 c5
        go_loopw [10] (fun k wr => ∃ (p : Nat) (v : Value) (N : NetV), k = .int .i64 p ∧ p ≤ T + 1 ∧ TkS w g B wr v N (cnt N.l) (700 * j + 2 * p) ∧ Bx g B wr v b0 (.cells #[.int .u8 0, .int .i64 qf, .int .i64 qt, .int .i64 qi, .string qs, .int .u16 qm] 33)) (fun k _ => T + 1 - (intOf k).toNat)
        case atStart => exact ⟨0, _, _, rfl, by omega, HS.out, HX.out⟩
        case round =>
          obtain ⟨p, v, N, rfl, hp, hS2, hX2⟩ := hrel
          have S := Kp.mk hS2
          have X := Kp.mk hX2
          obtain ⟨k0, k1, k2, k3, k4, k5⟩ := cells6 hX2.at_
          clear hS2 hX2 HS HX
          by_cases hpT : p ≤ T
          · have tp : decide ((p : Int) ≤ (T : Int)) = true := by rw [decide_eq_true_eq]; omega
            have tp' : decide (p ≤ T) = true := by rw [decide_eq_true_eq]; omega
            have hg := S.out.fine.send qf qt qs
            have hs' := Sm_send S.out.sm qf qt qs
            have HC := Kp.mk (Send_any g v N qf qt qs _ S.out.net (S.out.sm.mono (by omega)) hqs)
            generalize sendV N qf qt qs = r at hg hs' HC
            obtain ⟨⟨id, er⟩, M⟩ := r
            simp only [] at hg hs' HC
            go_wp2_with fail
            refine HC.out.mono ?_
            rintro e w3 ⟨rfl, v3, n3, u3⟩
            have S3 := Kp.mk (S.out.net' n3 u3 hs' hg.1)
            have X3 := Kp.mk (X.out.upd u3)
            obtain ⟨k0, k1, k2, k3, k4, k5⟩ := cells6 X3.out.at_
            have hgl := hg.2
            have HFi := Kp.mk hg.1
            clear n3 u3 hs' hg HC
            rcases hgl with ⟨rfl, mm, e1, e2, e3, hl⟩ | ⟨he, hl⟩
            · have hkey := letK_of (HFi.out.wl mm (by rw [hl]; simp))
              unfold MailV.let at hkey
              rw [e1, e2, e3] at hkey
              have hcm : ∀ k', cnt M.l k' = cnt N.l k' + cnt [mm] k' := fun k' => by rw [hl, cnt_append]
              have hsz := cnt_le M.l (letK mm)
              have hp2 := pool _ _ S3.out.sm
              obtain ⟨st, v0, W1, W2, f1, f2, f3, f4, S5, G5⟩ := S3.out.drew.step (by omega) hkey (c' := cnt M.l) (fun k' hk' => by rw [hcm, cnt_other hk']; rfl) (by omega)
              have hone : cnt M.l (letK mm) = cnt N.l (letK mm) + 1 := by rw [hcm, cnt_self]
              rw [hone] at f4 hsz
              have S6 := Kp.mk S5
              have X6 := Kp.mk (X3.out.drew.map G5)
              generalize cnt N.l (letK mm) = x at f1 f3 f4 hsz
              have hw1 : IntKind.i64.wrap ((x : Int) + 1) = ((x + 1 : Nat) : Int) := by rw [IntKind.wrap_i64]; omega
              have hw2 : ((x + 1 : Nat) : Int) = (x : Int) + 1 := by omega
              rw [hw2] at f4 hw1
              unfold letV at f1 f2 f3
              clear S5 G5 hw2 hl hkey hcm hone
              go_wp2
              go_region
              all_goals go_wp2
              all_goals go_roundw
              all_goals first | exact ⟨p + 1, _, _, by go_num, by omega, S6.out.up (by omega), X6.out⟩ | (simp [intOf]; omega)
            · have te : (er == 0) = false := by rw [beq_eq_false_iff_ne]; exact he
              go_wp2
              go_roundw
              case rel => exact ⟨p + 1, _, M, by go_num, by omega, by rw [hl]; exact S3.out.up (by omega), X3.out⟩
              case measure => simp [intOf]; omega
          · obtain rfl : p = T + 1 := by omega
            have tp : decide (((T + 1 : Nat) : Int) ≤ (T : Int)) = false := by rw [decide_eq_false_iff_not]; omega
            have tp' : decide ((T : Int) + 1 ≤ (T : Int)) = false := by rw [decide_eq_false_iff_not]; omega
            have hsm := S.out.sm
            go_wp2_with fail
            refine (Count_any g _ _ _ S.out.net).mono ?_
            rintro e wc ⟨rfl, bc⟩
            have SC := Kp.mk ((S.out.stay bc).stay (W' := wc.alloc (.cells #[.int .i64 N.sent, .int .i64 N.doubled, .int .i64 N.taken, .int .i64 N.lost] 51)) ((Below.refl _ _).alloc (Nat.le_refl _) _))
            have HLen := Kp.mk (fun wx (hx : NetAt wx g v N) => (Len_any g v N wx hx).mono fun e w' (hw : _ ∧ wx = w') => And.intro hw.1 hw.2.symm)
            have SCN := Kp.mk (fun k => (SC.out.drewN k).net)
            have hcons := S.out.fine.cons
            have hp := pool _ _ hsm
            obtain ⟨⟨z1, z2⟩, ⟨z3, z4⟩, ⟨z5, z6⟩, ⟨z7, z8⟩, _, _⟩ := hsm
            have i1 : IntKind.i64.wrap (N.sent + N.doubled) = N.sent + N.doubled := by rw [IntKind.wrap_i64]; omega
            have i2 : IntKind.i64.wrap (N.taken + N.lost) = N.taken + N.lost := by rw [IntKind.wrap_i64]; omega
            have i3 : IntKind.i64.wrap (N.taken + N.lost + (N.l.length : Int)) = N.taken + N.lost + (N.l.length : Int) := by rw [IntKind.wrap_i64]; omega
            have q1 : (N.sent + N.doubled != N.taken + N.lost + (N.l.length : Int)) = false := by rw [bne_eq_false_iff_eq]; omega
            have q2 : decide ((256 : Int) < (N.l.length : Int)) = false := by rw [decide_eq_false_iff_not]; omega
            have q3 : decide (256 < N.l.length) = false := by rw [decide_eq_false_iff_not]; omega
            clear bc hcons z1 z2 z3 z4 z5 z6 z7 z8
            go_wp2_with fail
            go_quiet ((go_at_call 17; exact Calls.quiet_of_same (HLen.out _ (SCN.out _))))
            clear i1 i2 i3 q1 q2 q3
            go_wp2
            go_roundw
            case rel => exact ⟨j + 1, _, _, by go_num, by omega, (SC.out.drewN _).up (by omega)⟩
            case measure => simp [intOf]; omega
      · have hg := HS.out.fine.take qi
        have hs' := Sm_take HS.out.sm qi
        have HC := Kp.mk (Take_any g v N qi _ HS.out.net (HS.out.sm.mono (by omega)))
        generalize takeV N qi = r at hg hs' HC
        obtain ⟨⟨mt, er⟩, M⟩ := r
        simp only [] at hg hs' HC
        go_wp2_with fail
        refine HC.out.mono ?_
        rintro e w3 ⟨rfl, v3, n3, u3⟩
        have S3 := Kp.mk ((HS.out.net' n3 u3 hs' hg.1).stay (W' := w3.alloc (.cells #[.int .i64 mt.id, .int .i64 mt.frm, .int .i64 mt.to, .string mt.data] 38)) ((Below.refl _ _).alloc (Nat.le_refl _) _))
        have X3 := Kp.mk (Bx.new (HS.out.net' n3 u3 hs' hg.1) (.cells #[.int .i64 mt.id, .int .i64 mt.frm, .int .i64 mt.to, .string mt.data] 38))
        have HFN := Kp.mk HS.out.fine
        have hgl := hg.2
        clear n3 u3 hs' hg HC HS HX c0 c1 c2 c3 c4 c5 hb0
        unfold MailV.v
        rcases hgl with ⟨rfl, k, hk, rfl, hmt, hl⟩ | ⟨he, hl⟩
        · have hkey := letK_of (HFN.out.wl mt (by rw [hmt]; exact List.getElem_mem hk))
          have hout := fun k' => cnt_out N.l k hk k'
          rw [← hl, ← hmt] at hout
          have hone : cnt N.l (letK mt) = cnt M.l (letK mt) + 1 := by rw [hout, cnt_self]
          have hsz := cnt_le M.l (letK mt)
          have hp2 := pool _ _ S3.out.sm
          have HOf := Kp.mk (fun W => of_any mt W)
          unfold MailV.v at HOf
          obtain ⟨x, hx⟩ : ∃ x, cnt M.l (letK mt) = x := ⟨_, rfl⟩
          rw [hx] at hone hsz
          have HLook : Kp (∀ W, Below (w3.alloc (.cells #[.int .i64 mt.id, .int .i64 mt.frm, .int .i64 mt.to, .string mt.data] 38)).heap.size (w3.alloc (.cells #[.int .i64 mt.id, .int .i64 mt.frm, .int .i64 mt.to, .string mt.data] 38)) W → (Instr.lookup 49 (.map (some B)) (.agg #[.int .i64 mt.frm, .int .i64 mt.to, .string mt.data]) false).run Try.prog W = .ok (.int .i64 ((x : Int) + 1)) W ∧ TkS w g B W v3 M (cnt N.l) (700 * j + 1) ∧ Bx g B W v3 w3.heap.size (.cells #[.int .i64 mt.id, .int .i64 mt.frm, .int .i64 mt.to, .string mt.data] 38)) := ⟨fun W hW => by
            have h1 := (S3.out.stay hW).look hkey
            rw [hone, show ((x + 1 : Nat) : Int) = (x : Int) + 1 from by omega] at h1
            exact ⟨h1, S3.out.stay hW, X3.out.stay hW⟩⟩
          have HStep : Kp (∀ W, TkS w g B W v3 M (cnt N.l) (700 * j + 1) → ∃ (st v0 : Value) (W1 W2 : World), (Instr.lookup 49 (.map (some B)) (.agg #[.int .i64 mt.frm, .int .i64 mt.to, .string mt.data]) false).run Try.prog W = .ok (.int .i64 ((x : Int) + 1)) W ∧ (Instr.mapEntry 49 (.map (some B)) (.agg #[.int .i64 mt.frm, .int .i64 mt.to, .string mt.data])).run Try.prog W = .ok (.tuple #[v0, st]) W1 ∧ (Instr.lookup 49 (.map (some B)) (.agg #[.int .i64 mt.frm, .int .i64 mt.to, .string mt.data]) false).run Try.prog W1 = .ok (.int .i64 ((x : Int) + 1)) W1 ∧ (Instr.entryStore 49 (.map (some B)) st (.int .i64 (x : Int))).run Try.prog W1 = .ok () W2 ∧ TkS w g B W2 v3 M (cnt M.l) (700 * j + 2)) := ⟨fun W hW => by
            obtain ⟨st, v0, W1, W2, f1, f2, f3, f4, S5, _⟩ := hW.step (by omega) hkey (c' := cnt M.l) (fun k' hk' => by rw [hout k', cnt_other hk']; rfl) (by omega)
            rw [hone, show ((x + 1 : Nat) : Int) = (x : Int) + 1 from by omega] at f1 f3
            rw [hx] at f4
            exact ⟨st, v0, W1, W2, f1, f2, f3, f4, S5⟩⟩
          have tx : decide ((x : Int) + 1 < 1) = false := by rw [decide_eq_false_iff_not]; omega
          have hw1 : IntKind.i64.wrap ((x : Int) + 1 - 1) = (x : Int) := by rw [IntKind.wrap_i64]; omega
          have hw3 : IntKind.i64.wrap (x : Int) = (x : Int) := by rw [IntKind.wrap_i64]; omega
          clear hkey hout hone hx S3 X3 hl hmt
          go_wp2_with fail
          refine (HOf.out _).mono ?_
          rintro e w4 ⟨rfl, b4⟩
          obtain ⟨f0, S4, X4⟩ := HLook.out w4 b4
          obtain ⟨k0, k1, k2, k3⟩ := (cells4 X4.at_).1
          have S4 := Kp.mk S4
          clear b4 X4 HLook
          go_wp2
          go_region_with (go_at_call 15; go_loud (refine (HOf.out _).mono ?_; rintro e w5 ⟨rfl, b5⟩; obtain ⟨st, v0, W1, W2, f1, f2, f3, f4, S5⟩ := HStep.out w5 (S4.out.drew.stay b5)))
          all_goals (
            have S := Kp.mk S5
            clear S5 b5 f0 f1 f2 f3 f4 k0 k1 k2 k3
            have hsm := S.out.sm
            go_wp2_with fail
            refine (Count_any g _ _ _ S.out.net).mono ?_
            rintro e wc ⟨rfl, bc⟩
            have SC := Kp.mk ((S.out.stay bc).stay (W' := wc.alloc (.cells #[.int .i64 M.sent, .int .i64 M.doubled, .int .i64 M.taken, .int .i64 M.lost] 51)) ((Below.refl _ _).alloc (Nat.le_refl _) _))
            have HLen := Kp.mk (fun wx (hx : NetAt wx g v3 M) => (Len_any g v3 M wx hx).mono fun e w' (hw : _ ∧ wx = w') => And.intro hw.1 hw.2.symm)
            have SCN := Kp.mk (fun k => (SC.out.drewN k).net)
            have hcons := S.out.fine.cons
            have hp := pool _ _ hsm
            obtain ⟨⟨z1, z2⟩, ⟨z3, z4⟩, ⟨z5, z6⟩, ⟨z7, z8⟩, _, _⟩ := hsm
            have i1 : IntKind.i64.wrap (M.sent + M.doubled) = M.sent + M.doubled := by rw [IntKind.wrap_i64]; omega
            have i2 : IntKind.i64.wrap (M.taken + M.lost) = M.taken + M.lost := by rw [IntKind.wrap_i64]; omega
            have i3 : IntKind.i64.wrap (M.taken + M.lost + (M.l.length : Int)) = M.taken + M.lost + (M.l.length : Int) := by rw [IntKind.wrap_i64]; omega
            have q1 : (M.sent + M.doubled != M.taken + M.lost + (M.l.length : Int)) = false := by rw [bne_eq_false_iff_eq]; omega
            have q2 : decide ((256 : Int) < (M.l.length : Int)) = false := by rw [decide_eq_false_iff_not]; omega
            have q3 : decide (256 < M.l.length) = false := by rw [decide_eq_false_iff_not]; omega
            clear bc hcons z1 z2 z3 z4 z5 z6 z7 z8
            go_wp2_with fail
            go_quiet ((go_at_call 17; exact Calls.quiet_of_same (HLen.out _ (SCN.out _))))
            clear i1 i2 i3 q1 q2 q3
            go_wp2
            go_roundw
            case rel => exact ⟨j + 1, _, _, by go_num, by omega, (SC.out.drewN _).up (by omega)⟩
            case measure => simp [intOf]; omega)
        · have te : (er != 0) = true := by rw [bne_iff_ne]; exact he
          go_wp2
          go_roundw
          case rel => exact ⟨j + 1, _, M, by go_num, by omega, by rw [hl]; exact S3.out.up (by omega)⟩
          case measure => simp [intOf]; omega
      · go_wp2_with fail
        refine (Mails_any g v N _ HS.out.net (by have := pool _ _ HS.out.sm; omega)).mono ?_
        rintro e w2' ⟨was, rfl, r2, b2', f2⟩
        have S2 := Kp.mk (HS.out.stay b2')
        rw [hb0] at HX
        have X2 := Kp.mk (HX.out.stay b2')
        have A2 := Kp.mk (Ap.new HS.out f2)
        have R2 := Kp.mk r2
        obtain ⟨aw, cw, rfl, _, _⟩ := r2.len
        obtain ⟨y0, y1, y2, y3, y4, y5⟩ := cells6 X2.out.at_
        clear b2' f2 r2 c0 c1 c2 c3 c4 c5 HX
        have hg := HS.out.fine.lose qi
        have hs' := Sm_lose HS.out.sm qi
        have HC := Kp.mk (Lose_any g v N qi _ S2.out.net (S2.out.sm.mono (by omega)))
        generalize loseV N qi = r at hg hs' HC
        obtain ⟨er, M⟩ := r
        simp only [] at hg hs' HC
        go_wp2_with fail
        refine HC.out.mono ?_
        rintro e w3 ⟨rfl, v3, n3, u3⟩
        have S3 := Kp.mk (S2.out.net' n3 u3 hs' hg.1)
        have X3 := Kp.mk (X2.out.upd u3)
        obtain ⟨r3, a3⟩ := A2.out.upd R2.out u3
        have R3 := Kp.mk r3
        obtain ⟨y0, y1, y2, y3, y4, y5⟩ := cells6 X3.out.at_
        have HFN := Kp.mk HS.out.fine
        have HFM := Kp.mk hg.1
        have hgl := hg.2
        clear n3 u3 hs' hg HC HS r3 a3 R2 A2 S2 X2
        rcases hgl with ⟨rfl, k, hk, rfl, hl⟩ | ⟨he, hl⟩
        · obtain ⟨mt, hmt⟩ : ∃ mt, mt = N.l[k] := ⟨_, rfl⟩
          have hkey := letK_of (HFN.out.wl mt (by rw [hmt]; exact List.getElem_mem hk))
          have hout := fun k' => cnt_out N.l k hk k'
          rw [← hl, ← hmt] at hout
          have hone : cnt N.l (letK mt) = cnt M.l (letK mt) + 1 := by rw [hout, cnt_self]
          have hsz := cnt_le M.l (letK mt)
          obtain ⟨x, hx⟩ : ∃ x, cnt M.l (letK mt) = x := ⟨_, rfl⟩
          rw [hx] at hone hsz
          have hp2 := pool _ _ S3.out.sm
          have HOf := Kp.mk (fun W => of_any mt W)
          obtain ⟨q0, q1, q2, q3⟩ := rows_get N.l k hk
          obtain ⟨gm, cm', hvm, _, _, _, _⟩ := R3.out.at_ (by omega)
          simp only [Value.slice.injEq] at hvm
          obtain ⟨rfl, _, rfl⟩ := hvm
          have x0 := R3.out.cell _ _ q0
          have x1 := R3.out.cell _ _ q1
          have x2 := R3.out.cell _ _ q2
          have x3 := R3.out.cell _ _ q3
          rw [← hmt] at x0 x1 x2 x3
          have x0' : w3.cell? (⟨gm, k * 4, none⟩ : Addr) = some (.int .i64 mt.id) := x0
          unfold MailV.v at HOf
          have HStep : Kp (∀ W, TkS w g B W v3 M (cnt N.l) (700 * j + 1) → ∃ (st v0 : Value) (W1 W2 : World), (Instr.lookup 49 (.map (some B)) (.agg #[.int .i64 mt.frm, .int .i64 mt.to, .string mt.data]) false).run Try.prog W = .ok (.int .i64 ((x : Int) + 1)) W ∧ (Instr.mapEntry 49 (.map (some B)) (.agg #[.int .i64 mt.frm, .int .i64 mt.to, .string mt.data])).run Try.prog W = .ok (.tuple #[v0, st]) W1 ∧ (Instr.lookup 49 (.map (some B)) (.agg #[.int .i64 mt.frm, .int .i64 mt.to, .string mt.data]) false).run Try.prog W1 = .ok (.int .i64 ((x : Int) + 1)) W1 ∧ (Instr.entryStore 49 (.map (some B)) st (.int .i64 (x : Int))).run Try.prog W1 = .ok () W2 ∧ TkS w g B W2 v3 M (cnt M.l) (700 * j + 2)) := ⟨fun W hW => by
            obtain ⟨st, v0, W1, W2, f1, f2, f3, f4, S5, _⟩ := hW.step (by omega) hkey (c' := cnt M.l) (fun k' hk' => by rw [hout k', cnt_other hk']; rfl) (by omega)
            rw [hone, show ((x + 1 : Nat) : Int) = (x : Int) + 1 from by omega] at f1 f3
            rw [hx] at f4
            exact ⟨st, v0, W1, W2, f1, f2, f3, f4, S5⟩⟩
          have j0 : (0 : Int) ≤ (k : Int) := by omega
          have j1 : (k : Int) < (N.l.length : Int) := by omega
          have hw1 : IntKind.i64.wrap ((x : Int) + 1 - 1) = (x : Int) := by rw [IntKind.wrap_i64]; omega
          have hw3 : IntKind.i64.wrap (x : Int) = (x : Int) := by rw [IntKind.wrap_i64]; omega
          clear hkey hout hone hx hl hmt q0 q1 q2 q3 X3 R3
          go_wp2
          go_region_with (go_at_call 15; go_loud (refine (HOf.out _).mono ?_; rintro e w5 ⟨rfl, b5⟩; obtain ⟨st, v0, W1, W2, f1, f2, f3, f4, S5⟩ := HStep.out w5 (S3.out.drew.stay b5)))
          all_goals (
            have S := Kp.mk S5
            clear S5 b5 f1 f2 f3 f4 x0 x0' x1 x2 x3 y0 y1 y2 y3 y4 y5
            have hsm := S.out.sm
            go_wp2_with fail
            refine (Count_any g _ _ _ S.out.net).mono ?_
            rintro e wc ⟨rfl, bc⟩
            have SC := Kp.mk ((S.out.stay bc).stay (W' := wc.alloc (.cells #[.int .i64 M.sent, .int .i64 M.doubled, .int .i64 M.taken, .int .i64 M.lost] 51)) ((Below.refl _ _).alloc (Nat.le_refl _) _))
            have HLen := Kp.mk (fun wx (hx : NetAt wx g v3 M) => (Len_any g v3 M wx hx).mono fun e w' (hw : _ ∧ wx = w') => And.intro hw.1 hw.2.symm)
            have SCN := Kp.mk (fun k => (SC.out.drewN k).net)
            have hcons := S.out.fine.cons
            have hp := pool _ _ hsm
            obtain ⟨⟨z1, z2⟩, ⟨z3, z4⟩, ⟨z5, z6⟩, ⟨z7, z8⟩, _, _⟩ := hsm
            have i1 : IntKind.i64.wrap (M.sent + M.doubled) = M.sent + M.doubled := by rw [IntKind.wrap_i64]; omega
            have i2 : IntKind.i64.wrap (M.taken + M.lost) = M.taken + M.lost := by rw [IntKind.wrap_i64]; omega
            have i3 : IntKind.i64.wrap (M.taken + M.lost + (M.l.length : Int)) = M.taken + M.lost + (M.l.length : Int) := by rw [IntKind.wrap_i64]; omega
            have q1 : (M.sent + M.doubled != M.taken + M.lost + (M.l.length : Int)) = false := by rw [bne_eq_false_iff_eq]; omega
            have q2 : decide ((256 : Int) < (M.l.length : Int)) = false := by rw [decide_eq_false_iff_not]; omega
            have q3 : decide (256 < M.l.length) = false := by rw [decide_eq_false_iff_not]; omega
            clear bc hcons z1 z2 z3 z4 z5 z6 z7 z8
            go_wp2_with fail
            go_quiet ((go_at_call 17; exact Calls.quiet_of_same (HLen.out _ (SCN.out _))))
            clear i1 i2 i3 q1 q2 q3
            go_wp2
            go_roundw
            case rel => exact ⟨j + 1, _, _, by go_num, by omega, (SC.out.drewN _).up (by omega)⟩
            case measure => simp [intOf]; omega)
        · have te : (er == 0) = false := by rw [beq_eq_false_iff_ne]; exact he
          have S := Kp.mk (show TkS w g B w3 v3 M (cnt M.l) (700 * j + 1) from by rw [hl]; exact S3.out)
          clear S3 X3 R3 y0 y1 y2 y3 y4 y5 hl te
          have hsm := S.out.sm
          go_wp2_with fail
          refine (Count_any g _ _ _ S.out.net).mono ?_
          rintro e wc ⟨rfl, bc⟩
          have SC := Kp.mk ((S.out.stay bc).stay (W' := wc.alloc (.cells #[.int .i64 M.sent, .int .i64 M.doubled, .int .i64 M.taken, .int .i64 M.lost] 51)) ((Below.refl _ _).alloc (Nat.le_refl _) _))
          have HLen := Kp.mk (fun wx (hx : NetAt wx g v3 M) => (Len_any g v3 M wx hx).mono fun e w' (hw : _ ∧ wx = w') => And.intro hw.1 hw.2.symm)
          have SCN := Kp.mk (fun k => (SC.out.drewN k).net)
          have hcons := S.out.fine.cons
          have hp := pool _ _ hsm
          obtain ⟨⟨z1, z2⟩, ⟨z3, z4⟩, ⟨z5, z6⟩, ⟨z7, z8⟩, _, _⟩ := hsm
          have i1 : IntKind.i64.wrap (M.sent + M.doubled) = M.sent + M.doubled := by rw [IntKind.wrap_i64]; omega
          have i2 : IntKind.i64.wrap (M.taken + M.lost) = M.taken + M.lost := by rw [IntKind.wrap_i64]; omega
          have i3 : IntKind.i64.wrap (M.taken + M.lost + (M.l.length : Int)) = M.taken + M.lost + (M.l.length : Int) := by rw [IntKind.wrap_i64]; omega
          have q1 : (M.sent + M.doubled != M.taken + M.lost + (M.l.length : Int)) = false := by rw [bne_eq_false_iff_eq]; omega
          have q2 : decide ((256 : Int) < (M.l.length : Int)) = false := by rw [decide_eq_false_iff_not]; omega
          have q3 : decide (256 < M.l.length) = false := by rw [decide_eq_false_iff_not]; omega
          clear bc hcons z1 z2 z3 z4 z5 z6 z7 z8
          go_wp2_with fail
          go_quiet ((go_at_call 17; exact Calls.quiet_of_same (HLen.out _ (SCN.out _))))
          clear i1 i2 i3 q1 q2 q3
          go_wp2
          go_roundw
          case rel => exact ⟨j + 1, _, _, by go_num, by omega, (SC.out.drewN _).up (by omega)⟩
          case measure => simp [intOf]; omega
      · have zz0 : ((qw : Int) == 0) = false := by rw [beq_eq_false_iff_ne]; omega
        have zz1 : ((qw : Int) == 1) = false := by rw [beq_eq_false_iff_ne]; omega
        have zz2 : ((qw : Int) == 2) = false := by rw [beq_eq_false_iff_ne]; omega
        go_wp2_with fail
        refine (Mails_any g v N _ HS.out.net (by have := pool _ _ HS.out.sm; omega)).mono ?_
        rintro e w2' ⟨was, rfl, r2, b2', f2⟩
        have S2 := Kp.mk (HS.out.stay b2')
        rw [hb0] at HX
        have X2 := Kp.mk (HX.out.stay b2')
        have A2 := Kp.mk (Ap.new HS.out f2)
        have R2 := Kp.mk r2
        obtain ⟨aw, cw, rfl, _, _⟩ := r2.len
        obtain ⟨y0, y1, y2, y3, y4, y5⟩ := cells6 X2.out.at_
        clear b2' f2 r2 c0 c1 c2 c3 c4 c5 HX
        have hg := HS.out.fine.twice qi
        have hs' := Sm_twice HS.out.sm qi
        have HC := Kp.mk (Twice_any g v N qi _ S2.out.net (S2.out.sm.mono (by omega)))
        generalize twiceV N qi = r at hg hs' HC
        obtain ⟨⟨id, er⟩, M⟩ := r
        simp only [] at hg hs' HC
        go_wp2_with fail
        refine HC.out.mono ?_
        rintro e w3 ⟨rfl, v3, n3, u3⟩
        have S3 := Kp.mk (S2.out.net' n3 u3 hs' hg.1)
        have X3 := Kp.mk (X2.out.upd u3)
        obtain ⟨r3, a3⟩ := A2.out.upd R2.out u3
        have R3 := Kp.mk r3
        obtain ⟨y0, y1, y2, y3, y4, y5⟩ := cells6 X3.out.at_
        have HFN := Kp.mk HS.out.fine
        have HFM := Kp.mk hg.1
        have hgl := hg.2
        clear n3 u3 hs' hg HC HS r3 a3 R2 A2 S2 X2
        rcases hgl with ⟨rfl, k, hk, mm, rfl, e1, e2, e3, hl⟩ | ⟨he, hl⟩
        · obtain ⟨mt, hmt⟩ : ∃ mt, mt = N.l[k] := ⟨_, rfl⟩
          have hkey := letK_of (HFN.out.wl mt (by rw [hmt]; exact List.getElem_mem hk))
          have hlk : letK mm = letK mt := letK_same (by rw [e1, hmt]) (by rw [e2, hmt]) (by rw [e3, hmt])
          have hcm : ∀ k', cnt M.l k' = cnt N.l k' + cnt [mm] k' := fun k' => by rw [hl, cnt_append]
          have hone : cnt M.l (letK mt) = cnt N.l (letK mt) + 1 := by rw [hcm, ← hlk, cnt_self]
          have hsz := cnt_le M.l (letK mt)
          obtain ⟨x, hx⟩ : ∃ x, cnt N.l (letK mt) = x := ⟨_, rfl⟩
          rw [hx] at hone
          rw [hone] at hsz
          have hp2 := pool _ _ S3.out.sm
          have HOf := Kp.mk (fun W => of_any mt W)
          obtain ⟨q0, q1, q2, q3⟩ := rows_get N.l k hk
          obtain ⟨gm, cm', hvm, _, _, _, _⟩ := R3.out.at_ (by omega)
          simp only [Value.slice.injEq] at hvm
          obtain ⟨rfl, _, rfl⟩ := hvm
          have x0 := R3.out.cell _ _ q0
          have x1 := R3.out.cell _ _ q1
          have x2 := R3.out.cell _ _ q2
          have x3 := R3.out.cell _ _ q3
          rw [← hmt] at x0 x1 x2 x3
          have x0' : w3.cell? (⟨gm, k * 4, none⟩ : Addr) = some (.int .i64 mt.id) := x0
          unfold MailV.v at HOf
          have HStep : Kp (∀ W, TkS w g B W v3 M (cnt N.l) (700 * j + 1) → ∃ (st v0 : Value) (W1 W2 : World), (Instr.lookup 49 (.map (some B)) (.agg #[.int .i64 mt.frm, .int .i64 mt.to, .string mt.data]) false).run Try.prog W = .ok (.int .i64 (x : Int)) W ∧ (Instr.mapEntry 49 (.map (some B)) (.agg #[.int .i64 mt.frm, .int .i64 mt.to, .string mt.data])).run Try.prog W = .ok (.tuple #[v0, st]) W1 ∧ (Instr.lookup 49 (.map (some B)) (.agg #[.int .i64 mt.frm, .int .i64 mt.to, .string mt.data]) false).run Try.prog W1 = .ok (.int .i64 (x : Int)) W1 ∧ (Instr.entryStore 49 (.map (some B)) st (.int .i64 ((x : Int) + 1))).run Try.prog W1 = .ok () W2 ∧ TkS w g B W2 v3 M (cnt M.l) (700 * j + 2)) := ⟨fun W hW => by
            obtain ⟨st, v0, W1, W2, f1, f2, f3, f4, S5, _⟩ := hW.step (by omega) hkey (c' := cnt M.l) (fun k' hk' => by rw [hcm k', cnt_other (by rw [hlk]; exact hk')]; rfl) (by omega)
            rw [hx] at f1 f3
            rw [hone, show ((x + 1 : Nat) : Int) = (x : Int) + 1 from by omega] at f4
            exact ⟨st, v0, W1, W2, f1, f2, f3, f4, S5⟩⟩
          have j0 : (0 : Int) ≤ (k : Int) := by omega
          have j1 : (k : Int) < (N.l.length : Int) := by omega
          have hw1 : IntKind.i64.wrap ((x : Int) + 1) = (x : Int) + 1 := by rw [IntKind.wrap_i64]; omega
          clear hkey hcm hone hx hlk hl hmt q0 q1 q2 q3 X3 R3
          go_wp2
          go_region_with (go_at_call 15; go_loud (refine (HOf.out _).mono ?_; rintro e w5 ⟨rfl, b5⟩; obtain ⟨st, v0, W1, W2, f1, f2, f3, f4, S5⟩ := HStep.out w5 (S3.out.drew.stay b5)))
          all_goals (
            have S := Kp.mk S5
            clear S5 b5 f1 f2 f3 f4 x0 x0' x1 x2 x3 y0 y1 y2 y3 y4 y5
            have hsm := S.out.sm
            go_wp2_with fail
            refine (Count_any g _ _ _ S.out.net).mono ?_
            rintro e wc ⟨rfl, bc⟩
            have SC := Kp.mk ((S.out.stay bc).stay (W' := wc.alloc (.cells #[.int .i64 M.sent, .int .i64 M.doubled, .int .i64 M.taken, .int .i64 M.lost] 51)) ((Below.refl _ _).alloc (Nat.le_refl _) _))
            have HLen := Kp.mk (fun wx (hx : NetAt wx g v3 M) => (Len_any g v3 M wx hx).mono fun e w' (hw : _ ∧ wx = w') => And.intro hw.1 hw.2.symm)
            have SCN := Kp.mk (fun k => (SC.out.drewN k).net)
            have hcons := S.out.fine.cons
            have hp := pool _ _ hsm
            obtain ⟨⟨z1, z2⟩, ⟨z3, z4⟩, ⟨z5, z6⟩, ⟨z7, z8⟩, _, _⟩ := hsm
            have i1 : IntKind.i64.wrap (M.sent + M.doubled) = M.sent + M.doubled := by rw [IntKind.wrap_i64]; omega
            have i2 : IntKind.i64.wrap (M.taken + M.lost) = M.taken + M.lost := by rw [IntKind.wrap_i64]; omega
            have i3 : IntKind.i64.wrap (M.taken + M.lost + (M.l.length : Int)) = M.taken + M.lost + (M.l.length : Int) := by rw [IntKind.wrap_i64]; omega
            have q1 : (M.sent + M.doubled != M.taken + M.lost + (M.l.length : Int)) = false := by rw [bne_eq_false_iff_eq]; omega
            have q2 : decide ((256 : Int) < (M.l.length : Int)) = false := by rw [decide_eq_false_iff_not]; omega
            have q3 : decide (256 < M.l.length) = false := by rw [decide_eq_false_iff_not]; omega
            clear bc hcons z1 z2 z3 z4 z5 z6 z7 z8
            go_wp2_with fail
            go_quiet ((go_at_call 17; exact Calls.quiet_of_same (HLen.out _ (SCN.out _))))
            clear i1 i2 i3 q1 q2 q3
            go_wp2
            go_roundw
            case rel => exact ⟨j + 1, _, _, by go_num, by omega, (SC.out.drewN _).up (by omega)⟩
            case measure => simp [intOf]; omega)
        · have te : (er == 0) = false := by rw [beq_eq_false_iff_ne]; exact he
          have S := Kp.mk (show TkS w g B w3 v3 M (cnt M.l) (700 * j + 1) from by rw [hl]; exact S3.out)
          clear S3 X3 R3 y0 y1 y2 y3 y4 y5 hl te
          have hsm := S.out.sm
          go_wp2_with fail
          refine (Count_any g _ _ _ S.out.net).mono ?_
          rintro e wc ⟨rfl, bc⟩
          have SC := Kp.mk ((S.out.stay bc).stay (W' := wc.alloc (.cells #[.int .i64 M.sent, .int .i64 M.doubled, .int .i64 M.taken, .int .i64 M.lost] 51)) ((Below.refl _ _).alloc (Nat.le_refl _) _))
          have HLen := Kp.mk (fun wx (hx : NetAt wx g v3 M) => (Len_any g v3 M wx hx).mono fun e w' (hw : _ ∧ wx = w') => And.intro hw.1 hw.2.symm)
          have SCN := Kp.mk (fun k => (SC.out.drewN k).net)
          have hcons := S.out.fine.cons
          have hp := pool _ _ hsm
          obtain ⟨⟨z1, z2⟩, ⟨z3, z4⟩, ⟨z5, z6⟩, ⟨z7, z8⟩, _, _⟩ := hsm
          have i1 : IntKind.i64.wrap (M.sent + M.doubled) = M.sent + M.doubled := by rw [IntKind.wrap_i64]; omega
          have i2 : IntKind.i64.wrap (M.taken + M.lost) = M.taken + M.lost := by rw [IntKind.wrap_i64]; omega
          have i3 : IntKind.i64.wrap (M.taken + M.lost + (M.l.length : Int)) = M.taken + M.lost + (M.l.length : Int) := by rw [IntKind.wrap_i64]; omega
          have q1 : (M.sent + M.doubled != M.taken + M.lost + (M.l.length : Int)) = false := by rw [bne_eq_false_iff_eq]; omega
          have q2 : decide ((256 : Int) < (M.l.length : Int)) = false := by rw [decide_eq_false_iff_not]; omega
          have q3 : decide (256 < M.l.length) = false := by rw [decide_eq_false_iff_not]; omega
          clear bc hcons z1 z2 z3 z4 z5 z6 z7 z8
          go_wp2_with fail
          go_quiet ((go_at_call 17; exact Calls.quiet_of_same (HLen.out _ (SCN.out _))))
          clear i1 i2 i3 q1 q2 q3
          go_wp2
          go_roundw
          case rel => exact ⟨j + 1, _, _, by go_num, by omega, (SC.out.drewN _).up (by omega)⟩
          case measure => simp [intOf]; omega
    · obtain rfl : j = len := by omega
      have HS := Kp.mk hS
      have hp := pool _ _ hS.sm
      clear hS H0
      go_wp2_with fail
      refine (Mails_any g v N _ HS.out.net (by omega)).mono ?_
      rintro e w3 ⟨und, rfl, r3, b3, f3⟩
      have S3 := Kp.mk (HS.out.stay b3)
      have A3 := Kp.mk (Ap.new HS.out f3)
      have R3 := Kp.mk r3
      obtain ⟨au, cu, rfl, _, _⟩ := r3.len
      clear b3 f3 r3
      go_wp2
      go_loopw [21] (fun k wr => ∃ p : Nat, k = .int .i64 p ∧ p ≤ N.l.length ∧ TkS w g B wr v N (cnt (N.l.drop p)) (700 * j + p) ∧ RK 4 wr (.slice au N.l.length cu) N.l.length (rows N.l)) (fun k _ => N.l.length - (intOf k).toNat)
      case atStart => exact ⟨0, rfl, by omega, by rw [List.drop_zero]; exact S3.out, R3.out⟩
      case round =>
        obtain ⟨p, rfl, hpl, s4, r4⟩ := hrel
        have S4 := Kp.mk s4
        have R4 := Kp.mk r4
        clear s4 r4 S3 R3 HS
        by_cases hpp : p < N.l.length
        · obtain ⟨mt, hmt⟩ : ∃ mt, mt = N.l[p] := ⟨_, rfl⟩
          have hkey := letK_of (S4.out.fine.wl mt (by rw [hmt]; exact List.getElem_mem hpp))
          have hdr : N.l.drop p = mt :: N.l.drop (p + 1) := by rw [hmt]; exact (List.getElem_cons_drop (h := hpp)).symm
          have hcc := fun k' => cnt_cons mt (N.l.drop (p + 1)) k'
          have hone : cnt (N.l.drop p) (letK mt) = cnt (N.l.drop (p + 1)) (letK mt) + 1 := by rw [hdr, hcc, cnt_self]; omega
          have hsz := cnt_le (N.l.drop (p + 1)) (letK mt)
          have hsz2 : (N.l.drop (p + 1)).length ≤ N.l.length := by rw [List.length_drop]; omega
          obtain ⟨x, hx⟩ : ∃ x, cnt (N.l.drop (p + 1)) (letK mt) = x := ⟨_, rfl⟩
          rw [hx] at hone hsz
          have HOf := Kp.mk (fun W => of_any mt W)
          unfold MailV.v at HOf
          obtain ⟨q0, q1, q2, q3⟩ := rows_get N.l p hpp
          obtain ⟨gm, cm', hvm, _, _, _, _⟩ := R4.out.at_ (by omega)
          simp only [Value.slice.injEq] at hvm
          obtain ⟨rfl, _, rfl⟩ := hvm
          have x0 := R4.out.cell _ _ q0
          have x1 := R4.out.cell _ _ q1
          have x2 := R4.out.cell _ _ q2
          have x3 := R4.out.cell _ _ q3
          rw [← hmt] at x0 x1 x2 x3
          have x0' : wr.cell? (⟨gm, p * 4, none⟩ : Addr) = some (.int .i64 mt.id) := x0
          have HStep : Kp (∀ W, Below wr.drew.heap.size wr.drew W → ∃ (st v0 : Value) (W1 W2 : World), (Instr.lookup 49 (.map (some B)) (.agg #[.int .i64 mt.frm, .int .i64 mt.to, .string mt.data]) false).run Try.prog W = .ok (.int .i64 ((x : Int) + 1)) W ∧ (Instr.mapEntry 49 (.map (some B)) (.agg #[.int .i64 mt.frm, .int .i64 mt.to, .string mt.data])).run Try.prog W = .ok (.tuple #[v0, st]) W1 ∧ (Instr.lookup 49 (.map (some B)) (.agg #[.int .i64 mt.frm, .int .i64 mt.to, .string mt.data]) false).run Try.prog W1 = .ok (.int .i64 ((x : Int) + 1)) W1 ∧ (Instr.entryStore 49 (.map (some B)) st (.int .i64 (x : Int))).run Try.prog W1 = .ok () W2 ∧ TkS w g B W2 v N (cnt (N.l.drop (p + 1))) (700 * j + (p + 1)) ∧ RK 4 W2 (.slice (some ⟨gm, 0, none⟩) N.l.length cu) N.l.length (rows N.l)) := ⟨fun W hW => by
            obtain ⟨st, v0, W1, W2, f1, f2, f3, f4, S5, G5⟩ := (S4.out.drew.stay hW).step (by omega) hkey (c' := cnt (N.l.drop (p + 1))) (fun k' hk' => by rw [hdr, hcc, cnt_other hk']; omega) (by omega)
            rw [hone, show ((x + 1 : Nat) : Int) = (x : Int) + 1 from by omega] at f1 f3
            rw [hx] at f4
            exact ⟨st, v0, W1, W2, f1, f2, f3, f4, S5, A3.out.map (R4.out.drew.below hW) G5⟩⟩
          have j0 : (0 : Int) ≤ (p : Int) := by omega
          have j1 : (p : Int) < (N.l.length : Int) := by omega
          have hw1 : IntKind.i64.wrap ((x : Int) + 1 - 1) = (x : Int) := by rw [IntKind.wrap_i64]; omega
          have hw3 : IntKind.i64.wrap (x : Int) = (x : Int) := by rw [IntKind.wrap_i64]; omega
          clear hkey hcc hone hx hdr hmt q0 q1 q2 q3
          go_wp2
          go_region_with (go_at_call 15; go_loud (refine (HOf.out _).mono ?_; rintro e w5 ⟨rfl, b5⟩; obtain ⟨st, v0, W1, W2, f1, f2, f3, f4, S5, R5⟩ := HStep.out w5 b5))
          all_goals (
            have S := Kp.mk S5
            have R := Kp.mk R5
            clear S5 R5 b5 f1 f2 f3 f4 x0 x0' x1 x2 x3
            go_wp2
            go_roundw
            case rel => exact ⟨p + 1, by go_num, by omega, S.out, R.out⟩
            case measure => simp [intOf]; omega)
        · obtain rfl : p = N.l.length := by omega
          have S5 := S4.out
          rw [List.drop_length] at S5
          obtain ⟨nn, D, hown, hnn, hbal⟩ := S5.own
          have HBal := Kp.mk hbal
          have HBel := Kp.mk S5.below
          have HNB := Kp.mk S5.newB
          have hB' := Kp.mk hown.lt
          clear S5 hbal S4 R4 A3
          go_wp2_with (first | (at_range; refine wpList_range_own _ rfl _ _ rfl _ _ keyedLet Try.underlying49 _ B nn D rfl hown ?_; intro w4 hrg hg4 hs4))
          obtain ⟨r, hr⟩ : ∃ r, wr.heap.size = r := ⟨_, rfl⟩
          rw [hr] at hrg ⊢
          have hb4 := HBel.out.grown hg4 HBel.out.size (fun k e => by cases e)
          have HRG := Kp.mk hrg
          have HB4 := Kp.mk hb4
          have hrw : w.heap.size ≤ r := by rw [← hr]; exact HBel.out.size
          clear hg4 hs4 hb4 hown hr
          go_frame
          go_loopw [23] (fun _ wr => ∃ left cn, wr.ranges Try.prog 40 (plainElem Try.prog 3) B r nn D left cn ∧ Below w.heap.size w wr) (fun _ wr => wr.rangeLeft B r)
          case atStart => exact ⟨_, _, HRG.out, HB4.out⟩
          case round =>
            obtain ⟨left, cn, hrg2, hb2⟩ := hrel
            clear HRG HB4
            go_wp2_with (first | (at_next; refine wpList_next_ranges _ rfl _ rfl _ keyedLet _ (fun x : Int × Int × ByteArray => letV x.1 x.2.1 x.2.2) (fun c : Int => Value.int .i64 c) keyLet_inv elem_inv B r nn D left cn rfl hrg2 ?_ ?_))
            · intro _ hl0
              go_wp2
              go_ret
              exact ⟨rfl, hb2⟩
            · intro ka kb kd c kl ya yb w5 cnt1 hk hlk hv hat hrg1 hlt hg1 hs1 hen
              have hc0 : c = 0 := by
                obtain ⟨c', hc', hy, _⟩ := plainElem_int_inv Try.underlying3 hv
                have e1 := HBal.out kl
                rw [hat] at e1
                simp only [cnt_nil, Prod.mk.injEq] at e1 hy
                rw [hy.1] at e1
                simp at hc' e1
                omega
              subst hc0
              have hb3 := Kp.mk (hb2.grown hg1 hb2.size (fun k e => by have := Option.some.inj e; omega))
              have HR1 := Kp.mk hrg1
              have HR2 := Kp.mk hrg2
              have HLt := Kp.mk hlt
              clear hk hlk hv hat hrg1 hlt hg1 hs1 hrg2 hb2
              go_wp2
              go_roundw
              case rel => exact ⟨_, cnt1, HR1.out, hb3.out⟩
              case measure => rw [HR1.out.left_eq, HR2.out.left_eq]; exact HLt.out
end Go.Proofs.Ytdhpnhdokkhnlaa
