/- The walk of NetNames: it returns true, and leaves what was there. -/
import Derived.Test.YtdhpnhdokkhnlaaNetNil
import Derived.Test.YtdhpnhdokkhnlaaBig
namespace Go.Proofs.Ytdhpnhdokkhnlaa
open Go.RowKit
set_option linter.unusedVariables false

/-- The net behind i doublings of the first message. -/
def Dbl (N : NetV) (i : Nat) : Prop := N.sent = 1 ∧ N.doubled + 1 = i ∧ N.taken = 0 ∧ N.lost = 0 ∧ N.nodes = 5 ∧ N.last = i ∧ N.l.length = i
theorem Dbl.sm {N : NetV} {i : Nat} (h : Dbl N i) (h1 : 1 ≤ i) (h2 : i ≤ 256) : Sm N 1000000000000 := by
  obtain ⟨a, b, c, d, e, f, g⟩ := h
  unfold Sm
  omega
theorem Dbl.next {N : NetV} {i : Nat} (h : Dbl N i) (h1 : 1 ≤ i) (h2 : i < 256) : ∃ N', twiceV N ((i : Int) - 1) = ((N.last + 1, 0), N') ∧ Dbl N' (i + 1) := by
  obtain ⟨a, b, c, d, e, f, g⟩ := h
  have hV : twiceV N ((i : Int) - 1) = ((N.last + 1, 0), { N with doubled := N.doubled + 1, last := N.last + 1, l := N.l ++ [⟨N.last + 1, (N.l.getD ((i : Int) - 1).toNat zeroMail).frm, (N.l.getD ((i : Int) - 1).toNat zeroMail).to, (N.l.getD ((i : Int) - 1).toNat zeroMail).data⟩] }) := by
    unfold twiceV; rw [if_neg (by omega), if_neg (by omega)]
  refine ⟨_, hV, a, ?_, c, d, e, ?_, ?_⟩
  · show N.doubled + 1 + 1 = _; omega
  · show N.last + 1 = _; omega
  · show (N.l ++ [_]).length = _
    rw [List.length_append, List.length_singleton]; omega
set_option maxRecDepth 100000 in
set_option maxHeartbeats 4000000 in
theorem walkNetNames (w : World) :
    Calls Try.prog 7 #[] w fun e w' => e = .returned (.bool true) ∧ Below w.heap.size w w' := by
  obtain ⟨O, T, hT, hmk, hcv⟩ := big_lit 262145 262145 rfl (by decide)
  have HT := Kp.mk hT
  have hT1 : 1 ≤ T.size := by omega
  have HV5 : Kp (sendV ⟨0, 0, 0, 0, 5, 0, []⟩ 0 0 T = ((0, 1), ⟨0, 0, 0, 0, 5, 0, []⟩)) := ⟨rfl⟩
  have HV6 : Kp (sendV ⟨0, 0, 0, 0, 5, 0, []⟩ (-1) 0 ⟨#[]⟩ = ((0, 1), ⟨0, 0, 0, 0, 5, 0, []⟩)) := ⟨rfl⟩
  have HV7 : Kp (sendV ⟨0, 0, 0, 0, 5, 0, []⟩ 0 5 ⟨#[]⟩ = ((0, 1), ⟨0, 0, 0, 0, 5, 0, []⟩)) := ⟨rfl⟩
  have HV8 : Kp (sendV ⟨0, 0, 0, 0, 5, 0, []⟩ 0 1 T = ((0, 40), ⟨0, 0, 0, 0, 5, 0, []⟩)) := ⟨by unfold sendV; rw [if_neg (by simp), if_pos (by omega)]⟩
  have HV9 : Kp (∀ U : ByteArray, U.size = 262144 → sendV ⟨0, 0, 0, 0, 5, 0, []⟩ 0 4 U = ((1, 0), ⟨1, 0, 0, 0, 5, 1, [⟨1, 0, 4, U⟩]⟩)) := ⟨fun U hU => by unfold sendV; rw [if_neg (by simp), if_neg (by omega), if_neg (by simp)]; rfl⟩
  clear hT
  go_enter Try.func7, Try.ntmps7
  go_wp2_with fail
  refine (awake_any _).mono ?_
  rintro e w1 ⟨rfl, b1⟩
  have B1 : Kp (Below w.heap.size w w1) := ⟨⟨b1.os, b1.tape, b1.output, b1.size, b1.block⟩⟩
  clear b1
  go_wp2_with fail
  refine (New_no 1 _ (by decide)).mono ?_
  rintro e w' ⟨rfl, rfl⟩
  go_wp2_with fail
  refine (New_no 6 _ (by decide)).mono ?_
  rintro e w' ⟨rfl, rfl⟩
  go_wp2_with fail
  refine (New_ok 5 _ (by decide) (by decide)).mono ?_
  rintro e w2 ⟨rfl, n2, b2⟩
  have B2 := Kp.mk (B1.out.trans (b2.mono B1.out.size))
  have hg : w.heap.size ≤ w1.heap.size := B1.out.size
  generalize w1.heap.size = g at n2 b2 hg ⊢
  have G := Kp.mk hg
  have N2 := Kp.mk n2
  have BB := Kp.mk (And.intro B2.out (fun k (hk : blk (.slice none 0 0) = some k) => show w.heap.size ≤ k by simp [blk] at hk))
  clear n2 b2 B1 hg B2
  go_wp2_with fail
  have N3 := Kp.mk (N2.out.alloc O)
  have B3 := Kp.mk (And.intro (BB.out.1.alloc BB.out.1.size O) BB.out.2)
  have HTm : Kp (T.size ≤ maxLen) := ⟨by rw [HT.out]; decide⟩
  clear N2 BB hmk hcv
  refine (Send_at g _ _ _ _ _ _ _ _ _ N3.out ((Sm_new 5).mono (by decide)) HTm.out HV5.out).mono ?_
  rintro e w4 ⟨rfl, v4, n4, u4⟩
  have B4 := Kp.mk (Upd.below B3.out.1 u4 B3.out.1.size G.out B3.out.2)
  have N4 := Kp.mk n4
  clear n4 u4 N3 B3
  go_wp2_with fail
  refine (Send_at g _ _ _ _ _ _ _ _ _ N4.out ((Sm_new 5).mono (by decide)) (by decide) HV6.out).mono ?_
  rintro e w5 ⟨rfl, v5, n5, u5⟩
  have B5 := Kp.mk (Upd.below B4.out.1 u5 B4.out.1.size G.out B4.out.2)
  have N5 := Kp.mk n5
  clear n5 u5 N4 B4
  go_wp2_with fail
  refine (Send_at g _ _ _ _ _ _ _ _ _ N5.out ((Sm_new 5).mono (by decide)) (by decide) HV7.out).mono ?_
  rintro e w6 ⟨rfl, v6, n6, u6⟩
  have B6 := Kp.mk (Upd.below B5.out.1 u6 B5.out.1.size G.out B5.out.2)
  have N6 := Kp.mk n6
  clear n6 u6 N5 B5
  go_wp2_with fail
  refine (Send_at g _ _ _ _ _ _ _ _ _ N6.out ((Sm_new 5).mono (by decide)) (HTm.out) HV8.out).mono ?_
  rintro e w7 ⟨rfl, v7, n7, u7⟩
  have B7 := Kp.mk (Upd.below B6.out.1 u7 B6.out.1.size G.out B6.out.2)
  have N7 := Kp.mk n7
  clear n7 u7 N6 B6
  have hU : (T.extract 1 T.size).size = 262144 := by have := HT.out; simp only [ByteArray.size_extract]; omega
  have HU := Kp.mk (HV9.out _ hU)
  have HUm : Kp ((T.extract 1 T.size).size ≤ maxLen) := ⟨by rw [hU]; decide⟩
  clear hU HV9
  go_wp2_with fail
  refine (Send_at g _ _ _ _ _ _ _ _ _ N7.out ((Sm_new 5).mono (by decide)) HUm.out HU.out).mono ?_
  rintro e w8 ⟨rfl, v8, n8, u8⟩
  have B8 := Kp.mk (Upd.below B7.out.1 u8 B7.out.1.size G.out B7.out.2)
  have N8 := Kp.mk n8
  clear n8 u8 N7 B7 HU HUm
  generalize T.extract 1 T.size = U at N8 ⊢
  go_wp2_with fail
  refine (Count_any g _ _ _ N8.out).mono ?_
  rintro e w9 ⟨rfl, b9⟩
  have N9 := Kp.mk (N8.out.below b9)
  have B9 := Kp.mk (And.intro (B8.out.1.trans (b9.mono B8.out.1.size)) B8.out.2)
  have D9 : Kp (Dbl ⟨1, 0, 0, 0, 5, 1, [⟨1, 0, 4, U⟩]⟩ 1) := ⟨⟨rfl, rfl, rfl, rfl, rfl, rfl, rfl⟩⟩
  clear b9 N8 B8
  go_wp2
  go_loopw [18] (fun k wr => ∃ (j : Nat) (v : Value) (N : NetV), k = .int .i64 j ∧ 1 ≤ j ∧ j ≤ 256 ∧ NetAt wr g v N ∧ Dbl N j ∧ (Below w.heap.size w wr ∧ ∀ k, blk v = some k → w.heap.size ≤ k)) (fun k _ => 256 - (intOf k).toNat)
  case atStart => exact ⟨1, _, _, rfl, by omega, by omega, N9.out, D9.out, B9.out⟩
  case round =>
    obtain ⟨j, v, N, rfl, hj1, hj2, hn, hd, hb⟩ := hrel
    have NA := Kp.mk hn
    have BA := Kp.mk hb
    by_cases hjl : j < 256
    · obtain ⟨M, hV, hM⟩ := hd.next hj1 hjl
      have HV := Kp.mk hV
      have HM := Kp.mk hM
      have HS := Kp.mk (hd.sm hj1 hj2)
      clear hn hd hb hV hM N9 B9 D9
      go_wp2_with fail
      refine (Twice_at g _ _ _ _ _ _ _ NA.out HS.out HV.out).mono ?_
      rintro e wa ⟨rfl, va, na, ua⟩
      have NB := Kp.mk na
      have BB := Kp.mk (Upd.below BA.out.1 ua BA.out.1.size G.out BA.out.2)
      clear na ua
      go_wp2
      go_roundw
      case rel => exact ⟨j + 1, va, M, by go_num, by omega, by omega, NB.out, HM.out, BB.out⟩
      case measure => simp [intOf]; omega
    · obtain rfl : j = 256 := by omega
      obtain ⟨d1, d2, d3, d4, d5, d6, d7⟩ := hd
      obtain ⟨s, d, tk, lo, no, la, l⟩ := N
      simp only [] at d1 d2 d3 d4 d5 d6 d7
      obtain rfl : d = 255 := by omega
      obtain rfl : la = 256 := by omega
      subst d1 d3 d4 d5
      have HV1 : Kp (twiceV ⟨1, 255, 0, 0, 5, 256, l⟩ 0 = ((0, 44), ⟨1, 255, 0, 0, 5, 256, l⟩)) := ⟨by unfold twiceV; simp only []; rw [if_neg (by omega), if_pos (by omega)]⟩
      have HV2 : Kp (twiceV ⟨1, 255, 0, 0, 5, 256, l⟩ 256 = ((0, 5), ⟨1, 255, 0, 0, 5, 256, l⟩)) := ⟨by unfold twiceV; simp only []; rw [if_pos (by omega)]⟩
      have HV3 : Kp (sendV ⟨1, 255, 0, 0, 5, 256, l⟩ 0 1 ⟨#[]⟩ = ((0, 44), ⟨2, 255, 0, 1, 5, 256, l⟩)) := ⟨by unfold sendV; simp only []; rw [if_neg (by omega), if_neg (by decide), if_pos (by omega)]; rfl⟩
      have HV4 : Kp (takeV ⟨2, 255, 0, 1, 5, 256, l⟩ 256 = ((zeroMail, 5), ⟨2, 255, 0, 1, 5, 256, l⟩)) := ⟨by unfold takeV; simp only []; rw [if_pos (by omega)]⟩
      have HV5' : Kp (loseV ⟨2, 255, 0, 1, 5, 256, l⟩ (-1) = (5, ⟨2, 255, 0, 1, 5, 256, l⟩)) := ⟨by unfold loseV; simp only []; rw [if_pos (by omega)]⟩
      have HS1 : Kp (Sm ⟨1, 255, 0, 0, 5, 256, l⟩ 1000000000000) := ⟨by unfold Sm; simp only []; omega⟩
      have HS2 : Kp (Sm ⟨2, 255, 0, 1, 5, 256, l⟩ 1000000000000) := ⟨by unfold Sm; simp only []; omega⟩
      have HLen : Kp (l.length = 256) := ⟨d7⟩
      clear hn hb d2 d6 d7 N9 B9 D9
      go_wp2_with fail
      refine (Twice_at g _ _ _ _ _ _ _ NA.out HS1.out HV1.out).mono ?_
      rintro e wa ⟨rfl, va, na, ua⟩
      have NB := Kp.mk na
      have BB := Kp.mk (Upd.below BA.out.1 ua BA.out.1.size G.out BA.out.2)
      clear na ua NA BA
      go_wp2_with fail
      refine (Twice_at g _ _ _ _ _ _ _ NB.out HS1.out HV2.out).mono ?_
      rintro e wb ⟨rfl, vb, na, ua⟩
      have NC := Kp.mk na
      have BC := Kp.mk (Upd.below BB.out.1 ua BB.out.1.size G.out BB.out.2)
      clear na ua NB BB
      go_wp2_with fail
      refine (Send_at g _ _ _ _ _ _ _ _ _ NC.out HS1.out (by decide) HV3.out).mono ?_
      rintro e wc ⟨rfl, vc, na, ua⟩
      have ND := Kp.mk na
      have BD := Kp.mk (Upd.below BC.out.1 ua BC.out.1.size G.out BC.out.2)
      clear na ua NC BC
      go_wp2_with fail
      refine (Take_at g _ _ _ _ _ _ _ ND.out HS2.out HV4.out).mono ?_
      rintro e wd ⟨rfl, vd, na, ua⟩
      have NE := Kp.mk (fun o => na.alloc o)
      have BE := Kp.mk (fun o => And.intro ((Upd.below BD.out.1 ua BD.out.1.size G.out BD.out.2).1.alloc (Upd.below BD.out.1 ua BD.out.1.size G.out BD.out.2).1.size o) (Upd.below BD.out.1 ua BD.out.1.size G.out BD.out.2).2)
      clear na ua ND BD
      unfold zeroMail MailV.v
      have HLo := Kp.mk (fun wx hx => Lose_any g vd ⟨2, 255, 0, 1, 5, 256, l⟩ (-1) wx hx HS2.out)
      rw [HV5'.out] at HLo
      go_wp2_with fail
      refine (HLo.out _ (NE.out _)).mono ?_
      rintro e wf ⟨rfl, vf, na, ua⟩
      have NF := Kp.mk na
      have BF := Kp.mk (Upd.below (BE.out _).1 ua (BE.out _).1.size G.out (BE.out O).2)
      clear na ua NE BE HLo
      have HLe := Kp.mk (Len_any g vf ⟨2, 255, 0, 1, 5, 256, l⟩ _ NF.out)
      simp only [HLen.out] at HLe
      go_wp2_with fail
      refine HLe.out.mono ?_
      rintro e w' ⟨rfl, rfl⟩
      go_wp2_with fail
      refine (Count_any g _ _ _ NF.out).mono ?_
      rintro e wg ⟨rfl, bg⟩
      have BG := Kp.mk (BF.out.1.trans (bg.mono BF.out.1.size))
      clear bg NF BF HLe
      go_wp2_with fail
      refine (Send_nil _ _ _ _).mono ?_
      rintro e wh ⟨rfl, bg⟩
      have BH := Kp.mk (BG.out.trans (bg.mono BG.out.size))
      clear bg BG
      go_wp2_with fail
      refine (Take_nil _ _).mono ?_
      rintro e wi ⟨rfl, bg⟩
      have BI := Kp.mk (BH.out.trans (bg.mono BH.out.size))
      clear bg BH
      unfold zeroMail MailV.v
      go_wp2_with fail
      refine (Twice_nil _ _).mono ?_
      rintro e w' ⟨rfl, rfl⟩
      go_wp2_with fail
      refine (Lose_nil _ _).mono ?_
      rintro e w' ⟨rfl, rfl⟩
      go_wp2_with fail
      refine (Mails_nil _).mono ?_
      rintro e w' ⟨rfl, rfl⟩
      go_wp2_with fail
      refine (Len_nil _).mono ?_
      rintro e w' ⟨rfl, rfl⟩
      go_wp2_with fail
      refine (Count_nil _).mono ?_
      rintro e wj ⟨rfl, bg⟩
      have BJ := Kp.mk ((BI.out.alloc BI.out.size (.cells #[.int .i64 0, .int .i64 0, .int .i64 0, .string ⟨#[]⟩] 38)).trans (bg.mono (BI.out.alloc BI.out.size _).size))
      clear bg BI
      go_wp2_with fail
      refine (Copy_nil _).mono ?_
      rintro e w' ⟨rfl, rfl⟩
      go_wp2
      go_ret
      exact ⟨by trivial, BJ.out⟩
end Go.Proofs.Ytdhpnhdokkhnlaa
