/- The walk of NetTwins: it returns true, and leaves what was there. -/
import Derived.Test.YtdhpnhdokkhnlaaNetLaw
namespace Go.Proofs.Ytdhpnhdokkhnlaa
open Go.RowKit
set_option linter.unusedVariables false

set_option maxRecDepth 100000 in
set_option maxHeartbeats 2000000 in
theorem twins_core (w : World) (ao : Option Addr) (len cap : Nat) (n i : Int) (f : Nat → ActV) (hlm : len ≤ 200) (hc : cost f len < 20000) (hf : ∀ i, i < len → ∃ a, ao = some a ∧ (f i).ok ∧ ActAt w (a.add (i * 6)) (f i)) (h1 : 2 ≤ n) (h2 : n ≤ 5) (hi1 : -9223372036854775808 ≤ i) (hi2 : i ≤ 9223372036854775807) :
    Calls Try.prog 3 #[.int .i64 n, .slice ao len cap, .int .i64 i] w fun e w' => e = .returned (.bool true) ∧ Below w.heap.size w w' := by
  have HL := Kp.mk (long_any w ao len cap f (by unfold maxLen; omega) hf)
  rw [show decide (20000 ≤ cost f len) = false from by rw [decide_eq_false_iff_not]; omega] at HL
  have t0 : decide ((200 : Int) < (len : Int)) = false := by rw [decide_eq_false_iff_not]; omega
  have HF := Kp.mk hf
  clear hf hc
  go_enter Try.func3, Try.ntmps3
  go_wp2_with fail
  refine HL.out.mono ?_
  rintro e w' ⟨rfl, md, rfl⟩
  go_wp2_with fail
  refine (awake_any _).mono ?_
  rintro e w1 ⟨rfl, hb1⟩
  have HB1 : Kp (Below w.heap.size w w1) := ⟨⟨hb1.os, hb1.tape, hb1.output, hb1.size, hb1.block⟩⟩
  clear hb1
  go_wp2_with fail
  refine (New_ok n _ h1 h2).mono ?_
  rintro e w2 ⟨rfl, n2, b2⟩
  have HB : Kp (Below w.heap.size w w2 ∧ ∀ k, blk (.slice none 0 0) = some k → w.heap.size ≤ k) := ⟨HB1.out.trans (b2.mono HB1.out.size), fun k hk => by simp [blk] at hk⟩
  have HG : Kp (w.heap.size ≤ w1.heap.size) := ⟨HB1.out.size⟩
  obtain ⟨g, hg⟩ : ∃ g, w1.heap.size = g := ⟨_, rfl⟩
  rw [hg] at n2 HG ⊢
  have H := Kp.mk n2
  clear n2 b2 hg HB1 HL
  go_wp2
  go_loopw [9] (fun k wr => ∃ (j : Nat) (v : Value), k = .int .i64 j ∧ j ≤ len ∧ NetAt wr g v (sends n f j) ∧ (Below w.heap.size w wr ∧ ∀ k, blk v = some k → w.heap.size ≤ k)) (fun k _ => len - (intOf k).toNat)
  case atStart => exact ⟨0, _, rfl, by omega, H.out, HB.out⟩
  case round =>
    obtain ⟨j, v, rfl, hj, hn, hbv⟩ := hrel
    have H := Kp.mk hn
    have HB := Kp.mk hbv
    clear hn hbv
    by_cases hjl : j < len
    · obtain ⟨a, rfl, hok, hat⟩ := HF.out j hjl
      have HAT := Kp.mk hat
      have hat := hat.below HB.out.1
      obtain ⟨_, c1, c2, _, c4, _⟩ := hat
      have hsm := (Sm_sends n f j).mono (show (j : Int) ≤ 1000000000000 by omega)
      have HS := Kp.mk (fun wx hx => Send_any g v (sends n f j) (f j).frm (f j).to (f j).s wx hx hsm hok.2.2.2.2.1)
      have HK : Kp (∀ wx wy vx, Below w.heap.size w wx ∧ (∀ k, blk v = some k → w.heap.size ≤ k) → Upd wx wy g v vx → (Below w.heap.size w wy ∧ ∀ k, blk vx = some k → w.heap.size ≤ k) ∧ ActAt wy (a.add (j * 6)) (f j)) := ⟨fun wx wy vx hx hu => by
        have hb := Upd.below hx.1 hu hx.1.size HG.out hx.2
        exact ⟨hb, HAT.out.below hb.1⟩⟩
      have HE : Kp (sends n f (j + 1) = (sendV (sends n f j) (f j).frm (f j).to (f j).s).2) := ⟨rfl⟩
      rw [← HE.out] at HS
      generalize sendV (sends n f j) (f j).frm (f j).to (f j).s = r at HS HE
      clear hsm hok
      generalize f j = q at c1 c2 c4 HS HAT HK
      obtain ⟨qw, qf, qt, qi, qs, qm⟩ := q
      have c1 : wr.cell? ⟨(a.add (j * 6)).block, (a.add (j * 6)).off + 1, none⟩ = some (.int .i64 qf) := c1
      have c2 : wr.cell? ⟨(a.add (j * 6)).block, (a.add (j * 6)).off + 2, none⟩ = some (.int .i64 qt) := c2
      have c4 : wr.cell? ⟨(a.add (j * 6)).block, (a.add (j * 6)).off + 4, none⟩ = some (.string qs) := c4
      have hi0 : (0 : Int) ≤ (j : Int) := by omega
      have hi1 : (j : Int) < (len : Int) := by omega
      go_wp2_with fail
      go_region_held3 (fun w' => w'.cell? ⟨(a.add (j * 6)).block, (a.add (j * 6)).off + 1, none⟩ = some (.int .i64 qf) ∧ w'.cell? ⟨(a.add (j * 6)).block, (a.add (j * 6)).off + 2, none⟩ = some (.int .i64 qt) ∧ w'.cell? ⟨(a.add (j * 6)).block, (a.add (j * 6)).off + 4, none⟩ = some (.string qs)) (go_keep)
        (first
          | (go_at_call 12; refine (HS.out _ H.out.drew).mono ?_; rintro e w3 ⟨rfl, v3, n3, u3⟩; have N3 := Kp.mk n3; have U3 := Kp.mk (HK.out _ _ _ ⟨HB.out.1.drew, HB.out.2⟩ u3); obtain ⟨_, _, e1, e2, _, e4, _⟩ := HK.out _ _ _ ⟨HB.out.1.drew, HB.out.2⟩ u3; have e1 : w3.cell? ⟨(a.add (j * 6)).block, (a.add (j * 6)).off + 1, none⟩ = some (.int .i64 qf) := e1; have e2 : w3.cell? ⟨(a.add (j * 6)).block, (a.add (j * 6)).off + 2, none⟩ = some (.int .i64 qt) := e2; have e4 : w3.cell? ⟨(a.add (j * 6)).block, (a.add (j * 6)).off + 4, none⟩ = some (.string qs) := e4; clear n3 u3))
      go_wp2
      go_roundw
      case rel => exact ⟨j + 1, v3, by go_num, by omega, N3.out, U3.out.1⟩
      case measure => simp [intOf]; omega
    · obtain rfl : j = len := by omega
      have hsm := (Sm_sends n f j).mono (show (j : Int) ≤ 999999999990 by omega)
      generalize sends n f j = N at H hsm
      clear HF hjl hlm
      go_wp2_with fail
      refine (Mails_any g v N _ H.out (by have := hsm.2.2.2.2.2; omega)).mono ?_
      rintro e w3 ⟨vw, rfl, r3, b3, f3⟩
      replace HB : Kp (Below w.heap.size w w3 ∧ ∀ k, blk v = some k → w.heap.size ≤ k) := ⟨HB.out.1.trans (b3.mono HB.out.1.size), HB.out.2⟩
      have SW := Kp.mk (Sep.fresh H.out f3)
      replace H := Kp.mk (H.out.below b3)
      have RW := Kp.mk r3
      clear r3 b3 f3
      rcases twice_cases N i with ⟨er, her, htw⟩ | ⟨k, hk, rfl, h256, htw⟩
      · have HT := Kp.mk (Twice_any g v N i _ H.out (hsm.mono (by omega)))
        rw [htw] at HT
        go_wp2_with fail
        refine HT.out.mono ?_
        rintro e w4 ⟨rfl, v4, n4, u4⟩
        replace HB := Kp.mk (Upd.below HB.out.1 u4 HB.out.1.size HG.out HB.out.2)
        have RW4 := Kp.mk (RW.out.upd u4 SW.out).1
        have H4 := Kp.mk n4
        clear n4 u4 HT htw
        go_wp2_with fail
        refine (Mails_any g v4 N _ H4.out (by have := hsm.2.2.2.2.2; omega)).mono ?_
        rintro e w5 ⟨vn, rfl, r5, b5, _⟩
        replace HB : Kp (Below w.heap.size w w5) := ⟨HB.out.1.trans (b5.mono HB.out.1.size)⟩
        obtain ⟨an, cn, hvn, _, hcn⟩ := r5.len
        obtain ⟨aw, cw, hvw, _, hcw⟩ := RW.out.len
        unfold maxLen at hcn hcw
        rw [hvn, hvw]
        have te : (er != 0) = true := by rw [bne_iff_ne]; omega
        clear r5 b5 hvn hvw RW RW4 SW
        generalize N.l.length = L at *
        go_wp2
        go_ret
        exact ⟨by trivial, HB.out⟩
      · have HT := Kp.mk (Twice_any g v N k _ H.out (hsm.mono (by omega)))
        rw [htw] at HT
        obtain ⟨tw1, tw2, tw3⟩ := twins N.l ⟨N.last + 1, N.l[k].frm, N.l[k].to, N.l[k].data⟩ k hk
        obtain ⟨r0, r1, r2, r3⟩ := rows_get N.l k hk
        have hsm2 := Sm_twice hsm k
        rw [htw] at hsm2
        obtain ⟨gw, cw, hvw, w1', w2', _, _⟩ := RW.out.at_ (by omega)
        subst hvw
        unfold maxLen at w2'
        go_wp2_with fail
        refine HT.out.mono ?_
        rintro e w4 ⟨rfl, v4, n4, u4⟩
        replace HB := Kp.mk (Upd.below HB.out.1 u4 HB.out.1.size HG.out HB.out.2)
        have RW4 := Kp.mk (RW.out.upd u4 SW.out)
        have H4 := Kp.mk n4
        clear n4 u4 HT htw RW SW H
        go_wp2_with fail
        refine (Mails_any g v4 _ _ H4.out (by show (N.l ++ _).length ≤ _; simp; omega)).mono ?_
        rintro e w5 ⟨vn, rfl, r5, b5, f5⟩
        replace HB : Kp (Below w.heap.size w w5 ∧ ∀ k, blk v4 = some k → w.heap.size ≤ k) := ⟨HB.out.1.trans (b5.mono HB.out.1.size), HB.out.2⟩
        replace H4 := Kp.mk (H4.out.below b5)
        replace RW4 := Kp.mk (And.intro (RW4.out.1.below b5) RW4.out.2)
        have hLn : (N.l ++ [(⟨N.last + 1, N.l[k].frm, N.l[k].to, N.l[k].data⟩ : MailV)]).length = N.l.length + 1 := by simp
        obtain ⟨s0, s1, s2, s3⟩ := rows_get (N.l ++ [(⟨N.last + 1, N.l[k].frm, N.l[k].to, N.l[k].data⟩ : MailV)]) N.l.length (by omega)
        rw [List.getElem_append_right (Nat.le_refl _)] at s0 s1 s2 s3
        simp only [Nat.sub_self, List.getElem_singleton] at s0 s1 s2 s3
        simp only [hLn] at r5
        obtain ⟨gn, cn, hvn, n1', n2', _, _⟩ := r5.at_ (by omega)
        subst hvn
        unfold maxLen at n2'
        have y0 := r5.cell _ _ s0
        have y1 := r5.cell _ _ s1
        have y2 := r5.cell _ _ s2
        have y3 := r5.cell _ _ s3
        have x0 := RW4.out.1.cell _ _ r0
        have x1 := RW4.out.1.cell _ _ r1
        have x2 := RW4.out.1.cell _ _ r2
        have x3 := RW4.out.1.cell _ _ r3
        have HT1 : Kp (takeV (⟨N.sent, N.doubled + 1, N.taken, N.lost, N.nodes, N.last + 1, N.l ++ [(⟨N.last + 1, N.l[k].frm, N.l[k].to, N.l[k].data⟩ : MailV)]⟩ : NetV) k = ((N.l[k], 0), ⟨N.sent, N.doubled + 1, N.taken + 1, N.lost, N.nodes, N.last + 1, outL (N.l ++ [(⟨N.last + 1, N.l[k].frm, N.l[k].to, N.l[k].data⟩ : MailV)]) k⟩)) := ⟨by
          rw [take_ok _ k (by show k < (N.l ++ _).length; omega)]
          simp only [tw3]⟩
        have HT2 : Kp (takeV (⟨N.sent, N.doubled + 1, N.taken + 1, N.lost, N.nodes, N.last + 1, outL (N.l ++ [(⟨N.last + 1, N.l[k].frm, N.l[k].to, N.l[k].data⟩ : MailV)]) k⟩ : NetV) ((N.l.length : Int) - 1) = ((⟨N.last + 1, N.l[k].frm, N.l[k].to, N.l[k].data⟩, 0), ⟨N.sent, N.doubled + 1, N.taken + 1 + 1, N.lost, N.nodes, N.last + 1, outL (outL (N.l ++ [(⟨N.last + 1, N.l[k].frm, N.l[k].to, N.l[k].data⟩ : MailV)]) k) (N.l.length - 1)⟩)) := ⟨by
          rw [show (N.l.length : Int) - 1 = ((N.l.length - 1 : Nat) : Int) from by omega, take_ok _ _ (by show _ < (outL _ _).length; rw [tw1]; omega)]
          simp only [tw2]⟩
        have HLen : Kp ((outL (outL (N.l ++ [(⟨N.last + 1, N.l[k].frm, N.l[k].to, N.l[k].data⟩ : MailV)]) k) (N.l.length - 1)).length = N.l.length - 1) := ⟨by have := outL_len (outL (N.l ++ [(⟨N.last + 1, N.l[k].frm, N.l[k].to, N.l[k].data⟩ : MailV)]) k) (N.l.length - 1) (by rw [tw1]; omega); rw [tw1] at this; omega⟩
        generalize outL (outL (N.l ++ [(⟨N.last + 1, N.l[k].frm, N.l[k].to, N.l[k].data⟩ : MailV)]) k) (N.l.length - 1) = l2 at HT2 HLen
        generalize outL (N.l ++ [(⟨N.last + 1, N.l[k].frm, N.l[k].to, N.l[k].data⟩ : MailV)]) k = l1 at HT1 HT2
        generalize N.l ++ [(⟨N.last + 1, N.l[k].frm, N.l[k].to, N.l[k].data⟩ : MailV)] = l0 at HT1 H4 hsm2 hLn ⊢
        have HX0 := Kp.mk r0
        clear r0 r1 r2 r3 s0 s1 s2 s3 r5 b5 f5 tw1 tw2 tw3
        generalize N.l[k] = m at *
        obtain ⟨mi, mf, mt, md⟩ := m
        simp only [] at HT1 HT2 HX0 x0 x1 x2 x3 y0 y1 y2 y3
        generalize N.last = la at *
        generalize N.l.length = L at *
        have KP1 : Kp (∀ wx wy, (wx.cell? ⟨gn, L * 4, none⟩ = some (.int .i64 (la + 1)) ∧ wx.cell? ⟨gn, L * 4 + 1, none⟩ = some (.int .i64 mf) ∧ wx.cell? ⟨gn, L * 4 + 2, none⟩ = some (.int .i64 mt) ∧ wx.cell? ⟨gn, L * 4 + 3, none⟩ = some (.string md) ∧ wx.cell? ⟨gw, k * 4, none⟩ = some (.int .i64 mi) ∧ wx.cell? ⟨gw, k * 4 + 1, none⟩ = some (.int .i64 mf) ∧ wx.cell? ⟨gw, k * 4 + 2, none⟩ = some (.int .i64 mt) ∧ wx.cell? ⟨gw, k * 4 + 3, none⟩ = some (.string md)) → Below wx.heap.size wx wy → (wy.cell? ⟨gn, L * 4, none⟩ = some (.int .i64 (la + 1)) ∧ wy.cell? ⟨gn, L * 4 + 1, none⟩ = some (.int .i64 mf) ∧ wy.cell? ⟨gn, L * 4 + 2, none⟩ = some (.int .i64 mt) ∧ wy.cell? ⟨gn, L * 4 + 3, none⟩ = some (.string md) ∧ wy.cell? ⟨gw, k * 4, none⟩ = some (.int .i64 mi) ∧ wy.cell? ⟨gw, k * 4 + 1, none⟩ = some (.int .i64 mf) ∧ wy.cell? ⟨gw, k * 4 + 2, none⟩ = some (.int .i64 mt) ∧ wy.cell? ⟨gw, k * 4 + 3, none⟩ = some (.string md))) := ⟨fun wx wy ⟨z0, z1, z2, z3, z4, z5, z6, z7⟩ hb => ⟨cell_below z0 hb, cell_below z1 hb, cell_below z2 hb, cell_below z3 hb, cell_below z4 hb, cell_below z5 hb, cell_below z6 hb, cell_below z7 hb⟩⟩
        have i1 : (0 : Int) ≤ (L : Int) := by omega
        have i2 : (L : Int) < (L : Int) + 1 := by omega
        have i3 : IntKind.i64.wrap ((L : Int) + 1) = (L : Int) + 1 := by rw [IntKind.wrap_i64]; omega
        have i4 : (0 : Int) ≤ (k : Int) := by omega
        have i5 : (k : Int) < (L : Int) := by omega
        have HOF := Kp.mk (fun a b c d wx => of_any ⟨a, b, c, d⟩ wx)
        go_wp2_with fail
        go_region_held3 (fun w' => w'.cell? ⟨gn, L * 4, none⟩ = some (.int .i64 (la + 1)) ∧ w'.cell? ⟨gn, L * 4 + 1, none⟩ = some (.int .i64 mf) ∧ w'.cell? ⟨gn, L * 4 + 2, none⟩ = some (.int .i64 mt) ∧ w'.cell? ⟨gn, L * 4 + 3, none⟩ = some (.string md) ∧ w'.cell? ⟨gw, k * 4, none⟩ = some (.int .i64 mi) ∧ w'.cell? ⟨gw, k * 4 + 1, none⟩ = some (.int .i64 mf) ∧ w'.cell? ⟨gw, k * 4 + 2, none⟩ = some (.int .i64 mt) ∧ w'.cell? ⟨gw, k * 4 + 3, none⟩ = some (.string md)) (go_keep)
          (first
            | (go_at_call 15; refine (HOF.out _ _ _ _ _).mono ?_; rintro e w6 ⟨rfl, hb⟩; have hz := KP1.out _ _ (by assumption) hb; obtain ⟨z0, z1, z2, z3, z4, z5, z6, z7⟩ := hz; replace HB : Kp (Below w.heap.size w w6 ∧ ∀ k, blk v4 = some k → w.heap.size ≤ k) := ⟨by first | exact HB.out.1.trans (hb.mono HB.out.1.size) | exact HB.out.1.drew.trans (hb.mono HB.out.1.size), HB.out.2⟩; replace H4 : Kp (NetAt w6 g v4 _) := ⟨by first | exact H4.out.below hb | exact H4.out.drew.below hb⟩; replace RW4 : Kp (RK 4 w6 _ _ _ ∧ Sep g v4 _) := ⟨by first | exact ⟨RW4.out.1.below hb, RW4.out.2⟩ | exact ⟨RW4.out.1.drew.below hb, RW4.out.2⟩⟩; clear hb))
        clear i1 i2 i3 i4 i5 x0 x1 x2 x3 y0 y1 y2 y3 z1 z2 z3 z4 z5 z6 z7
        have hsm3 := Sm_take hsm2 k
        rw [HT1.out] at hsm3
        have HTK1 := Kp.mk (fun wx hx => Take_at g v4 _ _ k 0 _ wx hx (hsm2.mono (by omega)) HT1.out)
        have HTK2 := Kp.mk (fun vx wx hx => Take_at g vx _ _ ((L : Int) - 1) 0 _ wx hx (hsm3.mono (by omega)) HT2.out)
        go_wp2_with fail
        refine (HTK1.out _ H4.out).mono ?_
        rintro e w8 ⟨rfl, v8, n8, u8⟩
        replace HB := Kp.mk (Upd.below HB.out.1 u8 HB.out.1.size HG.out HB.out.2)
        replace RW4 := Kp.mk (RW4.out.1.upd u8 RW4.out.2)
        have H8 : Kp (∀ o, NetAt (w8.alloc o) g v8 _) := ⟨fun o => n8.alloc o⟩
        have RW8 : Kp (∀ o, RK 4 (w8.alloc o) _ _ _) := ⟨fun o => RW4.out.1.alloc o⟩
        have SP8 := Kp.mk RW4.out.2
        have HB8 : Kp (∀ o, Below w.heap.size w (w8.alloc o)) := ⟨fun o => HB.out.1.trans ((Below.refl _ _).alloc HB.out.1.size o)⟩
        have HBV := Kp.mk HB.out.2
        have HN1 := Kp.mk (heap_alloc_new w8 (.cells #[.int .i64 mi, .int .i64 mf, .int .i64 mt, .string md] 38))
        have hne1 : w8.heap.size ≠ g ∧ blk v8 ≠ some w8.heap.size := ⟨by have := n8.lt; omega, fun e => by have := n8.2.1.lt _ e; omega⟩
        obtain ⟨b1, hb1⟩ : ∃ b, w8.heap.size = b := ⟨_, rfl⟩
        rw [hb1] at HN1 hne1
        have HNE1 := Kp.mk hne1
        have i1 : ((L : Int) - 1) = (L : Int) - 1 := rfl
        clear n8 u8 hne1 RW4 HB H4 HTK1 HT1 i1
        unfold MailV.v
        go_wp2_with fail
        clear hb1
        refine (HTK2.out _ _ (H8.out _)).mono ?_
        rintro e w9 ⟨rfl, v9, n9, u9⟩
        have K1 := Kp.mk (blk_upd HN1.out u9 HNE1.out.1 HNE1.out.2)
        have HB := Kp.mk (Upd.below (HB8.out _) u9 (HB8.out _).size HG.out HBV.out)
        have RW9 := Kp.mk ((RW8.out _).upd u9 SP8.out)
        have H9 : Kp (∀ o, NetAt (w9.alloc o) g v9 _) := ⟨fun o => n9.alloc o⟩
        have HN2 := Kp.mk (heap_alloc_new w9 (.cells #[.int .i64 (la + 1), .int .i64 mf, .int .i64 mt, .string md] 38))
        have HO1 : Kp (∀ o, (w9.alloc o).heap[b1]? = some (.cells #[.int .i64 mi, .int .i64 mf, .int .i64 mt, .string md] 38 (0, 0))) := ⟨fun o => (Below.heap_alloc w9 o b1 (lt_of_block' K1.out.1)).trans K1.out.1⟩
        have HB9 : Kp (∀ o, Below w.heap.size w (w9.alloc o)) := ⟨fun o => HB.out.1.trans ((Below.refl _ _).alloc HB.out.1.size o)⟩
        have hx0 : ∀ o, (w9.alloc o).cell? ⟨gw, k * 4, none⟩ = some (.int .i64 mi) := fun o => (RW9.out.1.alloc o).cell _ _ HX0.out
        obtain ⟨b2, hb2⟩ : ∃ b, w9.heap.size = b := ⟨_, rfl⟩
        rw [hb2] at HN2
        obtain ⟨⟨p0, p1, p2, p3⟩, _⟩ := cells4 HN2.out
        have hp := fun o => (cells4 (HO1.out o)).1
        have q0 := fun o => (hp o).1
        have q1 := fun o => (hp o).2.1
        have q2 := fun o => (hp o).2.2.1
        have q3 := fun o => (hp o).2.2.2
        have KP2 : Kp (∀ wx wy, (wx.cell? ⟨b1, 0, none⟩ = some (.int .i64 mi) ∧ wx.cell? ⟨b1, 1, none⟩ = some (.int .i64 mf) ∧ wx.cell? ⟨b1, 2, none⟩ = some (.int .i64 mt) ∧ wx.cell? ⟨b1, 3, none⟩ = some (.string md) ∧ wx.cell? ⟨b2, 0, none⟩ = some (.int .i64 (la + 1)) ∧ wx.cell? ⟨b2, 1, none⟩ = some (.int .i64 mf) ∧ wx.cell? ⟨b2, 2, none⟩ = some (.int .i64 mt) ∧ wx.cell? ⟨b2, 3, none⟩ = some (.string md) ∧ wx.cell? ⟨gw, k * 4, none⟩ = some (.int .i64 mi)) → Below wx.heap.size wx wy → (wy.cell? ⟨b1, 0, none⟩ = some (.int .i64 mi) ∧ wy.cell? ⟨b1, 1, none⟩ = some (.int .i64 mf) ∧ wy.cell? ⟨b1, 2, none⟩ = some (.int .i64 mt) ∧ wy.cell? ⟨b1, 3, none⟩ = some (.string md) ∧ wy.cell? ⟨b2, 0, none⟩ = some (.int .i64 (la + 1)) ∧ wy.cell? ⟨b2, 1, none⟩ = some (.int .i64 mf) ∧ wy.cell? ⟨b2, 2, none⟩ = some (.int .i64 mt) ∧ wy.cell? ⟨b2, 3, none⟩ = some (.string md) ∧ wy.cell? ⟨gw, k * 4, none⟩ = some (.int .i64 mi))) := ⟨fun wx wy ⟨z0, z1, z2, z3, z4, z5, z6, z7, z8⟩ hb => ⟨cell_below z0 hb, cell_below z1 hb, cell_below z2 hb, cell_below z3 hb, cell_below z4 hb, cell_below z5 hb, cell_below z6 hb, cell_below z7 hb, cell_below z8 hb⟩⟩
        have hL1 : 1 ≤ L := by omega
        have hcast : ((L - 1 : Nat) : Int) = (L : Int) - 1 := by omega
        have i3 : IntKind.i64.wrap ((L : Int) - 1) = (L : Int) - 1 := by rw [IntKind.wrap_i64]; omega
        have i4 : (0 : Int) ≤ (k : Int) := by omega
        have i5 : (k : Int) < (L : Int) := by omega
        have HLN := Kp.mk (fun wx hx => Len_any g v9 _ wx (show NetAt wx g v9 (⟨N.sent, N.doubled + 1, N.taken + 1 + 1, N.lost, N.nodes, la + 1, l2⟩ : NetV) from hx))
        simp only [HLen.out, hcast] at HLN
        clear hp n9 u9 hcast
        unfold MailV.v
        go_wp2_with fail
        clear hb2
        go_region_held3 (fun w' => w'.cell? ⟨b1, 0, none⟩ = some (.int .i64 mi) ∧ w'.cell? ⟨b1, 1, none⟩ = some (.int .i64 mf) ∧ w'.cell? ⟨b1, 2, none⟩ = some (.int .i64 mt) ∧ w'.cell? ⟨b1, 3, none⟩ = some (.string md) ∧ w'.cell? ⟨b2, 0, none⟩ = some (.int .i64 (la + 1)) ∧ w'.cell? ⟨b2, 1, none⟩ = some (.int .i64 mf) ∧ w'.cell? ⟨b2, 2, none⟩ = some (.int .i64 mt) ∧ w'.cell? ⟨b2, 3, none⟩ = some (.string md) ∧ w'.cell? ⟨gw, k * 4, none⟩ = some (.int .i64 mi)) (go_keep)
          (first
            | (go_at_call 15; refine (HOF.out _ _ _ _ _).mono ?_; rintro e w10 ⟨rfl, hb⟩; have hz := KP2.out _ _ (by assumption) hb; obtain ⟨z0, z1, z2, z3, z4, z5, z6, z7, z8⟩ := hz; have HBn : Kp (Below w.heap.size w w10) := ⟨by first | exact HBn.out.trans (hb.mono HBn.out.size) | exact (HB9.out _).drew.trans (hb.mono (HB9.out _).size)⟩; have H9n : Kp (NetAt w10 g v9 (⟨N.sent, N.doubled + 1, N.taken + 1 + 1, N.lost, N.nodes, la + 1, l2⟩ : NetV)) := ⟨by first | exact H9n.out.below hb | exact (H9.out _).drew.below hb⟩; clear hb)
            | (go_at_call 17; refine (HLN.out _ H9n.out).mono ?_; rintro e w' ⟨rfl, rfl⟩))
        go_wp2
        go_ret
        exact ⟨by trivial, HBn.out⟩
set_option maxRecDepth 100000 in
theorem twins_big (w : World) (ao : Option Addr) (len cap : Nat) (n i : Int) (f : Nat → ActV) (hlm : len ≤ maxLen) (hbig : ¬ cost f len < 20000 ∨ 200 < len) (hf : ∀ i, i < len → ∃ a, ao = some a ∧ (f i).ok ∧ ActAt w (a.add (i * 6)) (f i)) :
    Calls Try.prog 3 #[.int .i64 n, .slice ao len cap, .int .i64 i] w fun e w' => e = .returned (.bool true) ∧ Below w.heap.size w w' := by
  have HL := Kp.mk (long_any w ao len cap f hlm hf)
  unfold maxLen at hlm
  clear hf
  by_cases hc : cost f len < 20000
  · rw [show decide (20000 ≤ cost f len) = false from by rw [decide_eq_false_iff_not]; omega] at HL
    have t0 : decide ((200 : Int) < (len : Int)) = true := by rw [decide_eq_true_eq]; omega
    clear hc hbig
    go_enter Try.func3, Try.ntmps3
    go_wp2_with fail
    refine HL.out.mono ?_
    rintro e w' ⟨rfl, md, rfl⟩
    go_wp2_with fail
    refine (awake_any _).mono ?_
    rintro e w1 ⟨rfl, hb1⟩
    have HB1 : Kp (Below w.heap.size w w1) := ⟨⟨hb1.os, hb1.tape, hb1.output, hb1.size, hb1.block⟩⟩
    clear hb1
    go_wp2
    go_ret
    exact ⟨by trivial, HB1.out⟩
  · rw [show decide (20000 ≤ cost f len) = true from by rw [decide_eq_true_eq]; omega] at HL
    clear hc hbig
    go_enter Try.func3, Try.ntmps3
    go_wp2_with fail
    refine HL.out.mono ?_
    rintro e w' ⟨rfl, md, rfl⟩
    go_wp2_with fail
    refine (awake_any _).mono ?_
    rintro e w1 ⟨rfl, hb1⟩
    have HB1 : Kp (Below w.heap.size w w1) := ⟨⟨hb1.os, hb1.tape, hb1.output, hb1.size, hb1.block⟩⟩
    clear hb1
    go_wp2
    go_ret
    exact ⟨by trivial, HB1.out⟩
set_option maxRecDepth 100000 in
theorem twins_no (w : World) (ao : Option Addr) (len cap : Nat) (n i : Int) (f : Nat → ActV) (hlm : len ≤ 200) (hc : cost f len < 20000) (hf : ∀ i, i < len → ∃ a, ao = some a ∧ (f i).ok ∧ ActAt w (a.add (i * 6)) (f i)) (hn : n < 2 ∨ 5 < n) :
    Calls Try.prog 3 #[.int .i64 n, .slice ao len cap, .int .i64 i] w fun e w' => e = .returned (.bool true) ∧ Below w.heap.size w w' := by
  have HL := Kp.mk (long_any w ao len cap f (by unfold maxLen; omega) hf)
  rw [show decide (20000 ≤ cost f len) = false from by rw [decide_eq_false_iff_not]; omega] at HL
  have t0 : decide ((200 : Int) < (len : Int)) = false := by rw [decide_eq_false_iff_not]; omega
  clear hf hc
  go_enter Try.func3, Try.ntmps3
  go_wp2_with fail
  refine HL.out.mono ?_
  rintro e w' ⟨rfl, md, rfl⟩
  go_wp2_with fail
  refine (awake_any _).mono ?_
  rintro e w1 ⟨rfl, hb1⟩
  have HB1 : Kp (Below w.heap.size w w1) := ⟨⟨hb1.os, hb1.tape, hb1.output, hb1.size, hb1.block⟩⟩
  clear hb1
  go_wp2_with fail
  refine (New_no n _ hn).mono ?_
  rintro e w' ⟨rfl, rfl⟩
  go_wp2
  go_ret
  exact ⟨by trivial, HB1.out⟩
theorem walkNetTwins {H : Type} {enc : TypeId × Value → H} {X : Prop} {b0 : Nat} {d : DataW H} {ps : List MemPlace} (w : World) (n : Int) (_hn : (Lit.int .i64 n).wf = true) (v : Value) (hval : Value.okWide Try.prog w .any b0 22 v)
    (h : DataW.Trod enc Try.prog w 0 (fun _ => true) true 22 v d ps) (i : Int) (hi : (Lit.int .i64 i).wf = true) (_hweigh : X) :
    Calls Try.prog 3 #[.int .i64 n, v, .int .i64 i] w fun e w' => e = .returned (.bool true) ∧ Below w.heap.size w w' := by
  obtain ⟨a0, len0, cap0, hv⟩ := Go.WideShapes.okWide_slice Try.underlying22 hval
  have hc : v.cells.toList = [v] := by rw [hv]; rfl
  obtain ⟨ao, len, cap, f, rfl, hlm, hf⟩ := acts_open hc h
  obtain ⟨h1, h2⟩ := wf_i64 hi
  by_cases hbig : ¬ cost f len < 20000 ∨ 200 < len
  · exact twins_big w ao len cap n i f hlm hbig hf
  · by_cases hn : n < 2 ∨ 5 < n
    · exact twins_no w ao len cap n i f (by omega) (by omega) hf hn
    · exact twins_core w ao len cap n i f (by omega) (by omega) hf (by omega) (by omega) h1 h2
end Go.Proofs.Ytdhpnhdokkhnlaa
