/- The walk of VaultAgain: it returns true, and leaves what was there. -/
import Derived.Test.YtpfoekfbcpinlaaGreatDoorVaultLarge
namespace Go.Proofs.YtpfoekfbcpinlaaGreatDoor
open Go.RowKit Go.ChangeShapes Go.WideShapes Go.Deep
set_option linter.unusedVariables false

theorem sameB_self (h : Hd.HV) : Hd.sameB h h = true := by unfold Hd.sameB; simp
theorem most_in (o : Int) : 1 ≤ wrap64 (1 + wrap64 ((IntKind.u64.wrap o).tmod 1048576)) ∧ wrap64 (1 + wrap64 ((IntKind.u64.wrap o).tmod 1048576)) ≤ 1048576 := by
  have h0 : 0 ≤ IntKind.u64.wrap o := by rw [IntKind.wrap_u64]; omega
  rw [Int.tmod_eq_emod_of_nonneg h0]
  generalize IntKind.u64.wrap o = x at *
  unfold wrap64
  omega
theorem found_few {D : DiskV} (ho : Ok D) (hc : D.counts = false) (hd : D.down = false) (he : openE D = 0) : (oR D).1.length ≤ 40000000 := by
  obtain ⟨h, T, s, e1, _, e3, i, _, _⟩ := Vp.open_zero ho hd hc he
  have hok : Ok (oW D).2 := by unfold oW; exact wipeS_ok (by unfold oL; unfold vloadV; split; exact looseS_ok ho _ _; split; exact looseS_ok ho _ _; split; exact (looseS_ok ho _ _).wipe _; exact Hd.putV_ok ((looseS_ok ho _ _).wipe _) _) _ _
  have hl := (recS_len hok (oL D).2.2 (oL D).2.2.log.length).1
  have hm := (Hd.HV.few i.base.may).2
  rw [e1] at hl
  unfold oR
  rw [e1]
  have : h.log.length * 1048576 ≤ 30 * 1048576 := Nat.mul_le_mul_right _ hm
  omega
set_option maxRecDepth 100000 in
set_option maxHeartbeats 8000000 in
theorem again_core (c m o : Int) (ao : Option Addr) (len cap : Nat) (f : Nat → ByteArray × ByteArray) (w : World) (hc : i64 c) (hm : i64 m) (ho : i64 o) (hl : len ≤ maxLen) (hf : TapesAt w ao len f) (ht : Tab w) (hcl : costL f len < 20000) (hl40 : len ≤ 40) :
    Calls Tryz.prog 5 #[.int .i64 c, .slice ao len cap, .int .i64 m, .int .i64 o] w fun e w' => e = .returned (.bool true) ∧ Below w.heap.size w w' := by
  have HL := Kp.mk (Large_any ao len cap f w hl hf)
  have hfalse : decide (20000 ≤ costL f len ∨ 40 < len) = false := decide_eq_false (by omega)
  rw [hfalse] at HL
  have HAw := Kp.mk (fun W (hW : Below w.heap.size w W) => awake_any W (ht.below hW))
  have HT := Kp.mk (fun W (hW : Below w.heap.size w W) => ht.below hW)
  have HLd := Kp.mk (fun W (hW : Below w.heap.size w W) => dLoad_any c ao len cap f W hl hc.2 (fun W' hW' => hf.smallL hcl W' (hW.trans (hW'.mono hW.size))))
  have HDr : Kp (∀ k, Below w.heap.size w (w.drewN k)) := ⟨fun k => ⟨rfl, rfl, rfl, Nat.le_refl _, fun _ _ => rfl⟩⟩
  obtain ⟨m1, m2⟩ := hm
  obtain ⟨o1, o2⟩ := ho
  clear hc hl hf ht hcl hl40 hfalse
  go_enter Tryz.func5, Tryz.ntmps5
  go_wp2_with fail
  refine HL.out.mono ?_
  rintro e w1 ⟨rfl, k, rfl⟩
  have HB0 := Kp.mk (HDr.out k)
  generalize w.drewN k = w1 at *
  go_wp2_with fail
  refine (HAw.out _ HB0.out).mono ?_
  rintro e w2 ⟨rfl, b2⟩
  have HB2 := Kp.mk (HB0.out.trans (b2.mono HB0.out.size))
  clear b2 HL HAw HDr HB0
  go_wp2_with fail
  refine (HLd.out _ HB2.out).mono ?_
  rintro e w3 ⟨h3, b3⟩
  have HB3 := Kp.mk (HB2.out.trans (b3.mono HB2.out.size))
  clear b3 HLd
  rcases h3 with ⟨er, her, rfl⟩ | ⟨-, rfl, d3, k3⟩
  · have t1 : (er == 0) = false := by rw [beq_eq_false_iff_ne]; omega
    clear her
    go_wp2
    go_ret
    exact ⟨by trivial, HB3.out⟩
  have HG : Kp (w.heap.size ≤ w2.heap.size) := ⟨HB2.out.size⟩
  obtain ⟨D, hD⟩ : ∃ D, loadD f c len = D := ⟨_, rfl⟩
  have hnc : D.counts = false := by rw [← hD]; rfl
  have hup : D.down = false := by rw [← hD]; rfl
  rw [hD] at d3 k3
  clear hD
  have HD3 := Kp.mk d3
  have HK3 := Kp.mk k3
  generalize w2.heap.size = g at *
  by_cases hmr : m < 1 ∨ 1048576 < m
  · have HOn := Kp.mk (Open_no g m w3 hmr)
    clear hmr d3 k3
    go_wp2_with fail
    refine HOn.out.mono ?_
    rintro e w4 ⟨rfl, b4⟩
    have HB4 := Kp.mk (HB3.out.trans (b4.mono HB3.out.size))
    clear b4 HOn
    go_wp2
    go_ret
    exact ⟨by trivial, HB4.out.alloc HB4.out.size _⟩
  have HO1 := Kp.mk (Open_any g D m w3 d3 k3 (fun W hW => HT.out W (hW.below HB3.out HB3.out.size HG.out)) (by omega) (by omega))
  clear hmr d3 k3
  by_cases he : openE D = 0
  rotate_left 1
  · have he' : (openE D == 0) = false := by rw [beq_eq_false_iff_ne]; exact he
    go_wp2_with fail
    refine HO1.out.mono ?_
    rintro e w4 (⟨-, rfl, -, -, c4⟩ | ⟨h0, -⟩)
    · have HB4 := Kp.mk (c4.below HB3.out HB3.out.size HG.out)
      clear c4 HO1
      generalize openE D = er at *
      go_wp2
      go_ret
      exact ⟨by trivial, HB4.out.alloc HB4.out.size _⟩
    · exact absurd h0 he
  obtain ⟨h, T, s, e1, e2, e3, i1, af1, nc1⟩ := Vp.open_zero HK3.out hup hnc he
  obtain ⟨f1, f2, f3, f4, f5⟩ := Vp.open_firm i1 af1
  obtain ⟨hb, hhb⟩ : ∃ hb, decide (h.snap ≠ 0) = hb := ⟨_, rfl⟩
  rw [hhb] at e2 f3
  clear hhb
  have hfew := found_few HK3.out hnc hup he
  have hmay := i1.base.may
  have hbs := Hd.may_first hmay
  go_wp2_with fail
  refine HO1.out.mono ?_
  rintro e w4 (⟨h0, -⟩ | ⟨-, v, q, ro, rc, rfl, op⟩)
  · exact absurd he h0
  have HOp := Kp.mk op
  have HFd := Kp.mk (And.intro e1 (And.intro e2 (And.intro e3 (And.intro f1 (And.intro f2 (And.intro f3 (And.intro f4 f5)))))))
  have HI1 := Kp.mk (And.intro i1 (And.intro af1 (And.intro hmay hbs)))
  have HFw := Kp.mk hfew
  have HB4 := Kp.mk (op.chg.below HB3.out HB3.out.size HG.out)
  have HVg : Kp (w.heap.size ≤ v ∧ g < w3.heap.size ∧ w3.heap.size ≤ v) := ⟨by have := op.vn; have := HB3.out.size; omega, HD3.out.lt, op.vn⟩
  clear op e1 e2 e3 f1 f2 f3 f4 f5 i1 af1 hmay hbs hfew HO1 he hnc hup
  have HS4 := Kp.mk HOp.out.vs
  have HR4 := Kp.mk HOp.out.row
  have HRo := Kp.mk HOp.out.rown
  have HQ := Kp.mk (HOp.out.hd.trans HFd.out.1)
  have HQn := Kp.mk HOp.out.hdn
  rw [HFd.out.2.1]
  simp only []
  generalize hn : (oR D).1.length = n at *
  have HFB := heap_alloc_new w4 (.cells #[.bool hb, .string s, .slice ro n rc] 48)
  have HXf := Kp.mk HFB
  have HS5 := Kp.mk (HS4.out.alloc (.cells #[.bool hb, .string s, .slice ro n rc] 48))
  have HB5 := Kp.mk (HB4.out.alloc HB4.out.size (.cells #[.bool hb, .string s, .slice ro n rc] 48))
  have HR5 := Kp.mk (HR4.out.alloc (.cells #[.bool hb, .string s, .slice ro n rc] 48))
  obtain ⟨z0, z1, z2⟩ := cells3f HFB
  have HZf : Kp (w3.heap.size ≤ w4.heap.size) := ⟨HOp.out.chg.size⟩
  clear HFB HOp
  go_wp2_with fail
  generalize w4.alloc (.cells #[.bool hb, .string s, .slice ro n rc] 48) = w5 at *
  generalize hfb : w4.heap.size = fb at *
  refine (Copy_any g (openD D) w5 HS5.out.disk).mono ?_
  rintro e w6 ⟨rfl, d6, b6⟩
  have HD6 := Kp.mk d6
  have HS6 := Kp.mk (HS5.out.below b6)
  have HB6 := Kp.mk (HB5.out.trans (b6.mono HB5.out.size))
  have HX6 := Kp.mk ((b6.block fb (lt_of_block' HXf.out)).trans HXf.out)
  have HR6 := Kp.mk (HR5.out.below b6)
  have HLt : Kp (fb < w5.heap.size ∧ w5.heap.size < w6.heap.size ∧ v < w5.heap.size ∧ g < w5.heap.size) := ⟨lt_of_block' HXf.out, d6.lt, HS5.out.vlt.lt, HS5.out.disk.lt⟩
  clear d6 b6 z0 z1 z2
  go_wp2_with fail
  obtain ⟨hM1, hM2⟩ := most_in o
  generalize wrap64 (1 + wrap64 ((IntKind.u64.wrap o).tmod 1048576)) = M at hM1 hM2 ⊢
  refine (Open_any g (openD D) M w6 HS6.out.disk HS6.out.ok (fun W hW => HT.out W (hW.below HB6.out HB6.out.size HG.out)) hM1 hM2).mono ?_
  rintro e w7 (⟨h0, -⟩ | ⟨-, v2, q2, ro2, rc2, rfl, op2⟩)
  · exact absurd HFd.out.2.2.2.1 h0
  clear hM1 hM2
  have hnn : (oR (openD D)).1.length = n := by rw [HFd.out.2.2.2.2.2.2.1, ← HFd.out.2.2.1]; exact hn
  have HRR : Kp ((oR (openD D)).1 = (oR D).1) := ⟨by rw [HFd.out.2.2.2.2.2.2.1, HFd.out.2.2.1]⟩
  have HLn := Kp.mk (And.intro hn hnn)
  have HV2 := op2.vs
  rw [HFd.out.2.2.2.2.2.2.2, hnn] at HV2
  have HQ2 := Kp.mk (op2.hd.trans HFd.out.2.2.2.2.1)
  have HR2 := Kp.mk op2.row
  have HC2 := Kp.mk op2.chg
  have HB7 := Kp.mk (op2.chg.below HB6.out HB6.out.size HG.out)
  have hne : ∀ k, blk (.slice q.lo q.ll q.lc) = some k → k ≠ g := fun k hk => (HS6.out.vlt.off k hk).1
  have HS7 := Kp.mk (HS6.out.chg op2.chg HV2.disk HV2.ok)
  have HX7 := Kp.mk ((op2.chg.block fb (by have := HLt.out; omega) (fun e => by have := HLt.out; have := HVg.out; have := HZf.out; cases e; omega)).trans HX6.out)
  have HD7 := Kp.mk (op2.chg.other HD6.out (by have := HLt.out; omega))
  have HR7 := Kp.mk (RK.same HR6.out op2.chg.size (fun k hk => op2.chg.block k (HR6.out.lt k hk) (fun e => by have h1 := HRo.out k hk; have := HVg.out; have := HD3.out.lt; cases e; omega)))
  have HVV := Kp.mk HV2
  rw [HFd.out.2.2.2.2.2.1, hnn]
  simp only []
  clear op2 hnn HV2 hne hn HS6 HX6 HD6 HR6
  have HGB := heap_alloc_new w7 (.cells #[.bool hb, .string s, .slice ro2 n rc2] 48)
  have HA8 : Kp (Below w7.heap.size w7 (w7.alloc (.cells #[.bool hb, .string s, .slice ro2 n rc2] 48))) := ⟨(Below.refl _ _).alloc (Nat.le_refl _) _⟩
  have HX8 := (HA8.out.block fb (lt_of_block' HX7.out)).trans HX7.out
  have HB8 := Kp.mk (HB7.out.trans (HA8.out.mono HB7.out.size))
  obtain ⟨z0, z1, z2⟩ := cells3f HX8
  obtain ⟨y0, y1, y2⟩ := cells3f HGB
  have HR8 := Kp.mk (HR7.out.below HA8.out)
  have HR28 := Kp.mk (HR2.out.below HA8.out)
  have HS8 := Kp.mk (HS7.out.below HA8.out)
  have HVV8 := Kp.mk (HVV.out.below HA8.out)
  have HD8 := Kp.mk (HD7.out.below HA8.out)
  clear HGB HX8
  have hss : (s.toList == s.toList) = true := by simp
  have hbb : (hb == hb) = true := by simp
  go_wp2_with fail
  generalize w7.alloc (.cells #[.bool hb, .string s, .slice ro2 n rc2] 48) = w8 at *
  have hle : n ≤ maxLen := by have := HFw.out; unfold maxLen; omega
  have hL1 : (oR D).1.length = n := HLn.out.1
  have hR8 := HR8.out
  have hR28 := HR28.out
  rw [HLn.out.2, HRR.out] at hR28
  rw [← hL1] at hR8 hR28
  have hTx := texts_any ro ro2 rc rc2 (oR D).1.length (oR D).1.length _ _ w8 (by rw [hL1]; exact hle) (by rw [hL1]; exact hle) (StrIn.of_rk hR8) (StrIn.of_rk hR28)
  rw [decide_eq_true (show (oR D).1.length = (oR D).1.length ∧ ∀ j, j < (oR D).1.length → B ((oR D).1.getD j []) = B ((oR D).1.getD j []) from ⟨rfl, fun _ _ => rfl⟩), hL1] at hTx
  refine hTx.mono ?_
  rintro e w9 ⟨rfl, b9⟩
  have HS9 := Kp.mk (HS8.out.below b9)
  have HVV9 := Kp.mk (HVV8.out.below b9)
  have HD9 := Kp.mk (HD8.out.below b9)
  have HB9 := Kp.mk (HB8.out.trans (b9.mono HB8.out.size))
  clear b9 hTx hR8 hR28 hL1 hle z0 z1 z2 y0 y1 y2 hss hbb
  go_wp2_with fail
  refine (vHead_any g v (openD D) q m n w9 HS9.out).mono ?_
  rintro e w10 ⟨p1, rfl, hp1, -, -, ow1, b10⟩
  have HP1 := Kp.mk hp1
  have HA1 := Kp.mk ow1.at'
  have HVV10 := Kp.mk (HVV9.out.below b10)
  have HS10 := Kp.mk (HS9.out.below b10)
  have HD10 := Kp.mk (HD9.out.below b10)
  have HB10 := Kp.mk (HB9.out.trans (b10.mono HB9.out.size))
  clear hp1 ow1 b10
  unfold HdV.v
  go_wp2_with fail
  refine (vHead_any g v2 (openD D) q2 M n w10 HVV10.out).mono ?_
  rintro e w11 ⟨p2, rfl, hp2, -, -, ow2, b11⟩
  have HP2 := Kp.mk hp2
  have HA1' := Kp.mk (HA1.out.below b11)
  have HA2 := Kp.mk ow2.at'
  have HVV11 := Kp.mk (HVV10.out.below b11)
  have HS11 := Kp.mk (HS10.out.below b11)
  have HD11 := Kp.mk (HD10.out.below b11)
  have HB11 := Kp.mk (HB10.out.trans (b11.mono HB10.out.size))
  clear hp2 ow2 b11
  have hsm := rSame_any p1 p2 w11 HA1'.out HA2.out
  rw [HP1.out, HP2.out, HQ.out, HQ2.out, sameB_self] at hsm
  unfold HdV.v at hsm ⊢
  go_wp2_with fail
  refine hsm.mono ?_
  rintro e w12 ⟨rfl, b12⟩
  have HVV12 := Kp.mk (HVV11.out.below b12)
  have HS12 := Kp.mk (HS11.out.below b12)
  have HD12 := Kp.mk (HD11.out.below b12)
  have HB12 := Kp.mk (HB11.out.trans (b12.mono HB11.out.size))
  clear b12 hsm
  have hq1 : q.base = h.base := by have := congrArg Hd.HV.base HQ.out; exact this
  have hq2 : q2.base = h.base := by have := congrArg Hd.HV.base HQ2.out; exact this
  obtain ⟨bs1, bs2⟩ : 0 ≤ h.base ∧ h.base ≤ 1099511627776 := ⟨HI1.out.2.2.2.2.2.1, HI1.out.2.2.2.2.2.2.1⟩
  have HC1 := Kp.mk (Count_any g v (openD D) q m n w12 HS12.out (by rw [hq1]; exact bs1) (by have := HFw.out; rw [hq1]; omega))
  have HCC2 := Kp.mk (fun k => Count_any g v2 (openD D) q2 M n (w12.drewN k) (HVV12.out.drewN k) (by rw [hq2]; exact bs1) (by have := HFw.out; rw [hq2]; omega))
  rw [hq1] at HC1
  rw [hq2] at HCC2
  clear hq1 hq2 bs1 bs2
  go_wp2_with fail
  refine HC1.out.mono ?_
  rintro e w13 ⟨rfl, k1, rfl⟩
  go_wp2_with fail
  refine (HCC2.out k1).mono ?_
  rintro e w14 ⟨rfl, k2, rfl⟩
  have HS14 := Kp.mk ((HS12.out.drewN k1).drewN k2)
  have HVV14 := Kp.mk ((HVV12.out.drewN k1).drewN k2)
  have HD14 : Kp (DiskAt ((w12.drewN k1).drewN k2) w5.heap.size (openD D)) := ⟨HD12.out⟩
  have HB14 : Kp (Below w.heap.size w ((w12.drewN k1).drewN k2)) := ⟨⟨HB12.out.os, HB12.out.tape, HB12.out.output, HB12.out.size, HB12.out.block⟩⟩
  generalize (w12.drewN k1).drewN k2 = w14 at *
  have hbe : ((h.base + (n : Int)) == (h.base + (n : Int))) = true := by simp
  go_wp2_with fail
  refine (Since_any g v (openD D) q m n w14 HS14.out).mono ?_
  rintro e w15 ⟨rfl, rfl⟩
  go_wp2_with fail
  refine (Since_any g v2 (openD D) q2 M n _ HVV14.out).mono ?_
  rintro e w16 ⟨rfl, rfl⟩
  have hds := dSame_any w5.heap.size g (openD D) (openD D) _ HD14.out HVV14.out.disk
  rw [Vp.diskB_refl] at hds
  go_wp2_with fail
  refine hds.mono ?_
  rintro e w17 ⟨rfl, b17⟩
  have HB17 := Kp.mk (HB14.out.trans (b17.mono HB14.out.size))
  clear b17 hds
  go_wp2
  go_ret
  exact ⟨by trivial, HB17.out⟩
set_option maxRecDepth 20000 in
theorem again_big (c m o : Int) (ao : Option Addr) (len cap : Nat) (f : Nat → ByteArray × ByteArray) (w : World) (hl : len ≤ maxLen) (hf : TapesAt w ao len f) (ht : Tab w) (hbig : 20000 ≤ costL f len ∨ 40 < len) :
    Calls Tryz.prog 5 #[.int .i64 c, .slice ao len cap, .int .i64 m, .int .i64 o] w fun e w' => e = .returned (.bool true) ∧ Below w.heap.size w w' := by
  have HL := Kp.mk (Large_any ao len cap f w hl hf)
  rw [decide_eq_true hbig] at HL
  have HAw := Kp.mk (fun W (hW : Below w.heap.size w W) => awake_any W (ht.below hW))
  have HDr : Kp (∀ k, Below w.heap.size w (w.drewN k)) := ⟨fun k => ⟨rfl, rfl, rfl, Nat.le_refl _, fun _ _ => rfl⟩⟩
  clear hl hf ht hbig
  go_enter Tryz.func5, Tryz.ntmps5
  go_wp2_with fail
  refine HL.out.mono ?_
  rintro e w1 ⟨rfl, k, rfl⟩
  have HB0 := Kp.mk (HDr.out k)
  generalize w.drewN k = w1 at *
  go_wp2_with fail
  refine (HAw.out _ HB0.out).mono ?_
  rintro e w2 ⟨rfl, b2⟩
  have HB2 := Kp.mk (HB0.out.trans (b2.mono HB0.out.size))
  clear b2
  go_wp2
  go_ret
  exact ⟨by trivial, HB2.out⟩
set_option maxRecDepth 100000 in
theorem walkVaultAgain {H : Type} {enc : TypeId × Value → H} {b1 : Nat} {d1 : DataW H} {ps1 : List MemPlace} {ts : List TypeId} {ds : List (DataW H)} (w : World) (c : Int) (hc : (Lit.int .i64 c).wf = true)
    (v1 : Value) (hv1 : Value.okWide Tryz.prog w .any b1 44 v1) (hV1 : DataW.Trod enc Tryz.prog w 0 (fun _ => true) true 44 v1 d1 ps1)
    (m : Int) (hm : (Lit.int .i64 m).wf = true) (o : Int) (ho : (Lit.int .i64 o).wf = true)
    (hweigh : (DataW.weightsEach Tryz.prog ts ds).all (· ≤ reachBytes) = true) (ht : Tab w) :
    Calls Tryz.prog 5 #[.int .i64 c, v1, .int .i64 m, .int .i64 o] w fun e w' => e = .returned (.bool true) ∧ Below w.heap.size w w' := by
  obtain ⟨_, _, _, hv1'⟩ := Go.WideShapes.okWide_slice Tryz.underlying44 hv1
  obtain ⟨ao, len, cap, f, rfl, hl, hf⟩ := tapes_open (by rw [hv1']; rfl) hV1
  by_cases h : 20000 ≤ costL f len ∨ 40 < len
  · exact again_big c m o ao len cap f w hl hf ht h
  · exact again_core c m o ao len cap f w (wf_i64 hc) (wf_i64 hm) (wf_i64 ho) hl hf ht (by omega) (by omega)
end Go.Proofs.YtpfoekfbcpinlaaGreatDoor
