/- The walks of the reference's Encode, Size. -/
import Derived.Test.YtjpkncfmionieaaDoorHRefMay
import Derived.Deep.DrawnRows
namespace Go.Proofs.YtjpkncfmionieaaDoor
open Go.RowKit
set_option linter.unusedVariables false
attribute [local go_sem ↓] Go.wp_at_zero Go.wp_at_succ

theorem rEncode_no (q : HdV) (w : World) (h : HdAt w q) (hm : q.hv.may = false) :
    Calls Tryd.prog 29 #[q.v] w fun e w' => e = .returned (.tuple #[.string ⟨#[]⟩, .int .i64 4]) ∧ Below w.heap.size w w' := by
  have HM := Kp.mk (fun W (hW : Below w.heap.size w W) => rMay_any q W (h.below hW))
  rw [hm] at HM
  clear h hm
  obtain ⟨gen, base, snap, lo, ll, lc, lf⟩ := q
  unfold HdV.v at HM ⊢
  simp only [] at HM ⊢
  have HB1 := Kp.mk ((Below.refl w.heap.size w).alloc (Nat.le_refl _) (.cells #[.int .i64 gen, .int .i64 base, .int .i64 snap, .slice lo ll lc] 24))
  go_enter Tryd.func29, Tryd.ntmps29
  go_wp2_with fail
  refine (HM.out _ HB1.out).mono ?_
  rintro e w2 ⟨rfl, b2⟩
  have B2 := Kp.mk (HB1.out.trans (b2.mono HB1.out.size))
  clear b2
  go_wp2
  go_ret2
  exact ⟨by trivial, B2.out⟩
theorem vt_any (w1 : World) (x : Int) (h0 : 0 ≤ x) (h1 : x < 18446744073709551616) (W : World) (hW : Below w1.heap.size w1 W) :
    Calls Tryd.prog 57 #[.int .u64 x] W fun e w' => e = .returned (.string (B (Var.vb x.toNat))) ∧ Below w1.heap.size w1 w' := by
  obtain ⟨n, rfl⟩ := Int.eq_ofNat_of_zero_le h0
  rw [Int.toNat_natCast]
  exact (refVarint_any n W (by omega)).mono fun e w' ⟨he, hb⟩ => ⟨he, hW.trans (hb.mono hW.size)⟩
set_option maxRecDepth 20000 in
set_option maxHeartbeats 4000000 in
theorem rEncode_yes (q : HdV) (w : World) (h : HdAt w q) (hm : q.hv.may = true) :
    Calls Tryd.prog 29 #[q.v] w fun e w' => e = .returned (.tuple #[.string (B q.hv.enc), .int .i64 0]) ∧ Below w.heap.size w w' := by
  have HM := Kp.mk (fun W (hW : Below w.heap.size w W) => rMay_any q W (h.below hW))
  rw [hm] at HM
  obtain ⟨g1, g2, b1, b2, hne, _⟩ := Hd.may_first hm
  obtain ⟨⟨s1, s2⟩, ht⟩ := Hd.may_tapes hm
  have hn := (Hd.HV.few hm).2
  obtain ⟨gen, base, snap, lo, ll, lc, lf⟩ := q
  have HROW := Kp.mk h.row
  unfold HdV.v at HM ⊢
  unfold HdV.hv at ht g1 g2 b1 b2 s1 s2 hn ⊢
  simp only [rowI_len] at HM g1 g2 b1 b2 s1 s2 hn ht HROW ⊢
  have HT : Kp (∀ k, k < ll → 2 ≤ lf k ∧ lf k < 32) := ⟨fun k hk => ht _ (rowI_mem.2 ⟨k, hk, rfl⟩)⟩
  have hg0 : 0 ≤ gen := by omega
  have hl0 : (0 : Int) ≤ (ll : Int) := by omega
  have HEnc : Kp ((⟨gen, base, snap, rowI lf ll⟩ : Hd.HV).enc = (((Var.vb gen.toNat ++ Var.vb base.toNat) ++ Var.vb snap.toNat) ++ Var.vb (ll : Int).toNat) ++ Hd.logB (rowI lf ll)) := ⟨by simp [Hd.HV.enc, rowI_len]⟩
  have z1 := Var.vb_len10 (n := gen.toNat) (by omega)
  have z2 := Var.vb_len10 (n := base.toNat) (by omega)
  have z3 := Var.vb_len10 (n := snap.toNat) (by omega)
  have z4 := Var.vb_len10 (n := (ll : Int).toNat) (by omega)
  have HCat : Kp (((B (Var.vb gen.toNat) ++ B (Var.vb base.toNat)) ++ B (Var.vb snap.toNat)) ++ B (Var.vb (ll : Int).toNat) = B (((Var.vb gen.toNat ++ Var.vb base.toNat) ++ Var.vb snap.toNat) ++ Var.vb (ll : Int).toNat)) := ⟨by rw [B_append, B_append, B_append]⟩
  rw [HEnc.out]
  obtain ⟨w1, hw1⟩ : ∃ w1, w.alloc (.cells #[.int .i64 gen, .int .i64 base, .int .i64 snap, .slice lo ll lc] 24) = w1 := ⟨_, rfl⟩
  have HV1 := Kp.mk (fun w1 => vt_any w1 gen hg0 (by omega))
  have HV2 := Kp.mk (fun w1 => vt_any w1 base b1 (by omega))
  have HV3 := Kp.mk (fun w1 => vt_any w1 snap s1 (by omega))
  have HV4 := Kp.mk (fun w1 => vt_any w1 (ll : Int) hl0 (by omega))
  obtain ⟨pre, hpre⟩ : ∃ p, ((Var.vb gen.toNat ++ Var.vb base.toNat) ++ Var.vb snap.toNat) ++ Var.vb (ll : Int).toNat = p := ⟨_, rfl⟩
  have hpl : pre.length ≤ 40 := by rw [← hpre]; simp only [List.length_append]; omega
  rw [hpre] at HCat ⊢
  have k1 : (B (Var.vb gen.toNat)).size ≤ 10 := by rw [B_size]; exact z1
  have k2 : (B (Var.vb base.toNat)).size ≤ 10 := by rw [B_size]; exact z2
  have k3 : (B (Var.vb snap.toNat)).size ≤ 10 := by rw [B_size]; exact z3
  have k4 : (B (Var.vb (ll : Int).toNat)).size ≤ 10 := by rw [B_size]; exact z4
  generalize B (Var.vb gen.toNat) = S1 at HV1 HCat k1
  generalize B (Var.vb base.toNat) = S2 at HV2 HCat k2
  generalize B (Var.vb snap.toNat) = S3 at HV3 HCat k3
  generalize B (Var.vb (ll : Int).toNat) = S4 at HV4 HCat k4
  have m12 : (S1 ++ S2).size ≤ 20 := by rw [ByteArray.size_append]; omega
  have m123 : (S1 ++ S2 ++ S3).size ≤ 30 := by rw [ByteArray.size_append]; omega
  have n12 : ¬ 9223372036854775807 < S1.size + S2.size := by omega
  have n123 : ¬ 9223372036854775807 < (S1 ++ S2).size + S3.size := by omega
  have n1234 : ¬ 9223372036854775807 < (S1 ++ S2 ++ S3).size + S4.size := by omega
  have n123' : ¬ 9223372036854775807 < S1.size + S2.size + S3.size := by omega
  have n1234' : ¬ 9223372036854775807 < S1.size + S2.size + S3.size + S4.size := by omega
  have x1 : IntKind.u64.wrap gen = gen := by rw [IntKind.wrap_u64]; omega
  have x2 : IntKind.u64.wrap base = base := by rw [IntKind.wrap_u64]; omega
  have x3 : IntKind.u64.wrap snap = snap := by rw [IntKind.wrap_u64]; omega
  have x4 : IntKind.u64.wrap (ll : Int) = (ll : Int) := by rw [IntKind.wrap_u64]; omega
  have hbx := heap_alloc_new w (.cells #[.int .i64 gen, .int .i64 base, .int .i64 snap, .slice lo ll lc] 24)
  have HB1 := Kp.mk ((Below.refl w.heap.size w).alloc (Nat.le_refl _) (.cells #[.int .i64 gen, .int .i64 base, .int .i64 snap, .slice lo ll lc] 24))
  have HX := Kp.mk hbx
  clear hbx hw1 w1 h hm hne ht z1 z2 z3 z4 hpre HEnc
  go_enter Tryd.func29, Tryd.ntmps29
  go_wp2_with fail
  refine (HM.out _ HB1.out).mono ?_
  rintro e w2 ⟨rfl, bb⟩
  have B2 := Kp.mk (HB1.out.trans (bb.mono HB1.out.size))
  have hx2 := (bb.block _ (lt_of_block' HX.out)).trans HX.out
  have HX2 := Kp.mk hx2
  have HKeep : Kp (∀ W, Below w2.heap.size w2 W → Below w2.heap.size w2 W ∧ W.cell? ⟨w.heap.size, 0, none⟩ = some (.int .i64 gen) ∧ W.cell? ⟨w.heap.size, 1, none⟩ = some (.int .i64 base) ∧ W.cell? ⟨w.heap.size, 2, none⟩ = some (.int .i64 snap) ∧ W.cell? ⟨w.heap.size, 3, none⟩ = some (.slice lo ll lc)) := ⟨fun W hW => ⟨hW, cells4 ((hW.block _ (lt_of_block' HX2.out)).trans HX2.out)⟩⟩
  obtain ⟨-, y0, y1, y2, y3⟩ := HKeep.out w2.drew (Below.refl _ _).drew
  have hb0 : Below w2.heap.size w2 w2.drew := (Below.refl _ _).drew
  clear bb HX HM HB1 hx2
  go_wp2
  go_region_held3 (fun w' => Below w2.heap.size w2 w' ∧ w'.cell? ⟨w.heap.size, 0, none⟩ = some (.int .i64 gen) ∧ w'.cell? ⟨w.heap.size, 1, none⟩ = some (.int .i64 base) ∧ w'.cell? ⟨w.heap.size, 2, none⟩ = some (.int .i64 snap) ∧ w'.cell? ⟨w.heap.size, 3, none⟩ = some (.slice lo ll lc)) (first | exact HKeep.out _ (by assumption) | go_keep)
    (first
      | (go_at_call 57; (with_reducible refine (HV1.out w2 _ (by assumption)).mono ?_); rintro e w5 ⟨rfl, hb5⟩)
      | (go_at_call 57; (with_reducible refine (HV2.out w2 _ (by assumption)).mono ?_); rintro e w6 ⟨rfl, hb6⟩)
      | (go_at_call 57; (with_reducible refine (HV3.out w2 _ (by assumption)).mono ?_); rintro e w7 ⟨rfl, hb7⟩)
      | (go_at_call 57; (with_reducible refine (HV4.out w2 _ (by assumption)).mono ?_); rintro e w8 ⟨rfl, hb8⟩))
  have HLL : Kp (∀ k, k ≤ ll → (Hd.logB (rowI lf k)).length ≤ 300) := ⟨fun k hk => by
    have := logB_len (rowI lf k) (fun t hx => by
      obtain ⟨j, hj, rfl⟩ := rowI_mem.1 hx
      have := (HT.out j (by omega)).2
      omega)
    rw [rowI_len] at this
    omega⟩
  have HS2 := Kp.mk (fun k => logB_succ lf k)
  have HB8 := Kp.mk hb8
  have HBB := Kp.mk (fun W (hW : Below w2.heap.size w2 W) => B2.out.trans (hW.mono B2.out.size))
  rw [HCat.out]
  clear hb0 hb5 hb6 hb7 hb8 n12 n123 n1234 n123' n1234' m12 m123 k1 k2 k3 k4 x1 x2 x3 x4 HV1 HV2 HV3 HV4 HCat
  go_wp2
  go_loopw [4, 5] (fun v i wr => ∃ k : Nat, k ≤ ll ∧ i = .int .i64 k ∧ v = .string (B (pre ++ Hd.logB (rowI lf k))) ∧ Below w2.heap.size w2 wr) (fun _ i _ => ll - (intOf i).toNat)
  case atStart => exact ⟨0, by omega, rfl, by simp [rowI, Hd.logB], HB8.out⟩
  case round =>
    obtain ⟨k, hk, rfl, rfl, hb⟩ := hrel
    have HB := Kp.mk hb
    have HLk := HLL.out k hk
    have hsz : (B (pre ++ Hd.logB (rowI lf k))).size ≤ 400 := by rw [B_size, List.length_append]; omega
    have HCt : Kp (∀ x, B (pre ++ Hd.logB (rowI lf k)) ++ B x = B (pre ++ (Hd.logB (rowI lf k) ++ x))) := ⟨fun x => by rw [B_append, List.append_assoc]⟩
    obtain ⟨-, y0, y1, y2, y3⟩ := HKeep.out wr hb
    clear hb HLk
    by_cases hkl : k < ll
    · obtain ⟨a, rfl, hc⟩ := HROW.out wr (HBB.out wr HB.out) k hkl
      have hk0 : (0 : Int) ≤ (k : Int) := by omega
      have hk1 : (k : Int) < (ll : Int) := by omega
      obtain ⟨hx0, hx1⟩ := HT.out k hkl
      have HSk := Kp.mk (HS2.out k)
      generalize lf k = x at hc hx0 hx1 HSk
      have HVx := Kp.mk (vt_any w2 x (by omega) (by omega))
      have hxs : (B (Var.vb x.toNat)).size ≤ 10 := by rw [B_size]; exact Var.vb_len10 (by omega)
      have HCx := Kp.mk (HCt.out (Var.vb x.toNat))
      rw [← HSk.out] at HCx
      generalize B (Var.vb x.toNat) = X at HVx hxs HCx
      generalize B (pre ++ Hd.logB (rowI lf k)) = T at hsz HCx HCt ⊢
      have x5 : IntKind.u64.wrap x = x := by rw [IntKind.wrap_u64]; omega
      have n5 : ¬ 9223372036854775807 < T.size + X.size := by omega
      go_wp2_with fail
      refine (HVx.out _ HB.out).mono ?_
      rintro e w9 ⟨rfl, hb9⟩
      have HB9 := Kp.mk hb9
      clear hb9
      go_wp2
      go_roundw
      case rel => exact ⟨k + 1, by omega, by go_num, by rw [HCx.out], HB9.out⟩
      case measure => simp [intOf]; omega
    · obtain rfl : k = ll := by omega
      go_wp2
      go_ret2
      exact ⟨by trivial, HBB.out wr HB.out⟩
theorem rEncode_any (q : HdV) (w : World) (h : HdAt w q) :
    Calls Tryd.prog 29 #[q.v] w fun e w' => e = .returned (.tuple #[.string (encV q.hv).1, .int .i64 (encV q.hv).2]) ∧ Below w.heap.size w w' := by
  unfold encV
  cases hm : q.hv.may
  · simp only [Bool.false_eq_true, if_false]
    exact rEncode_no q w h hm
  · simp only [if_true]
    exact rEncode_yes q w h hm
theorem rSize_any (q : HdV) (w : World) (h : HdAt w q) :
    Calls Tryd.prog 32 #[q.v] w fun e w' => e = .returned (.int .i64 (HSize q.hv : Nat)) ∧ Below w.heap.size w w' := by
  have HE := Kp.mk (fun W (hW : Below w.heap.size w W) => rEncode_any q W (h.below hW))
  have HB := Kp.mk ((Below.refl w.heap.size w).alloc (Nat.le_refl _) (.cells #[.int .i64 q.gen, .int .i64 q.base, .int .i64 q.snap, .slice q.lo q.ll q.lc] 24))
  unfold HSize
  unfold encV at HE
  cases hm : q.hv.may
  · rw [hm] at HE
    simp only [Bool.false_eq_true, if_false] at HE ⊢
    unfold HdV.v at HE ⊢
    clear hm h
    go_enter Tryd.func32, Tryd.ntmps32
    go_wp2_with fail
    refine (HE.out _ HB.out).mono ?_
    rintro e w2 ⟨rfl, b2⟩
    have B2 := Kp.mk (HB.out.trans (b2.mono HB.out.size))
    clear b2
    go_wp2
    go_ret
    exact ⟨by trivial, B2.out⟩
  · rw [hm] at HE
    simp only [if_true] at HE ⊢
    have hl := enc_len hm
    have hv : ((q.hv.enc.length + 9 : Nat) : Int) = 9 + ((B q.hv.enc).size : Int) := by rw [B_size]; omega
    have hss : (B q.hv.enc).size ≤ 340 := by rw [B_size]; exact hl
    rw [hv]
    generalize B q.hv.enc = s at HE hss ⊢
    unfold HdV.v at HE ⊢
    clear hm h hl hv
    go_enter Tryd.func32, Tryd.ntmps32
    go_wp2_with fail
    refine (HE.out _ HB.out).mono ?_
    rintro e w2 ⟨rfl, b2⟩
    have B2 := Kp.mk (HB.out.trans (b2.mono HB.out.size))
    clear b2
    go_wp2
    go_ret
    exact ⟨by trivial, B2.out⟩
end Go.Proofs.YtjpkncfmionieaaDoor
