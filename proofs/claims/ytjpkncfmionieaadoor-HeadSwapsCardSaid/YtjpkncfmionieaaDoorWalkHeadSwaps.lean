/- The walk of HeadSwaps: it returns true, and leaves what was there. -/
import Derived.Test.YtjpkncfmionieaaDoorHeadSwap
namespace Go.Proofs.YtjpkncfmionieaaDoor
open Go.RowKit Go.ChangeShapes Go.WideShapes Go.Deep
set_option linter.unusedVariables false

/-- What is there through the acts: the head's box, the old head and its box, the tapes as they were. -/
structure SwS (w W : World) (b7 b14 g : Nat) (q old : HdV) (v : Value) (n : Nat) (L : List Value) : Prop where
  hx : W.heap[b7]? = some (.cells #[.int .i64 q.gen, .int .i64 q.base, .int .i64 q.snap, .slice q.lo q.ll q.lc] 24 (0, 0))
  hy : W.heap[b14]? = some (.cells #[.int .i64 old.gen, .int .i64 old.base, .int .i64 old.snap, .slice old.lo old.ll old.lc] 24 (0, 0))
  below : Below w.heap.size w W
  own : HdOwn (g + 1) W old
  row : RK 2 W v n L
  new : ∀ k, blk v = some k → g < k
  n7 : b7 ≠ g
  n14 : b14 ≠ g
  hg : w.heap.size ≤ g
section
variable {w W W' : World} {b7 b14 g : Nat} {q old : HdV} {v : Value} {n : Nat} {L : List Value}
theorem SwS.next (h : SwS w W b7 b14 g q old v n L) (hb : Below W.heap.size W W') : SwS w W' b7 b14 g q old v n L :=
  ⟨(hb.block _ (lt_of_block' h.hx)).trans h.hx, (hb.block _ (lt_of_block' h.hy)).trans h.hy, h.below.trans (hb.mono h.below.size), h.own.below hb, h.row.below hb, h.new, h.n7, h.n14, h.hg⟩
theorem SwS.chg (h : SwS w W b7 b14 g q old v n L) (c : Chg W W' g) : SwS w W' b7 b14 g q old v n L :=
  ⟨(c.block _ (lt_of_block' h.hx) (fun e => by cases e; exact h.n7 rfl)).trans h.hx, (c.block _ (lt_of_block' h.hy) (fun e => by cases e; exact h.n14 rfl)).trans h.hy, c.below h.below h.below.size h.hg,
   ⟨h.own.row.kept c (fun k hk e => by cases e; have := h.own.new _ hk; omega), h.own.new, h.own.few⟩, h.row.kept c (fun k hk e => by cases e; have := h.new _ hk; omega), h.new, h.n7, h.n14, h.hg⟩
theorem SwS.drewN (h : SwS w W b7 b14 g q old v n L) (m : Nat) : SwS w (W.drewN m) b7 b14 g q old v n L := h.next ⟨rfl, rfl, rfl, Nat.le_refl _, fun _ _ => rfl⟩
theorem SwS.was (h : SwS w W b7 b14 g q old v n L) {v' : Value} {n' : Nat} {L' : List Value} (hr : RK 2 W v' n' L') (hn : ∀ k, blk v' = some k → g < k) : SwS w W b7 b14 g q old v' n' L' :=
  ⟨h.hx, h.hy, h.below, h.own, hr, hn, h.n7, h.n14, h.hg⟩
end
theorem told_len (D : DiskV) : (tapesL D 32).length = 32 := tapesL_len D 32
theorem told_get (D : DiskV) (k : Nat) (hk : k < 32) : (tapesL D 32)[k]'(by rw [told_len]; exact hk) = told (D.tp k) := by simp [tapesL]
theorem row_told {W : World} {a : Nat} {cap : Nat} {D : DiskV} (h : RK 2 W (.slice (some ⟨a, 0, none⟩) 32 cap) 32 (trow (tapesL D 32))) (k : Nat) (hk : k < 32) : W.cell? ⟨a, k * 2, none⟩ = some (.string (told (D.tp k)).1) ∧ W.cell? ⟨a, k * 2 + 1, none⟩ = some (.string (told (D.tp k)).2) := by
  obtain ⟨h1, h2⟩ := trow_get (tapesL D 32) k (by rw [told_len]; exact hk)
  rw [told_get D k hk] at h1 h2
  exact ⟨h.cell _ _ h1, h.cell _ _ h2⟩
set_option maxRecDepth 100000 in
set_option maxHeartbeats 20000000 in
theorem swaps_core (c fail : Int) (ao : Option Addr) (len cap : Nat) (f : Nat → ByteArray × ByteArray) (q : HdV) (ko : Option Addr) (kl kc : Nat) (kf : Nat → Int) (w : World)
    (hc : i64 c) (hfl : i64 fail) (hl : len ≤ maxLen) (hf : TapesAt w ao len f) (hq : HdIn w q) (hk : IntsAt w ko kl kf) (hkl : kl ≤ 100) (hll : q.ll ≤ 100) (ht : Tab w) (hm : costM f len < 10000)
    (HMany : ∀ W, Below w.heap.size w W → Calls Tryd.prog 22 #[.slice ao len cap] W fun e w' => e = .returned (.bool false) ∧ ∃ m, w' = W.drewN m) :
    Calls Tryd.prog 7 #[.int .i64 c, .slice ao len cap, q.v, .int .i64 fail, .slice ko kl kc] w fun e w' => e = .returned (.bool true) ∧ Below w.heap.size w w' := by
  have HM := Kp.mk HMany
  have HAw := Kp.mk (fun W (hW : Below w.heap.size w W) => awake_any W (ht.below hW))
  have HTb := Kp.mk (fun W (hW : Below w.heap.size w W) => ht.below hW)
  have HTi := Kp.mk (hf.smallM hm)
  have HLd := Kp.mk (fun W (hW : Below w.heap.size w W) => dLoad_any c ao len cap f W hl hc.2 (fun W' hW' => hf.smallM hm W' (hW.trans (hW'.mono hW.size))))
  have HAt := Kp.mk (fun W (hW : Below w.heap.size w W) => (hq.below hW).at' hll)
  have HK := Kp.mk (fun W (hW : Below w.heap.size w W) => hk W hW)
  unfold maxLen at hl
  obtain ⟨hc1, hc2⟩ := hc
  obtain ⟨hf1, hf2⟩ := hfl
  obtain ⟨hv, hhv⟩ : ∃ x, q.hv = x := ⟨_, rfl⟩
  have HHv := Kp.mk hhv
  clear HMany hf hq hk ht hm hhv
  obtain ⟨gen, base, snap, lo, ll, lc, lf⟩ := q
  have HGen : Kp (hv.gen = gen) := ⟨by rw [← HHv.out]; rfl⟩
  unfold HdV.v
  simp only [] at hll ⊢
  have t1 : decide ((100 : Int) < (ll : Int)) = false := decide_eq_false (by omega)
  have t1' : decide (100 < ll) = false := decide_eq_false (by omega)
  have t2 : decide ((100 : Int) < (kl : Int)) = false := decide_eq_false (by omega)
  have t2' : decide (100 < kl) = false := decide_eq_false (by omega)
  have HB := Kp.mk ((Below.refl w.heap.size w).alloc (Nat.le_refl _) (.cells #[.int .i64 gen, .int .i64 base, .int .i64 snap, .slice lo ll lc] 24))
  have hx := heap_alloc_new w (.cells #[.int .i64 gen, .int .i64 base, .int .i64 snap, .slice lo ll lc] 24)
  have HX := Kp.mk hx
  clear hx
  go_enter Tryd.func7, Tryd.ntmps7
  go_wp2_with fail
  generalize w.alloc (.cells #[.int .i64 gen, .int .i64 base, .int .i64 snap, .slice lo ll lc] 24) = w1 at *
  refine (HM.out _ HB.out).mono ?_
  rintro e w2' ⟨rfl, md, rfl⟩
  replace HX : Kp ((w1.drewN md).heap[w.heap.size]? = _) := ⟨HX.out⟩
  replace HB : Kp (Below w.heap.size w (w1.drewN md)) := ⟨⟨HB.out.os, HB.out.tape, HB.out.output, HB.out.size, HB.out.block⟩⟩
  generalize w1.drewN md = w2 at *
  obtain ⟨y0, y1, y2, y3⟩ := cells4 HX.out
  go_wp2_with fail
  refine (HAw.out _ HB.out).mono ?_
  rintro e w3 ⟨rfl, b⟩
  replace HX := Kp.mk ((b.block _ (lt_of_block' HX.out)).trans HX.out)
  replace HB := Kp.mk (HB.out.trans (b.mono HB.out.size))
  clear b y0 y1 y2 y3
  have HG : Kp (w.heap.size < w3.heap.size) := ⟨lt_of_block' HX.out⟩
  go_wp2_with fail
  refine (HLd.out _ HB.out).mono ?_
  rintro e w4 ⟨hor, b⟩
  replace HX := Kp.mk ((b.block _ (lt_of_block' HX.out)).trans HX.out)
  replace HB := Kp.mk (HB.out.trans (b.mono HB.out.size))
  clear b
  rcases hor with ⟨er, her, rfl⟩ | ⟨hc0, rfl, hd, hok⟩
  · have t3 : (er != 0) = true := by rw [bne_iff_ne]; rcases her with rfl | rfl | rfl <;> decide
    clear her
    go_wp2
    go_ret
    exact ⟨rfl, HB.out⟩
  have HD := Kp.mk hd
  have HOk := Kp.mk hok
  have HGg : Kp (w.heap.size < w3.heap.size) := HG
  generalize w3.heap.size = g at HD HG HGg ⊢
  have HGl := Kp.mk HD.out.lt
  clear hd hok hc0
  go_wp2
  go_loopw [13] (fun iv wr => ∃ k : Nat, k ≤ len ∧ iv = .int .i64 k ∧ (∀ j, j < k → (f j).2 = ⟨#[]⟩) ∧ wr = w4) (fun iv _ => len - (intOf iv).toNat)
  case atStart => exact ⟨0, by omega, rfl, fun j hj => absurd hj (Nat.not_lt_zero j), rfl⟩
  case round =>
    obtain ⟨k, hkl2, rfl, hlo, rfl⟩ := hrel
    have HLo := Kp.mk hlo
    clear hlo
    by_cases hk2 : k < len
    · obtain ⟨a, rfl, _, _, c0, c1⟩ := HTi.out _ HB.out k hk2
      have hk0 : (0 : Int) ≤ (k : Int) := by omega
      have hk1 : (k : Int) < (len : Int) := by omega
      by_cases he : (f k).2 = ⟨#[]⟩
      · have HE : Kp (∀ j, j < k + 1 → (f j).2 = ⟨#[]⟩) := ⟨fun j hj => by
          by_cases h : j < k
          · exact HLo.out j h
          · obtain rfl : j = k := by omega
            exact he⟩
        rw [he] at c1
        clear he
        go_wp2
        go_roundw
        case rel => exact ⟨k + 1, by omega, by go_num, HE.out, by trivial⟩
        case measure => simp [intOf]; omega
      · have hs : (f k).2.toList ≠ [] := fun h => he (by
          rw [bytes_toList] at h
          generalize (f k).2 = s at h ⊢
          obtain ⟨⟨l⟩⟩ := s
          simp only [] at h
          subst h
          rfl)
        have s1 : ((f k).2.toList == []) = false := by rw [beq_eq_false_iff_ne]; exact hs
        have s2 : (f k).2.toList.isEmpty = false := by cases hh : (f k).2.toList with
          | nil => exact absurd hh hs
          | cons a b => rfl
        generalize (f k).2 = s at c1 s1 s2 hs
        clear he
        go_wp2
        go_ret
        exact ⟨rfl, HB.out⟩
    obtain rfl : k = len := by omega
    have HFi : Kp (∀ j, j < 32 → ((loadD f c k).tp j).b.size = ((loadD f c k).tp j).firm) := ⟨fun j _ => Hd.load_firm f c k HLo.out j⟩
    have hd0 : (loadD f c k).down = false := rfl
    generalize hD0 : loadD f c k = D0 at HD HOk HFi hd0
    have hdc : D0.counts = false := by rw [← hD0]; rfl
    clear hD0 HLo HTi HLd
    have HLo := Kp.mk (fun W (hW : Below w.heap.size w W) (h : DiskAt W g D0) => Load_up g D0 W h HOk.out (HTb.out W hW) hd0)
    have HSw := Kp.mk (fun (D1 : DiskV) (h1 : Ok D1) (h2 : D1.down = false) (h3 : D1.tp = D0.tp) (h4 : (Hd.diskV D0).2.2 = true → (Hd.diskV D0).1.gen < hv.gen) => Hd.swaps_out (h := hv) kl kf h1 h2 h3 HFi.out h4)
    have HDc := Kp.mk (Hd.disk_cases D0)
    have HOl := Kp.mk (Hd.other_le D0)
    generalize ht : Hd.otherV D0 = t at HSw HDc HOl
    have HDc' : Kp (((Hd.diskV D0).2.2 = false ∧ (Hd.diskV D0).2.1 = 0 ∧ t = 0) ∨ ((Hd.diskV D0).2.2 = true ∧ (Hd.diskV D0).2.1 = 1 - t)) := ⟨by
      rcases HDc.out with ⟨h1, h2, _⟩ | ⟨p, h1, h2, _⟩ | ⟨p, h1, h2, _⟩
      · rw [h1]; exact .inl ⟨rfl, rfl, h2⟩
      · rw [h1, h2]; exact .inr ⟨rfl, rfl⟩
      · rw [h1, h2]; exact .inr ⟨rfl, rfl⟩⟩
    clear HDc ht
    generalize Hd.diskV D0 = V0 at HLo HSw HDc'
    obtain ⟨old, tape, is⟩ := V0
    simp only [] at HLo HSw HDc'
    go_wp2_with fail
    refine (HLo.out _ HB.out HD.out).mono ?_
    rintro e w5 ⟨⟨go, bo, so, loo, llo, lco, lfo⟩, rfl, hqo, oo, b⟩
    unfold HdV.v
    simp only []
    have HQo := Kp.mk hqo
    have HGo : Kp (go = old.gen) := ⟨by rw [← hqo]; rfl⟩
    have hxo := (b.block _ (lt_of_block' HX.out)).trans HX.out
    have hdo := HD.out.below b
    have hb5 := HB.out.trans (b.mono HB.out.size)
    have hz5 := b.size
    have HS : Kp (SwS w (w5.alloc (.cells #[.int .i64 go, .int .i64 bo, .int .i64 so, .slice loo llo lco] 24)) w.heap.size w5.heap.size g ⟨gen, base, snap, lo, ll, lc, lf⟩ ⟨go, bo, so, loo, llo, lco, lfo⟩ (.slice none 0 0) 0 []) := ⟨by
      have hbb : Below w5.heap.size w5 (w5.alloc (.cells #[.int .i64 go, .int .i64 bo, .int .i64 so, .slice loo llo lco] 24)) := (Below.refl _ _).alloc (Nat.le_refl _) _
      exact ⟨(hbb.block _ (lt_of_block' hxo)).trans hxo, heap_alloc_new w5 _, hb5.trans (hbb.mono hb5.size), (oo.mono (by have := HGl.out; omega)).below hbb, RK.nil 2 _, fun k hk => by simp [blk] at hk, by have := HGg.out; omega, by have := HGl.out; omega, by have := HGg.out; omega⟩⟩
    have HD' : Kp (DiskAt (w5.alloc (.cells #[.int .i64 go, .int .i64 bo, .int .i64 so, .slice loo llo lco] 24)) g D0) := ⟨hdo.alloc _⟩
    clear HD HX HB hqo oo b hxo hdo hb5 hz5
    have HD := HD'
    clear HD'
    obtain ⟨y0, y1, y2, y3⟩ := cells4 HS.out.hx
    obtain ⟨z0, z1, z2, z3⟩ := cells4 HS.out.hy
    by_cases hno : is = true ∧ gen ≤ go
    · obtain ⟨rfl, hge⟩ := hno
      have t4 : decide (gen ≤ go) = true := decide_eq_true hge
      have HBe := Kp.mk HS.out.below
      go_wp2
      go_ret
      exact ⟨rfl, HBe.out⟩
    have HNew : Kp (is = true → old.gen < hv.gen) := ⟨fun h => by rw [HGen.out, ← HGo.out]; have : ¬ gen ≤ go := fun hh => hno ⟨h, hh⟩; omega⟩
    have HTp := Kp.mk (fun W (h : DiskAt W g D0) => Tapes_any g D0 W h HOk.out)
    obtain ⟨gt, hgt⟩ : ∃ b, decide (gen ≤ go) = b := ⟨_, rfl⟩
    have t4 : (is && decide (gen ≤ go)) = false := by
      cases is
      · rfl
      · rw [Bool.true_and]; exact decide_eq_false (fun h => hno ⟨rfl, h⟩)
    have HNo : Kp (is = false ∨ (is = true ∧ decide (gen ≤ go) = false)) := ⟨by
      cases is
      · exact .inl rfl
      · exact .inr ⟨rfl, decide_eq_false (fun h => hno ⟨rfl, h⟩)⟩⟩
    clear hno hgt t4 gt
    rcases HNo.out with rfl | ⟨rfl, t4⟩
    · go_wp2_with fail
      generalize w5.alloc (.cells #[.int .i64 go, .int .i64 bo, .int .i64 so, .slice loo llo lco] 24) = w6 at *
      generalize w5.heap.size = b14 at HS ⊢
      refine (HTp.out _ HD.out).mono ?_
      rintro e w7 ⟨aw, cw, rfl, rw7, nw7⟩
      obtain ⟨gw, cw', hew, _⟩ := rw7.at_ (by decide)
      simp only [Value.slice.injEq] at hew
      obtain ⟨rfl, _, rfl⟩ := hew
      replace HS := Kp.mk ((HS.out.next nw7.below).was rw7 (fun k hk => by have := nw7.new k hk; have := HD.out.lt; omega))
      replace HD := Kp.mk (HD.out.below nw7.below)
      clear rw7 nw7 y0 y1 y2 y3 z0 z1 z2 z3
      obtain ⟨y0, y1, y2, y3⟩ := cells4 HS.out.hx
      obtain ⟨z0, z1, z2, z3⟩ := cells4 HS.out.hy
      by_cases hfn : 0 ≤ fail
      · have t5 : decide ((0 : Int) ≤ fail) = true := decide_eq_true hfn
        have HF5 : Kp (0 ≤ fail % 5 ∧ fail % 5 ≤ 4) := ⟨by omega⟩
        have hm5 : fail.tmod 5 = fail % 5 := Int.tmod_eq_emod_of_nonneg hfn
        have HFa := Kp.mk (Fail_any g D0 (fail % 5) w7 HD.out)
        have hfv : failV D0 (fail % 5) = (0, { D0 with counts := true, left := fail % 5 }) := by unfold failV; rw [if_neg (by simp [hd0]), if_neg (by have := HF5.out; omega)]
        have hok1 := HOk.out.failV (fail % 5) (by have := HF5.out; omega)
        rw [hfv] at HFa hok1
        simp only [] at HFa hok1
        have hd1 : ({ D0 with counts := true, left := fail % 5 } : DiskV).down = false := hd0
        have htp1 : ({ D0 with counts := true, left := fail % 5 } : DiskV).tp = D0.tp := rfl
        generalize ({ D0 with counts := true, left := fail % 5 } : DiskV) = D1 at HFa hok1 hd1 htp1
        clear hfv
        go_wp2_with fail
        refine HFa.out.mono ?_
        rintro e w8 ⟨rfl, d8, k8⟩
        replace HS := Kp.mk (HS.out.chg k8)
        replace HD := Kp.mk d8
        clear d8 k8 HFa y0 y1 y2 y3 z0 z1 z2 z3 hm5
        obtain ⟨y0, y1, y2, y3⟩ := cells4 HS.out.hx
        obtain ⟨z0, z1, z2, z3⟩ := cells4 HS.out.hy
        obtain ⟨hdn, hot, hout⟩ := HSw.out D1 hok1 hd1 htp1 HNew.out
        have HPu := Kp.mk (HPut_any g D1 ⟨gen, base, snap, lo, ll, lc, lf⟩ w8 HD.out hok1 (HTb.out _ HS.out.below) (HAt.out _ HS.out.below))
        have hok2 := Hd.putV_ok hok1 hv
        rw [HHv.out] at HPu
        generalize Hd.putV D1 hv = P at HPu hdn hot hout hok2
        obtain ⟨pf, D2⟩ := P
        simp only [] at HPu hdn hot hout hok2
        unfold HdV.v at HPu
        simp only [] at HPu
        have HOk2 := Kp.mk hok2
        have hok3 := hok2.back kl kf
        have HOt := Kp.mk hot
        have HOut := Kp.mk hout
        have HDn := Kp.mk hdn
        clear hot hout hdn hok1 hd1 htp1 hok2
        go_wp2_with fail
        refine HPu.out.mono ?_
        rintro e w9 ⟨rfl, d9, k9⟩
        replace HS := Kp.mk (HS.out.chg k9)
        have HD2 := Kp.mk d9
        have HUp := Kp.mk (Up_any g D2 w9 d9)
        rw [HDn.out] at HUp
        have HBk := Kp.mk (Back_any g D2 ko kl kc kf w9 d9 HOk2.out (by unfold maxLen; omega) (fun W hW j hj => by
          obtain ⟨a, h1, h2⟩ := HK.out W (hW.below HS.out.below HS.out.below.size HS.out.hg) j hj
          exact ⟨a, h1, h2⟩))
        have t8 : ((!decide (pf = 45)) == (pf == 45)) = false := by by_cases h : pf = 45 <;> simp [h]
        obtain ⟨up, hup⟩ : ∃ b, (!decide (pf = 45)) = b := ⟨_, rfl⟩
        rw [hup] at HUp t8
        clear hup d9 k9 HPu HD y0 y1 y2 y3 z0 z1 z2 z3 HDn
        go_wp2_with fail
        refine HUp.out.mono ?_
        rintro e w9' ⟨rfl, rfl⟩
        go_wp2_with fail
        refine HBk.out.mono ?_
        rintro e w10 ⟨rfl, d10, k10⟩
        replace HS := Kp.mk (HS.out.chg k10)
        have hd3 : (backV D2 kl kf).down = false := rfl
        have HL3 := Kp.mk (Load_up g (backV D2 kl kf) w10 d10 hok3 (HTb.out _ HS.out.below) hd3)
        have HT3 := Kp.mk (fun W (h : DiskAt W g (backV D2 kl kf)) => Tapes_any g (backV D2 kl kf) W h hok3)
        have HD3 := Kp.mk d10
        generalize backV D2 kl kf = D3 at HL3 HT3 HD3 HOt HOut
        generalize Hd.diskV D3 = V3 at HL3 HOut
        obtain ⟨now, tpn, there⟩ := V3
        simp only [Prod.mk.injEq] at HL3 HOut
        clear hd3 hok3 d10 k10 HBk HUp HD2
        go_wp2_with fail
        refine HL3.out.mono ?_
        rintro e w11 ⟨⟨gn, bn, sn, lon, lln, lcn, lfn⟩, rfl, hqn, on, b⟩
        unfold HdV.v
        simp only []
        have HQn := Kp.mk hqn
        replace HS := Kp.mk ((HS.out.next b).next ((Below.refl _ _).alloc (Nat.le_refl _) (.cells #[.int .i64 gn, .int .i64 bn, .int .i64 sn, .slice lon lln lcn] 24)))
        have HN : Kp ((w11.alloc (.cells #[.int .i64 gn, .int .i64 bn, .int .i64 sn, .slice lon lln lcn] 24)).heap[w11.heap.size]? = some (.cells #[.int .i64 gn, .int .i64 bn, .int .i64 sn, .slice lon lln lcn] 24 (0, 0))) := ⟨heap_alloc_new w11 _⟩
        have HOn := Kp.mk (on.below ((Below.refl _ _).alloc (Nat.le_refl _) (.cells #[.int .i64 gn, .int .i64 bn, .int .i64 sn, .slice lon lln lcn] 24)))
        replace HD3 := Kp.mk ((HD3.out.below b).alloc (.cells #[.int .i64 gn, .int .i64 bn, .int .i64 sn, .slice lon lln lcn] 24))
        clear b on hqn HL3
        go_wp2_with fail
        generalize w11.alloc (.cells #[.int .i64 gn, .int .i64 bn, .int .i64 sn, .slice lon lln lcn] 24) = w12 at *
        generalize w11.heap.size = b19 at HN ⊢
        refine (HT3.out _ HD3.out).mono ?_
        rintro e w13 ⟨an, cn, rfl, rn, nn⟩
        obtain ⟨gtn, cn', hen, _⟩ := rn.at_ (by decide)
        simp only [Value.slice.injEq] at hen
        obtain ⟨rfl, _, rfl⟩ := hen
        replace HS := Kp.mk (HS.out.next nn.below)
        replace HN := Kp.mk ((nn.below.block _ (lt_of_block' HN.out)).trans HN.out)
        replace HOn := Kp.mk (HOn.out.below nn.below)
        have HRn := Kp.mk rn
        clear rn nn HT3 HD3
        go_wp2
        go_loopw [24] (fun iv wr => ∃ k m : Nat, k ≤ 32 ∧ iv = .int .i64 k ∧ wr = w13.drewN m) (fun iv _ => 32 - (intOf iv).toNat)
        case atStart => exact ⟨0, 0, by omega, rfl, rfl⟩
        case round =>
          obtain ⟨k, md2, hk32, rfl, rfl⟩ := hrel
          by_cases hk2 : k < 32
          · obtain ⟨c0, c1⟩ := row_told HRn.out k hk2
            obtain ⟨e0, e1⟩ := row_told HS.out.row k hk2
            have hk0 : (0 : Int) ≤ (k : Int) := by omega
            have hk1 : (k : Int) < 32 := by omega
            by_cases hkt : k = t
            · have t6 : decide ((1 : Int) < (k : Int)) = false := decide_eq_false (by have := HOl.out; omega)
              have t6' : decide (1 < k) = false := decide_eq_false (by have := HOl.out; omega)
              have ht0 : t = 0 := by rcases HDc'.out with ⟨_, _, h⟩ | ⟨h, _⟩; exact h; cases h
              have t7 : ((k : Int) == 1) = false := by rw [beq_eq_false_iff_ne]; omega
              clear hkt
              generalize (told (D3.tp k)).1 = F at c0
              generalize (told (D3.tp k)).2 = G at c1
              generalize (told (D0.tp k)).1 = F' at e0
              generalize (told (D0.tp k)).2 = G' at e1
              cases s1 : (F.toList == F'.toList)
              · cases s2 : (G.toList == G'.toList)
                all_goals go_wp2_with fail
                all_goals go_quiet (fail)
                all_goals go_wp2
                all_goals go_roundw
                case rel => exact ⟨k + 1, _, by omega, by go_num, rfl⟩
                case measure => simp [intOf]; omega
                case rel => exact ⟨k + 1, _, by omega, by go_num, rfl⟩
                case measure => simp [intOf]; omega
              · cases s2 : (G.toList == G'.toList)
                all_goals go_wp2_with fail
                all_goals go_quiet (fail)
                all_goals go_wp2
                all_goals go_roundw
                case rel => exact ⟨k + 1, _, by omega, by go_num, rfl⟩
                case measure => simp [intOf]; omega
                case rel => exact ⟨k + 1, _, by omega, by go_num, rfl⟩
                case measure => simp [intOf]; omega
            · rw [HOt.out k hk2 hkt] at c0 c1
              generalize (told (D0.tp k)).1 = F at c0 e0
              generalize (told (D0.tp k)).2 = G at c1 e1
              have s1 : (F.toList == F.toList) = true := by simp
              have s2 : (G.toList == G.toList) = true := by simp
              clear hkt
              go_wp2_with fail
              go_quiet (fail)
              go_wp2
              go_roundw
              case rel => exact ⟨k + 1, _, by omega, by go_num, rfl⟩
              case measure => simp [intOf]; omega
          · obtain rfl : k = 32 := by omega
            replace HS := Kp.mk (HS.out.drewN md2)
            replace HN : Kp ((w13.drewN md2).heap[b19]? = some (.cells #[.int .i64 gn, .int .i64 bn, .int .i64 sn, .slice lon lln lcn] 24 (0, 0))) := ⟨HN.out⟩
            replace HOn := Kp.mk (HOn.out.below (w' := w13.drewN md2) ⟨rfl, rfl, rfl, Nat.le_refl _, fun _ _ => rfl⟩)
            generalize w13.drewN md2 = w14 at HS HN HOn ⊢
            obtain ⟨y0, y1, y2, y3⟩ := cells4 HS.out.hx
            obtain ⟨z0, z1, z2, z3⟩ := cells4 HS.out.hy
            obtain ⟨x0, x1, x2, x3⟩ := cells4 HN.out
            have HSO := Kp.mk (Same_any ⟨gn, bn, sn, lon, lln, lcn, lfn⟩ ⟨go, bo, so, loo, llo, lco, lfo⟩ w14 HOn.out.at' HS.out.own.at')
            have HSH := Kp.mk (Same_any ⟨gn, bn, sn, lon, lln, lcn, lfn⟩ ⟨gen, base, snap, lo, ll, lc, lf⟩ w14 HOn.out.at' (HAt.out _ HS.out.below))
            have HMy := Kp.mk (fun W (hW : Below w14.heap.size w14 W) => May_at (HAt.out W (HS.out.below.trans (hW.mono HS.out.below.size))))
            have HKe := Kp.mk (fun W (hW : Below w14.heap.size w14 W) => HS.out.next hW)
            have HNe := Kp.mk (fun W (hW : Below w14.heap.size w14 W) => (hW.block _ (lt_of_block' HN.out)).trans HN.out)
            have HOe := Kp.mk (fun W (hW : Below w14.heap.size w14 W) => HOn.out.below hW)
            rw [HQn.out, HQo.out] at HSO
            rw [HQn.out, HHv.out] at HSH
            rw [HHv.out] at HMy
            unfold HdV.v at HSO HSH HMy
            simp only [] at HSO HSH HMy
            rcases HOut.out with ⟨⟨hn1, hn2, hn3⟩, hpf⟩ | ⟨⟨hn1, hn2, hn3⟩, hpf⟩
            · subst hn1 hn2 hn3
              rw [Hd.sameB_iff.2 rfl] at HSO
              have hf0 : (pf != 0) = true := by rw [bne_iff_ne]; rcases hpf with rfl | rfl | ⟨rfl, _⟩ <;> decide
              by_cases h4 : pf = 4
              · subst h4
                have hmay : hv.may = false := by rcases hpf with h | h | ⟨_, h⟩; exact absurd h (by decide); exact absurd h (by decide); exact h
                rw [hmay] at HMy
                go_wp2_with fail
                refine HSO.out.mono ?_
                rintro e w15 ⟨rfl, b⟩
                obtain ⟨u0, u1, u2, u3⟩ := cells4 (HKe.out _ b).hx
                have HB5 := Kp.mk b
                clear b
                go_wp2_with fail
                refine (HMy.out _ HB5.out).mono ?_
                rintro e w16 ⟨rfl, b⟩
                have HBz := Kp.mk ((HKe.out _ HB5.out).below.trans (b.mono (HKe.out _ HB5.out).below.size))
                clear b
                go_wp2
                go_ret
                exact ⟨by trivial, HBz.out⟩
              · have hf4 : (pf != 4) = true := by rw [bne_iff_ne]; exact h4
                clear hpf h4
                go_wp2_with fail
                refine HSO.out.mono ?_
                rintro e w15 ⟨rfl, b⟩
                have HBz := Kp.mk (HKe.out _ b).below
                clear b
                go_wp2
                go_ret
                exact ⟨by trivial, HBz.out⟩
            · subst hn1 hn2 hn3
              rw [Hd.sameB_iff.2 rfl] at HSH
              have hf4 : (pf != 4) = true := by rw [bne_iff_ne]; rcases hpf with rfl | rfl <;> decide
              by_cases h0 : pf = 0
              · subst h0
                go_wp2_with fail
                refine HSH.out.mono ?_
                rintro e w15 ⟨rfl, b⟩
                have HBz := Kp.mk (HKe.out _ b).below
                clear b
                go_wp2
                go_ret
                exact ⟨by trivial, HBz.out⟩
              · have hf0 : (pf != 0) = true := by rw [bne_iff_ne]; exact h0
                clear hpf h0
                go_wp2_with fail
                refine HSH.out.mono ?_
                rintro e w15 ⟨rfl, b⟩
                have HBz := Kp.mk (HKe.out _ b).below
                clear b
                go_wp2
                go_ret
                exact ⟨by trivial, HBz.out⟩
      · have t5 : decide ((0 : Int) ≤ fail) = false := decide_eq_false hfn
        have hok1 := HOk.out
        have hd1 := hd0
        have htp1 : D0.tp = D0.tp := rfl
        have HT0 : Kp (tapesL D0 32 = tapesL D0 32) := ⟨rfl⟩
        obtain ⟨hdn, hot, hout⟩ := HSw.out D0 hok1 hd1 htp1 HNew.out
        have HPu := Kp.mk (HPut_any g D0 ⟨gen, base, snap, lo, ll, lc, lf⟩ w7 HD.out hok1 (HTb.out _ HS.out.below) (HAt.out _ HS.out.below))
        have hok2 := Hd.putV_ok hok1 hv
        rw [HHv.out] at HPu
        generalize Hd.putV D0 hv = P at HPu hdn hot hout hok2
        obtain ⟨pf, D2⟩ := P
        simp only [] at HPu hdn hot hout hok2
        unfold HdV.v at HPu
        simp only [] at HPu
        have HOk2 := Kp.mk hok2
        have hok3 := hok2.back kl kf
        have HOt := Kp.mk hot
        have HOut := Kp.mk hout
        have HDn := Kp.mk hdn
        clear hot hout hdn hok1 hd1 htp1 hok2
        go_wp2_with fail
        refine HPu.out.mono ?_
        rintro e w9 ⟨rfl, d9, k9⟩
        replace HS := Kp.mk (HS.out.chg k9)
        have HD2 := Kp.mk d9
        have HUp := Kp.mk (Up_any g D2 w9 d9)
        rw [HDn.out] at HUp
        have HBk := Kp.mk (Back_any g D2 ko kl kc kf w9 d9 HOk2.out (by unfold maxLen; omega) (fun W hW j hj => by
          obtain ⟨a, h1, h2⟩ := HK.out W (hW.below HS.out.below HS.out.below.size HS.out.hg) j hj
          exact ⟨a, h1, h2⟩))
        have t8 : ((!decide (pf = 45)) == (pf == 45)) = false := by by_cases h : pf = 45 <;> simp [h]
        obtain ⟨up, hup⟩ : ∃ b, (!decide (pf = 45)) = b := ⟨_, rfl⟩
        rw [hup] at HUp t8
        clear hup d9 k9 HPu HD y0 y1 y2 y3 z0 z1 z2 z3 HDn
        go_wp2_with fail
        refine HUp.out.mono ?_
        rintro e w9' ⟨rfl, rfl⟩
        go_wp2_with fail
        refine HBk.out.mono ?_
        rintro e w10 ⟨rfl, d10, k10⟩
        replace HS := Kp.mk (HS.out.chg k10)
        have hd3 : (backV D2 kl kf).down = false := rfl
        have HL3 := Kp.mk (Load_up g (backV D2 kl kf) w10 d10 hok3 (HTb.out _ HS.out.below) hd3)
        have HT3 := Kp.mk (fun W (h : DiskAt W g (backV D2 kl kf)) => Tapes_any g (backV D2 kl kf) W h hok3)
        have HD3 := Kp.mk d10
        generalize backV D2 kl kf = D3 at HL3 HT3 HD3 HOt HOut
        generalize Hd.diskV D3 = V3 at HL3 HOut
        obtain ⟨now, tpn, there⟩ := V3
        simp only [Prod.mk.injEq] at HL3 HOut
        clear hd3 hok3 d10 k10 HBk HUp HD2
        go_wp2_with fail
        refine HL3.out.mono ?_
        rintro e w11 ⟨⟨gn, bn, sn, lon, lln, lcn, lfn⟩, rfl, hqn, on, b⟩
        unfold HdV.v
        simp only []
        have HQn := Kp.mk hqn
        replace HS := Kp.mk ((HS.out.next b).next ((Below.refl _ _).alloc (Nat.le_refl _) (.cells #[.int .i64 gn, .int .i64 bn, .int .i64 sn, .slice lon lln lcn] 24)))
        have HN : Kp ((w11.alloc (.cells #[.int .i64 gn, .int .i64 bn, .int .i64 sn, .slice lon lln lcn] 24)).heap[w11.heap.size]? = some (.cells #[.int .i64 gn, .int .i64 bn, .int .i64 sn, .slice lon lln lcn] 24 (0, 0))) := ⟨heap_alloc_new w11 _⟩
        have HOn := Kp.mk (on.below ((Below.refl _ _).alloc (Nat.le_refl _) (.cells #[.int .i64 gn, .int .i64 bn, .int .i64 sn, .slice lon lln lcn] 24)))
        replace HD3 := Kp.mk ((HD3.out.below b).alloc (.cells #[.int .i64 gn, .int .i64 bn, .int .i64 sn, .slice lon lln lcn] 24))
        clear b on hqn HL3
        go_wp2_with fail
        generalize w11.alloc (.cells #[.int .i64 gn, .int .i64 bn, .int .i64 sn, .slice lon lln lcn] 24) = w12 at *
        generalize w11.heap.size = b19 at HN ⊢
        refine (HT3.out _ HD3.out).mono ?_
        rintro e w13 ⟨an, cn, rfl, rn, nn⟩
        obtain ⟨gtn, cn', hen, _⟩ := rn.at_ (by decide)
        simp only [Value.slice.injEq] at hen
        obtain ⟨rfl, _, rfl⟩ := hen
        replace HS := Kp.mk (HS.out.next nn.below)
        replace HN := Kp.mk ((nn.below.block _ (lt_of_block' HN.out)).trans HN.out)
        replace HOn := Kp.mk (HOn.out.below nn.below)
        have HRn := Kp.mk rn
        clear rn nn HT3 HD3
        go_wp2
        go_loopw [24] (fun iv wr => ∃ k m : Nat, k ≤ 32 ∧ iv = .int .i64 k ∧ wr = w13.drewN m) (fun iv _ => 32 - (intOf iv).toNat)
        case atStart => exact ⟨0, 0, by omega, rfl, rfl⟩
        case round =>
          obtain ⟨k, md2, hk32, rfl, rfl⟩ := hrel
          by_cases hk2 : k < 32
          · obtain ⟨c0, c1⟩ := row_told HRn.out k hk2
            obtain ⟨e0, e1⟩ := row_told HS.out.row k hk2
            have hk0 : (0 : Int) ≤ (k : Int) := by omega
            have hk1 : (k : Int) < 32 := by omega
            by_cases hkt : k = t
            · have t6 : decide ((1 : Int) < (k : Int)) = false := decide_eq_false (by have := HOl.out; omega)
              have t6' : decide (1 < k) = false := decide_eq_false (by have := HOl.out; omega)
              have ht0 : t = 0 := by rcases HDc'.out with ⟨_, _, h⟩ | ⟨h, _⟩; exact h; cases h
              have t7 : ((k : Int) == 1) = false := by rw [beq_eq_false_iff_ne]; omega
              clear hkt
              generalize (told (D3.tp k)).1 = F at c0
              generalize (told (D3.tp k)).2 = G at c1
              generalize (told (D0.tp k)).1 = F' at e0
              generalize (told (D0.tp k)).2 = G' at e1
              cases s1 : (F.toList == F'.toList)
              · cases s2 : (G.toList == G'.toList)
                all_goals go_wp2_with fail
                all_goals go_quiet (fail)
                all_goals go_wp2
                all_goals go_roundw
                case rel => exact ⟨k + 1, _, by omega, by go_num, rfl⟩
                case measure => simp [intOf]; omega
                case rel => exact ⟨k + 1, _, by omega, by go_num, rfl⟩
                case measure => simp [intOf]; omega
              · cases s2 : (G.toList == G'.toList)
                all_goals go_wp2_with fail
                all_goals go_quiet (fail)
                all_goals go_wp2
                all_goals go_roundw
                case rel => exact ⟨k + 1, _, by omega, by go_num, rfl⟩
                case measure => simp [intOf]; omega
                case rel => exact ⟨k + 1, _, by omega, by go_num, rfl⟩
                case measure => simp [intOf]; omega
            · rw [HOt.out k hk2 hkt] at c0 c1
              generalize (told (D0.tp k)).1 = F at c0 e0
              generalize (told (D0.tp k)).2 = G at c1 e1
              have s1 : (F.toList == F.toList) = true := by simp
              have s2 : (G.toList == G.toList) = true := by simp
              clear hkt
              go_wp2_with fail
              go_quiet (fail)
              go_wp2
              go_roundw
              case rel => exact ⟨k + 1, _, by omega, by go_num, rfl⟩
              case measure => simp [intOf]; omega
          · obtain rfl : k = 32 := by omega
            replace HS := Kp.mk (HS.out.drewN md2)
            replace HN : Kp ((w13.drewN md2).heap[b19]? = some (.cells #[.int .i64 gn, .int .i64 bn, .int .i64 sn, .slice lon lln lcn] 24 (0, 0))) := ⟨HN.out⟩
            replace HOn := Kp.mk (HOn.out.below (w' := w13.drewN md2) ⟨rfl, rfl, rfl, Nat.le_refl _, fun _ _ => rfl⟩)
            generalize w13.drewN md2 = w14 at HS HN HOn ⊢
            obtain ⟨y0, y1, y2, y3⟩ := cells4 HS.out.hx
            obtain ⟨z0, z1, z2, z3⟩ := cells4 HS.out.hy
            obtain ⟨x0, x1, x2, x3⟩ := cells4 HN.out
            have HSO := Kp.mk (Same_any ⟨gn, bn, sn, lon, lln, lcn, lfn⟩ ⟨go, bo, so, loo, llo, lco, lfo⟩ w14 HOn.out.at' HS.out.own.at')
            have HSH := Kp.mk (Same_any ⟨gn, bn, sn, lon, lln, lcn, lfn⟩ ⟨gen, base, snap, lo, ll, lc, lf⟩ w14 HOn.out.at' (HAt.out _ HS.out.below))
            have HMy := Kp.mk (fun W (hW : Below w14.heap.size w14 W) => May_at (HAt.out W (HS.out.below.trans (hW.mono HS.out.below.size))))
            have HKe := Kp.mk (fun W (hW : Below w14.heap.size w14 W) => HS.out.next hW)
            have HNe := Kp.mk (fun W (hW : Below w14.heap.size w14 W) => (hW.block _ (lt_of_block' HN.out)).trans HN.out)
            have HOe := Kp.mk (fun W (hW : Below w14.heap.size w14 W) => HOn.out.below hW)
            rw [HQn.out, HQo.out] at HSO
            rw [HQn.out, HHv.out] at HSH
            rw [HHv.out] at HMy
            unfold HdV.v at HSO HSH HMy
            simp only [] at HSO HSH HMy
            rcases HOut.out with ⟨⟨hn1, hn2, hn3⟩, hpf⟩ | ⟨⟨hn1, hn2, hn3⟩, hpf⟩
            · subst hn1 hn2 hn3
              rw [Hd.sameB_iff.2 rfl] at HSO
              have hf0 : (pf != 0) = true := by rw [bne_iff_ne]; rcases hpf with rfl | rfl | ⟨rfl, _⟩ <;> decide
              by_cases h4 : pf = 4
              · subst h4
                have hmay : hv.may = false := by rcases hpf with h | h | ⟨_, h⟩; exact absurd h (by decide); exact absurd h (by decide); exact h
                rw [hmay] at HMy
                go_wp2_with fail
                refine HSO.out.mono ?_
                rintro e w15 ⟨rfl, b⟩
                obtain ⟨u0, u1, u2, u3⟩ := cells4 (HKe.out _ b).hx
                have HB5 := Kp.mk b
                clear b
                go_wp2_with fail
                refine (HMy.out _ HB5.out).mono ?_
                rintro e w16 ⟨rfl, b⟩
                have HBz := Kp.mk ((HKe.out _ HB5.out).below.trans (b.mono (HKe.out _ HB5.out).below.size))
                clear b
                go_wp2
                go_ret
                exact ⟨by trivial, HBz.out⟩
              · have hf4 : (pf != 4) = true := by rw [bne_iff_ne]; exact h4
                clear hpf h4
                go_wp2_with fail
                refine HSO.out.mono ?_
                rintro e w15 ⟨rfl, b⟩
                have HBz := Kp.mk (HKe.out _ b).below
                clear b
                go_wp2
                go_ret
                exact ⟨by trivial, HBz.out⟩
            · subst hn1 hn2 hn3
              rw [Hd.sameB_iff.2 rfl] at HSH
              have hf4 : (pf != 4) = true := by rw [bne_iff_ne]; rcases hpf with rfl | rfl <;> decide
              by_cases h0 : pf = 0
              · subst h0
                go_wp2_with fail
                refine HSH.out.mono ?_
                rintro e w15 ⟨rfl, b⟩
                have HBz := Kp.mk (HKe.out _ b).below
                clear b
                go_wp2
                go_ret
                exact ⟨by trivial, HBz.out⟩
              · have hf0 : (pf != 0) = true := by rw [bne_iff_ne]; exact h0
                clear hpf h0
                go_wp2_with fail
                refine HSH.out.mono ?_
                rintro e w15 ⟨rfl, b⟩
                have HBz := Kp.mk (HKe.out _ b).below
                clear b
                go_wp2
                go_ret
                exact ⟨by trivial, HBz.out⟩
    · go_wp2_with fail
      generalize w5.alloc (.cells #[.int .i64 go, .int .i64 bo, .int .i64 so, .slice loo llo lco] 24) = w6 at *
      generalize w5.heap.size = b14 at HS ⊢
      refine (HTp.out _ HD.out).mono ?_
      rintro e w7 ⟨aw, cw, rfl, rw7, nw7⟩
      obtain ⟨gw, cw', hew, _⟩ := rw7.at_ (by decide)
      simp only [Value.slice.injEq] at hew
      obtain ⟨rfl, _, rfl⟩ := hew
      replace HS := Kp.mk ((HS.out.next nw7.below).was rw7 (fun k hk => by have := nw7.new k hk; have := HD.out.lt; omega))
      replace HD := Kp.mk (HD.out.below nw7.below)
      clear rw7 nw7 y0 y1 y2 y3 z0 z1 z2 z3
      obtain ⟨y0, y1, y2, y3⟩ := cells4 HS.out.hx
      obtain ⟨z0, z1, z2, z3⟩ := cells4 HS.out.hy
      by_cases hfn : 0 ≤ fail
      · have t5 : decide ((0 : Int) ≤ fail) = true := decide_eq_true hfn
        have HF5 : Kp (0 ≤ fail % 5 ∧ fail % 5 ≤ 4) := ⟨by omega⟩
        have hm5 : fail.tmod 5 = fail % 5 := Int.tmod_eq_emod_of_nonneg hfn
        have HFa := Kp.mk (Fail_any g D0 (fail % 5) w7 HD.out)
        have hfv : failV D0 (fail % 5) = (0, { D0 with counts := true, left := fail % 5 }) := by unfold failV; rw [if_neg (by simp [hd0]), if_neg (by have := HF5.out; omega)]
        have hok1 := HOk.out.failV (fail % 5) (by have := HF5.out; omega)
        rw [hfv] at HFa hok1
        simp only [] at HFa hok1
        have hd1 : ({ D0 with counts := true, left := fail % 5 } : DiskV).down = false := hd0
        have htp1 : ({ D0 with counts := true, left := fail % 5 } : DiskV).tp = D0.tp := rfl
        generalize ({ D0 with counts := true, left := fail % 5 } : DiskV) = D1 at HFa hok1 hd1 htp1
        clear hfv
        go_wp2_with fail
        refine HFa.out.mono ?_
        rintro e w8 ⟨rfl, d8, k8⟩
        replace HS := Kp.mk (HS.out.chg k8)
        replace HD := Kp.mk d8
        clear d8 k8 HFa y0 y1 y2 y3 z0 z1 z2 z3 hm5
        obtain ⟨y0, y1, y2, y3⟩ := cells4 HS.out.hx
        obtain ⟨z0, z1, z2, z3⟩ := cells4 HS.out.hy
        obtain ⟨hdn, hot, hout⟩ := HSw.out D1 hok1 hd1 htp1 HNew.out
        have HPu := Kp.mk (HPut_any g D1 ⟨gen, base, snap, lo, ll, lc, lf⟩ w8 HD.out hok1 (HTb.out _ HS.out.below) (HAt.out _ HS.out.below))
        have hok2 := Hd.putV_ok hok1 hv
        rw [HHv.out] at HPu
        generalize Hd.putV D1 hv = P at HPu hdn hot hout hok2
        obtain ⟨pf, D2⟩ := P
        simp only [] at HPu hdn hot hout hok2
        unfold HdV.v at HPu
        simp only [] at HPu
        have HOk2 := Kp.mk hok2
        have hok3 := hok2.back kl kf
        have HOt := Kp.mk hot
        have HOut := Kp.mk hout
        have HDn := Kp.mk hdn
        clear hot hout hdn hok1 hd1 htp1 hok2
        go_wp2_with fail
        refine HPu.out.mono ?_
        rintro e w9 ⟨rfl, d9, k9⟩
        replace HS := Kp.mk (HS.out.chg k9)
        have HD2 := Kp.mk d9
        have HUp := Kp.mk (Up_any g D2 w9 d9)
        rw [HDn.out] at HUp
        have HBk := Kp.mk (Back_any g D2 ko kl kc kf w9 d9 HOk2.out (by unfold maxLen; omega) (fun W hW j hj => by
          obtain ⟨a, h1, h2⟩ := HK.out W (hW.below HS.out.below HS.out.below.size HS.out.hg) j hj
          exact ⟨a, h1, h2⟩))
        have t8 : ((!decide (pf = 45)) == (pf == 45)) = false := by by_cases h : pf = 45 <;> simp [h]
        obtain ⟨up, hup⟩ : ∃ b, (!decide (pf = 45)) = b := ⟨_, rfl⟩
        rw [hup] at HUp t8
        clear hup d9 k9 HPu HD y0 y1 y2 y3 z0 z1 z2 z3 HDn
        go_wp2_with fail
        refine HUp.out.mono ?_
        rintro e w9' ⟨rfl, rfl⟩
        go_wp2_with fail
        refine HBk.out.mono ?_
        rintro e w10 ⟨rfl, d10, k10⟩
        replace HS := Kp.mk (HS.out.chg k10)
        have hd3 : (backV D2 kl kf).down = false := rfl
        have HL3 := Kp.mk (Load_up g (backV D2 kl kf) w10 d10 hok3 (HTb.out _ HS.out.below) hd3)
        have HT3 := Kp.mk (fun W (h : DiskAt W g (backV D2 kl kf)) => Tapes_any g (backV D2 kl kf) W h hok3)
        have HD3 := Kp.mk d10
        generalize backV D2 kl kf = D3 at HL3 HT3 HD3 HOt HOut
        generalize Hd.diskV D3 = V3 at HL3 HOut
        obtain ⟨now, tpn, there⟩ := V3
        simp only [Prod.mk.injEq] at HL3 HOut
        clear hd3 hok3 d10 k10 HBk HUp HD2
        go_wp2_with fail
        refine HL3.out.mono ?_
        rintro e w11 ⟨⟨gn, bn, sn, lon, lln, lcn, lfn⟩, rfl, hqn, on, b⟩
        unfold HdV.v
        simp only []
        have HQn := Kp.mk hqn
        replace HS := Kp.mk ((HS.out.next b).next ((Below.refl _ _).alloc (Nat.le_refl _) (.cells #[.int .i64 gn, .int .i64 bn, .int .i64 sn, .slice lon lln lcn] 24)))
        have HN : Kp ((w11.alloc (.cells #[.int .i64 gn, .int .i64 bn, .int .i64 sn, .slice lon lln lcn] 24)).heap[w11.heap.size]? = some (.cells #[.int .i64 gn, .int .i64 bn, .int .i64 sn, .slice lon lln lcn] 24 (0, 0))) := ⟨heap_alloc_new w11 _⟩
        have HOn := Kp.mk (on.below ((Below.refl _ _).alloc (Nat.le_refl _) (.cells #[.int .i64 gn, .int .i64 bn, .int .i64 sn, .slice lon lln lcn] 24)))
        replace HD3 := Kp.mk ((HD3.out.below b).alloc (.cells #[.int .i64 gn, .int .i64 bn, .int .i64 sn, .slice lon lln lcn] 24))
        clear b on hqn HL3
        go_wp2_with fail
        generalize w11.alloc (.cells #[.int .i64 gn, .int .i64 bn, .int .i64 sn, .slice lon lln lcn] 24) = w12 at *
        generalize w11.heap.size = b19 at HN ⊢
        refine (HT3.out _ HD3.out).mono ?_
        rintro e w13 ⟨an, cn, rfl, rn, nn⟩
        obtain ⟨gtn, cn', hen, _⟩ := rn.at_ (by decide)
        simp only [Value.slice.injEq] at hen
        obtain ⟨rfl, _, rfl⟩ := hen
        replace HS := Kp.mk (HS.out.next nn.below)
        replace HN := Kp.mk ((nn.below.block _ (lt_of_block' HN.out)).trans HN.out)
        replace HOn := Kp.mk (HOn.out.below nn.below)
        have HRn := Kp.mk rn
        clear rn nn HT3 HD3
        go_wp2
        go_loopw [24] (fun iv wr => ∃ k m : Nat, k ≤ 32 ∧ iv = .int .i64 k ∧ wr = w13.drewN m) (fun iv _ => 32 - (intOf iv).toNat)
        case atStart => exact ⟨0, 0, by omega, rfl, rfl⟩
        case round =>
          obtain ⟨k, md2, hk32, rfl, rfl⟩ := hrel
          by_cases hk2 : k < 32
          · obtain ⟨c0, c1⟩ := row_told HRn.out k hk2
            obtain ⟨e0, e1⟩ := row_told HS.out.row k hk2
            have hk0 : (0 : Int) ≤ (k : Int) := by omega
            have hk1 : (k : Int) < 32 := by omega
            by_cases hkt : k = t
            · have t6 : decide ((1 : Int) < (k : Int)) = false := decide_eq_false (by have := HOl.out; omega)
              have t6' : decide (1 < k) = false := decide_eq_false (by have := HOl.out; omega)
              have htt : tape = 1 - t := by rcases HDc'.out with ⟨h, _⟩ | ⟨_, h⟩; cases h; exact h
              have t7 : ((k : Int) == (tape : Int)) = false := by rw [beq_eq_false_iff_ne]; have := HOl.out; omega
              clear htt
              clear hkt
              generalize (told (D3.tp k)).1 = F at c0
              generalize (told (D3.tp k)).2 = G at c1
              generalize (told (D0.tp k)).1 = F' at e0
              generalize (told (D0.tp k)).2 = G' at e1
              cases s1 : (F.toList == F'.toList)
              · cases s2 : (G.toList == G'.toList)
                all_goals go_wp2_with fail
                all_goals go_quiet (fail)
                all_goals go_wp2
                all_goals go_roundw
                case rel => exact ⟨k + 1, _, by omega, by go_num, rfl⟩
                case measure => simp [intOf]; omega
                case rel => exact ⟨k + 1, _, by omega, by go_num, rfl⟩
                case measure => simp [intOf]; omega
              · cases s2 : (G.toList == G'.toList)
                all_goals go_wp2_with fail
                all_goals go_quiet (fail)
                all_goals go_wp2
                all_goals go_roundw
                case rel => exact ⟨k + 1, _, by omega, by go_num, rfl⟩
                case measure => simp [intOf]; omega
                case rel => exact ⟨k + 1, _, by omega, by go_num, rfl⟩
                case measure => simp [intOf]; omega
            · rw [HOt.out k hk2 hkt] at c0 c1
              generalize (told (D0.tp k)).1 = F at c0 e0
              generalize (told (D0.tp k)).2 = G at c1 e1
              have s1 : (F.toList == F.toList) = true := by simp
              have s2 : (G.toList == G.toList) = true := by simp
              clear hkt
              go_wp2_with fail
              go_quiet (fail)
              go_wp2
              go_roundw
              case rel => exact ⟨k + 1, _, by omega, by go_num, rfl⟩
              case measure => simp [intOf]; omega
          · obtain rfl : k = 32 := by omega
            replace HS := Kp.mk (HS.out.drewN md2)
            replace HN : Kp ((w13.drewN md2).heap[b19]? = some (.cells #[.int .i64 gn, .int .i64 bn, .int .i64 sn, .slice lon lln lcn] 24 (0, 0))) := ⟨HN.out⟩
            replace HOn := Kp.mk (HOn.out.below (w' := w13.drewN md2) ⟨rfl, rfl, rfl, Nat.le_refl _, fun _ _ => rfl⟩)
            generalize w13.drewN md2 = w14 at HS HN HOn ⊢
            obtain ⟨y0, y1, y2, y3⟩ := cells4 HS.out.hx
            obtain ⟨z0, z1, z2, z3⟩ := cells4 HS.out.hy
            obtain ⟨x0, x1, x2, x3⟩ := cells4 HN.out
            have HSO := Kp.mk (Same_any ⟨gn, bn, sn, lon, lln, lcn, lfn⟩ ⟨go, bo, so, loo, llo, lco, lfo⟩ w14 HOn.out.at' HS.out.own.at')
            have HSH := Kp.mk (Same_any ⟨gn, bn, sn, lon, lln, lcn, lfn⟩ ⟨gen, base, snap, lo, ll, lc, lf⟩ w14 HOn.out.at' (HAt.out _ HS.out.below))
            have HMy := Kp.mk (fun W (hW : Below w14.heap.size w14 W) => May_at (HAt.out W (HS.out.below.trans (hW.mono HS.out.below.size))))
            have HKe := Kp.mk (fun W (hW : Below w14.heap.size w14 W) => HS.out.next hW)
            have HNe := Kp.mk (fun W (hW : Below w14.heap.size w14 W) => (hW.block _ (lt_of_block' HN.out)).trans HN.out)
            have HOe := Kp.mk (fun W (hW : Below w14.heap.size w14 W) => HOn.out.below hW)
            rw [HQn.out, HQo.out] at HSO
            rw [HQn.out, HHv.out] at HSH
            rw [HHv.out] at HMy
            unfold HdV.v at HSO HSH HMy
            simp only [] at HSO HSH HMy
            rcases HOut.out with ⟨⟨hn1, hn2, hn3⟩, hpf⟩ | ⟨⟨hn1, hn2, hn3⟩, hpf⟩
            · subst hn1 hn2 hn3
              rw [Hd.sameB_iff.2 rfl] at HSO
              have hsf : Hd.sameB now hv = false := by
                rw [Bool.eq_false_iff]
                intro h
                have := HNew.out (by trivial)
                rw [Hd.sameB_iff.1 h] at this
                omega
              rw [hsf] at HSH
              have HSO2 := Kp.mk (fun W (hW : Below w14.heap.size w14 W) => Same_any ⟨gn, bn, sn, lon, lln, lcn, lfn⟩ ⟨go, bo, so, loo, llo, lco, lfo⟩ W (HOe.out W hW).at' (HKe.out W hW).own.at')
              rw [HQn.out, HQo.out, Hd.sameB_iff.2 rfl] at HSO2
              unfold HdV.v at HSO2
              simp only [] at HSO2
              have hf0 : (pf != 0) = true := by rw [bne_iff_ne]; rcases hpf with rfl | rfl | ⟨rfl, _⟩ <;> decide
              go_wp2_with fail
              refine HSH.out.mono ?_
              rintro e w15 ⟨rfl, b⟩
              obtain ⟨u0, u1, u2, u3⟩ := cells4 (HKe.out _ b).hx
              obtain ⟨v0, v1, v2, v3⟩ := cells4 (HKe.out _ b).hy
              obtain ⟨p0, p1, p2, p3⟩ := cells4 (HNe.out _ b)
              have HB5 := Kp.mk b
              clear b
              go_wp2_with fail
              refine (HSO2.out _ HB5.out).mono ?_
              rintro e w16 ⟨rfl, b⟩
              have HB6 := Kp.mk (HB5.out.trans (b.mono HB5.out.size))
              obtain ⟨r0, r1, r2, r3⟩ := cells4 (HKe.out _ HB6.out).hx
              clear b u0 u1 u2 u3 v0 v1 v2 v3 p0 p1 p2 p3
              by_cases h4 : pf = 4
              · subst h4
                have hmay : hv.may = false := by rcases hpf with h | h | ⟨_, h⟩; exact absurd h (by decide); exact absurd h (by decide); exact h
                rw [hmay] at HMy
                go_wp2_with fail
                refine (HMy.out _ HB6.out).mono ?_
                rintro e w17 ⟨rfl, b⟩
                have HBz := Kp.mk ((HKe.out _ HB6.out).below.trans (b.mono (HKe.out _ HB6.out).below.size))
                clear b
                go_wp2
                go_ret
                exact ⟨by trivial, HBz.out⟩
              · have hf4 : (pf != 4) = true := by rw [bne_iff_ne]; exact h4
                have HBz := Kp.mk (HKe.out _ HB6.out).below
                clear hpf h4
                go_wp2
                go_ret
                exact ⟨by trivial, HBz.out⟩
            · subst hn1 hn2 hn3
              rw [Hd.sameB_iff.2 rfl] at HSH
              have hf4 : (pf != 4) = true := by rw [bne_iff_ne]; rcases hpf with rfl | rfl <;> decide
              by_cases h0 : pf = 0
              · subst h0
                go_wp2_with fail
                refine HSH.out.mono ?_
                rintro e w15 ⟨rfl, b⟩
                have HBz := Kp.mk (HKe.out _ b).below
                clear b
                go_wp2
                go_ret
                exact ⟨by trivial, HBz.out⟩
              · have hf0 : (pf != 0) = true := by rw [bne_iff_ne]; exact h0
                clear hpf h0
                go_wp2_with fail
                refine HSH.out.mono ?_
                rintro e w15 ⟨rfl, b⟩
                have HBz := Kp.mk (HKe.out _ b).below
                clear b
                go_wp2
                go_ret
                exact ⟨by trivial, HBz.out⟩
      · have t5 : decide ((0 : Int) ≤ fail) = false := decide_eq_false hfn
        have hok1 := HOk.out
        have hd1 := hd0
        have htp1 : D0.tp = D0.tp := rfl
        have HT0 : Kp (tapesL D0 32 = tapesL D0 32) := ⟨rfl⟩
        obtain ⟨hdn, hot, hout⟩ := HSw.out D0 hok1 hd1 htp1 HNew.out
        have HPu := Kp.mk (HPut_any g D0 ⟨gen, base, snap, lo, ll, lc, lf⟩ w7 HD.out hok1 (HTb.out _ HS.out.below) (HAt.out _ HS.out.below))
        have hok2 := Hd.putV_ok hok1 hv
        rw [HHv.out] at HPu
        generalize Hd.putV D0 hv = P at HPu hdn hot hout hok2
        obtain ⟨pf, D2⟩ := P
        simp only [] at HPu hdn hot hout hok2
        unfold HdV.v at HPu
        simp only [] at HPu
        have HOk2 := Kp.mk hok2
        have hok3 := hok2.back kl kf
        have HOt := Kp.mk hot
        have HOut := Kp.mk hout
        have HDn := Kp.mk hdn
        clear hot hout hdn hok1 hd1 htp1 hok2
        go_wp2_with fail
        refine HPu.out.mono ?_
        rintro e w9 ⟨rfl, d9, k9⟩
        replace HS := Kp.mk (HS.out.chg k9)
        have HD2 := Kp.mk d9
        have HUp := Kp.mk (Up_any g D2 w9 d9)
        rw [HDn.out] at HUp
        have HBk := Kp.mk (Back_any g D2 ko kl kc kf w9 d9 HOk2.out (by unfold maxLen; omega) (fun W hW j hj => by
          obtain ⟨a, h1, h2⟩ := HK.out W (hW.below HS.out.below HS.out.below.size HS.out.hg) j hj
          exact ⟨a, h1, h2⟩))
        have t8 : ((!decide (pf = 45)) == (pf == 45)) = false := by by_cases h : pf = 45 <;> simp [h]
        obtain ⟨up, hup⟩ : ∃ b, (!decide (pf = 45)) = b := ⟨_, rfl⟩
        rw [hup] at HUp t8
        clear hup d9 k9 HPu HD y0 y1 y2 y3 z0 z1 z2 z3 HDn
        go_wp2_with fail
        refine HUp.out.mono ?_
        rintro e w9' ⟨rfl, rfl⟩
        go_wp2_with fail
        refine HBk.out.mono ?_
        rintro e w10 ⟨rfl, d10, k10⟩
        replace HS := Kp.mk (HS.out.chg k10)
        have hd3 : (backV D2 kl kf).down = false := rfl
        have HL3 := Kp.mk (Load_up g (backV D2 kl kf) w10 d10 hok3 (HTb.out _ HS.out.below) hd3)
        have HT3 := Kp.mk (fun W (h : DiskAt W g (backV D2 kl kf)) => Tapes_any g (backV D2 kl kf) W h hok3)
        have HD3 := Kp.mk d10
        generalize backV D2 kl kf = D3 at HL3 HT3 HD3 HOt HOut
        generalize Hd.diskV D3 = V3 at HL3 HOut
        obtain ⟨now, tpn, there⟩ := V3
        simp only [Prod.mk.injEq] at HL3 HOut
        clear hd3 hok3 d10 k10 HBk HUp HD2
        go_wp2_with fail
        refine HL3.out.mono ?_
        rintro e w11 ⟨⟨gn, bn, sn, lon, lln, lcn, lfn⟩, rfl, hqn, on, b⟩
        unfold HdV.v
        simp only []
        have HQn := Kp.mk hqn
        replace HS := Kp.mk ((HS.out.next b).next ((Below.refl _ _).alloc (Nat.le_refl _) (.cells #[.int .i64 gn, .int .i64 bn, .int .i64 sn, .slice lon lln lcn] 24)))
        have HN : Kp ((w11.alloc (.cells #[.int .i64 gn, .int .i64 bn, .int .i64 sn, .slice lon lln lcn] 24)).heap[w11.heap.size]? = some (.cells #[.int .i64 gn, .int .i64 bn, .int .i64 sn, .slice lon lln lcn] 24 (0, 0))) := ⟨heap_alloc_new w11 _⟩
        have HOn := Kp.mk (on.below ((Below.refl _ _).alloc (Nat.le_refl _) (.cells #[.int .i64 gn, .int .i64 bn, .int .i64 sn, .slice lon lln lcn] 24)))
        replace HD3 := Kp.mk ((HD3.out.below b).alloc (.cells #[.int .i64 gn, .int .i64 bn, .int .i64 sn, .slice lon lln lcn] 24))
        clear b on hqn HL3
        go_wp2_with fail
        generalize w11.alloc (.cells #[.int .i64 gn, .int .i64 bn, .int .i64 sn, .slice lon lln lcn] 24) = w12 at *
        generalize w11.heap.size = b19 at HN ⊢
        refine (HT3.out _ HD3.out).mono ?_
        rintro e w13 ⟨an, cn, rfl, rn, nn⟩
        obtain ⟨gtn, cn', hen, _⟩ := rn.at_ (by decide)
        simp only [Value.slice.injEq] at hen
        obtain ⟨rfl, _, rfl⟩ := hen
        replace HS := Kp.mk (HS.out.next nn.below)
        replace HN := Kp.mk ((nn.below.block _ (lt_of_block' HN.out)).trans HN.out)
        replace HOn := Kp.mk (HOn.out.below nn.below)
        have HRn := Kp.mk rn
        clear rn nn HT3 HD3
        go_wp2
        go_loopw [24] (fun iv wr => ∃ k m : Nat, k ≤ 32 ∧ iv = .int .i64 k ∧ wr = w13.drewN m) (fun iv _ => 32 - (intOf iv).toNat)
        case atStart => exact ⟨0, 0, by omega, rfl, rfl⟩
        case round =>
          obtain ⟨k, md2, hk32, rfl, rfl⟩ := hrel
          by_cases hk2 : k < 32
          · obtain ⟨c0, c1⟩ := row_told HRn.out k hk2
            obtain ⟨e0, e1⟩ := row_told HS.out.row k hk2
            have hk0 : (0 : Int) ≤ (k : Int) := by omega
            have hk1 : (k : Int) < 32 := by omega
            by_cases hkt : k = t
            · have t6 : decide ((1 : Int) < (k : Int)) = false := decide_eq_false (by have := HOl.out; omega)
              have t6' : decide (1 < k) = false := decide_eq_false (by have := HOl.out; omega)
              have htt : tape = 1 - t := by rcases HDc'.out with ⟨h, _⟩ | ⟨_, h⟩; cases h; exact h
              have t7 : ((k : Int) == (tape : Int)) = false := by rw [beq_eq_false_iff_ne]; have := HOl.out; omega
              clear htt
              clear hkt
              generalize (told (D3.tp k)).1 = F at c0
              generalize (told (D3.tp k)).2 = G at c1
              generalize (told (D0.tp k)).1 = F' at e0
              generalize (told (D0.tp k)).2 = G' at e1
              cases s1 : (F.toList == F'.toList)
              · cases s2 : (G.toList == G'.toList)
                all_goals go_wp2_with fail
                all_goals go_quiet (fail)
                all_goals go_wp2
                all_goals go_roundw
                case rel => exact ⟨k + 1, _, by omega, by go_num, rfl⟩
                case measure => simp [intOf]; omega
                case rel => exact ⟨k + 1, _, by omega, by go_num, rfl⟩
                case measure => simp [intOf]; omega
              · cases s2 : (G.toList == G'.toList)
                all_goals go_wp2_with fail
                all_goals go_quiet (fail)
                all_goals go_wp2
                all_goals go_roundw
                case rel => exact ⟨k + 1, _, by omega, by go_num, rfl⟩
                case measure => simp [intOf]; omega
                case rel => exact ⟨k + 1, _, by omega, by go_num, rfl⟩
                case measure => simp [intOf]; omega
            · rw [HOt.out k hk2 hkt] at c0 c1
              generalize (told (D0.tp k)).1 = F at c0 e0
              generalize (told (D0.tp k)).2 = G at c1 e1
              have s1 : (F.toList == F.toList) = true := by simp
              have s2 : (G.toList == G.toList) = true := by simp
              clear hkt
              go_wp2_with fail
              go_quiet (fail)
              go_wp2
              go_roundw
              case rel => exact ⟨k + 1, _, by omega, by go_num, rfl⟩
              case measure => simp [intOf]; omega
          · obtain rfl : k = 32 := by omega
            replace HS := Kp.mk (HS.out.drewN md2)
            replace HN : Kp ((w13.drewN md2).heap[b19]? = some (.cells #[.int .i64 gn, .int .i64 bn, .int .i64 sn, .slice lon lln lcn] 24 (0, 0))) := ⟨HN.out⟩
            replace HOn := Kp.mk (HOn.out.below (w' := w13.drewN md2) ⟨rfl, rfl, rfl, Nat.le_refl _, fun _ _ => rfl⟩)
            generalize w13.drewN md2 = w14 at HS HN HOn ⊢
            obtain ⟨y0, y1, y2, y3⟩ := cells4 HS.out.hx
            obtain ⟨z0, z1, z2, z3⟩ := cells4 HS.out.hy
            obtain ⟨x0, x1, x2, x3⟩ := cells4 HN.out
            have HSO := Kp.mk (Same_any ⟨gn, bn, sn, lon, lln, lcn, lfn⟩ ⟨go, bo, so, loo, llo, lco, lfo⟩ w14 HOn.out.at' HS.out.own.at')
            have HSH := Kp.mk (Same_any ⟨gn, bn, sn, lon, lln, lcn, lfn⟩ ⟨gen, base, snap, lo, ll, lc, lf⟩ w14 HOn.out.at' (HAt.out _ HS.out.below))
            have HMy := Kp.mk (fun W (hW : Below w14.heap.size w14 W) => May_at (HAt.out W (HS.out.below.trans (hW.mono HS.out.below.size))))
            have HKe := Kp.mk (fun W (hW : Below w14.heap.size w14 W) => HS.out.next hW)
            have HNe := Kp.mk (fun W (hW : Below w14.heap.size w14 W) => (hW.block _ (lt_of_block' HN.out)).trans HN.out)
            have HOe := Kp.mk (fun W (hW : Below w14.heap.size w14 W) => HOn.out.below hW)
            rw [HQn.out, HQo.out] at HSO
            rw [HQn.out, HHv.out] at HSH
            rw [HHv.out] at HMy
            unfold HdV.v at HSO HSH HMy
            simp only [] at HSO HSH HMy
            rcases HOut.out with ⟨⟨hn1, hn2, hn3⟩, hpf⟩ | ⟨⟨hn1, hn2, hn3⟩, hpf⟩
            · subst hn1 hn2 hn3
              rw [Hd.sameB_iff.2 rfl] at HSO
              have hsf : Hd.sameB now hv = false := by
                rw [Bool.eq_false_iff]
                intro h
                have := HNew.out (by trivial)
                rw [Hd.sameB_iff.1 h] at this
                omega
              rw [hsf] at HSH
              have HSO2 := Kp.mk (fun W (hW : Below w14.heap.size w14 W) => Same_any ⟨gn, bn, sn, lon, lln, lcn, lfn⟩ ⟨go, bo, so, loo, llo, lco, lfo⟩ W (HOe.out W hW).at' (HKe.out W hW).own.at')
              rw [HQn.out, HQo.out, Hd.sameB_iff.2 rfl] at HSO2
              unfold HdV.v at HSO2
              simp only [] at HSO2
              have hf0 : (pf != 0) = true := by rw [bne_iff_ne]; rcases hpf with rfl | rfl | ⟨rfl, _⟩ <;> decide
              go_wp2_with fail
              refine HSH.out.mono ?_
              rintro e w15 ⟨rfl, b⟩
              obtain ⟨u0, u1, u2, u3⟩ := cells4 (HKe.out _ b).hx
              obtain ⟨v0, v1, v2, v3⟩ := cells4 (HKe.out _ b).hy
              obtain ⟨p0, p1, p2, p3⟩ := cells4 (HNe.out _ b)
              have HB5 := Kp.mk b
              clear b
              go_wp2_with fail
              refine (HSO2.out _ HB5.out).mono ?_
              rintro e w16 ⟨rfl, b⟩
              have HB6 := Kp.mk (HB5.out.trans (b.mono HB5.out.size))
              obtain ⟨r0, r1, r2, r3⟩ := cells4 (HKe.out _ HB6.out).hx
              clear b u0 u1 u2 u3 v0 v1 v2 v3 p0 p1 p2 p3
              by_cases h4 : pf = 4
              · subst h4
                have hmay : hv.may = false := by rcases hpf with h | h | ⟨_, h⟩; exact absurd h (by decide); exact absurd h (by decide); exact h
                rw [hmay] at HMy
                go_wp2_with fail
                refine (HMy.out _ HB6.out).mono ?_
                rintro e w17 ⟨rfl, b⟩
                have HBz := Kp.mk ((HKe.out _ HB6.out).below.trans (b.mono (HKe.out _ HB6.out).below.size))
                clear b
                go_wp2
                go_ret
                exact ⟨by trivial, HBz.out⟩
              · have hf4 : (pf != 4) = true := by rw [bne_iff_ne]; exact h4
                have HBz := Kp.mk (HKe.out _ HB6.out).below
                clear hpf h4
                go_wp2
                go_ret
                exact ⟨by trivial, HBz.out⟩
            · subst hn1 hn2 hn3
              rw [Hd.sameB_iff.2 rfl] at HSH
              have hf4 : (pf != 4) = true := by rw [bne_iff_ne]; rcases hpf with rfl | rfl <;> decide
              by_cases h0 : pf = 0
              · subst h0
                go_wp2_with fail
                refine HSH.out.mono ?_
                rintro e w15 ⟨rfl, b⟩
                have HBz := Kp.mk (HKe.out _ b).below
                clear b
                go_wp2
                go_ret
                exact ⟨by trivial, HBz.out⟩
              · have hf0 : (pf != 0) = true := by rw [bne_iff_ne]; exact h0
                clear hpf h0
                go_wp2_with fail
                refine HSH.out.mono ?_
                rintro e w15 ⟨rfl, b⟩
                have HBz := Kp.mk (HKe.out _ b).below
                clear b
                go_wp2
                go_ret
                exact ⟨by trivial, HBz.out⟩
set_option maxRecDepth 100000 in
theorem swaps_early (c fail : Int) (ao : Option Addr) (len cap : Nat) (f : Nat → ByteArray × ByteArray) (q : HdV) (ko : Option Addr) (kl kc : Nat) (w : World)
    (hl : len ≤ maxLen) (hkl : kl ≤ maxLen) (hll : q.ll ≤ maxLen) (hf : TapesAt w ao len f) (ht : Tab w) (h : ¬ (costM f len < 10000 ∧ q.ll ≤ 100 ∧ kl ≤ 100)) :
    Calls Tryd.prog 7 #[.int .i64 c, .slice ao len cap, q.v, .int .i64 fail, .slice ko kl kc] w fun e w' => e = .returned (.bool true) ∧ Below w.heap.size w w' := by
  have HM := Kp.mk (fun W (hW : Below w.heap.size w W) => many_any ao len cap f W hl (fun W' hW' => hf W' (hW.trans (hW'.mono hW.size))))
  have HAw := Kp.mk (fun W (hW : Below w.heap.size w W) => awake_any W (ht.below hW))
  unfold maxLen at hl hkl hll
  clear hf ht
  obtain ⟨gen, base, snap, lo, ll, lc, lf⟩ := q
  unfold HdV.v
  simp only [] at h hll ⊢
  have HB := Kp.mk ((Below.refl w.heap.size w).alloc (Nat.le_refl _) (.cells #[.int .i64 gen, .int .i64 base, .int .i64 snap, .slice lo ll lc] 24))
  have hx := heap_alloc_new w (.cells #[.int .i64 gen, .int .i64 base, .int .i64 snap, .slice lo ll lc] 24)
  have HX := Kp.mk hx
  clear hx
  by_cases hm : costM f len < 10000
  · rw [show decide (10000 ≤ costM f len) = false from decide_eq_false (by omega)] at HM
    by_cases h1 : ll ≤ 100
    · have h2 : ¬ kl ≤ 100 := fun h2 => h ⟨hm, h1, h2⟩
      have t1 : decide ((100 : Int) < (ll : Int)) = false := decide_eq_false (by omega)
      have t1' : decide (100 < ll) = false := decide_eq_false (by omega)
      have t2 : decide ((100 : Int) < (kl : Int)) = true := decide_eq_true (by omega)
      have t2' : decide (100 < kl) = true := decide_eq_true (by omega)
      clear h hm h1 h2
      go_enter Tryd.func7, Tryd.ntmps7
      go_wp2_with fail
      generalize w.alloc (.cells #[.int .i64 gen, .int .i64 base, .int .i64 snap, .slice lo ll lc] 24) = w1 at *
      refine (HM.out _ HB.out).mono ?_
      rintro e w2' ⟨rfl, md, rfl⟩
      replace HX : Kp ((w1.drewN md).heap[w.heap.size]? = _) := ⟨HX.out⟩
      replace HB : Kp (Below w.heap.size w (w1.drewN md)) := ⟨⟨HB.out.os, HB.out.tape, HB.out.output, HB.out.size, HB.out.block⟩⟩
      generalize w1.drewN md = w2 at *
      obtain ⟨y0, y1, y2, y3⟩ := cells4 HX.out
      go_wp2_with fail
      refine (HAw.out _ HB.out).mono ?_
      rintro e w3 ⟨rfl, b⟩
      have HBz := Kp.mk (HB.out.trans (b.mono HB.out.size))
      clear b
      go_wp2
      go_ret
      exact ⟨rfl, HBz.out⟩
    · have t1 : decide ((100 : Int) < (ll : Int)) = true := decide_eq_true (by omega)
      have t1' : decide (100 < ll) = true := decide_eq_true (by omega)
      clear h hm h1
      go_enter Tryd.func7, Tryd.ntmps7
      go_wp2_with fail
      generalize w.alloc (.cells #[.int .i64 gen, .int .i64 base, .int .i64 snap, .slice lo ll lc] 24) = w1 at *
      refine (HM.out _ HB.out).mono ?_
      rintro e w2' ⟨rfl, md, rfl⟩
      replace HX : Kp ((w1.drewN md).heap[w.heap.size]? = _) := ⟨HX.out⟩
      replace HB : Kp (Below w.heap.size w (w1.drewN md)) := ⟨⟨HB.out.os, HB.out.tape, HB.out.output, HB.out.size, HB.out.block⟩⟩
      generalize w1.drewN md = w2 at *
      obtain ⟨y0, y1, y2, y3⟩ := cells4 HX.out
      go_wp2_with fail
      refine (HAw.out _ HB.out).mono ?_
      rintro e w3 ⟨rfl, b⟩
      have HBz := Kp.mk (HB.out.trans (b.mono HB.out.size))
      clear b
      go_wp2
      go_ret
      exact ⟨rfl, HBz.out⟩
  · rw [show decide (10000 ≤ costM f len) = true from decide_eq_true (by omega)] at HM
    clear h hm
    go_enter Tryd.func7, Tryd.ntmps7
    go_wp2_with fail
    generalize w.alloc (.cells #[.int .i64 gen, .int .i64 base, .int .i64 snap, .slice lo ll lc] 24) = w1 at *
    refine (HM.out _ HB.out).mono ?_
    rintro e w2' ⟨rfl, md, rfl⟩
    replace HX : Kp ((w1.drewN md).heap[w.heap.size]? = _) := ⟨HX.out⟩
    replace HB : Kp (Below w.heap.size w (w1.drewN md)) := ⟨⟨HB.out.os, HB.out.tape, HB.out.output, HB.out.size, HB.out.block⟩⟩
    generalize w1.drewN md = w2 at *
    obtain ⟨y0, y1, y2, y3⟩ := cells4 HX.out
    go_wp2_with fail
    refine (HAw.out _ HB.out).mono ?_
    rintro e w3 ⟨rfl, b⟩
    have HBz := Kp.mk (HB.out.trans (b.mono HB.out.size))
    clear b
    go_wp2
    go_ret
    exact ⟨rfl, HBz.out⟩
set_option maxRecDepth 100000 in
theorem walkHeadSwaps {H : Type} {enc : TypeId × Value → H} {b1 b2 b4 : Nat} {d1 d2 d4 : DataW H} {ps1 ps2 ps4 : List MemPlace} {ts : List TypeId} {ds : List (DataW H)} (w : World) (c : Int) (hc : (Lit.int .i64 c).wf = true)
    (v1 : Value) (hv1 : Value.okWide Tryd.prog w .any b1 50 v1) (hV1 : DataW.Trod enc Tryd.prog w 0 (fun _ => true) true 50 v1 d1 ps1)
    (v2 : Value) (hv2 : Value.okWide Tryd.prog w .any b2 24 v2) (hV2 : DataW.Trod enc Tryd.prog w 0 (fun _ => true) true 24 v2 d2 ps2)
    (fail : Int) (hfl : (Lit.int .i64 fail).wf = true)
    (v4 : Value) (hv4 : Value.okWide Tryd.prog w .any b4 22 v4) (hV4 : DataW.Trod enc Tryd.prog w 0 (fun _ => true) true 22 v4 d4 ps4)
    (hweigh : (DataW.weightsEach Tryd.prog ts ds).all (· ≤ reachBytes) = true) (ht : Tab w) :
    Calls Tryd.prog 7 #[.int .i64 c, v1, v2, .int .i64 fail, v4] w fun e w' => e = .returned (.bool true) ∧ Below w.heap.size w w' := by
  obtain ⟨_, _, _, hv1'⟩ := Go.WideShapes.okWide_slice Tryd.underlying50 hv1
  obtain ⟨_, _, _, hv4'⟩ := Go.WideShapes.okWide_slice Tryd.underlying22 hv4
  obtain ⟨ao, len, cap, f, rfl, hl, hf⟩ := tapes_open (by rw [hv1']; rfl) hV1
  obtain ⟨q, rfl, hq⟩ := head_param hv2 hV2
  have hV4' : ∃ fuel, DataW.trod enc Tryd.prog w 0 (fun _ => true) true fuel 22 [v4] = some (d4, ps4) := by
    obtain ⟨fuel, h⟩ := hV4
    exact ⟨fuel, by rw [hv4'] at h ⊢; exact h⟩
  obtain ⟨fuel, hV4'⟩ := hV4'
  obtain ⟨ko, kl, kc, kf, rfl, hkl, _, hk, _⟩ := ints_open hV4'
  by_cases h : costM f len < 10000 ∧ q.ll ≤ 100 ∧ kl ≤ 100
  · refine swaps_core c fail ao len cap f q ko kl kc kf w (wf_i64 hc) (wf_i64 hfl) hl hf hq hk h.2.2 h.2.1 ht h.1 (fun W hW => ?_)
    have := many_any ao len cap f W hl (fun W' hW' => hf W' (hW.trans (hW'.mono hW.size)))
    rwa [show decide (10000 ≤ costM f len) = false from decide_eq_false (by omega)] at this
  · exact swaps_early c fail ao len cap f q ko kl kc w hl hkl hq.ok.2.2.2.1 hf ht h
end Go.Proofs.YtjpkncfmionieaaDoor
