/- The walk of HeadBack: it returns true, and leaves what was there. -/
import Derived.Test.YtjpkncfmionieaaDoorHeadOpen
namespace Go.Proofs.YtjpkncfmionieaaDoor
open Go.RowKit Go.ChangeShapes Go.WideShapes
set_option linter.unusedVariables false

theorem HdV.zero_of {q : HdV} (h : q.hv = Hd.HV.zero) : q.gen = 0 ∧ q.ll = 0 := by
  unfold HdV.hv Hd.HV.zero at h
  simp only [Hd.HV.mk.injEq] at h
  refine ⟨h.1, ?_⟩
  have := congrArg List.length h.2.2.2
  simpa [rowI_len] using this
theorem box_at {w W W' : World} {b : Nat} {c0 c1 c2 c3 : Value} {T : TypeId} (h : W.heap[b]? = some (.cells #[c0, c1, c2, c3] T (0, 0))) (hb : Below W.heap.size W W') : W'.heap[b]? = some (.cells #[c0, c1, c2, c3] T (0, 0)) := (hb.block b (lt_of_block' h)).trans h
set_option maxRecDepth 100000 in
set_option maxHeartbeats 8000000 in
theorem back_core (q : HdV) (p : ByteArray) (w : World) (hq : HdIn w q) (ht : Tab w) (hp : p.size ≤ maxLen) :
    Calls Tryd.prog 3 #[q.v, .string p] w fun e w' => e = .returned (.bool true) ∧ Below w.heap.size w w' := by
  have HAw := Kp.mk (fun W (hW : Below w.heap.size w W) => awake_any W (ht.below hW))
  have hl : q.ll ≤ maxLen := hq.ok.2.2.2.1
  unfold maxLen at hl hp
  have HIn := Kp.mk hq
  clear ht hq
  by_cases hsm : q.ll ≤ 100 ∧ p.size ≤ 1000
  · obtain ⟨h100, h1000⟩ := hsm
    have HAt := Kp.mk (fun W (hW : Below w.heap.size w W) => (HIn.out.below hW).at' h100)
    have HMy := Kp.mk (fun W (hW : Below w.heap.size w W) => May_at (HAt.out W hW))
    have HDp := Kp.mk (fun W => Decode_any p W (by omega))
    have HSa := Kp.mk (fun W (hW : Below w.heap.size w W) (k : HdV) (hk : HdAt W k) => Same_any k q W hk (HAt.out W hW))
    have HNo : Kp ((Hd.decV p.data.toList).2 ≠ 0 → (Hd.decV p.data.toList).1 = Hd.HV.zero) := ⟨fun h => Hd.dec_no (l := p.data.toList) (h := (Hd.decV p.data.toList).1) (e := (Hd.decV p.data.toList).2) rfl h⟩
    have HYe : Kp ((Hd.decV p.data.toList).2 = 0 → (Hd.decV p.data.toList).1.may = true ∧ (Hd.decV p.data.toList).1.enc.length ≤ p.size) := ⟨fun h => by
      have := Hd.dec_may (l := p.data.toList) (h := (Hd.decV p.data.toList).1) (by rw [← h])
      rwa [data_len] at this⟩
    generalize Hd.decV p.data.toList = V at HDp HNo HYe
    obtain ⟨h2, e2⟩ := V
    simp only [] at HDp HNo HYe
    have t1 : decide ((100 : Int) < (q.ll : Int)) = false := decide_eq_false (by omega)
    have t1' : decide (100 < q.ll) = false := decide_eq_false (by omega)
    have t2 : decide ((1000 : Int) < (p.size : Int)) = false := decide_eq_false (by omega)
    have t2' : decide (1000 < p.size) = false := decide_eq_false (by omega)
    cases hm : q.hv.may
    · have HEn := Kp.mk (fun W (hW : Below w.heap.size w W) => Encode_no q W (HAt.out W hW) hm)
      rw [hm] at HMy
      clear hm HSa HIn HAt
      obtain ⟨gen, base, snap, lo, ll, lc, lf⟩ := q
      unfold HdV.v at *
      simp only [] at *
      have hx1 := heap_alloc_new w (.cells #[.int .i64 gen, .int .i64 base, .int .i64 snap, .slice lo ll lc] 24)
      have HB := Kp.mk ((Below.refl w.heap.size w).alloc (Nat.le_refl _) (.cells #[.int .i64 gen, .int .i64 base, .int .i64 snap, .slice lo ll lc] 24))
      have HX := Kp.mk hx1
      clear hx1
      go_enter Tryd.func3, Tryd.ntmps3
      go_wp2_with fail
      generalize w.alloc (.cells #[.int .i64 gen, .int .i64 base, .int .i64 snap, .slice lo ll lc] 24) = w1 at *
      refine (HAw.out _ HB.out).mono ?_
      rintro e w2 ⟨rfl, b⟩
      replace HX := Kp.mk (box_at (w := w) HX.out b)
      replace HB := Kp.mk (HB.out.trans (b.mono HB.out.size))
      clear b
      obtain ⟨y0, y1, y2, y3⟩ := cells4 HX.out
      have hlt := lt_of_block' HX.out
      go_wp2_with fail
      refine (HEn.out _ HB.out).mono ?_
      rintro e w3 ⟨rfl, b⟩
      replace HX := Kp.mk (box_at (w := w) HX.out b)
      replace HB := Kp.mk (HB.out.trans (b.mono HB.out.size))
      clear b y0 y1 y2 y3 hlt
      obtain ⟨y0, y1, y2, y3⟩ := cells4 HX.out
      have hlt := lt_of_block' HX.out
      go_wp2_with fail
      refine (HMy.out _ HB.out).mono ?_
      rintro e w4 ⟨rfl, b⟩
      replace HX := Kp.mk (box_at (w := w) HX.out b)
      replace HB := Kp.mk (HB.out.trans (b.mono HB.out.size))
      clear b y0 y1 y2 y3 hlt
      obtain ⟨y0, y1, y2, y3⟩ := cells4 HX.out
      have hlt := lt_of_block' HX.out
      go_wp2_with fail
      refine (HDp.out _).mono ?_
      rintro e w8 ⟨⟨ga, ba, sa, loa, lla, lca, lfa⟩, rfl, hqa, oa, b⟩
      simp only []
      have HBk := Kp.mk (HB.out.trans (b.mono HB.out.size))
      have HOa := Kp.mk (oa.below ((Below.refl _ _).alloc (Nat.le_refl _) (.cells #[.int .i64 ga, .int .i64 ba, .int .i64 sa, .slice loa lla lca] 24)))
      have hxk := heap_alloc_new w8 (.cells #[.int .i64 ga, .int .i64 ba, .int .i64 sa, .slice loa lla lca] 24)
      have HBl := Kp.mk (HBk.out.alloc HBk.out.size (.cells #[.int .i64 ga, .int .i64 ba, .int .i64 sa, .slice loa lla lca] 24))
      have HXk := Kp.mk hxk
      have HQa := Kp.mk hqa
      clear b oa hxk hqa y0 y1 y2 y3 hlt
      by_cases he2 : e2 = 0
      · obtain ⟨hm2, hl2⟩ := HYe.out he2
        have HEk := Kp.mk (fun W (hW : HdAt W ⟨ga, ba, sa, loa, lla, lca, lfa⟩) => Encode_yes _ W hW (by rw [HQa.out]; exact hm2))
        have HMk := Kp.mk (fun W (hW : HdAt W ⟨ga, ba, sa, loa, lla, lca, lfa⟩) => May_at hW)
        rw [HQa.out] at HEk HMk
        rw [hm2] at HMk
        have hbs2 : (B h2.enc).size = h2.enc.length := B_size _
        unfold HdV.v at HEk HMk
        simp only [] at HEk HMk
        generalize B h2.enc = s2 at HEk hbs2
        rw [← hbs2] at hl2
        have t7 : decide ((s2.size : Int) ≤ (p.size : Int)) = true := decide_eq_true (by omega)
        have t7' : decide (s2.size ≤ p.size) = true := decide_eq_true hl2
        subst he2
        clear hm2 hbs2
        go_wp2_with fail
        generalize w8.alloc (.cells #[.int .i64 ga, .int .i64 ba, .int .i64 sa, .slice loa lla lca] 24) = w9 at *
        refine (HEk.out _ HOa.out.at').mono ?_
        rintro e w10 ⟨rfl, b⟩
        have HBm := Kp.mk (HBl.out.trans (b.mono HBl.out.size))
        have HOm := Kp.mk (HOa.out.below b)
        have hxm := (b.block _ (lt_of_block' HXk.out)).trans HXk.out
        obtain ⟨y0, y1, y2, y3⟩ := cells4 hxm
        clear b hxm
        go_wp2_with fail
        refine (HMk.out _ HOm.out.at').mono ?_
        rintro e w11 ⟨rfl, b⟩
        have HBn := Kp.mk (HBm.out.trans (b.mono HBm.out.size))
        clear b
        go_wp2
        go_ret
        exact ⟨rfl, HBn.out⟩
      · obtain ⟨hg0, hl0⟩ := HdV.zero_of (HQa.out.trans (HNo.out he2))
        simp only [] at hg0 hl0
        subst hg0 hl0
        have t7 : ((e2 : Int) != 0) = true := by rw [bne_iff_ne]; omega
        clear he2
        go_wp2
        go_ret
        exact ⟨rfl, HBl.out⟩
    · have HEn := Kp.mk (fun W (hW : Below w.heap.size w W) => Encode_yes q W (HAt.out W hW) hm)
      have HSz := Kp.mk (fun W (hW : Below w.heap.size w W) => HSize_any q W (HAt.out W hW))
      rw [HSize, if_pos hm] at HSz
      have hel := enc_len hm
      have HDe := Kp.mk (fun W => Decode_any (B q.hv.enc) W (by rw [B_size]; omega))
      rw [B_list, Hd.dec_enc hm] at HDe
      have hbs : ((q.hv.enc.length + 9 : Nat) : Int) = 9 + ((B q.hv.enc).size : Int) := by rw [B_size]; omega
      have hss : (B q.hv.enc).size ≤ 340 := by rw [B_size]; exact hel
      rw [hbs] at HSz
      rw [hm] at HMy
      clear hm hbs hel
      obtain ⟨qv, hqv⟩ : ∃ x, q.hv = x := ⟨_, rfl⟩
      have HQv := Kp.mk hqv
      rw [hqv] at HDe HEn HSz hss HSa
      generalize B qv.enc = s at HDe HEn HSz hss
      clear hqv HIn HAt
      obtain ⟨gen, base, snap, lo, ll, lc, lf⟩ := q
      unfold HdV.v at *
      simp only [] at *
      have hx1 := heap_alloc_new w (.cells #[.int .i64 gen, .int .i64 base, .int .i64 snap, .slice lo ll lc] 24)
      have HB := Kp.mk ((Below.refl w.heap.size w).alloc (Nat.le_refl _) (.cells #[.int .i64 gen, .int .i64 base, .int .i64 snap, .slice lo ll lc] 24))
      have HX := Kp.mk hx1
      clear hx1
      go_enter Tryd.func3, Tryd.ntmps3
      go_wp2_with fail
      generalize w.alloc (.cells #[.int .i64 gen, .int .i64 base, .int .i64 snap, .slice lo ll lc] 24) = w1 at *
      refine (HAw.out _ HB.out).mono ?_
      rintro e w2 ⟨rfl, b⟩
      replace HX := Kp.mk (box_at (w := w) HX.out b)
      replace HB := Kp.mk (HB.out.trans (b.mono HB.out.size))
      clear b
      obtain ⟨y0, y1, y2, y3⟩ := cells4 HX.out
      have hlt := lt_of_block' HX.out
      go_wp2_with fail
      refine (HEn.out _ HB.out).mono ?_
      rintro e w3 ⟨rfl, b⟩
      replace HX := Kp.mk (box_at (w := w) HX.out b)
      replace HB := Kp.mk (HB.out.trans (b.mono HB.out.size))
      clear b y0 y1 y2 y3 hlt
      obtain ⟨y0, y1, y2, y3⟩ := cells4 HX.out
      have hlt := lt_of_block' HX.out
      go_wp2_with fail
      refine (HMy.out _ HB.out).mono ?_
      rintro e w4 ⟨rfl, b⟩
      replace HX := Kp.mk (box_at (w := w) HX.out b)
      replace HB := Kp.mk (HB.out.trans (b.mono HB.out.size))
      clear b y0 y1 y2 y3 hlt
      obtain ⟨y0, y1, y2, y3⟩ := cells4 HX.out
      have hlt := lt_of_block' HX.out
      go_wp2_with fail
      refine (HDe.out _).mono ?_
      rintro e w5 ⟨⟨gk, bk, sk, lok, llk, lck, lfk⟩, rfl, hqk, ok, b⟩
      simp only []
      have HOk := Kp.mk (ok.below ((Below.refl _ _).alloc (Nat.le_refl _) (.cells #[.int .i64 gk, .int .i64 bk, .int .i64 sk, .slice lok llk lck] 24)))
      have HSk := Kp.mk (fun W (hW : Below w.heap.size w W) (hk : HdAt W ⟨gk, bk, sk, lok, llk, lck, lfk⟩) => HSa.out W hW ⟨gk, bk, sk, lok, llk, lck, lfk⟩ hk)
      rw [hqk, show Hd.sameB qv qv = true from Hd.sameB_iff.2 rfl] at HSk
      simp only [] at HSk
      replace HX := Kp.mk (box_at (w := w) HX.out b)
      replace HB := Kp.mk (HB.out.trans (b.mono HB.out.size))
      clear b ok hqk y0 y1 y2 y3 hlt
      obtain ⟨y0, y1, y2, y3⟩ := cells4 HX.out
      have hlt := lt_of_block' HX.out
      have HBa := Kp.mk (HB.out.alloc HB.out.size (.cells #[.int .i64 gk, .int .i64 bk, .int .i64 sk, .slice lok llk lck] 24))
      have HXa := Kp.mk ((Below.heap_alloc w5 (.cells #[.int .i64 gk, .int .i64 bk, .int .i64 sk, .slice lok llk lck] 24) _ hlt).trans HX.out)
      go_wp2_with fail
      refine (HSk.out _ HBa.out HOk.out.at').mono ?_
      rintro e w6 ⟨rfl, b⟩
      replace HX := Kp.mk (box_at (w := w) HXa.out b)
      replace HB := Kp.mk (HBa.out.trans (b.mono HBa.out.size))
      clear b HXa HBa HOk y0 y1 y2 y3 hlt
      obtain ⟨y0, y1, y2, y3⟩ := cells4 HX.out
      have hlt := lt_of_block' HX.out
      go_wp2_with fail
      refine (HSz.out _ HB.out).mono ?_
      rintro e w7 ⟨rfl, b⟩
      replace HX := Kp.mk (box_at (w := w) HX.out b)
      replace HB := Kp.mk (HB.out.trans (b.mono HB.out.size))
      clear b y0 y1 y2 y3 hlt
      obtain ⟨y0, y1, y2, y3⟩ := cells4 HX.out
      have hlt := lt_of_block' HX.out
      go_wp2_with fail
      refine (HDp.out _).mono ?_
      rintro e w8 ⟨⟨ga, ba, sa, loa, lla, lca, lfa⟩, rfl, hqa, oa, b⟩
      simp only []
      have HBk := Kp.mk (HB.out.trans (b.mono HB.out.size))
      have HOa := Kp.mk (oa.below ((Below.refl _ _).alloc (Nat.le_refl _) (.cells #[.int .i64 ga, .int .i64 ba, .int .i64 sa, .slice loa lla lca] 24)))
      have hxk := heap_alloc_new w8 (.cells #[.int .i64 ga, .int .i64 ba, .int .i64 sa, .slice loa lla lca] 24)
      have HBl := Kp.mk (HBk.out.alloc HBk.out.size (.cells #[.int .i64 ga, .int .i64 ba, .int .i64 sa, .slice loa lla lca] 24))
      have HXk := Kp.mk hxk
      have HQa := Kp.mk hqa
      clear b oa hxk hqa y0 y1 y2 y3 hlt
      by_cases he2 : e2 = 0
      · obtain ⟨hm2, hl2⟩ := HYe.out he2
        have HEk := Kp.mk (fun W (hW : HdAt W ⟨ga, ba, sa, loa, lla, lca, lfa⟩) => Encode_yes _ W hW (by rw [HQa.out]; exact hm2))
        have HMk := Kp.mk (fun W (hW : HdAt W ⟨ga, ba, sa, loa, lla, lca, lfa⟩) => May_at hW)
        rw [HQa.out] at HEk HMk
        rw [hm2] at HMk
        have hbs2 : (B h2.enc).size = h2.enc.length := B_size _
        unfold HdV.v at HEk HMk
        simp only [] at HEk HMk
        generalize B h2.enc = s2 at HEk hbs2
        rw [← hbs2] at hl2
        have t7 : decide ((s2.size : Int) ≤ (p.size : Int)) = true := decide_eq_true (by omega)
        have t7' : decide (s2.size ≤ p.size) = true := decide_eq_true hl2
        subst he2
        clear hm2 hbs2
        go_wp2_with fail
        generalize w8.alloc (.cells #[.int .i64 ga, .int .i64 ba, .int .i64 sa, .slice loa lla lca] 24) = w9 at *
        refine (HEk.out _ HOa.out.at').mono ?_
        rintro e w10 ⟨rfl, b⟩
        have HBm := Kp.mk (HBl.out.trans (b.mono HBl.out.size))
        have HOm := Kp.mk (HOa.out.below b)
        have hxm := (b.block _ (lt_of_block' HXk.out)).trans HXk.out
        obtain ⟨y0, y1, y2, y3⟩ := cells4 hxm
        clear b hxm
        go_wp2_with fail
        refine (HMk.out _ HOm.out.at').mono ?_
        rintro e w11 ⟨rfl, b⟩
        have HBn := Kp.mk (HBm.out.trans (b.mono HBm.out.size))
        clear b
        go_wp2
        go_ret
        exact ⟨rfl, HBn.out⟩
      · obtain ⟨hg0, hl0⟩ := HdV.zero_of (HQa.out.trans (HNo.out he2))
        simp only [] at hg0 hl0
        subst hg0 hl0
        have t7 : ((e2 : Int) != 0) = true := by rw [bne_iff_ne]; omega
        clear he2
        go_wp2
        go_ret
        exact ⟨rfl, HBl.out⟩
  · obtain ⟨gen, base, snap, lo, ll, lc, lf⟩ := q
    unfold HdV.v
    have HB1 := Kp.mk ((Below.refl w.heap.size w).alloc (Nat.le_refl _) (.cells #[.int .i64 gen, .int .i64 base, .int .i64 snap, .slice lo ll lc] 24))
    simp only [] at hsm hl
    by_cases h100 : ll ≤ 100
    · have t1 : decide ((100 : Int) < (ll : Int)) = false := decide_eq_false (by omega)
      have t1' : decide (100 < ll) = false := decide_eq_false (by omega)
      have t2 : decide ((1000 : Int) < (p.size : Int)) = true := decide_eq_true (by omega)
      have t2' : decide (1000 < p.size) = true := decide_eq_true (by omega)
      clear h100 hsm hl hp
      go_enter Tryd.func3, Tryd.ntmps3
      go_wp2_with fail
      refine (HAw.out _ HB1.out).mono ?_
      rintro e w2 ⟨rfl, b2⟩
      have B2 := Kp.mk (HB1.out.trans (b2.mono HB1.out.size))
      clear b2
      go_wp2
      go_ret
      exact ⟨rfl, B2.out⟩
    · have t1 : decide ((100 : Int) < (ll : Int)) = true := decide_eq_true (by omega)
      have t1' : decide (100 < ll) = true := decide_eq_true (by omega)
      clear h100 hsm hl hp
      go_enter Tryd.func3, Tryd.ntmps3
      go_wp2_with fail
      refine (HAw.out _ HB1.out).mono ?_
      rintro e w2 ⟨rfl, b2⟩
      have B2 := Kp.mk (HB1.out.trans (b2.mono HB1.out.size))
      clear b2
      go_wp2
      go_ret
      exact ⟨rfl, B2.out⟩
set_option maxRecDepth 100000 in
theorem walkHeadBack {H : Type} {enc : TypeId × Value → H} {b0 : Nat} {d : DataW H} {ps : List MemPlace} {ts : List TypeId} {ds : List (DataW H)} (w : World) (v : Value) (hv : Value.okWide Tryd.prog w .any b0 24 v) (hV : DataW.Trod enc Tryd.prog w 0 (fun _ => true) true 24 v d ps)
    (p : ByteArray) (hp : p.size ≤ maxLen) (hweigh : (DataW.weightsEach Tryd.prog ts ds).all (· ≤ reachBytes) = true) (ht : Tab w) :
    Calls Tryd.prog 3 #[v, .string p] w fun e w' => e = .returned (.bool true) ∧ Below w.heap.size w w' := by
  obtain ⟨q, rfl, hq⟩ := head_param hv hV
  exact back_core q p w hq ht hp
end Go.Proofs.YtjpkncfmionieaaDoor
