/- The walk of HeadCodes: it returns true, and leaves what was there. -/
import Derived.Test.YtjpkncfmionieaaDoorHRefIs
import Derived.Test.YtjpkncfmionieaaDoorHeadOpen
import Derived.Deep.DrawnRows
namespace Go.Proofs.YtjpkncfmionieaaDoor
open Go.RowKit Go.ChangeShapes Go.WideShapes
set_option linter.unusedVariables false

/-- The two heads' boxes, the head with a row of its own and its box. -/
structure CodS (w : World) (A C O : Array Value) (c : Nat) (o : HdV) (W : World) : Prop where
  ra : W.heap[w.heap.size]? = some (.cells A 24 (0, 0))
  rb : W.heap[w.heap.size + 1]? = some (.cells C 24 (0, 0))
  ro : W.heap[c]? = some (.cells O 24 (0, 0))
  wr : HdWr w.heap.size W o
  below : Below w.heap.size w W
theorem CodS.next {w W W' : World} {A C O : Array Value} {c : Nat} {o : HdV} (h : CodS w A C O c o W) (hb : Below W.heap.size W W') : CodS w A C O c o W' :=
  ⟨(hb.block _ (lt_of_block' h.ra)).trans h.ra, (hb.block _ (lt_of_block' h.rb)).trans h.rb, (hb.block _ (lt_of_block' h.ro)).trans h.ro, h.wr.below hb, h.below.trans (hb.mono h.below.size)⟩
theorem CodS.cells {w W : World} {c : Nat} {o : HdV} {a0 a1 a2 a3 b0 b1 b2 b3 o0 o1 o2 o3 : Value} (h : CodS w #[a0, a1, a2, a3] #[b0, b1, b2, b3] #[o0, o1, o2, o3] c o W) :
    W.cell? ⟨w.heap.size, 0, none⟩ = some a0 ∧ W.cell? ⟨w.heap.size, 1, none⟩ = some a1 ∧ W.cell? ⟨w.heap.size, 2, none⟩ = some a2 ∧ W.cell? ⟨w.heap.size, 3, none⟩ = some a3 ∧
    W.cell? ⟨w.heap.size + 1, 0, none⟩ = some b0 ∧ W.cell? ⟨w.heap.size + 1, 1, none⟩ = some b1 ∧ W.cell? ⟨w.heap.size + 1, 2, none⟩ = some b2 ∧ W.cell? ⟨w.heap.size + 1, 3, none⟩ = some b3 ∧
    W.cell? ⟨c, 0, none⟩ = some o0 ∧ W.cell? ⟨c, 1, none⟩ = some o1 ∧ W.cell? ⟨c, 2, none⟩ = some o2 ∧ W.cell? ⟨c, 3, none⟩ = some o3 := by
  obtain ⟨h1, h2, h3, h4⟩ := cells4 h.ra
  obtain ⟨h5, h6, h7, h8⟩ := cells4 h.rb
  obtain ⟨h9, h10, h11, h12⟩ := cells4 h.ro
  exact ⟨h1, h2, h3, h4, h5, h6, h7, h8, h9, h10, h11, h12⟩
theorem rel_to {f : Nat} {args : Array Value} {w5 W : World} {r : Ending} (h : Calls Tryd.prog f args W fun e w' => e = r ∧ Below W.heap.size W w') (hW : Below w5.heap.size w5 W) : Calls Tryd.prog f args W fun e w' => e = r ∧ Below w5.heap.size w5 w' :=
  h.mono fun e w' ⟨he, hb⟩ => ⟨he, hW.trans (hb.mono hW.size)⟩
theorem free_few (h : Hd.HV) : h.free.length ≤ 100 := Nat.le_trans (List.length_filter_le _ _) (by decide)
set_option maxRecDepth 100000 in
set_option maxHeartbeats 8000000 in
theorem codes_core (a b : HdV) (p : ByteArray) (t : Int) (w : World) (ha : HdIn w a) (hb : HdIn w b) (ht : Tab w) (hpl : p.size ≤ maxLen) :
    Calls Tryd.prog 8 #[a.v, b.v, .string p, .int .i64 t] w fun e w' => e = .returned (.bool true) ∧ Below w.heap.size w w' := by
  have HAw := Kp.mk (fun W (hW : Below w.heap.size w W) => awake_any W (ht.below hW))
  have hla : a.ll ≤ maxLen := ha.ok.2.2.2.1
  have hlb : b.ll ≤ maxLen := hb.ok.2.2.2.1
  unfold maxLen at hla hlb hpl
  have HIa := Kp.mk ha
  have HIb := Kp.mk hb
  clear ht ha hb
  by_cases hsm : a.ll ≤ 100 ∧ b.ll ≤ 100 ∧ p.size ≤ 1000
  · obtain ⟨ha100, hb100, h1000⟩ := hsm
    have HAa := Kp.mk (fun W (hW : Below w.heap.size w W) => (HIa.out.below hW).at' ha100)
    have HAb := Kp.mk (fun W (hW : Below w.heap.size w W) => (HIb.out.below hW).at' hb100)
    have HOn := Kp.mk (fun W (hW : Below w.heap.size w W) => own_any a W (HAa.out W hW) ha100)
    have HRE := Kp.mk (fun W (hW : Below w.heap.size w W) => rEncode_any a W (HAa.out W hW))
    have HRM := Kp.mk (fun W (hW : Below w.heap.size w W) => rMay_any a W (HAa.out W hW))
    have HRS := Kp.mk (fun W (hW : Below w.heap.size w W) => rSame_any a b W (HAa.out W hW) (HAb.out W hW))
    have HRZ := Kp.mk (fun W (hW : Below w.heap.size w W) => rSize_any a W (HAa.out W hW))
    have HRU := Kp.mk (fun W (hW : Below w.heap.size w W) => rUses_any a t W (by have := (HAa.out W hW).len; omega) (HAa.out W hW).row)
    have HRF := Kp.mk (fun W (hW : Below w.heap.size w W) => rFree_any a W (by have := (HAa.out W hW).len; omega) (HAa.out W hW).row)
    have HDp := Kp.mk (fun W => Decode_any p W (by omega))
    have HRD := Kp.mk (fun W => rDecode_any p W (by omega))
    generalize Hd.decV p.data.toList = V at HDp HRD
    obtain ⟨h2, e2⟩ := V
    simp only [] at HDp HRD
    have t1 : decide ((100 : Int) < (a.ll : Int)) = false := decide_eq_false (by omega)
    have t1' : decide (100 < a.ll) = false := decide_eq_false (by omega)
    have t3 : decide ((100 : Int) < (b.ll : Int)) = false := decide_eq_false (by omega)
    have t3' : decide (100 < b.ll) = false := decide_eq_false (by omega)
    have t2 : decide ((1000 : Int) < (p.size : Int)) = false := decide_eq_false (by omega)
    have t2' : decide (1000 < p.size) = false := decide_eq_false (by omega)
    have HEh := Kp.mk (rfl : a.hv = a.hv)
    have HMh : Kp (∀ (o : HdV), o.hv = a.hv → ∀ (c : Nat) (A C O : Array Value), (∀ W, CodS w A C O c o W → Calls Tryd.prog 10 #[o.v] W fun e w' => e = .returned (.tuple #[.string (encV a.hv).1, .int .i64 (encV a.hv).2]) ∧ Below W.heap.size W w') ∧
        (∀ W, CodS w A C O c o W → Calls Tryd.prog 11 #[o.v] W fun e w' => e = .returned (.bool a.hv.may) ∧ Below W.heap.size W w') ∧
        (∀ W, CodS w A C O c o W → Calls Tryd.prog 13 #[o.v, b.v] W fun e w' => e = .returned (.bool (Hd.sameB a.hv b.hv)) ∧ Below W.heap.size W w') ∧
        (∀ W, CodS w A C O c o W → Calls Tryd.prog 14 #[o.v] W fun e w' => e = .returned (.int .i64 (HSize a.hv : Nat)) ∧ Below W.heap.size W w') ∧
        (∀ W, CodS w A C O c o W → Calls Tryd.prog 20 #[o.v, .int .i64 t] W fun e w' => e = .returned (.bool (a.hv.uses t)) ∧ Below W.heap.size W w') ∧
        (∀ W, CodS w A C O c o W → Calls Tryd.prog 21 #[o.v] W fun e w' => ∃ ao n cap g, e = .returned (.slice ao n cap) ∧ rowI g n = a.hv.free ∧ RK 1 w' (.slice ao n cap) n (numL g n) ∧ (∀ j, blk (.slice ao n cap) = some j → W.heap.size ≤ j) ∧ Below W.heap.size W w') ∧
        (∀ W, CodS w A C O c o W → Calls Tryd.prog 35 #[o.v, a.v] W fun e w' => e = .returned (.bool true) ∧ Below w.heap.size W w')) := ⟨fun o ho c A C O => by
      rw [← ho]
      refine ⟨fun W h => Encode_any o W h.wr.at', fun W h => May_at h.wr.at', fun W h => Same_any o b W h.wr.at' (HAb.out W h.below), fun W h => HSize_any o W h.wr.at', fun W h => Uses_any o t W (by have := h.wr.at'.len; omega) h.wr.at'.row, fun W h => Free_own o W (by have := h.wr.at'.len; omega) h.wr.at'.row, fun W h => ?_⟩
      have := is_any w.heap.size o a W h.wr (HAa.out W h.below) h.below.size
      rw [show Hd.sameB o.hv a.hv = true from Hd.sameB_iff.2 ho] at this
      exact this.mono fun e w' h => ⟨h.1, h.2.1⟩⟩
    have HFew := Kp.mk (free_few a.hv)
    clear HEh HIa HIb HAa HAb hla hlb hpl h1000
    generalize (encV a.hv) = EV at HRE HMh
    obtain ⟨es, ee⟩ := EV
    simp only [] at HRE HMh
    obtain ⟨M, hM⟩ : ∃ M, a.hv.may = M := ⟨_, rfl⟩
    obtain ⟨R, hR⟩ : ∃ R, Hd.sameB a.hv b.hv = R := ⟨_, rfl⟩
    obtain ⟨Z, hZ⟩ : ∃ Z, HSize a.hv = Z := ⟨_, rfl⟩
    obtain ⟨U, hU⟩ : ∃ U, a.hv.uses t = U := ⟨_, rfl⟩
    rw [hM] at HRM HMh
    rw [hR] at HRS HMh
    rw [hZ] at HRZ HMh
    rw [hU] at HRU HMh
    clear hM hR hZ hU
    obtain ⟨ga, ba, sa, loa, lla, lca, lfa⟩ := a
    obtain ⟨gb, bb, sb, lob, llb, lcb, lfb⟩ := b
    unfold HdV.v at *
    simp only [] at *
    have HB1 := Kp.mk (((Below.refl w.heap.size w).alloc (Nat.le_refl _) (.cells #[.int .i64 ga, .int .i64 ba, .int .i64 sa, .slice loa lla lca] 24)).alloc (by simp) (.cells #[.int .i64 gb, .int .i64 bb, .int .i64 sb, .slice lob llb lcb] 24))
    have HX := Kp.mk (heap_first w (.cells #[.int .i64 ga, .int .i64 ba, .int .i64 sa, .slice loa lla lca] 24) (.cells #[.int .i64 gb, .int .i64 bb, .int .i64 sb, .slice lob llb lcb] 24))
    have HY := Kp.mk (heap_second w (.cells #[.int .i64 ga, .int .i64 ba, .int .i64 sa, .slice loa lla lca] 24) (.cells #[.int .i64 gb, .int .i64 bb, .int .i64 sb, .slice lob llb lcb] 24))
    go_enter Tryd.func8, Tryd.ntmps8
    go_wp2_with fail
    refine (HOn.out _ HB1.out).mono ?_
    rintro e w2 ⟨⟨go, bo, so, loo, llo, lco, lfo⟩, rfl, ho, hwr, b2⟩
    simp only []
    have HM := HMh.out _ ho (w2.heap.size) #[.int .i64 ga, .int .i64 ba, .int .i64 sa, .slice loa lla lca] #[.int .i64 gb, .int .i64 bb, .int .i64 sb, .slice lob llb lcb] #[.int .i64 go, .int .i64 bo, .int .i64 so, .slice loo llo lco]
    simp only [] at HM
    obtain ⟨hE, hMy, hSm, hSz, hUs, hFr, hIs⟩ := HM
    have HE := Kp.mk hE
    have HMy := Kp.mk hMy
    have HSm := Kp.mk hSm
    have HSz := Kp.mk hSz
    have HUs := Kp.mk hUs
    have HFr := Kp.mk hFr
    have HIs := Kp.mk hIs
    have HS : Kp (CodS w #[.int .i64 ga, .int .i64 ba, .int .i64 sa, .slice loa lla lca] #[.int .i64 gb, .int .i64 bb, .int .i64 sb, .slice lob llb lcb] #[.int .i64 go, .int .i64 bo, .int .i64 so, .slice loo llo lco] w2.heap.size ⟨go, bo, so, loo, llo, lco, lfo⟩ (w2.alloc (.cells #[.int .i64 go, .int .i64 bo, .int .i64 so, .slice loo llo lco] 24))) := ⟨by
      have hb3 : Below w2.heap.size w2 (w2.alloc (.cells #[.int .i64 go, .int .i64 bo, .int .i64 so, .slice loo llo lco] 24)) := (Below.refl _ _).alloc (Nat.le_refl _) _
      have x2 := (b2.block _ (lt_of_block' HX.out)).trans HX.out
      have y2 := (b2.block _ (lt_of_block' HY.out)).trans HY.out
      exact ⟨(hb3.block _ (lt_of_block' x2)).trans x2, (hb3.block _ (lt_of_block' y2)).trans y2, heap_alloc_new _ _, (hwr.mono HB1.out.size).below hb3, (HB1.out.trans (b2.mono HB1.out.size)).trans (hb3.mono (HB1.out.trans (b2.mono HB1.out.size)).size)⟩⟩
    clear ho hwr b2 HX HY HB1 HMh hE hMy hSm hSz hUs hFr hIs HOn
    go_wp2_with fail
    generalize w2.alloc (.cells #[.int .i64 go, .int .i64 bo, .int .i64 so, .slice loo llo lco] 24) = w3 at HS ⊢
    generalize w2.heap.size = c at HS HE HMy HSm HSz HUs HFr HIs ⊢
    refine (HE.out _ HS.out).mono ?_
    rintro e w4 ⟨rfl, b⟩
    replace HS := Kp.mk (HS.out.next b)
    clear b
    obtain ⟨y0, y1, y2, y3, y4, y5, y6, y7, y8, y9, y10, y11⟩ := HS.out.cells
    go_wp2_with fail
    refine (HRE.out _ HS.out.below).mono ?_
    rintro e w5 ⟨rfl, b⟩
    replace HS := Kp.mk (HS.out.next b)
    clear b y0 y1 y2 y3 y4 y5 y6 y7 y8 y9 y10 y11
    have hb0 : Below w5.heap.size w5 w5.drew := (Below.refl _ _).drew
    have HKeep : Kp (∀ w', Below w5.heap.size w5 w' → Below w5.heap.size w5 w' ∧ w'.cell? ⟨w.heap.size, 0, none⟩ = some (.int .i64 ga) ∧ w'.cell? ⟨w.heap.size, 1, none⟩ = some (.int .i64 ba) ∧ w'.cell? ⟨w.heap.size, 2, none⟩ = some (.int .i64 sa) ∧ w'.cell? ⟨w.heap.size, 3, none⟩ = some (.slice loa lla lca) ∧ w'.cell? ⟨w.heap.size + 1, 0, none⟩ = some (.int .i64 gb) ∧ w'.cell? ⟨w.heap.size + 1, 1, none⟩ = some (.int .i64 bb) ∧ w'.cell? ⟨w.heap.size + 1, 2, none⟩ = some (.int .i64 sb) ∧ w'.cell? ⟨w.heap.size + 1, 3, none⟩ = some (.slice lob llb lcb) ∧ w'.cell? ⟨c, 0, none⟩ = some (.int .i64 go) ∧ w'.cell? ⟨c, 1, none⟩ = some (.int .i64 bo) ∧ w'.cell? ⟨c, 2, none⟩ = some (.int .i64 so) ∧ w'.cell? ⟨c, 3, none⟩ = some (.slice loo llo lco)) := ⟨fun W hW => ⟨hW, (HS.out.next hW).cells⟩⟩
    obtain ⟨-, y0, y1, y2, y3, y4, y5, y6, y7, y8, y9, y10, y11⟩ := HKeep.out w5.drew hb0
    have HC1 := Kp.mk (fun W (hW : Below w5.heap.size w5 W) => rel_to (HMy.out W (HS.out.next hW)) hW)
    have HC2 := Kp.mk (fun W (hW : Below w5.heap.size w5 W) => rel_to (HRM.out W ((HS.out.next hW).below)) hW)
    have HC3 := Kp.mk (fun W (hW : Below w5.heap.size w5 W) => rel_to (HSm.out W (HS.out.next hW)) hW)
    have HC4 := Kp.mk (fun W (hW : Below w5.heap.size w5 W) => rel_to (HRS.out W ((HS.out.next hW).below)) hW)
    have HC5 := Kp.mk (fun W (hW : Below w5.heap.size w5 W) => rel_to (HSz.out W (HS.out.next hW)) hW)
    have HC6 := Kp.mk (fun W (hW : Below w5.heap.size w5 W) => rel_to (HRZ.out W ((HS.out.next hW).below)) hW)
    have HC7 := Kp.mk (fun W (hW : Below w5.heap.size w5 W) => rel_to (HUs.out W (HS.out.next hW)) hW)
    have HC8 := Kp.mk (fun W (hW : Below w5.heap.size w5 W) => rel_to (HRU.out W ((HS.out.next hW).below)) hW)
    have q1 : (M != M) = false := by simp
    have q2 : (!(M == M)) = false := by simp
    have q3 : (R != R) = false := by simp
    have q4 : (!(R == R)) = false := by simp
    have q7 : (U != U) = false := by simp
    have q8 : (!(U == U)) = false := by simp
    have q9 : ((ee : Int) != (ee : Int)) = false := by simp
    have q10 : ((Z : Int) != (Z : Int)) = false := by simp
    go_wp2
    go_region_held3 (fun w' => Below w5.heap.size w5 w' ∧ w'.cell? ⟨w.heap.size, 0, none⟩ = some (.int .i64 ga) ∧ w'.cell? ⟨w.heap.size, 1, none⟩ = some (.int .i64 ba) ∧ w'.cell? ⟨w.heap.size, 2, none⟩ = some (.int .i64 sa) ∧ w'.cell? ⟨w.heap.size, 3, none⟩ = some (.slice loa lla lca) ∧ w'.cell? ⟨w.heap.size + 1, 0, none⟩ = some (.int .i64 gb) ∧ w'.cell? ⟨w.heap.size + 1, 1, none⟩ = some (.int .i64 bb) ∧ w'.cell? ⟨w.heap.size + 1, 2, none⟩ = some (.int .i64 sb) ∧ w'.cell? ⟨w.heap.size + 1, 3, none⟩ = some (.slice lob llb lcb) ∧ w'.cell? ⟨c, 0, none⟩ = some (.int .i64 go) ∧ w'.cell? ⟨c, 1, none⟩ = some (.int .i64 bo) ∧ w'.cell? ⟨c, 2, none⟩ = some (.int .i64 so) ∧ w'.cell? ⟨c, 3, none⟩ = some (.slice loo llo lco)) (first | exact HKeep.out _ (by assumption) | go_keep)
    (first
      | (go_at_call 11; (with_reducible refine (HC1.out _ (by assumption)).mono ?_); rintro e w10 ⟨rfl, hb10⟩)
      | (go_at_call 30; (with_reducible refine (HC2.out _ (by assumption)).mono ?_); rintro e w11 ⟨rfl, hb11⟩)
      | (go_at_call 13; (with_reducible refine (HC3.out _ (by assumption)).mono ?_); rintro e w12 ⟨rfl, hb12⟩)
      | (go_at_call 31; (with_reducible refine (HC4.out _ (by assumption)).mono ?_); rintro e w13 ⟨rfl, hb13⟩)
      | (go_at_call 14; (with_reducible refine (HC5.out _ (by assumption)).mono ?_); rintro e w14 ⟨rfl, hb14⟩)
      | (go_at_call 32; (with_reducible refine (HC6.out _ (by assumption)).mono ?_); rintro e w15 ⟨rfl, hb15⟩)
      | (go_at_call 20; (with_reducible refine (HC7.out _ (by assumption)).mono ?_); rintro e w16 ⟨rfl, hb16⟩)
      | (go_at_call 33; (with_reducible refine (HC8.out _ (by assumption)).mono ?_); rintro e w17 ⟨rfl, hb17⟩))
    have HS6 := Kp.mk (HS.out.next hb17)
    clear hb0 hb10 hb11 hb12 hb13 hb14 hb15 hb16 hb17 q1 q2 q3 q4 q7 q8 q9 q10 HC1 HC2 HC3 HC4 HC5 HC6 HC7 HC8 HKeep y0 y1 y2 y3 y4 y5 y6 y7 y8 y9 y10 y11 HS HE HMy HSm HSz HUs HRE HRM HRS HRZ HRU
    go_wp2
    go_loopw [14] (fun i wr => ∃ k : Nat, k ≤ 2 ∧ i = .int .i64 k ∧ CodS w #[.int .i64 ga, .int .i64 ba, .int .i64 sa, .slice loa lla lca] #[.int .i64 gb, .int .i64 bb, .int .i64 sb, .slice lob llb lcb] #[.int .i64 go, .int .i64 bo, .int .i64 so, .slice loo llo lco] c ⟨go, bo, so, loo, llo, lco, lfo⟩ wr) (fun i _ => 2 - (intOf i).toNat)
    case atStart => exact ⟨0, by omega, rfl, HS6.out⟩
    case round =>
      clear HS6
      obtain ⟨k, hk, rfl, hs⟩ := hrel
      have HS := Kp.mk hs
      clear hs
      by_cases hk2 : k < 2
      · have i1 : decide ((k : Int) < 2) = true := by rw [decide_eq_true_eq]; omega
        go_wp2_with fail
        refine (HDp.out _).mono ?_
        rintro e w6 ⟨⟨g1, b1, s1, lo1, ll1, lc1, lf1⟩, rfl, hv1, ho1, bb1⟩
        simp only []
        have hb7 : Below w6.heap.size w6 (w6.alloc (.cells #[.int .i64 g1, .int .i64 b1, .int .i64 s1, .slice lo1 ll1 lc1] 24)) := (Below.refl _ _).alloc (Nat.le_refl _) _
        have HB7 := Kp.mk (bb1.trans (hb7.mono bb1.size))
        have HX7 := Kp.mk (heap_alloc_new w6 (.cells #[.int .i64 g1, .int .i64 b1, .int .i64 s1, .slice lo1 ll1 lc1] 24))
        have HO7 := Kp.mk (ho1.below hb7)
        have HV1 := Kp.mk hv1
        clear hb7 bb1 ho1 hv1
        go_wp2_with fail
        generalize w6.alloc (.cells #[.int .i64 g1, .int .i64 b1, .int .i64 s1, .slice lo1 ll1 lc1] 24) = w7 at HB7 HX7 HO7 ⊢
        generalize w6.heap.size = c1 at HX7 ⊢
        refine (HRD.out _).mono ?_
        rintro e w8 ⟨⟨g2, b2, s2, lo2, ll2, lc2, lf2⟩, rfl, hv2, ho2, bb2⟩
        simp only []
        have hb9 : Below w8.heap.size w8 (w8.alloc (.cells #[.int .i64 g2, .int .i64 b2, .int .i64 s2, .slice lo2 ll2 lc2] 24)) := (Below.refl _ _).alloc (Nat.le_refl _) _
        have hb79 := bb2.trans (hb9.mono bb2.size)
        have HB9 := Kp.mk (HB7.out.trans (hb79.mono HB7.out.size))
        have HX9 := Kp.mk ((hb79.block _ (lt_of_block' HX7.out)).trans HX7.out)
        have HY9 := Kp.mk (heap_alloc_new w8 (.cells #[.int .i64 g2, .int .i64 b2, .int .i64 s2, .slice lo2 ll2 lc2] 24))
        have HO9 := Kp.mk (HO7.out.below hb79)
        have HP9 := Kp.mk (ho2.below hb9)
        have HS8 := Kp.mk ((HS.out.next HB7.out).next bb2)
        have HEq : Kp (Hd.sameB (HdV.hv ⟨g1, b1, s1, lo1, ll1, lc1, lf1⟩) (HdV.hv ⟨g2, b2, s2, lo2, ll2, lc2, lf2⟩) = true) := ⟨Hd.sameB_iff.2 (HV1.out.trans hv2.symm)⟩
        obtain ⟨y0, y1, y2, y3, y4, y5, y6, y7, y8, y9, y10, y11⟩ := HS8.out.cells
        have hlt := lt_of_block' HS8.out.ro
        clear hb9 hb79 bb2 ho2 hv2 HB7 HX7 HO7 HV1
        go_wp2_with fail
        generalize w8.alloc (.cells #[.int .i64 g2, .int .i64 b2, .int .i64 s2, .slice lo2 ll2 lc2] 24) = w9 at HB9 HX9 HY9 HO9 HP9 ⊢
        generalize hc2 : w8.heap.size = c2 at HY9 ⊢
        clear hc2
        have HS9 := Kp.mk (HS.out.next HB9.out)
        refine (HFr.out _ HS9.out).mono ?_
        rintro e w10 ⟨ao, n, cap, g, rfl, hg, hr, hnew, bb⟩
        have HB10 := Kp.mk (HB9.out.trans (bb.mono HB9.out.size))
        have hx10 := (bb.block _ (lt_of_block' HX9.out)).trans HX9.out
        have hy10 := (bb.block _ (lt_of_block' HY9.out)).trans HY9.out
        have HO10 := Kp.mk (HO9.out.below bb)
        have HP10 := Kp.mk (HP9.out.below bb)
        have HOff : Kp (∀ j, blk (.slice ao n cap) = some j → blk (.slice lo1 ll1 lc1) ≠ some j) := ⟨fun j hj he => by have := hnew j hj; have := HO9.out.row.lt j he; omega⟩
        have HNw : Kp (∀ j, blk (.slice ao n cap) = some j → wr.heap.size ≤ j) := ⟨fun j hj => by have := hnew j hj; have := HB9.out.size; omega⟩
        have HR10 := Kp.mk hr
        have hn : n ≤ 100 := by
          have := congrArg List.length hg
          rw [rowI_len] at this
          rw [this]
          exact HFew.out
        have HN := Kp.mk hn
        have HG := Kp.mk hg
        have HIs1 := Kp.mk (is_any wr.heap.size ⟨g1, b1, s1, lo1, ll1, lc1, lf1⟩ ⟨g2, b2, s2, lo2, ll2, lc2, lf2⟩ w10 HO10.out.wr HP10.out.at' HB10.out.size)
        rw [HEq.out] at HIs1
        unfold HdV.v at HIs1
        simp only [] at HIs1
        obtain ⟨x0, x1, x2, x3⟩ := cells4 hx10
        obtain ⟨z0, z1, z2, z3⟩ := cells4 hy10
        have q9 : ((e2 : Int) != (e2 : Int)) = false := by simp
        clear bb hr hnew hn hg hx10 hy10 y0 y1 y2 y3 y4 y5 y6 y7 y8 y9 y10 y11 hlt HO9 HP9 HB9 HX9 HY9 HS8 HS9
        go_wp2_with fail
        refine HIs1.out.mono ?_
        rintro e w11 ⟨rfl, b11, kp⟩
        have HB11 := Kp.mk (HB10.out.trans b11)
        have HR11 := Kp.mk (HR10.out.same b11.size (fun j hj => kp j (HR10.out.lt j hj) (HOff.out j hj)))
        have HS11 := Kp.mk (HS.out.next HB11.out)
        obtain ⟨y0, y1, y2, y3, y4, y5, y6, y7, y8, y9, y10, y11⟩ := HS11.out.cells
        clear b11 kp HIs1 x0 x1 x2 x3 z0 z1 z2 z3
        go_wp2_with fail
        refine (HRF.out _ HS11.out.below).mono ?_
        rintro e w12 ⟨ao2, n2, cap2, gg2, rfl, hg2, hr2, hnew2, bb⟩
        have HB12 := Kp.mk (HB11.out.trans (bb.mono HB11.out.size))
        have hR12 := HR11.out.below bb
        have hn2 : n2 ≤ 100 := by
          have := congrArg List.length hg2
          rw [rowI_len] at this
          rw [this]
          exact HFew.out
        have hw2 : HdWr w11.heap.size w12 ⟨0, 0, 0, ao2, n2, cap2, gg2⟩ := ⟨hr2, hnew2, hn2⟩
        have HIs2 := Kp.mk (is_any wr.heap.size ⟨0, 0, 0, ao, n, cap, g⟩ ⟨0, 0, 0, ao2, n2, cap2, gg2⟩ w12 ⟨hR12, HNw.out, HN.out⟩ hw2.at' HB12.out.size)
        rw [show Hd.sameB (HdV.hv ⟨0, 0, 0, ao, n, cap, g⟩) (HdV.hv ⟨0, 0, 0, ao2, n2, cap2, gg2⟩) = true from Hd.sameB_iff.2 (by unfold HdV.hv; simp only []; rw [HG.out, hg2])] at HIs2
        unfold HdV.v at HIs2
        simp only [] at HIs2
        clear bb hr2 hnew2 hn2 hg2 hw2 hR12 y0 y1 y2 y3 y4 y5 y6 y7 y8 y9 y10 y11
        go_wp2_with fail
        refine HIs2.out.mono ?_
        rintro e w13 ⟨rfl, b13, -⟩
        have HS13 := Kp.mk (HS.out.next (HB12.out.trans b13))
        clear b13
        go_wp2
        go_roundw
        case rel => exact ⟨k + 1, by omega, by go_num, HS13.out⟩
        case measure => simp [intOf]; omega
      · obtain rfl : k = 2 := by omega
        have h22 : ((2 : Nat) : Int) = 2 := rfl
        rw [h22]
        obtain ⟨y0, y1, y2, y3, y4, y5, y6, y7, y8, y9, y10, y11⟩ := HS.out.cells
        go_wp2_with fail
        refine (HIs.out _ HS.out).mono ?_
        rintro e w6 ⟨rfl, b6⟩
        have HB6 := Kp.mk (HS.out.below.trans b6)
        clear b6
        go_wp2_with fail
        refine (HAw.out _ HB6.out).mono ?_
        rintro e w7 ⟨rfl, b7⟩
        have HB7 := Kp.mk (HB6.out.trans (b7.mono HB6.out.size))
        clear b7
        go_wp2
        go_ret
        exact ⟨by trivial, HB7.out⟩
  · obtain ⟨ga, ba, sa, loa, lla, lca, lfa⟩ := a
    obtain ⟨gb, bb, sb, lob, llb, lcb, lfb⟩ := b
    unfold HdV.v
    have HB1 := Kp.mk (((Below.refl w.heap.size w).alloc (Nat.le_refl _) (.cells #[.int .i64 ga, .int .i64 ba, .int .i64 sa, .slice loa lla lca] 24)).alloc (by simp) (.cells #[.int .i64 gb, .int .i64 bb, .int .i64 sb, .slice lob llb lcb] 24))
    simp only [] at hsm hla hlb
    clear HIa HIb
    by_cases h1 : lla ≤ 100
    · have t1 : decide ((100 : Int) < (lla : Int)) = false := decide_eq_false (by omega)
      have t1' : decide (100 < lla) = false := decide_eq_false (by omega)
      by_cases h2 : llb ≤ 100
      · have t2 : decide ((100 : Int) < (llb : Int)) = false := decide_eq_false (by omega)
        have t2' : decide (100 < llb) = false := decide_eq_false (by omega)
        have t3 : decide ((1000 : Int) < (p.size : Int)) = true := decide_eq_true (by omega)
        have t3' : decide (1000 < p.size) = true := decide_eq_true (by omega)
        clear hsm hla hlb hpl
        go_enter Tryd.func8, Tryd.ntmps8
        go_wp2_with fail
        refine (HAw.out _ HB1.out).mono ?_
        rintro e w2 ⟨rfl, b2⟩
        have B2 := Kp.mk (HB1.out.trans (b2.mono HB1.out.size))
        clear b2
        go_wp2
        go_ret
        exact ⟨rfl, B2.out⟩
      · have t2 : decide ((100 : Int) < (llb : Int)) = true := decide_eq_true (by omega)
        have t2' : decide (100 < llb) = true := decide_eq_true (by omega)
        clear hsm hla hlb hpl
        go_enter Tryd.func8, Tryd.ntmps8
        go_wp2_with fail
        refine (HAw.out _ HB1.out).mono ?_
        rintro e w2 ⟨rfl, b2⟩
        have B2 := Kp.mk (HB1.out.trans (b2.mono HB1.out.size))
        clear b2
        go_wp2
        go_ret
        exact ⟨rfl, B2.out⟩
    · have t1 : decide ((100 : Int) < (lla : Int)) = true := decide_eq_true (by omega)
      have t1' : decide (100 < lla) = true := decide_eq_true (by omega)
      clear hsm hla hlb hpl
      go_enter Tryd.func8, Tryd.ntmps8
      go_wp2_with fail
      refine (HAw.out _ HB1.out).mono ?_
      rintro e w2 ⟨rfl, b2⟩
      have B2 := Kp.mk (HB1.out.trans (b2.mono HB1.out.size))
      clear b2
      go_wp2
      go_ret
      exact ⟨rfl, B2.out⟩
set_option maxRecDepth 100000 in
theorem walkHeadCodes {H : Type} {enc : TypeId × Value → H} {b1 b2 : Nat} {d1 d2 : DataW H} {ps1 ps2 : List MemPlace} {ts : List TypeId} {ds : List (DataW H)} (w : World)
    (v1 : Value) (hv1 : Value.okWide Tryd.prog w .any b1 24 v1) (hV1 : DataW.Trod enc Tryd.prog w 0 (fun _ => true) true 24 v1 d1 ps1)
    (v2 : Value) (hv2 : Value.okWide Tryd.prog w .any b2 24 v2) (hV2 : DataW.Trod enc Tryd.prog w 0 (fun _ => true) true 24 v2 d2 ps2)
    (p : ByteArray) (hp : p.size ≤ maxLen) (t : Int) (ht' : (Lit.int .i64 t).wf = true) (hweigh : (DataW.weightsEach Tryd.prog ts ds).all (· ≤ reachBytes) = true) (ht : Tab w) :
    Calls Tryd.prog 8 #[v1, v2, .string p, .int .i64 t] w fun e w' => e = .returned (.bool true) ∧ Below w.heap.size w w' := by
  obtain ⟨a, rfl, ha⟩ := head_param hv1 hV1
  obtain ⟨b, rfl, hb⟩ := head_param hv2 hV2
  exact codes_core a b p t w ha hb ht hp
end Go.Proofs.YtjpkncfmionieaaDoor
