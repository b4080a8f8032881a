/- The examples that each statement of chapter 9 asks: the walk. -/
import Derived.Test.YtjpkncfmionieaaDoorHeadEx
namespace Go.Proofs.YtjpkncfmionieaaDoor
open Go.RowKit
set_option linter.unusedVariables false

theorem On_yes (g : Nat) (D : DiskV) (n : Int) (t : Nat) (h0 : Hd.HV) (w : World) (h : DiskAt w g D) (ho : Ok D) (ht : Tab w) (hd : D.down = false) (hv : Hd.diskV D = (h0, t, true)) (hg : h0.gen = n) :
    Calls Tryd.prog 37 #[.pointer (some ⟨g, 0, none⟩), .int .i64 n, .int .i64 t] w fun e w' => e = .returned (.bool true) ∧ Below w.heap.size w w' := by
  have HL := Kp.mk (Load_up g D w h ho ht hd)
  rw [hv] at HL
  simp only [] at HL
  clear h ho ht hd hv
  go_enter Tryd.func37, Tryd.ntmps37
  go_wp2_with fail
  refine HL.out.mono ?_
  rintro e w2 ⟨⟨ga, ba, sa, loa, lla, lca, lfa⟩, rfl, hq, -, b2⟩
  have hga : ga = n := by rw [← hg, ← hq]; rfl
  unfold HdV.v
  simp only []
  subst hga
  have HB := Kp.mk (b2.alloc b2.size (.cells #[.int .i64 ga, .int .i64 ba, .int .i64 sa, .slice loa lla lca] 24))
  clear hq b2 hg HL
  go_wp2
  go_ret
  exact ⟨rfl, HB.out⟩
def oneQ (b : Nat) (n : Int) : HdV := ⟨n, 0, 0, some ⟨b, 0, none⟩, 1, 1, fun _ => 2⟩
theorem oneQ_hv (b : Nat) (n : Int) : (oneQ b n).hv = Hd.eH n := rfl
/-- The example's head lies in the block b + 1, its row in the block b. -/
structure OneS (w W : World) (b : Nat) (n : Int) : Prop where
  row : W.heap[b]? = some (.cells #[.int .i64 2] 3 (0, 0))
  one : W.heap[b + 1]? = some (.cells #[.int .i64 n, .int .i64 0, .int .i64 0, .slice (some ⟨b, 0, none⟩) 1 1] 24 (0, 0))
  below : Below b w W
section
variable {w W W' : World} {b g : Nat} {n : Int}
theorem OneS.lt (h : OneS w W b n) : b + 1 < W.heap.size := lt_of_block' h.one
theorem OneS.at' (h : OneS w W b n) : HdAt W (oneQ b n) := by
  refine ⟨(by show 1 + 1 ≤ maxLen; decide), (by show (1 + 1) * 8 ≤ 140737488355328; decide), .inr ⟨_, rfl⟩, fun W' hW j hj => ⟨_, rfl, ?_⟩⟩
  have hj' : j = 0 := by change j < 1 at hj; omega
  subst hj'
  exact cell_of_row _ _ _ _ _ _ ((hW.block b (by have := h.lt; omega)).trans h.row)
theorem OneS.next (h : OneS w W b n) (hb : Below W.heap.size W W') : OneS w W' b n := by
  have hl := h.lt
  exact ⟨(hb.block b (by omega)).trans h.row, (hb.block (b + 1) (by omega)).trans h.one, h.below.trans (hb.mono (by omega))⟩
theorem OneS.chg (h : OneS w W b n) (c : Chg W W' g) (hg : b + 1 < g) : OneS w W' b n := by
  have hl := h.lt
  exact ⟨(c.block b (by omega) (fun e => by cases e; omega)).trans h.row, (c.block (b + 1) (by omega) (fun e => by cases e; omega)).trans h.one, c.below h.below (by omega) (by omega)⟩
theorem OneS.gen (h : OneS w W b n) (m : Int) : OneS w (W.setCell ⟨b + 1, 0, none⟩ (.int .i64 m)) b m := by
  have hl := h.lt
  exact ⟨(Below.heap_setCell W ⟨b + 1, 0, none⟩ _ b (by show b ≠ b + 1; omega)).trans h.row, heap_setCell_same W (b + 1) 0 _ _ _ h.one, h.below.setCell (p := ⟨b + 1, 0, none⟩) (by show b ≤ b + 1; omega) _⟩
end
set_option maxRecDepth 100000 in
set_option maxHeartbeats 4000000 in
theorem awake_any (w : World) (ht : Tab w) :
    Calls Tryd.prog 9 #[] w fun e w' => e = .returned (.bool true) ∧ Below w.heap.size w w' := by
  have HT := Kp.mk (fun W (hW : Below w.heap.size w W) => ht.below hW)
  have HS0 : Kp (OneS w ((w.alloc (.cells #[.int .i64 2] 3)).alloc (.cells #[.int .i64 1, .int .i64 0, .int .i64 0, .slice (some ⟨w.heap.size, 0, none⟩) 1 1] 24)) w.heap.size 1) := ⟨⟨heap_first w _ _, heap_second w _ _, ((Below.refl _ _).alloc (Nat.le_refl _) _).alloc (by simp) _⟩⟩
  have E1 : Kp (∀ W, HdAt W (oneQ w.heap.size 1) → Calls Tryd.prog 10 #[(oneQ w.heap.size 1).v] W fun e w' => e = .returned (.tuple #[.string ⟨#[1, 0, 0, 1, 2]⟩, .int .i64 0]) ∧ Below W.heap.size W w') := ⟨fun W h => by
    have := Encode_yes (oneQ w.heap.size 1) W h (Hd.eH_may (n := 1) (by decide) (by decide))
    rw [oneQ_hv, show (Hd.eH 1).enc = [1, 0, 0, 1, 2] from Hd.eH_enc (n := 1) (by decide)] at this
    exact this⟩
  have E2 : Kp (∀ W, HdAt W (oneQ w.heap.size 1) → Calls Tryd.prog 14 #[(oneQ w.heap.size 1).v] W fun e w' => e = .returned (.int .i64 14) ∧ Below W.heap.size W w') := ⟨fun W h => by
    have := HSize_any (oneQ w.heap.size 1) W h
    rw [oneQ_hv, HSize, if_pos (Hd.eH_may (n := 1) (by decide) (by decide)), show (Hd.eH 1).enc.length = 5 from Hd.eH_len (n := 1) (by decide)] at this
    exact this⟩
  have E3 : Kp (∀ W g, DiskAt W g Hd.xD0 → Tab W → Calls Tryd.prog 17 #[.pointer (some ⟨g, 0, none⟩)] W fun e w' => (∃ q : HdV, e = .returned (.tuple #[q.v, .int .i64 0, .bool false, .int .i64 0])) ∧ Below W.heap.size W w') := ⟨fun W g h htb => (Load_up g Hd.xD0 W h Hd.ok_x0 htb rfl).mono fun e w' ⟨q, he, _, _, hb⟩ => by
    rw [Hd.x0] at he
    exact ⟨⟨q, he⟩, hb⟩⟩
  have EP : Kp (∀ W g D n f D', OneS w W w.heap.size n → DiskAt W g D → Ok D → Tab W → Hd.putV D (Hd.eH n) = (f, D') → Calls Tryd.prog 16 #[.pointer (some ⟨g, 0, none⟩), (oneQ w.heap.size n).v] W fun e w' => e = .returned (.int .i64 f) ∧ DiskAt w' g D' ∧ Chg W w' g) := ⟨fun W g D n f D' hs hd ho htb hp => by
    have := HPut_any g D (oneQ w.heap.size n) W hd ho htb hs.at'
    rw [oneQ_hv, hp] at this
    exact this⟩
  unfold oneQ HdV.v at E1 E2 EP
  simp only [] at E1 E2 EP
  clear ht
  generalize hbb : w.heap.size = b at *
  go_enter Tryd.func9, Tryd.ntmps9
  go_wp2_with fail
  generalize (w.alloc (.cells #[.int .i64 2] 3)).alloc (.cells #[.int .i64 1, .int .i64 0, .int .i64 0, .slice (some ⟨b, 0, none⟩) 1 1] 24) = w2 at HS0 ⊢
  have HS := HS0
  clear HS0
  obtain ⟨y0, y1, y2, y3⟩ := cells4 HS.out.one
  obtain ⟨u0, -, -, -⟩ := free4 HS.out.one
  have hlt := HS.out.lt
  refine (E1.out _ HS.out.at').mono ?_
  rintro e w3 ⟨rfl, b3⟩
  replace HS := Kp.mk (HS.out.next b3)
  clear b3
  clear y0 y1 y2 y3 u0 hlt
  obtain ⟨y0, y1, y2, y3⟩ := cells4 HS.out.one
  obtain ⟨u0, -, -, -⟩ := free4 HS.out.one
  have hlt := HS.out.lt
  go_wp2_with fail
  refine (New_ok 100 _ (by decide) (by decide)).mono ?_
  rintro e w4 ⟨rfl, d4, b4⟩
  have HG : Kp (b + 1 < w3.heap.size) := ⟨hlt⟩
  have HD : Kp (DiskAt w4 w3.heap.size Hd.xD0) := ⟨d4⟩
  replace HS := Kp.mk (HS.out.next b4)
  clear b4 d4
  generalize w3.heap.size = g at HG HD ⊢
  clear y0 y1 y2 y3 u0 hlt
  obtain ⟨y0, y1, y2, y3⟩ := cells4 HS.out.one
  obtain ⟨u0, -, -, -⟩ := free4 HS.out.one
  have hlt := HS.out.lt
  go_wp2_with fail
  refine (E2.out _ HS.out.at').mono ?_
  rintro e w5 ⟨rfl, b5⟩
  replace HS := Kp.mk (HS.out.next b5)
  replace HD := Kp.mk (HD.out.below b5)
  clear b5
  clear y0 y1 y2 y3 u0 hlt
  obtain ⟨y0, y1, y2, y3⟩ := cells4 HS.out.one
  obtain ⟨u0, -, -, -⟩ := free4 HS.out.one
  have hlt := HS.out.lt
  go_wp2_with fail
  refine (E3.out _ _ HD.out (HT.out _ HS.out.below)).mono ?_
  rintro e w6 ⟨⟨⟨ga, ba, sa, loa, lla, lca, lfa⟩, rfl⟩, b6⟩
  unfold HdV.v
  simp only []
  replace HS := Kp.mk (HS.out.next b6)
  replace HD := Kp.mk (HD.out.below b6)
  clear b6
  clear y0 y1 y2 y3 u0 hlt
  obtain ⟨y0, y1, y2, y3⟩ := cells4 HS.out.one
  obtain ⟨u0, -, -, -⟩ := free4 HS.out.one
  have hlt := HS.out.lt
  have HSa : Kp (∀ o, OneS w (w6.alloc o) b 1) := ⟨fun o => HS.out.next ((Below.refl _ _).alloc (Nat.le_refl _) _)⟩
  have HDa : Kp (∀ o, DiskAt (w6.alloc o) g Hd.xD0) := ⟨fun o => HD.out.alloc o⟩
  go_wp2_with fail
  refine (EP.out _ g Hd.xD0 1 0 Hd.xD1 (HSa.out _) (HDa.out _) Hd.ok_x0 (HT.out _ (HSa.out _).below) Hd.put1).mono ?_
  rintro e w7 ⟨rfl, d7, c7⟩
  replace HS := Kp.mk (((HSa.out _)).chg c7 HG.out)
  replace HD := Kp.mk d7
  clear c7 d7
  clear y0 y1 y2 y3 u0 hlt
  obtain ⟨y0, y1, y2, y3⟩ := cells4 HS.out.one
  obtain ⟨u0, -, -, -⟩ := free4 HS.out.one
  have hlt := HS.out.lt
  clear HSa HDa
  go_wp2_with fail
  refine (On_yes g Hd.xD1 1 0 (Hd.eH 1) _ HD.out Hd.ok_x1 (HT.out _ HS.out.below) rfl Hd.x1 rfl).mono ?_
  rintro e w8 ⟨rfl, b8⟩
  replace HS := Kp.mk (HS.out.next b8)
  replace HD := Kp.mk (HD.out.below b8)
  clear b8
  clear y0 y1 y2 y3 u0 hlt
  obtain ⟨y0, y1, y2, y3⟩ := cells4 HS.out.one
  obtain ⟨u0, -, -, -⟩ := free4 HS.out.one
  have hlt := HS.out.lt
  have HSg := Kp.mk (HS.out.gen 2)
  have HDg := Kp.mk (HD.out.same (Below.heap_setCell w8 ⟨b + 1, 0, none⟩ (.int .i64 2) g (by show g ≠ b + 1; have := HG.out; omega)))
  go_wp2_with fail
  refine (EP.out _ g Hd.xD1 2 0 Hd.xD2 HSg.out HDg.out Hd.ok_x1 (HT.out _ HSg.out.below) Hd.put2).mono ?_
  rintro e w9 ⟨rfl, d9, c9⟩
  replace HS := Kp.mk ((HSg.out).chg c9 HG.out)
  replace HD := Kp.mk d9
  clear c9 d9
  clear y0 y1 y2 y3 u0 hlt
  obtain ⟨y0, y1, y2, y3⟩ := cells4 HS.out.one
  obtain ⟨u0, -, -, -⟩ := free4 HS.out.one
  have hlt := HS.out.lt
  clear HSg HDg
  go_wp2_with fail
  refine (On_yes g Hd.xD2 2 1 (Hd.eH 2) _ HD.out Hd.ok_x2 (HT.out _ HS.out.below) rfl Hd.x2 rfl).mono ?_
  rintro e w10 ⟨rfl, b10⟩
  replace HS := Kp.mk (HS.out.next b10)
  replace HD := Kp.mk (HD.out.below b10)
  clear b10
  clear y0 y1 y2 y3 u0 hlt
  obtain ⟨y0, y1, y2, y3⟩ := cells4 HS.out.one
  obtain ⟨u0, -, -, -⟩ := free4 HS.out.one
  have hlt := HS.out.lt
  have HSg := Kp.mk (HS.out.gen 3)
  have HDg := Kp.mk (HD.out.same (Below.heap_setCell w10 ⟨b + 1, 0, none⟩ (.int .i64 3) g (by show g ≠ b + 1; have := HG.out; omega)))
  go_wp2_with fail
  refine (EP.out _ g Hd.xD2 3 0 Hd.xD3 HSg.out HDg.out Hd.ok_x2 (HT.out _ HSg.out.below) Hd.put3).mono ?_
  rintro e w11 ⟨rfl, d11, c11⟩
  replace HS := Kp.mk ((HSg.out).chg c11 HG.out)
  replace HD := Kp.mk d11
  clear c11 d11
  clear y0 y1 y2 y3 u0 hlt
  obtain ⟨y0, y1, y2, y3⟩ := cells4 HS.out.one
  obtain ⟨u0, -, -, -⟩ := free4 HS.out.one
  have hlt := HS.out.lt
  clear HSg HDg
  go_wp2_with fail
  refine (On_yes g Hd.xD3 3 0 (Hd.eH 3) _ HD.out Hd.ok_x3 (HT.out _ HS.out.below) rfl Hd.x3 rfl).mono ?_
  rintro e w12 ⟨rfl, b12⟩
  replace HS := Kp.mk (HS.out.next b12)
  replace HD := Kp.mk (HD.out.below b12)
  clear b12
  clear y0 y1 y2 y3 u0 hlt
  obtain ⟨y0, y1, y2, y3⟩ := cells4 HS.out.one
  obtain ⟨u0, -, -, -⟩ := free4 HS.out.one
  have hlt := HS.out.lt
  have HSg := Kp.mk (HS.out.gen 4)
  have HDg := Kp.mk (HD.out.same (Below.heap_setCell w12 ⟨b + 1, 0, none⟩ (.int .i64 4) g (by show g ≠ b + 1; have := HG.out; omega)))
  go_wp2_with fail
  refine (Fail_any g Hd.xD3 2 _ HDg.out).mono ?_
  rw [Hd.failf]
  rintro e w13 ⟨rfl, d13, c13⟩
  replace HS := Kp.mk (HSg.out.chg c13 HG.out)
  replace HD := Kp.mk d13
  clear c13 d13 HSg HDg
  clear y0 y1 y2 y3 u0 hlt
  obtain ⟨y0, y1, y2, y3⟩ := cells4 HS.out.one
  obtain ⟨u0, -, -, -⟩ := free4 HS.out.one
  have hlt := HS.out.lt
  go_wp2_with fail
  refine (EP.out _ g Hd.xDf 4 45 Hd.xD4 HS.out HD.out Hd.ok_xf (HT.out _ HS.out.below) (Prod.ext Hd.put4 rfl)).mono ?_
  rintro e w14 ⟨rfl, d14, c14⟩
  replace HS := Kp.mk ((HS.out).chg c14 HG.out)
  replace HD := Kp.mk d14
  clear c14 d14
  clear y0 y1 y2 y3 u0 hlt
  obtain ⟨y0, y1, y2, y3⟩ := cells4 HS.out.one
  obtain ⟨u0, -, -, -⟩ := free4 HS.out.one
  have hlt := HS.out.lt
  have HSa : Kp (∀ o, OneS w (w14.alloc o) b 4) := ⟨fun o => HS.out.next ((Below.refl _ _).alloc (Nat.le_refl _) _)⟩
  have HDa : Kp (∀ o, DiskAt (w14.alloc o) g Hd.xD4) := ⟨fun o => HD.out.alloc o⟩
  have HK : Kp (∀ W, Chg (w14.alloc (.cells #[.int .i64 13] 3)) W g → ∀ j, j < 1 → ∃ a, some (⟨w14.heap.size, 0, none⟩ : Addr) = some a ∧ W.cell? (a.add j) = some (.int .i64 13)) := ⟨fun W hc j hj => by
    have hj' : j = 0 := by omega
    subst hj'
    refine ⟨_, rfl, ?_⟩
    exact chg_cell (B := w14.heap.size) hc (cell_of_row _ _ _ _ _ _ (heap_alloc_new w14 _)) (by have := HD.out.lt; omega)⟩
  go_wp2_with fail
  refine (Back_any g Hd.xD4 (some ⟨w14.heap.size, 0, none⟩) 1 1 (fun _ => 13) _ (HDa.out _) Hd.ok_x4 (by decide) HK.out).mono ?_
  rintro e w15 ⟨rfl, d15, c15⟩
  replace HS := Kp.mk ((HSa.out _).chg c15 HG.out)
  replace HD : Kp (DiskAt w15 g Hd.xD5) := ⟨d15⟩
  clear c15 d15 HSa HDa HK
  clear y0 y1 y2 y3 u0 hlt
  obtain ⟨y0, y1, y2, y3⟩ := cells4 HS.out.one
  obtain ⟨u0, -, -, -⟩ := free4 HS.out.one
  have hlt := HS.out.lt
  go_wp2_with fail
  refine (On_yes g Hd.xD5 3 0 (Hd.eH 3) _ HD.out Hd.ok_x5 (HT.out _ HS.out.below) rfl Hd.x5 rfl).mono ?_
  rintro e w16 ⟨rfl, b16⟩
  replace HS := Kp.mk (HS.out.next b16)
  replace HD := Kp.mk (HD.out.below b16)
  clear b16
  clear y0 y1 y2 y3 u0 hlt
  obtain ⟨y0, y1, y2, y3⟩ := cells4 HS.out.one
  obtain ⟨u0, -, -, -⟩ := free4 HS.out.one
  have hlt := HS.out.lt
  have HBf := Kp.mk HS.out.below
  clear HS HD
  clear y0 y1 y2 y3 u0 hlt
  go_wp2
  go_ret
  exact ⟨rfl, HBf.out⟩
end Go.Proofs.YtjpkncfmionieaaDoor
