/- The walk of HeadParted: it returns true, and leaves what was there. -/
import Derived.Test.YtjpkncfmionieaaDoorHeadOpen
namespace Go.Proofs.YtjpkncfmionieaaDoor
open Go.RowKit Go.ChangeShapes Go.WideShapes
set_option linter.unusedVariables false

theorem FK_prefix (U : Int → Bool) (j : Nat) : ∀ k, j ≤ k → ∃ X, FK U k = FK U j ++ X
  | 0, h => ⟨[], by obtain rfl : j = 0 := by omega
                    simp⟩
  | k + 1, h => by
    by_cases e : j = k + 1
    · subst e; exact ⟨[], by simp⟩
    · obtain ⟨X, hX⟩ := FK_prefix U j k (by omega)
      rw [FK_succ, hX, List.append_assoc]
      exact ⟨_, rfl⟩
theorem FK_get (U : Int → Bool) (j : Nat) (hj : j < 30) (h : U ((j : Int) + 2) = false) : (FK U j).length < (FK U 30).length ∧ (FK U 30)[(FK U j).length]? = some ((j : Int) + 2) := by
  obtain ⟨X, hX⟩ := FK_prefix U (j + 1) 30 (by omega)
  have h1 : FK U (j + 1) = FK U j ++ [(j : Int) + 2] := by rw [FK_succ, h]; rfl
  rw [h1] at hX
  rw [hX]
  constructor
  · simp
  · simp
set_option maxRecDepth 100000 in
set_option maxHeartbeats 4000000 in
theorem parted_core (q : HdV) (w : World) (hq : HdIn w q) (ht : Tab w) :
    Calls Tryd.prog 6 #[q.v] w fun e w' => e = .returned (.bool true) ∧ Below w.heap.size w w' := by
  have HAw := Kp.mk (fun W (hW : Below w.heap.size w W) => awake_any W (ht.below hW))
  have hl : q.ll ≤ maxLen := hq.ok.2.2.2.1
  have HIn := Kp.mk hq
  clear ht
  by_cases h100 : q.ll ≤ 100
  · have HAt := Kp.mk (fun W (hW : Below w.heap.size w W) => (HIn.out.below hW).at' h100)
    have HFr := Kp.mk (fun W (hW : Below w.heap.size w W) => Free_any q W hl (HIn.out.row.below hW))
    have HUs := Kp.mk (fun W (hW : Below w.heap.size w W) (t : Int) => Uses_any q t W hl (HIn.out.row.below hW))
    have HMy := Kp.mk (fun W (hW : Below w.heap.size w W) => May_at (HAt.out W hW))
    have HPa : Kp (q.hv.may = true → q.hv.tapes.length + q.hv.free.length = 30) := ⟨Hd.parted q.hv⟩
    have HTl : Kp (q.hv.tapes.length = if q.snap = 0 then q.ll else q.ll + 1) := ⟨by
      unfold Hd.HV.tapes HdV.hv
      simp only []
      split <;> simp [rowI_len]⟩
    have HFK : Kp (q.hv.free = FK q.hv.uses 30) := ⟨rfl⟩
    rw [HFK.out] at HFr HPa
    obtain ⟨M, hM⟩ : ∃ M, q.hv.may = M := ⟨_, rfl⟩
    obtain ⟨tl, htl⟩ : ∃ tl, q.hv.tapes.length = tl := ⟨_, rfl⟩
    rw [hM] at HPa HMy
    rw [htl] at HPa HTl
    generalize q.hv.uses = U at *
    clear hM htl HFK
    clear hq HIn
    obtain ⟨gen, base, snap, lo, ll, lc, lf⟩ := q
    unfold HdV.v at *
    simp only [] at *
    have hbx := heap_alloc_new w (.cells #[.int .i64 gen, .int .i64 base, .int .i64 snap, .slice lo ll lc] 24)
    have HB1 := Kp.mk ((Below.refl w.heap.size w).alloc (Nat.le_refl _) (.cells #[.int .i64 gen, .int .i64 base, .int .i64 snap, .slice lo ll lc] 24))
    have HBox : Kp (∀ W, Below (w.heap.size + 1) (w.alloc (.cells #[.int .i64 gen, .int .i64 base, .int .i64 snap, .slice lo ll lc] 24)) W → W.cell? ⟨w.heap.size, 0, none⟩ = some (.int .i64 gen) ∧ W.cell? ⟨w.heap.size, 1, none⟩ = some (.int .i64 base) ∧ W.cell? ⟨w.heap.size, 2, none⟩ = some (.int .i64 snap) ∧ W.cell? ⟨w.heap.size, 3, none⟩ = some (.slice lo ll lc)) := ⟨fun W hW => cells4 ((hW.block _ (by omega)).trans hbx)⟩
    have hz1 : (w.alloc (.cells #[.int .i64 gen, .int .i64 base, .int .i64 snap, .slice lo ll lc] 24)).heap.size = w.heap.size + 1 := by simp
    have HZ1 := Kp.mk hz1
    have t1 : decide ((100 : Int) < (ll : Int)) = false := decide_eq_false (by omega)
    have t1' : decide (100 < ll) = false := decide_eq_false (by omega)
    clear hbx hz1
    go_enter Tryd.func6, Tryd.ntmps6
    go_wp2_with fail
    refine (HAw.out _ HB1.out).mono ?_
    rintro e w2 ⟨rfl, b2⟩
    rw [HZ1.out] at b2
    obtain ⟨y0, y1, y2, y3⟩ := HBox.out _ b2
    have B2 := Kp.mk b2
    have HL2 : Kp (w.heap.size + 1 ≤ w2.heap.size) := ⟨by have := b2.size; rw [HZ1.out] at this; exact this⟩
    clear b2
    go_wp2_with fail
    refine (HFr.out _ (HB1.out.trans (B2.out.mono (by omega)))).mono ?_
    rintro e w4 ⟨ao, n, cap, g, rfl, hg, hrow, b4⟩
    have B4 : Kp (Below (w.heap.size + 1) (w.alloc (.cells #[.int .i64 gen, .int .i64 base, .int .i64 snap, .slice lo ll lc] 24)) w4) := ⟨B2.out.trans (b4.mono HL2.out)⟩
    have hn : n = (FK U 30).length := by rw [← hg, rowI_len]
    have HGet : Kp (∀ j : Nat, j < 30 → U ((j : Int) + 2) = false → (FK U j).length < n ∧ g (FK U j).length = (j : Int) + 2) := ⟨fun j hj hu => by
      obtain ⟨h1, h2⟩ := FK_get U j hj hu
      rw [← hn] at h1
      refine ⟨h1, ?_⟩
      rw [← hg] at h2
      simpa [rowI, h1] using h2⟩
    have HN := Kp.mk hn
    have HRow := Kp.mk hrow
    have hn30 : n ≤ 30 := by rw [hn]; exact FK_len U 30
    rw [← hn] at HPa
    clear hg hrow hn b4 B2 HL2 HFr y0 y1 y2 y3
    go_wp2
    go_loopw [4, 5] (fun kv tv wr => ∃ j : Nat, j ≤ 30 ∧ tv = .int .i64 ((j : Int) + 2) ∧ kv = .int .i64 ((FK U j).length : Nat) ∧ Below w4.heap.size w4 wr) (fun _ tv _ => 32 - (intOf tv).toNat)
    case atStart => exact ⟨0, by omega, rfl, rfl, Below.refl _ _⟩
    case round =>
      obtain ⟨j, hj, rfl, rfl, hb⟩ := hrel
      have HB := Kp.mk hb
      have BX := Kp.mk (B4.out.trans (hb.mono (by have := B4.out.size; rw [HZ1.out] at this; exact this)))
      obtain ⟨y0, y1, y2, y3⟩ := HBox.out _ BX.out
      clear hb
      by_cases hj30 : j < 30
      · have i1 : decide ((j : Int) + 2 < 32) = true := by rw [decide_eq_true_eq]; omega
        have n1 : IntKind.i64.wrap ((j : Int) + 2 + 1) = (j : Int) + 2 + 1 := by rw [IntKind.wrap_i64]; omega
        have HUk := Kp.mk (HUs.out _ (HB1.out.trans (BX.out.mono (by omega))) ((j : Int) + 2))
        have HFS := Kp.mk (FK_succ U j)
        have HFL := Kp.mk (FK_len U j)
        have HGj := Kp.mk (HGet.out j hj30)
        cases hu : U ((j : Int) + 2)
        · rw [hu] at HUk HFS HGj
          obtain ⟨hk1, hk2⟩ := HGj.out rfl
          clear hu
          go_wp2_with fail
          refine HUk.out.mono ?_
          rintro e w5 ⟨rfl, b5⟩
          have B5 := Kp.mk (HB.out.trans (b5.mono HB.out.size))
          obtain ⟨a, rfl, hc⟩ := HRow.out w5 B5.out _ hk1
          rw [hk2] at hc
          have HFS' : Kp ((FK U (j + 1)).length = (FK U j).length + 1) := ⟨by rw [HFS.out]; simp⟩
          generalize (FK U j).length = k at *
          have hk0 : (0 : Int) ≤ (k : Int) := by omega
          have hk3 : (k : Int) < (n : Int) := by omega
          have t3 : decide ((n : Int) ≤ (k : Int)) = false := decide_eq_false (by omega)
          have t3' : decide (n ≤ k) = false := decide_eq_false (by omega)
          clear b5 hk2 y0 y1 y2 y3
          go_wp2
          go_roundw
          case rel => exact ⟨j + 1, by omega, by go_num, by rw [HFS'.out]; go_num, B5.out⟩
          case measure => simp [intOf]; omega
        · rw [hu] at HUk HFS
          clear hu
          go_wp2_with fail
          refine HUk.out.mono ?_
          rintro e w5 ⟨rfl, b5⟩
          have B5 := Kp.mk (HB.out.trans (b5.mono HB.out.size))
          clear b5 y0 y1 y2 y3
          go_wp2
          go_roundw
          case rel => exact ⟨j + 1, by omega, by go_num, by rw [HFS.out]; simp, B5.out⟩
          case measure => simp [intOf]; omega
      · obtain rfl : j = 30 := by omega
        rw [← HN.out]
        have HMy' := Kp.mk (HMy.out _ (HB1.out.trans (BX.out.mono (by omega))))
        have HBw : Kp (Below w.heap.size w wr) := ⟨HB1.out.trans (BX.out.mono (by omega))⟩
        by_cases h0 : snap = 0
        · subst h0
          rw [if_pos rfl] at HTl
          cases M
          · go_wp2_with fail
            refine HMy'.out.mono ?_
            rintro e w6 ⟨rfl, b6⟩
            have B6 := Kp.mk (HBw.out.trans (b6.mono HBw.out.size))
            clear b6
            go_wp2
            go_ret
            exact ⟨by trivial, B6.out⟩
          · have t5 : ((ll : Int) + (n : Int) == 30) = true := by have := HPa.out rfl; have := HTl.out; rw [beq_iff_eq]; omega
            go_wp2_with fail
            refine HMy'.out.mono ?_
            rintro e w6 ⟨rfl, b6⟩
            have B6 := Kp.mk (HBw.out.trans (b6.mono HBw.out.size))
            clear b6
            go_wp2
            go_ret
            exact ⟨by trivial, B6.out⟩
        · rw [if_neg h0] at HTl
          have t4 : (snap != 0) = true := by rw [bne_iff_ne]; exact h0
          cases M
          · go_wp2_with fail
            refine HMy'.out.mono ?_
            rintro e w6 ⟨rfl, b6⟩
            have B6 := Kp.mk (HBw.out.trans (b6.mono HBw.out.size))
            clear b6
            go_wp2
            go_ret
            exact ⟨by trivial, B6.out⟩
          · have t5 : ((ll : Int) + 1 + (n : Int) == 30) = true := by have := HPa.out rfl; have := HTl.out; rw [beq_iff_eq]; omega
            go_wp2_with fail
            refine HMy'.out.mono ?_
            rintro e w6 ⟨rfl, b6⟩
            have B6 := Kp.mk (HBw.out.trans (b6.mono HBw.out.size))
            clear b6
            go_wp2
            go_ret
            exact ⟨by trivial, B6.out⟩
  · have t1 : decide ((100 : Int) < (q.ll : Int)) = true := decide_eq_true (by omega)
    have t1' : decide (100 < q.ll) = true := decide_eq_true (by omega)
    obtain ⟨gen, base, snap, lo, ll, lc, lf⟩ := q
    unfold HdV.v
    have HB1 := Kp.mk ((Below.refl w.heap.size w).alloc (Nat.le_refl _) (.cells #[.int .i64 gen, .int .i64 base, .int .i64 snap, .slice lo ll lc] 24))
    simp only [] at t1 t1'
    clear h100 hl
    go_enter Tryd.func6, Tryd.ntmps6
    go_wp2_with fail
    refine (HAw.out _ HB1.out).mono ?_
    rintro e w2 ⟨rfl, b2⟩
    have B2 := Kp.mk (HB1.out.trans (b2.mono HB1.out.size))
    clear b2
    go_wp2
    go_ret
    exact ⟨rfl, B2.out⟩
set_option maxRecDepth 100000 in
theorem walkHeadParted {H : Type} {enc : TypeId × Value → H} {b0 : Nat} {d : DataW H} {ps : List MemPlace} {ts : List TypeId} {ds : List (DataW H)} (w : World) (v : Value) (hv : Value.okWide Tryd.prog w .any b0 24 v) (hV : DataW.Trod enc Tryd.prog w 0 (fun _ => true) true 24 v d ps)
    (hweigh : (DataW.weightsEach Tryd.prog ts ds).all (· ≤ reachBytes) = true) (ht : Tab w) :
    Calls Tryd.prog 6 #[v] w fun e w' => e = .returned (.bool true) ∧ Below w.heap.size w w' := by
  obtain ⟨q, rfl, hq⟩ := head_param hv hV
  exact parted_core q w hq ht
end Go.Proofs.YtjpkncfmionieaaDoor
