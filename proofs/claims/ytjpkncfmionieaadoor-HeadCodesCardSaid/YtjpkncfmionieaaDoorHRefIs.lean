/- The walks of the law's own and is: a head with a row of its own; a comparison that spoils its first head's row. -/
import Derived.Test.YtjpkncfmionieaaDoorHRefDec
namespace Go.Proofs.YtjpkncfmionieaaDoor
open Go.RowKit
set_option linter.unusedVariables false

theorem RK.put {z n g cap : Nat} {w : World} {cs : List Value} (h : RK z w (.slice (some ⟨g, 0, none⟩) n cap) n cs) (j : Nat) (u : Value) (hj : j < n * z) : RK z (w.setCell ⟨g, j, none⟩ u) (.slice (some ⟨g, 0, none⟩) n cap) n (cs.set j u) := by
  refine ⟨by rw [List.length_set]; exact h.1, ?_⟩
  rcases h.2 with ⟨h1, _⟩ | ⟨g', cap', h1, h2, h3, h4⟩
  · simp at h1
  · simp only [Value.slice.injEq, Option.some.injEq, Addr.mk.injEq, and_true, true_and] at h1
    obtain ⟨rfl, rfl⟩ := h1
    have hc : 0 < cap := by
      have hn : 0 < n := by
        rcases Nat.eq_zero_or_pos n with h' | h'
        · subst h'; simp at hj
        · exact h'
      omega
    obtain ⟨h5, h6, h7⟩ := h4 hc
    have hjc : j < cap * z := Nat.lt_of_lt_of_le hj (Nat.mul_le_mul_right _ h2)
    refine .inr ⟨g, cap, rfl, h2, h3, fun _ => ⟨by simpa using h5, fun i x hx => ?_, fun i hi => ?_⟩⟩
    · rw [List.getElem?_set] at hx
      by_cases he : j = i
      · subst he
        rw [if_pos rfl] at hx
        split at hx
        · obtain rfl := Option.some.inj hx
          exact World.cell?_setCell_same' w _ _ (h7 j hjc).1
        · cases hx
      · rw [if_neg he] at hx
        rw [World.cell?_setCell_other (w := w) (a := ⟨g, j, none⟩) (b := ⟨g, i, none⟩) (v := u) (fun e => he (Addr.mk.inj e).2.1)]
        exact h6 i x hx
    · rw [World.frozen?_setCell]
      refine ⟨?_, (h7 i hi).2⟩
      by_cases he : j = i
      · subst he
        rw [World.cell?_setCell_same' w _ _ (h7 j hjc).1]; rfl
      · rw [World.cell?_setCell_other (w := w) (a := ⟨g, j, none⟩) (b := ⟨g, i, none⟩) (v := u) (fun e => he (Addr.mk.inj e).2.1)]
        exact (h7 i hi).1
theorem RK.isCell {z n g cap : Nat} {w : World} {cs : List Value} (h : RK z w (.slice (some ⟨g, 0, none⟩) n cap) n cs) (j : Nat) (hj : j < n * z) : (w.cell? ⟨g, j, none⟩).isSome = true := by
  rw [h.cell j cs[j]! (by rw [List.getElem!_eq_getElem?_getD]; rw [List.getElem?_eq_getElem (by rw [h.1]; exact hj)]; rfl)]; rfl
/-- A head whose row may be written; its row lies in a block from B on. -/
structure HdWr (B : Nat) (w : World) (q : HdV) : Prop where
  row : RK 1 w (.slice q.lo q.ll q.lc) q.ll (numL q.lf q.ll)
  new : ∀ k, blk (.slice q.lo q.ll q.lc) = some k → B ≤ k
  few : q.ll ≤ 100
theorem HdOwn.wr {B : Nat} {w : World} {q : HdV} (h : HdOwn B w q) : HdWr B w q := ⟨h.row, h.new, by have := h.few; omega⟩
theorem HdWr.at' {B : Nat} {w : World} {q : HdV} (h : HdWr B w q) : HdAt w q := by
  have hf := h.few
  refine ⟨by unfold maxLen; omega, by omega, ?_, fun W hW j hj => ?_⟩
  · rcases h.row.2 with ⟨h1, h2⟩ | ⟨g, cap, h1, _⟩
    · simp only [Value.slice.injEq] at h1
      exact .inl h1
    · simp only [Value.slice.injEq] at h1
      exact .inr ⟨_, h1.1⟩
  · obtain ⟨g, cap, h1, _⟩ := h.row.at_ (by omega)
    simp only [Value.slice.injEq] at h1
    obtain ⟨e1, _, e2⟩ := h1
    have hr := h.row
    rw [e1] at hr
    refine ⟨_, e1, ?_⟩
    rw [Addr.add_lit, Nat.zero_add]
    exact (hr.below hW).cell j _ (numL_get _ _ _ hj)
theorem HdWr.below {B : Nat} {w w' : World} {q : HdV} (h : HdWr B w q) (hb : Below w.heap.size w w') : HdWr B w' q := ⟨h.row.below hb, h.new, h.few⟩
theorem HdWr.mono {B C : Nat} {w : World} {q : HdV} (h : HdWr B w q) (hc : C ≤ B) : HdWr C w q := ⟨h.row, fun k hk => Nat.le_trans hc (h.new k hk), h.few⟩
/-- It stands where everything below a later block does. -/
theorem HdWr.keep {B C : Nat} {w w' : World} {q : HdV} (h : HdWr B w q) (hl : ∀ k, blk (.slice q.lo q.ll q.lc) = some k → k < C) (hb : Below C w w') (hs : w.heap.size ≤ w'.heap.size) : HdWr B w' q := ⟨h.row.same hs fun k hk => hb.block k (hl k hk), h.new, h.few⟩
theorem free_of {W : World} {b : Nat} {cs : Array Value} {T : TypeId} (h : W.heap[b]? = some (.cells cs T (0, 0))) (j : Nat) : W.frozen? ⟨b, j, none⟩ = false := by simp [World.frozen?, h]
set_option maxRecDepth 20000 in
set_option maxHeartbeats 2000000 in
theorem own_any (q : HdV) (w : World) (h : HdAt w q) (hl : q.ll ≤ 100) :
    Calls Tryd.prog 28 #[q.v] w fun e w' => ∃ o : HdV, e = .returned o.v ∧ o.hv = q.hv ∧ HdWr w.heap.size w' o ∧ Below w.heap.size w w' := by
  obtain ⟨gen, base, snap, lo, ll, lc, lf⟩ := q
  have hnil := h.nil
  have hrow := h.row
  simp only [] at hl hnil hrow
  unfold HdV.v
  simp only []
  have hb1 : Below w.heap.size w (((w.alloc (.cells #[.int .i64 gen, .int .i64 base, .int .i64 snap, .slice lo ll lc] 24)).alloc (.cells #[.int .i64 0, .int .i64 0, .int .i64 0, .slice none 0 0] 24)).alloc (.cells #[] 3)) := (((Below.refl _ _).alloc (Nat.le_refl _) _).alloc (by simp) _).alloc (by simp; omega) _
  have hx := (Below.heap_alloc _ (.cells #[] 3) _ (by simp; omega)).trans (heap_first w (.cells #[.int .i64 gen, .int .i64 base, .int .i64 snap, .slice lo ll lc] 24) (.cells #[.int .i64 0, .int .i64 0, .int .i64 0, .slice none 0 0] 24))
  have hy := (Below.heap_alloc _ (.cells #[] 3) _ (by simp)).trans (heap_second w (.cells #[.int .i64 gen, .int .i64 base, .int .i64 snap, .slice lo ll lc] 24) (.cells #[.int .i64 0, .int .i64 0, .int .i64 0, .slice none 0 0] 24))
  have hs : (((w.alloc (.cells #[.int .i64 gen, .int .i64 base, .int .i64 snap, .slice lo ll lc] 24)).alloc (.cells #[.int .i64 0, .int .i64 0, .int .i64 0, .slice none 0 0] 24)).alloc (.cells #[] 3)).heap.size = w.heap.size + 3 := by simp
  have HB1 := Kp.mk hb1
  have HX := Kp.mk hx
  have HY := Kp.mk hy
  have HZ := Kp.mk hs
  have HSrc := Kp.mk (hrow.src (cap := lc) hnil _ hb1)
  have HOne := Kp.mk (num_one (rowI lf ll))
  obtain ⟨i0, hi0, hi1, hi2, hi3⟩ := info_parts infoInt
  have HI := Kp.mk (And.intro hi0 (And.intro hi1 (And.intro hi2 hi3)))
  have HLM : Kp (0 + ll ≤ maxLen ∧ (0 + ll) * 8 ≤ 140737488355328) := ⟨by unfold maxLen; omega⟩
  have HL := Kp.mk hl
  clear h hnil hrow hb1 hx hy hs hi0 hi1 hi2 hi3 hl
  go_enter Tryd.func28, Tryd.ntmps28
  go_wp2_with (at_builtin; go_loud (refine wpList_append_src rfl _ _ 22 rfl (RK.empty 1 _ _) HSrc.out 3 i0 _ 8 Tryd.underlying22 HI.out.1 HI.out.2.1 HI.out.2.2.1 HI.out.2.2.2 rfl (by decide) rfl rfl HOne.out HLM.out.1 HLM.out.2 ll (numL lf ll) (by omega) (by rfl) ?_; intro ao cap w3 k1 k2 k3; have K1 := Kp.mk k1; have K2 := Kp.mk (HB1.out.grown k2 (by rw [HZ.out]; omega) (fun j e => by simp [blk] at e)); have K3 : Kp (∀ j, blk (.slice ao ll cap) = some j → w.heap.size + 3 ≤ j) := ⟨fun j e => (k3 j e).elim (fun h => by simp [blk] at h) (fun h => by rw [HZ.out] at h; exact h)⟩; have X3 := kept_over k2 HX.out; have Y3 := kept_over k2 HY.out; have HX3 := Kp.mk X3; have HY3 := Kp.mk Y3; obtain ⟨x0, x1, x2, x3⟩ := cells4 X3; have x4 := free_of X3 3; obtain ⟨y0, y1, y2, y3⟩ := cells4 Y3; have yf := free_of Y3; have y4 := yf 0; have y5 := yf 1; have y6 := yf 2; have y7 := yf 3; clear k1 k2 k3 X3 Y3 yf))
  refine bodyPost_ret (v := .agg #[.int .i64 gen, .int .i64 base, .int .i64 snap, .slice ao ll cap]) (by simp [results, Tryd.results28, go_sem, y0, y1, y2, y3]) rfl ?_
  have hso : ∀ (W : World) (p : Addr) (u : Value), p.block < w.heap.size + 3 → HdWr w.heap.size W ⟨gen, base, snap, ao, ll, cap, lf⟩ → HdWr w.heap.size (W.setCell p u) ⟨gen, base, snap, ao, ll, cap, lf⟩ := fun W p u hp h => ⟨h.row.set _ _ (fun j hj => by have := K3.out j hj; omega), h.new, h.few⟩
  refine ⟨⟨gen, base, snap, ao, ll, cap, lf⟩, rfl, rfl, ?_, ?_⟩
  · repeat (refine hso _ _ _ (by show _ < _; simp only []; omega) ?_)
    exact ⟨K1.out, fun j hj => by have := K3.out j hj; omega, HL.out⟩
  · exact ((((K2.out.setCell (p := ⟨w.heap.size, 3, none⟩) (Nat.le_refl _) _).setCell (p := ⟨w.heap.size + 1, 0, none⟩) (Nat.le_succ _) _).setCell (p := ⟨w.heap.size + 1, 1, none⟩) (Nat.le_succ _) _).setCell (p := ⟨w.heap.size + 1, 2, none⟩) (Nat.le_succ _) _).setCell (p := ⟨w.heap.size + 1, 3, none⟩) (Nat.le_succ _) _
set_option maxRecDepth 20000 in
set_option maxHeartbeats 2000000 in
theorem is_any (B : Nat) (q p : HdV) (w : World) (hq : HdWr B w q) (hp : HdAt w p) (hB : B ≤ w.heap.size) :
    Calls Tryd.prog 35 #[q.v, p.v] w fun e w' => e = .returned (.bool (Hd.sameB q.hv p.hv)) ∧ Below B w w' ∧ ∀ j, j < w.heap.size → blk (.slice q.lo q.ll q.lc) ≠ some j → w'.heap[j]? = w.heap[j]? := by
  have HS := Kp.mk (fun W (hW : Below w.heap.size w W) => rSame_any q p W (hq.at'.below hW) (hp.below hW))
  obtain ⟨R, hR⟩ : ∃ R, Hd.sameB q.hv p.hv = R := ⟨_, rfl⟩
  rw [hR] at HS ⊢
  clear hR hp
  obtain ⟨gen, base, snap, lo, ll, lc, lf⟩ := q
  obtain ⟨gb, bb, sb, lob, llb, lcb, lfb⟩ := p
  obtain ⟨hrow, hnew, hl⟩ := hq
  have hlt := hrow.lt
  unfold HdV.v at HS ⊢
  simp only [] at HS hrow hnew hl hlt ⊢
  have HB := Kp.mk (((Below.refl w.heap.size w).alloc (Nat.le_refl _) (.cells #[.int .i64 gen, .int .i64 base, .int .i64 snap, .slice lo ll lc] 24)).alloc (by simp) (.cells #[.int .i64 gb, .int .i64 bb, .int .i64 sb, .slice lob llb lcb] 24))
  have HX := Kp.mk (heap_first w (.cells #[.int .i64 gen, .int .i64 base, .int .i64 snap, .slice lo ll lc] 24) (.cells #[.int .i64 gb, .int .i64 bb, .int .i64 sb, .slice lob llb lcb] 24))
  have HRow := Kp.mk hrow
  have HNew := Kp.mk hnew
  have HLt := Kp.mk hlt
  have HBs := Kp.mk hB
  clear hrow hnew hlt hB
  go_enter Tryd.func35, Tryd.ntmps35
  go_wp2_with fail
  refine (HS.out _ HB.out).mono ?_
  rintro e w2 ⟨rfl, b2⟩
  have HX2 := Kp.mk ((b2.block _ (lt_of_block' HX.out)).trans HX.out)
  have HB2 := Kp.mk (HB.out.trans (b2.mono HB.out.size))
  clear b2 HX HB HS
  go_wp2
  go_loopw [6] (fun i wr => ∃ (k : Nat) (cs : List Value), k ≤ ll ∧ i = .int .i64 k ∧ RK 1 wr (.slice lo ll lc) ll cs ∧ wr.heap[w.heap.size]? = some (.cells #[.int .i64 gen, .int .i64 base, .int .i64 snap, .slice lo ll lc] 24 (0, 0)) ∧ Below B w wr ∧ ∀ j, j < w.heap.size → blk (.slice lo ll lc) ≠ some j → wr.heap[j]? = w.heap[j]?) (fun i _ => ll - (intOf i).toNat)
  case atStart => exact ⟨0, _, by omega, rfl, HRow.out.below HB2.out, HX2.out, HB2.out.mono HBs.out, fun j hj _ => HB2.out.block j hj⟩
  case round =>
    obtain ⟨k, cs, hk, rfl, hr, hx, hb, hkp⟩ := hrel
    have HKp := Kp.mk hkp
    clear hkp
    obtain ⟨-, -, -, y3⟩ := cells4 hx
    have HR := Kp.mk hr
    have HXr := Kp.mk hx
    have HBr := Kp.mk hb
    by_cases hkl : k < ll
    · obtain ⟨g, cap, hv, _, _, _, hbk⟩ := hr.at_ (by omega)
      have hgb := HNew.out g hbk
      have hgl := HLt.out g hbk
      simp only [Value.slice.injEq] at hv
      obtain ⟨rfl, _, rfl⟩ := hv
      have hk0 : (0 : Int) ≤ (k : Int) := by omega
      have hk1 : (k : Int) < (ll : Int) := by omega
      have hkj : k < ll * 1 := by omega
      obtain ⟨u, hu⟩ := Option.isSome_iff_exists.1 (hr.isCell k hkj)
      have hfz := hr.free k hkj
      have HP := Kp.mk (hr.put k (.int .i64 (-7)) hkj)
      have HXn : Kp ((wr.setCell ⟨g, k, none⟩ (.int .i64 (-7))).heap[w.heap.size]? = some (.cells #[.int .i64 gen, .int .i64 base, .int .i64 snap, .slice (some ⟨g, 0, none⟩) ll lc] 24 (0, 0))) := ⟨(Below.heap_setCell wr ⟨g, k, none⟩ _ w.heap.size (by show w.heap.size ≠ g; omega)).trans hx⟩
      have HKn : Kp (∀ j, j < w.heap.size → blk (.slice (some ⟨g, 0, none⟩) ll lc) ≠ some j → (wr.setCell ⟨g, k, none⟩ (.int .i64 (-7))).heap[j]? = w.heap[j]?) := ⟨fun j hj hn => (Below.heap_setCell wr ⟨g, k, none⟩ _ j (by show j ≠ g; rintro rfl; exact hn hbk)).trans (HKp.out j hj hn)⟩
      have HBn := Kp.mk (hb.setCell (p := ⟨g, k, none⟩) hgb (.int .i64 (-7)))
      clear hr hx hb hbk
      go_wp2
      go_roundw
      case rel => exact ⟨k + 1, _, by omega, by go_num, HP.out, HXn.out, HBn.out, HKn.out⟩
      case measure => simp [intOf]; omega
    · obtain rfl : k = ll := by omega
      clear hr hx hb
      go_wp2
      go_ret
      exact ⟨by trivial, HBr.out, HKp.out⟩
end Go.Proofs.YtjpkncfmionieaaDoor
